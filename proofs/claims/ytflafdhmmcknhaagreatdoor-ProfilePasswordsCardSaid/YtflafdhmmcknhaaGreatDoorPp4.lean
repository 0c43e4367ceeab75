/-
  Texts behind one another: the symbolic simulator and what it is told of the program.
-/
import Derived.Test.YtflafdhmmcknhaaGreatDoorPp3
import Derived.Orders
import Derived.Below

/-
  The symbolic simulator, twenty-second part: a region that draws its order: the looks at its edges, and what all the operations ahead of the tail come to.
-/
namespace Go.Sim
variable {α : Type}

/- The masks. -/
theorem mask_spec (acc : List Nat) (es : List Edge) (j : Nat) (h : (maskOf acc es).testBit j = true) : ∃ e ∈ es, Region.binds .any e = true ∧ (j = e.on ∨ ∃ m, acc[e.on]? = some m ∧ m.testBit j = true) := by
  induction es with
  | nil => simp [maskOf] at h
  | cons e es ih =>
    replace h : (boolC (Region.binds .any e) (Nat.lor (Nat.lor (Nat.pow 2 e.on) (optC (nth acc e.on) 0 fun m => m)) (maskOf acc es)) (maskOf acc es)).testBit j = true := h
    cases hb : Region.binds .any e with
    | false =>
      rw [hb, boolC_false] at h
      obtain ⟨e', h1, h2⟩ := ih h
      exact ⟨e', List.mem_cons_of_mem _ h1, h2⟩
    | true =>
      rw [hb, boolC_true] at h
      replace h : (2 ^ e.on ||| (optC (nth acc e.on) 0 fun m => m) ||| maskOf acc es).testBit j = true := h
      rw [Nat.testBit_or, Nat.testBit_or, Bool.or_eq_true, Bool.or_eq_true] at h
      rcases h with (h | h) | h
      · rw [Nat.testBit_two_pow] at h
        exact ⟨e, List.mem_cons_self, hb, .inl (by simpa using (of_decide_eq_true h).symm)⟩
      · refine ⟨e, List.mem_cons_self, hb, .inr ?_⟩
        rw [nth_eq] at h
        cases hm : acc[e.on]? with
        | none => rw [hm] at h; simp [optC] at h
        | some m => rw [hm] at h; exact ⟨m, rfl, h⟩
      · obtain ⟨e', h1, h2⟩ := ih h
        exact ⟨e', List.mem_cons_of_mem _ h1, h2⟩
theorem masks_spec : ∀ (ops : List Oper) (acc : List Nat), (masks ops acc).take acc.length = acc ∧ (masks ops acc).length = acc.length + ops.length ∧
    ∀ (i : Nat) (o : Oper), ops[i]? = some o → (masks ops acc)[acc.length + i]? = some (maskOf ((masks ops acc).take (acc.length + i)) o.after.toList) := by
  intro ops
  induction ops with
  | nil => intro acc; exact ⟨List.take_length, rfl, by simp⟩
  | cons o r ih =>
    intro acc
    have e : masks (o :: r) acc = masks r (acc ++ [maskOf acc o.after.toList]) := by
      show masks r (app acc _) = _
      rw [app_eq]
    rw [e]
    obtain ⟨h1, h2, h3⟩ := ih (acc ++ [maskOf acc o.after.toList])
    have h1' : (masks r (acc ++ [maskOf acc o.after.toList])).take acc.length = acc := by
      have := congrArg (List.take acc.length) h1
      rw [List.take_take, List.take_left] at this
      rw [show min acc.length (acc ++ [maskOf acc o.after.toList]).length = acc.length from by simp] at this
      exact this
    refine ⟨h1', by rw [h2]; simp; omega, fun i o' ho => ?_⟩
    cases i with
    | zero =>
      simp at ho; subst ho
      rw [Nat.add_zero, h1']
      have : ((masks r (acc ++ [maskOf acc o.after.toList])).take (acc ++ [maskOf acc o.after.toList]).length)[acc.length]? = (acc ++ [maskOf acc o.after.toList])[acc.length]? := by rw [h1]
      rw [List.getElem?_take, if_pos (by simp)] at this
      rw [this]; simp
    | succ i =>
      have := h3 i o' (by simpa using ho)
      rw [show acc.length + (i + 1) = (acc ++ [maskOf acc o.after.toList]).length + i from by simp; omega]
      exact this
theorem allBefore_spec {m i : Nat} (h : allBefore m i = true) {j : Nat} (hj : j < i) : m.testBit j = true := by
  have h' : m &&& (2 ^ i - 1) = 2 ^ i - 1 := Nat.eq_of_beq_eq_true h
  have := congrArg (fun x => x.testBit j) h'
  simp only [Nat.testBit_and, Nat.testBit_two_pow_sub_one, hj, decide_true, Bool.and_true] at this
  exact this
theorem boolC_and {a b : Bool} (h : boolC a b false = true) : a = true ∧ b = true := by cases a <;> cases b <;> simp_all
theorem edgesAll_spec : ∀ (ops : List Oper) (k : Nat), edgesAll ops k = true → ∀ (i : Nat) (o : Oper), ops[i]? = some o → ∀ e ∈ o.after.toList, Region.binds .any e = true → e.on < k + i := by
  intro ops
  induction ops with
  | nil => intro k _ i o h; simp at h
  | cons a r ih =>
    intro k h i o ho e he hb
    obtain ⟨h1, h2⟩ := boolC_and (show boolC (edgesOK k a.after.toList) (edgesAll r (k + 1)) false = true from h)
    cases i with
    | zero =>
      simp at ho; subst ho
      have := allN_spec _ _ h1 e he
      rw [hb, boolC_true] at this
      have := Nat.le_of_ble_eq_true this
      omega
    | succ i =>
      have := ih (k + 1) h2 i o (by simpa using ho) e he hb
      omega
theorem tailOK_spec : ∀ (ms : List Nat) (k : Nat), tailOK ms k = true → ∀ (i m : Nat), ms[i]? = some m → allBefore m (k + i) = true := by
  intro ms
  induction ms with
  | nil => intro k _ i m h; simp at h
  | cons a r ih =>
    intro k h i m hm
    obtain ⟨h1, h2⟩ := boolC_and (show boolC (allBefore a k) (tailOK r (k + 1)) false = true from h)
    cases i with
    | zero => simp at hm; subst hm; exact h1
    | succ i =>
      have := ih (k + 1) h2 i m (by simpa using hm)
      rw [show k + (i + 1) = k + 1 + i from by omega]; exact this
theorem memN_spec {n : Nat} {l : List Nat} (h : n ∈ l) : memN n l = true := by
  induction l with
  | nil => cases h
  | cons a l ih =>
    show boolC (Nat.beq a n) true (memN n l) = true
    by_cases ha : a = n
    · subst ha; rw [show Nat.beq a a = true from Nat.beq_refl a]; rfl
    · rw [show Nat.beq a n = false from Bool.eq_false_iff.2 fun h => ha (Nat.eq_of_beq_eq_true h)]
      exact ih ((List.mem_cons.1 h).resolve_left fun e => ha e.symm)
theorem writersOK_spec (m : Nat) (reads : List Nat) : ∀ (ops : List Oper) (k : Nat), writersOK m reads ops k = true → ∀ (j : Nat) (o : Oper) (d : Nat), ops[j]? = some o → o.dst = some d → d ∈ reads → m.testBit (k + j) = true := by
  intro ops
  induction ops with
  | nil => intro k _ j o d h; simp at h
  | cons a r ih =>
    intro k h j o d ho hd hr
    obtain ⟨h1, h2⟩ := boolC_and (show boolC (optC a.dst true fun d => boolC (memN d reads) (bitN m k) true) (writersOK m reads r (k + 1)) false = true from h)
    cases j with
    | zero =>
      simp at ho; subst ho
      rw [hd, optC_some, memN_spec hr, boolC_true] at h1
      exact h1
    | succ j =>
      have := ih (k + 1) h2 j o d (by simpa using ho) hd hr
      rw [show k + (j + 1) = k + 1 + j from by omega]; exact this
theorem dstFree_spec {d : Tmp} {ops : List Oper} (h : dstFree (some d) ops = true) {o : Oper} (ho : o ∈ ops) : o.dst ≠ some d := by
  intro hd
  have := allN_spec _ _ (show allN (fun o : Oper => optC o.dst true fun e => boolC (Nat.beq e d) false true) ops = true from h) o ho
  rw [hd, optC_some, show Nat.beq d d = true from Nat.beq_refl d] at this
  cases this
theorem headOK_spec (os : Array Oper) (hd0 : List Oper) : ∀ (ops : List Oper) (ms : List Nat) (k : Nat), headOK os hd0 ops ms k = true → ∀ (i : Nat) (o : Oper), ops[i]? = some o →
    (∀ (j : Nat) (o' : Oper) (d : Nat), hd0[j]? = some o' → o'.dst = some d → d ∈ readsOp os o → ∃ m : Nat, ms[i]? = some m ∧ m.testBit j = true) ∧ (∀ d, o.dst = some d → ∀ (j : Nat) (o' : Oper), i < j → ops[j]? = some o' → o'.dst ≠ some d) := by
  intro ops
  induction ops with
  | nil => intro ms k _ i o h; simp at h
  | cons a r ih =>
    intro ms k h i o ho
    have h' : boolC (writersOK (List.rec (motive := fun _ => Nat) 0 (fun m _ _ => m) ms) (readsOp os a) hd0 0) (boolC (dstFree a.dst r) (headOK os hd0 r (List.rec (motive := fun _ => List Nat) [] (fun _ r _ => r) ms) (k + 1)) false) false = true := h
    obtain ⟨h1, h2⟩ := boolC_and h'
    obtain ⟨h2, h3⟩ := boolC_and h2
    cases i with
    | zero =>
      simp at ho; subst ho
      refine ⟨fun j o' d hj hd hr => ?_, fun d hd j o' hj ho' => ?_⟩
      · have := writersOK_spec _ _ hd0 0 h1 j o' d hj hd hr
        rw [Nat.zero_add] at this
        cases ms with
        | nil => simp at this
        | cons m ms => exact ⟨m, rfl, this⟩
      · cases j with
        | zero => omega
        | succ j =>
          rw [hd] at h2
          exact dstFree_spec h2 (List.mem_of_getElem? (by simpa using ho'))
    | succ i =>
      obtain ⟨h4, h5⟩ := ih _ _ h3 i o (by simpa using ho)
      refine ⟨fun j o' d hj hd hr => ?_, fun d hd j o' hj ho' => ?_⟩
      · obtain ⟨m, hm, hb⟩ := h4 j o' d hj hd hr
        cases ms with
        | nil => simp at hm
        | cons m0 ms => exact ⟨m, by simpa using hm, hb⟩
      · cases j with
        | zero => omega
        | succ j => exact h5 d hd j o' (by omega) (by simpa using ho')

section
variable {c : Cfg} {D : SV → List SO → Prop} {S : SS → Prop}

/-- which entry is whose: the operation's number (from i0 on) and the entry -/
structure SlotOf (slots : List (Nat × SO)) (i : Nat) (n0 : Nat) (f : Fct) : Prop where
  ex : (f.news = [] ∧ ∀ e, (i, e) ∉ slots) ∨ ∃ (e : SO) (p : Nat) (v : SV) (q : List (Nat × SO)), f = .run v [e] (n0 + p) q ∧ slots[p]? = some (i, e) ∧ ∀ (q : Nat) (e' : SO), slots[q]? = some (i, e') → q = p
/-- a heap of which all that stands for something has come for certain -/
def SeenOK (H : List SO) (slots : List (Nat × SO)) (m : Nat) (G : List SO) : Prop :=
  ∀ n e, G[n]? = some e → e = .gone ∨ H[n]? = some e ∨ (H.length ≤ n ∧ ∃ j, slots[n - H.length]? = some (j, e) ∧ m.testBit j = true)
theorem seen_ok (H : List SO) (m : Nat) (N R : List (Nat × SO)) : SeenOK H (N ++ R) m (seenH H m N) := by
  intro n e hn
  rw [seenH_eq] at hn
  rcases Nat.lt_or_ge n H.length with h | h
  · rw [List.getElem?_append_left h] at hn; exact .inr (.inl hn)
  · rw [List.getElem?_append_right h] at hn
    unfold maskN at hn
    rw [mapN_eq, List.getElem?_map] at hn
    cases hx : N[n - H.length]? with
    | none => rw [hx] at hn; cases hn
    | some p =>
      rw [hx] at hn
      have hn : boolC (bitN m p.1) p.2 .gone = e := Option.some.inj hn
      cases hb : bitN m p.1 with
      | false => rw [hb] at hn; exact .inl hn.symm
      | true =>
        rw [hb] at hn
        refine .inr (.inr ⟨h, p.1, ?_, hb⟩)
        rw [List.getElem?_append_left (List.getElem?_eq_some_iff.1 hx).1, hx, ← hn]; rfl
/-- what all the operations come to; 'sets': what the last one turns -/
structure Facts (x : DCtx) (ops : List Oper) (ms : List Nat) (T : List SV) (i0 : Nat) (N : List (Nat × SO)) (TF : List SV) (Fs : List Fct) (slots : List (Nat × SO)) (sets : List (Nat × SO)) : Prop where
  len : Fs.length = ops.length
  lenT : TF.length = T.length
  ge : ∀ j e, (j, e) ∈ slots → i0 ≤ j ∧ j < i0 + ops.length
  same : ∀ t, (∀ o ∈ ops, o.dst ≠ some t) → ∀ β, (getT TF t).den β = (getT T t).den β
  none : ops = [] → sets = []
  last : sets = [] ∨ (x.mL = some ((ms[ops.length - 1]?).getD 0) ∧ ∀ n e, (n, e) ∈ sets → hidN x.H n = true ∨ FreshAt x ((ms[ops.length - 1]?).getD 0) (i0 + ops.length - 1) (N ++ slots) n)
  good : ∀ (i : Nat) (o : Oper) (f : Fct), ops[i]? = some o → Fs[i]? = some f → SlotOf slots (i0 + i) (x.H.length + N.length) f ∧
    (∀ d, o.dst = some d → d < T.length → (∀ (k : Nat) (o' : Oper), i < k → ops[k]? = some o' → o'.dst ≠ some d) → ∀ β, (getT TF d).den β = f.val.den β) ∧
    (f.sets = (if i + 1 = ops.length then sets else []) ∧ (f.sets ≠ [] → f.news = [])) ∧
    ∃ T' G, OpGood x.c.P x.c.glob G x.os o T' f ∧ SeenOK (x.atI (i0 + i) (decide (i + 1 = ops.length))) (N ++ slots) ((ms[i]?).getD 0) G ∧ T'.length = T.length ∧ ∀ t, (∀ (k : Nat) (o' : Oper), i ≤ k → ops[k]? = some o' → o'.dst ≠ some t) → ∀ β, (getT TF t).den β = (getT T' t).den β
theorem putT_length (T : List SV) (dst : Option Tmp) (v : SV) : (putT T dst v).length = T.length := by
  cases dst with
  | none => rfl
  | some d => show (setN T d v).length = _; rw [setN_eq]; simp
theorem getT_put_ne {T : List SV} {dst : Option Tmp} {v : SV} {t : Nat} (h : dst ≠ some t) : getT (putT T dst v) t = getT T t := by
  cases dst with
  | none => rfl
  | some d =>
    show getT (setN T d v) t = _
    rw [getT_set, if_neg]
    rintro ⟨rfl, _⟩; exact h rfl
theorem getT_put_eq {T : List SV} {v : SV} {d : Nat} (h : d < T.length) : getT (putT T (some d) v) d = v := by
  show getT (setN T d v) d = _
  rw [getT_set, if_pos ⟨rfl, h⟩]
theorem fct_news_le {f : Fct} (h : f.news.length ≤ 1) : f.news = [] ∨ ∃ e v b q, f = .run v [e] b q := by
  cases f with
  | skip => exact .inl rfl
  | touch => exact .inl rfl
  | run v N b q =>
    cases N with
    | nil => exact .inl rfl
    | cons e r =>
      cases r with
      | nil => exact .inr ⟨e, v, b, q, rfl⟩
      | cons => simp [Fct.news] at h

theorem atI_length (x : DCtx) (i : Nat) (l : Bool) : (x.atI i l).length = x.H.length := by
  unfold DCtx.atI
  cases x.mL with
  | none => rfl
  | some m =>
    show (boolC l x.H (boolC (bitN m i) x.H (mapN hideE x.H))).length = _
    cases l with
    | true => rfl
    | false =>
      cases bitN m i with
      | true => rfl
      | false => show (mapN hideE x.H).length = _; rw [mapN_eq, List.length_map]

theorem drawP_facts {x : DCtx} (hc : CfgOK x.c) : ∀ (ops : List Oper) (ms : List Nat) (T : List SV) (N : List (Nat × SO)) (i0 : Nat), (drawP ops x ms i0 T N).Ob D S →
    ∃ TF Fs slots sets, Facts x ops ms T i0 N TF Fs slots sets ∧ (x.fin TF ((N ++ slots).map (·.2)) sets).Ob D S := by
  intro ops
  induction ops with
  | nil =>
    intro ms T N i0 h
    have h : (x.fin T (mapN (fun p => p.2) N) []).Ob D S := h
    rw [mapN_eq] at h
    exact ⟨T, [], [], [], ⟨rfl, rfl, by simp, fun _ _ _ => rfl, fun _ => rfl, .inl rfl, by simp⟩, by rw [List.append_nil]; exact h⟩
  | cons o r ih =>
    intro ms T N i0 h
    obtain ⟨T', f, hsd, hgood, hor, hn1, hbase⟩ := drOp_ob hc (show (drOp o x ⟨i0, headM ms, List.rec (motive := fun _ => Bool) true (fun _ _ _ => false) r⟩ T N (drawP r x (tailM ms) (i0 + 1))).Ob D S from h)
    have hlast : (List.rec (motive := fun _ => Bool) true (fun _ _ _ => false) r : Bool) = decide (0 + 1 = (o :: r).length) := by cases r <;> simp
    rw [hlast] at hgood hor
    have hm0 : headM ms = (ms[0]?).getD 0 := by cases ms <;> rfl
    have hms : ∀ i : Nat, (tailM ms)[i]? = ms[i + 1]? := by intro i; cases ms <;> simp [tailM]
    have hlen : T'.length = T.length := hsd.len
    have hlenP : (putT T' o.dst f.val).length = T.length := by rw [putT_length, hlen]
    rcases hor with ⟨hs0, h⟩ | ⟨hs1, hnn, hsl, hfin⟩
    case inr =>
      -- the last operation turns entries
      have hr : r = [] := by
        have := of_decide_eq_true hsl.last
        cases r with
        | nil => rfl
        | cons => simp at this
      subst hr
      refine ⟨putT T' o.dst f.val, [f], [], f.sets, ⟨rfl, hlenP, by simp, ?_, by simp, .inr ⟨?_, fun n e hn => ?_⟩, ?_⟩, by rw [List.append_nil]; exact hfin⟩
      · intro t ht β
        rw [getT_put_ne (ht o List.mem_cons_self), hsd.den β t]
      · rw [hsl.mL]; exact congrArg some hm0
      · rw [List.append_nil]
        show _ ∨ FreshAt x ((ms[0]?).getD 0) i0 N n
        rw [← hm0]
        exact hsl.hid n e hn
      · intro i o' f' ho' hf'
        cases i with
        | succ i => simp at ho'
        | zero =>
          simp at ho' hf'; subst ho'; subst hf'
          refine ⟨⟨.inl ⟨hnn, by simp⟩⟩, fun d hd hdl _ β => ?_, ⟨by simp, fun _ => hnn⟩, T', _, hgood, ?_, hlen, fun t ht β => ?_⟩
          · rw [hd, getT_put_eq (Nat.lt_of_lt_of_eq hdl hlen.symm)]
          · rw [← hm0]; exact seen_ok _ _ _ _
          · rw [getT_put_ne (ht 0 o (Nat.le_refl _) rfl)]
    case inl =>
    obtain ⟨TF, Fs, slots, sets, hF, hfin⟩ := ih _ _ _ (i0 + 1) h
    have key : ∀ (head : List (Nat × SO)), head = f.news.map (fun e => (i0, e)) → (∀ j e, (j, e) ∈ head → j = i0) → SlotOf (head ++ slots) i0 (x.H.length + N.length) f →
        ∃ TF Fs slots sets, Facts x (o :: r) ms T i0 N TF Fs slots sets ∧ (x.fin TF ((N ++ slots).map (·.2)) sets).Ob D S := by
      intro head hmap hge hslot
      have hhl : head.length = f.news.length := by rw [hmap]; simp
      have hall : N ++ (head ++ slots) = N ++ f.news.map (fun e => (i0, e)) ++ slots := by rw [hmap, List.append_assoc]
      refine ⟨TF, f :: Fs, head ++ slots, sets, ⟨by simp [hF.len], hF.lenT.trans hlenP, ?_, ?_, by simp, ?_, ?_⟩, by rw [hall]; exact hfin⟩
      · intro j e hj
        rw [List.length_cons]
        rcases List.mem_append.1 hj with hj | hj
        · have := hge j e hj; omega
        · have := hF.ge j e hj; omega
      · intro t ht β
        rw [hF.same t (fun o' ho' => ht o' (List.mem_cons_of_mem _ ho')) β, getT_put_ne (ht o List.mem_cons_self), hsd.den β t]
      · rcases hF.last with h | ⟨h1, h2⟩
        · exact .inl h
        · cases hr : r with
          | nil => exact .inl (hF.none hr)
          | cons a r' =>
            have hmm : ((tailM ms)[r.length - 1]?).getD 0 = (ms[(o :: r).length - 1]?).getD 0 := by rw [hms, hr]; rfl
            rw [← hr]
            refine .inr ⟨by rw [h1, hmm], fun n e hn => (h2 n e hn).imp id fun h => ?_⟩
            rw [hmm, show i0 + 1 + r.length - 1 = i0 + (o :: r).length - 1 from by rw [List.length_cons]; omega, ← hall] at h
            exact h
      · intro i o' f' ho' hf'
        cases i with
        | zero =>
          simp at ho' hf'; subst ho'; subst hf'
          refine ⟨by rw [Nat.add_zero]; exact hslot, fun d hd hdl hlate β => ?_, ⟨?_, fun h => absurd hs0 h⟩, T', _, hgood, by rw [← hm0]; exact seen_ok _ _ _ _, hlen, fun t ht β => ?_⟩
          · rw [hF.same d (fun o' ho' => ?_) β, hd, getT_put_eq (Nat.lt_of_lt_of_eq hdl hlen.symm)]
            obtain ⟨k, hk⟩ := List.mem_iff_getElem?.1 ho'
            exact hlate (k + 1) o' (by omega) (by simpa using hk)
          · rw [hs0]
            split
            · rename_i h1
              exact (hF.none (by cases hr : r with
                | nil => rfl
                | cons a r' => rw [hr] at h1; simp at h1)).symm
            · rfl
          · rw [hF.same t (fun o' ho' => ?_) β, getT_put_ne (ht 0 o (Nat.le_refl _) rfl)]
            obtain ⟨k, hk⟩ := List.mem_iff_getElem?.1 ho'
            exact ht (k + 1) o' (by omega) (by simpa using hk)
        | succ i =>
          obtain ⟨h1, h2, ⟨h6, h7⟩, T2, G, h3, hG, h4, h5⟩ := hF.good i o' f' (by simpa using ho') (by simpa using hf')
          have hii : (i + 1 + 1 = (o :: r).length) ↔ (i + 1 = r.length) := by simp
          refine ⟨?_, fun d hd hdl hlate β => h2 d hd (Nat.lt_of_lt_of_eq hdl hlenP.symm) (fun k o'' hk ho'' => hlate (k + 1) o'' (by omega) (by simpa using ho'')) β, ⟨by rw [h6]; simp only [hii], h7⟩, T2, G, h3, ?_, h4.trans hlenP, fun t ht β => h5 t (fun k o'' hk ho'' => ht (k + 1) o'' (by omega) (by simpa using ho'')) β⟩
          · rw [show i0 + (i + 1) = i0 + 1 + i from by omega]
            rcases h1.ex with ⟨hnil, hno⟩ | ⟨e, p, v, q, hf, hp, huniq⟩
            · refine ⟨.inl ⟨hnil, fun e he => ?_⟩⟩
              rcases List.mem_append.1 he with he | he
              · have := hge _ _ he; omega
              · exact hno e he
            · refine ⟨.inr ⟨e, head.length + p, v, q, ?_, ?_, fun q e' hq => ?_⟩⟩
              · rw [hf, List.length_append, hhl, List.length_map]; congr 1; omega
              · rw [List.getElem?_append_right (by omega)]; simpa using hp
              · rcases Nat.lt_or_ge q head.length with hlt | hlt
                · rw [List.getElem?_append_left hlt] at hq
                  have := hge _ _ (List.mem_of_getElem? hq); omega
                · rw [List.getElem?_append_right hlt] at hq
                  have := huniq _ _ hq; omega
          · rw [hall, ← hms, show i0 + (i + 1) = i0 + 1 + i from by omega]
            simp only [hii]
            exact hG
    rcases fct_news_le hn1 with hnil | ⟨e, v, b, q, rfl⟩
    · refine key [] (by rw [hnil]; rfl) (by simp) ⟨.inl ⟨hnil, fun e he => ?_⟩⟩
      have := hF.ge _ _ he; omega
    · refine key [(i0, e)] rfl (by simp) ⟨.inr ⟨e, 0, v, q, ?_, rfl, fun q e' hq => ?_⟩⟩
      · rw [hbase v [e] b q rfl]; rfl
      · cases q with
        | zero => rfl
        | succ q =>
          have := hF.ge _ _ (List.mem_of_getElem? (show slots[q]? = some (i0, e') from by simpa using hq)); omega

end

/-- the same, of which some entries stand for nothing -/
theorem HeapRel0.less {P : Program} {O : Nat → Prop} {w0 : World} {β : Val} {H G : List SO} {w : World} (h : HeapRel0 P O w0 β H w) (hin : ∀ (n : Nat) (e : SO), G[n]? = some e → H[n]? = some e ∨ e = SO.gone) : HeapRel0 P O w0 β G w := by
  refine ⟨fun n e hn => ?_, fun n m e e' l l' hn hm ho ho' => ?_, fun n e l hn ho => ?_, h.keep⟩
  · rcases hin n e hn with h' | rfl
    · exact h.entries n e h'
    · trivial
  · rcases hin n e hn with h' | rfl
    · rcases hin m e' hm with h2 | rfl
      · exact h.sep n m e e' l l' h' h2 ho ho'
      · cases ho'
    · cases ho
  · rcases hin n e hn with h' | rfl
    · exact h.fresh n e l h' ho
    · cases ho
/-- new entries laid at names that stood for nothing -/
theorem HeapRel0.lay {P : Program} {O : Nat → Prop} {w0 : World} {β β' : Val} {G G' : List SO} {w w' : World} {base : Nat} {news : List SO} (h : HeapRel0 P O w0 β G w) (hE : Eff P β w base [] news β' w')
    (hG : ∀ n e, G'[n]? = some e → (G[n]? = some e ∧ (n < base ∨ base + news.length ≤ n)) ∨ (∃ i, n = base + i ∧ news[i]? = some e)) : HeapRel0 P O w0 β' G' w' := by
  have hold : ∀ n, (n < base ∨ base + news.length ≤ n) → β' n = β n := fun n hn => hE.dom n hn
  have hlt : ∀ n e l, G[n]? = some e → e.owned = true → β n = some l → l.blk < w.heap.size := by
    intro n e l he ho hl
    exact ((h.entries n e he).toOwn ho).lt ho hl
  have hfr : ∀ b, b < w.heap.size → w'.heap[b]? = w.heap[b]? := fun b hb => hE.frame b hb (by simp)
  have hnew : ∀ i e l, news[i]? = some e → β' (base + i) = some l → w.heap.size ≤ l.blk := by
    intro i e l hi hl
    obtain ⟨_, _, l2, hl2, hor⟩ := hE.made i e hi
    rw [hl] at hl2; cases hl2
    rcases hor with h | ⟨_, _, hm, _⟩
    · exact h
    · simp at hm
  have hkept : ∀ n e, G[n]? = some e → EntryRel P O w0 β' w' n e := by
    intro n e he
    have h0 := h.entries n e he
    cases e with
    | row c =>
      obtain ⟨l, vs, hl, hc, hx⟩ := h0
      exact ⟨l, vs, hE.le _ _ hl, hc.mono hE.le, hx⟩
    | own c wh el => exact OwnRel.kept (P := P) (e := .own c wh el) h0 hE.le fun hw l hl => hfr _ (hlt n _ l he hw hl)
    | loop s p f T ps a b d => exact OwnRel.kept (P := P) (e := .loop s p f T ps a b d) h0 hE.le fun hw l hl => hfr _ (hlt n _ l he hw hl)
    | deferred ds => exact OwnRel.kept (P := P) (e := .deferred ds) h0 hE.le fun hw l hl => hfr _ (hlt n _ l he hw hl)
    | gone => trivial
    | obj o => exact OwnRel.kept (P := P) (e := .obj o) h0 hE.le fun hw l hl => hfr _ (hlt n _ l he hw hl)
  refine ⟨fun n e he => ?_, fun n m e e' l l' he he' hw hw' hnm hl hl' => ?_, fun n e l he hw hl => ?_, ?_⟩
  · rcases hG n e he with ⟨h1, _⟩ | ⟨i, rfl, hi⟩
    · exact hkept n e h1
    · obtain ⟨hw, hr, _⟩ := hE.made i e hi
      cases e <;> first | exact hr | (cases hw; done)
  · rcases hG n e he with ⟨h1, hn⟩ | ⟨i, rfl, hi⟩ <;> rcases hG m e' he' with ⟨h2, hm⟩ | ⟨j, rfl, hj⟩
    · rw [hold n hn] at hl; rw [hold m hm] at hl'
      exact h.sep n m e e' l l' h1 h2 hw hw' hnm hl hl'
    · rw [hold n hn] at hl
      have := hlt n e l h1 hw hl
      have := hnew j e' l' hj hl'
      omega
    · rw [hold m hm] at hl'
      have := hlt m e' l' h2 hw' hl'
      have := hnew i e l hi hl
      omega
    · exact hE.apart i j l l' (by omega) (List.getElem?_eq_some_iff.1 hi).1 (List.getElem?_eq_some_iff.1 hj).1 hl hl'
  · rcases hG n e he with ⟨h1, hn⟩ | ⟨i, rfl, hi⟩
    · rw [hold n hn] at hl
      exact h.fresh n e l h1 hw hl
    · left
      have := hnew i e l hi hl
      have := h.keep.size
      omega
  · refine ⟨hE.os.trans h.keep.os, hE.tape.trans h.keep.tape, hE.output.trans h.keep.output, Nat.le_trans h.keep.size hE.size, fun k hk hO => ?_⟩
    rw [hfr k (Nat.lt_of_lt_of_le hk h.keep.size), h.keep.block k hk hO]

/-- entries turned, where nothing new is laid -/
theorem HeapRel0.turn {P : Program} {O : Nat → Prop} {w0 : World} {β β' : Val} {H : List SO} {w w' : World} {base : Nat} {sets : List (Nat × SO)} (h : HeapRel0 P O w0 β H w) (hb : ∀ n, H.length ≤ n → β n = none) (hE : Eff P β w base sets [] β' w')
    (hs : ∀ n e, (n, e) ∈ sets → ∃ e0, H[n]? = some e0 ∧ e0.owned = true) : HeapRel0 P O w0 β' (setsH H sets) w' := by
  have hE' : Eff P β w H.length sets [] β' w' := ⟨hE.le, hE.os, hE.tape, hE.output, hE.size, fun n _ => hE.dom n (by simp; omega), hE.frame, hE.one, hE.turned, (by intro i e h; simp at h), (by intro i j l l' _ h; simp at h)⟩
  have := (HeapRel.apply ⟨h, hb⟩ hE' hs).toHeapRel0
  rw [applyH_eq, List.append_nil] at this
  exact this

end Go.Sim


/-
  The symbolic simulator, twenty-third part: a region that draws its order, in any order.
-/
namespace Go.Sim
variable {α : Type}

/- The list of an order. -/
theorem go_nil {ops : Array Oper} {listed : Array Bool} (h : Region.ready .any ops listed = []) (fuel t : Nat) : Region.linearise.go .any ops fuel t listed [] = [] := by
  cases fuel with
  | zero => rfl
  | succ fuel =>
    simp only [Region.linearise.go]
    change (match (Region.ready .any ops listed)[t % (Region.ready .any ops listed).length]? with
      | some i => Region.linearise.go .any ops fuel (t / (Region.ready .any ops listed).length) (listed.setIfInBounds i true) [i]
      | none => [].reverse) = []
    rw [h]; rfl
theorem go_cons {ops : Array Oper} {listed : Array Bool} (h : Region.ready .any ops listed ≠ []) (fuel t : Nat) :
    ∃ i ∈ Region.ready .any ops listed, ∃ t', Region.linearise.go .any ops (fuel + 1) t listed [] = i :: Region.linearise.go .any ops fuel t' (listed.setIfInBounds i true) [] := by
  have hlt : t % (Region.ready .any ops listed).length < (Region.ready .any ops listed).length := Nat.mod_lt _ (List.length_pos_iff.2 h)
  refine ⟨(Region.ready .any ops listed)[t % (Region.ready .any ops listed).length], List.getElem_mem hlt, t / (Region.ready .any ops listed).length, ?_⟩
  have e : Region.linearise.go .any ops (fuel + 1) t listed [] = match (Region.ready .any ops listed)[t % (Region.ready .any ops listed).length]? with
      | some i => Region.linearise.go .any ops fuel (t / (Region.ready .any ops listed).length) (listed.setIfInBounds i true) [i]
      | none => [].reverse := by
    simp only [Region.linearise.go]; rfl
  rw [e, List.getElem?_eq_getElem hlt]
  show Region.linearise.go .any ops fuel _ _ [_] = _
  rw [linearise_go_acc]; rfl
/-- how many of the first k have not come -/
def unl (listed : Array Bool) : Nat → Nat
  | 0 => 0
  | k + 1 => unl listed k + if listed.getD k true then 0 else 1
theorem unl_set {listed : Array Bool} {i : Nat} (hi : listed.getD i true = false) : ∀ k, unl (listed.setIfInBounds i true) k + (if i < k then 1 else 0) = unl listed k := by
  have hlt : i < listed.size := by
    rcases Nat.lt_or_ge i listed.size with h | h
    · exact h
    · rw [Array.getD_eq_getD_getElem?, Array.getElem?_eq_none h] at hi; cases hi
  intro k
  induction k with
  | zero => rfl
  | succ k ih =>
    simp only [unl]
    by_cases hk : i = k
    · subst hk
      have h1 : (listed.setIfInBounds i true).getD i true = true := by simp [Array.getD_eq_getD_getElem?, hlt]
      rw [h1, hi]
      simp at ih ⊢
      omega
    · rw [getD_set_ne true hk]
      have : (if i < k + 1 then 1 else 0) = (if i < k then 1 else 0) := by
        by_cases h : i < k
        · rw [if_pos h, if_pos (by omega)]
        · rw [if_neg h, if_neg (by omega)]
      rw [this]
      omega
theorem unl_ge {listed : Array Bool} {s n : Nat} (h : ∀ j, s ≤ j → j < n → listed.getD j true = false) : ∀ k, s + k = n → k ≤ unl listed n := by
  intro k hk
  subst hk
  induction k with
  | zero => exact Nat.zero_le _
  | succ k ih =>
    have := ih fun j h1 h2 => h j h1 (by omega)
    show k + 1 ≤ unl listed (s + k) + _
    rw [show s.add k = s + k from rfl, h (s + k) (by omega) (by omega)]
    simp; omega
theorem unl_pos {listed : Array Bool} {n i : Nat} (hi : i < n) (h : listed.getD i true = false) : 1 ≤ unl listed n := by
  have := unl_set h n
  rw [if_pos hi] at this; omega

section
variable {os : Array Oper} {s : Nat}
theorem mask_lt (he : edgesAll os.toList 0 = true) : ∀ (i : Nat) (m : Nat), (masks os.toList [])[i]? = some m → ∀ j, m.testBit j = true → j < i := by
  intro i
  induction i using Nat.strongRecOn with
  | ind i ih =>
    intro m hm j hj
    obtain ⟨_, h2, h3⟩ := masks_spec os.toList []
    have hlt := (List.getElem?_eq_some_iff.1 hm).1
    rw [h2] at hlt
    simp only [List.length_nil, Nat.zero_add] at hlt h3
    have ho := h3 i _ (List.getElem?_eq_getElem hlt)
    rw [hm] at ho
    obtain ⟨e, hmem, hb, hor⟩ := mask_spec _ _ j (by rw [← Option.some.inj ho]; exact hj)
    have hon := edgesAll_spec _ 0 he i _ (List.getElem?_eq_getElem hlt) e hmem hb
    rw [Nat.zero_add] at hon
    rcases hor with rfl | ⟨m', hm', hb'⟩
    · exact hon
    · rw [List.getElem?_take, if_pos hon] at hm'
      have := ih e.on hon m' hm' j hb'
      omega
/-- what is ready has all its mask behind it -/
theorem mask_ready {listed : Array Bool} (hcl : ∀ (i m : Nat), listed.getD i false = true → (masks os.toList [])[i]? = some m → ∀ j, m.testBit j = true → listed.getD j false = true)
    {i : Nat} (hi : i ∈ Region.ready .any os listed) {m : Nat} (hm : (masks os.toList [])[i]? = some m) {j : Nat} (hj : m.testBit j = true) : listed.getD j false = true := by
  rw [mem_ready] at hi
  obtain ⟨_, o, ho, hall⟩ := hi
  obtain ⟨_, _, h3⟩ := masks_spec os.toList []
  have h4 := h3 i o (by rw [Array.getElem?_toList]; exact ho)
  simp only [List.length_nil, Nat.zero_add] at h4
  rw [hm] at h4
  obtain ⟨e, hmem, hb, hor⟩ := mask_spec _ _ j (by rw [← Option.some.inj h4]; exact hj)
  have hl := hall e (by simpa using hmem) hb
  rcases hor with rfl | ⟨m', hm', hb'⟩
  · exact hl
  · rw [List.getElem?_take] at hm'
    split at hm'
    · exact hcl e.on m' hl hm' j hb'
    · cases hm'
theorem ready_least (he : edgesAll os.toList 0 = true) {listed : Array Bool} {i : Nat} (hi : i < os.size) (hl : listed.getD i true = false) (hb : ∀ j, j < i → listed.getD j false = true) : i ∈ Region.ready .any os listed := by
  rw [mem_ready]
  refine ⟨hl, os[i], Array.getElem?_eq_getElem hi, fun e hmem hbi => hb _ ?_⟩
  have := edgesAll_spec _ 0 he i os[i] (by simp [hi]) e (by simpa using hmem) hbi
  omega
theorem getD_true_false {listed : Array Bool} {i : Nat} (hi : i < listed.size) : listed.getD i false = listed.getD i true := by
  simp [Array.getD_eq_getD_getElem?, hi]
/-- the tail comes in the text's order -/
theorem tail_order (he : edgesAll os.toList 0 = true) (ht : ∀ (i m : Nat), s ≤ i → (masks os.toList [])[i]? = some m → ∀ j, j < i → m.testBit j = true) : ∀ (k fuel t s' : Nat) (listed : Array Bool), listed.size = os.size → s ≤ s' → s' + k = os.size →
    (∀ j, j < os.size → listed.getD j true = decide (j < s')) → k ≤ fuel → Region.linearise.go .any os fuel t listed [] = List.range' s' k := by
  intro k
  induction k with
  | zero =>
    intro fuel t s' listed hsz hs hk hl _
    rw [go_nil]
    · rfl
    · apply List.eq_nil_iff_forall_not_mem.2
      intro j hj
      rw [mem_ready] at hj
      obtain ⟨h1, o, ho, _⟩ := hj
      have hlt := (Array.getElem?_eq_some_iff.1 ho).1
      rw [hl j hlt] at h1
      have := of_decide_eq_false h1; omega
  | succ k ih =>
    intro fuel t s' listed hsz hs hk hl hf
    cases fuel with
    | zero => omega
    | succ fuel =>
      have hlt : s' < os.size := by omega
      have hin : s' ∈ Region.ready .any os listed := ready_least he hlt (by rw [hl s' hlt]; simp) fun j hj => by
        rw [getD_true_false (by omega), hl j (by omega)]; simp [hj]
      obtain ⟨i, hi, t', heq⟩ := go_cons (List.ne_nil_of_mem hin) fuel t
      have his : i = s' := by
        have hi' := hi
        rw [mem_ready] at hi'
        obtain ⟨h1, o, ho, hall⟩ := hi'
        have hio := (Array.getElem?_eq_some_iff.1 ho).1
        rw [hl i hio] at h1
        have hge := of_decide_eq_false h1
        by_cases hlt' : s' < i
        · exfalso
          obtain ⟨_, _, h3⟩ := masks_spec os.toList []
          have h4 := h3 i o (by rw [Array.getElem?_toList]; exact ho)
          simp only [List.length_nil, Nat.zero_add] at h4
          obtain ⟨e, hmem, hb, hor⟩ := mask_spec _ _ s' (ht i _ (by omega) h4 s' hlt')
          have hon := edgesAll_spec _ 0 he i o (by rw [Array.getElem?_toList]; exact ho) e hmem hb
          have hlon := hall e (by simpa using hmem) hb
          rw [getD_true_false (by omega), hl e.on (by omega)] at hlon
          have hons := of_decide_eq_true hlon
          rcases hor with rfl | ⟨m', hm', hb'⟩
          · omega
          · rw [List.getElem?_take] at hm'
            split at hm'
            · have := mask_lt he e.on m' hm' s' hb'; omega
            · cases hm'
        · omega
      subst his
      rw [heq, ih fuel t' (i + 1) _ (by simp [hsz]) (by omega) (by omega) ?_ (by omega), List.range'_succ]
      intro j hj
      by_cases hji : i = j
      · subst hji
        simp [Array.getD_eq_getD_getElem?, hsz, hlt]
      · rw [getD_set_ne true hji, hl j hj]
        congr 1; simp; omega
end

section
variable {x : DCtx} {s : Nat} {T TF : List SV} {Fs : List Fct} {slots sets : List (Nat × SO)} {O : Nat → Prop} {w0 : World}
/-- the heap, of which those entries stand for something whose operations have come -/
def mslots (listed : Array Bool) (slots : List (Nat × SO)) : List SO := slots.map fun p => if listed.getD p.1 false then p.2 else .gone
/-- what is turned is the same, whatever lay there -/
theorem setsH_at {n : Nat} {e : SO} : ∀ {sets : List (Nat × SO)} {A B : List SO}, A.length = B.length → (n, e) ∈ sets → (setsH A sets)[n]? = (setsH B sets)[n]?
  | [], _, _, _, h => by simp at h
  | a :: r, A, B, hl, h => by
    rw [setsH_cons, setsH_cons]
    by_cases hr : ∃ e', (n, e') ∈ r
    · obtain ⟨e', hr⟩ := hr
      exact setsH_at (by rw [List.length_set, List.length_set, hl]) hr
    · have hno : ∀ e', (n, e') ∉ r := fun e' he' => hr ⟨e', he'⟩
      rw [setsH_other _ _ _ hno, setsH_other _ _ _ hno]
      rcases List.mem_cons.1 h with h | h
      · subst h
        rw [List.getElem?_set, List.getElem?_set, hl, if_pos rfl, if_pos rfl]
      · exact absurd h (hno e)
/-- the heap, with what the last operation turns, once that has come -/
noncomputable def wholeH (x : DCtx) (s : Nat) (slots sets : List (Nat × SO)) (listed : Array Bool) : List SO := if listed.getD ((x.os.toList.take s).length - 1) false then setsH (x.H ++ mslots listed slots) sets else x.H ++ mslots listed slots
theorem wholeH_length (x : DCtx) (s : Nat) (slots sets : List (Nat × SO)) (listed : Array Bool) : (wholeH x s slots sets listed).length = x.H.length + slots.length := by
  have h : (x.H ++ mslots listed slots).length = x.H.length + slots.length := by rw [List.length_append, mslots, List.length_map]
  unfold wholeH; split
  · rw [setsH_length, h]
  · exact h
theorem wholeH_nil (x : DCtx) (s : Nat) (slots : List (Nat × SO)) (listed : Array Bool) : wholeH x s slots [] listed = x.H ++ mslots listed slots := by unfold wholeH; split <;> rfl
theorem atI_in (x : DCtx) (i : Nat) (l : Bool) {k : Nat} {e : SO} (h : (x.atI i l)[k]? = some e) : e = .gone ∨ x.H[k]? = some e := by
  have hid : (mapN hideE x.H)[k]? = some e → e = .gone ∨ x.H[k]? = some e := by
    intro h
    rw [mapN_eq, List.getElem?_map] at h
    cases hx : x.H[k]? with
    | none => rw [hx] at h; cases h
    | some e0 =>
      rw [hx] at h
      have h : hideE e0 = e := Option.some.inj h
      unfold hideE at h
      cases hh : hiddenE e0 with
      | true => rw [hh] at h; exact .inl h.symm
      | false => rw [hh] at h; exact .inr (congrArg some h)
  unfold DCtx.atI at h
  cases hm : x.mL with
  | none => rw [hm] at h; exact .inr h
  | some m =>
    rw [hm] at h
    replace h : (boolC l x.H (boolC (bitN m i) x.H (mapN hideE x.H)))[k]? = some e := h
    cases l with
    | true => exact .inr h
    | false =>
      cases hb : bitN m i with
      | true => rw [hb] at h; exact .inr h
      | false => rw [hb] at h; exact hid h
structure DInv (x : DCtx) (s : Nat) (TF : List SV) (slots sets : List (Nat × SO)) (O : Nat → Prop) (w0 : World) (listed : Array Bool) (β : Val) (ts : Array Value) (w : World) : Prop where
  size : listed.size = x.os.size
  tsz : ts.size = TF.length
  tmps : ∀ t, (∀ (j : Nat) (o : Oper), (x.os.toList.take s)[j]? = some o → o.dst = some t → listed.getD j false = true) → (getT TF t).den β = some (ts.getD t undef)
  heap : HeapRel0 x.c.P O w0 β (wholeH x s slots sets listed) w
  free : ∀ n, x.H.length ≤ n → (∀ (j : Nat) (e : SO), slots[n - x.H.length]? = some (j, e) → listed.getD j false = false) → β n = none
  closed : ∀ (i m : Nat), listed.getD i false = true → (masks x.os.toList [])[i]? = some m → ∀ j, m.testBit j = true → listed.getD j false = true
  tail : ∀ i, s ≤ i → listed.getD i false = false
  glob : GlobRel x.c.glob β
theorem getD_put {ts : Array Value} {ds : List Deferred} {dst : Option Tmp} {y : Value} (t : Nat) : ((Act.put ⟨ts, ds⟩ dst y).tmps).getD t undef = if dst = some t ∧ t < ts.size then y else ts.getD t undef := by
  cases dst with
  | none => simp [Act.put]
  | some d =>
    simp only [Act.put, Array.getD_eq_getD_getElem?, Array.getElem?_setIfInBounds, Option.some.injEq]
    by_cases h : d = t
    · subst h
      by_cases h2 : d < ts.size
      · simp [h2]
      · simp [h2]
    · simp [h]
theorem put_mk (ts : Array Value) (ds : List Deferred) (dst : Option Tmp) (y : Value) : Act.put ⟨ts, ds⟩ dst y = ⟨(Act.put ⟨ts, ds⟩ dst y).tmps, ds⟩ := by cases dst <;> rfl
theorem put_size (ts : Array Value) (ds : List Deferred) (dst : Option Tmp) (y : Value) : (Act.put ⟨ts, ds⟩ dst y).tmps.size = ts.size := by cases dst <;> simp [Act.put]

/-- an operation's turn -/
theorem turn_step (he : edgesAll x.os.toList 0 = true) (hh : headOK x.os (takeN x.os.toList s) (takeN x.os.toList s) (masks x.os.toList []) 0 = true) (hF : Facts x (x.os.toList.take s) (masks x.os.toList []) T 0 [] TF Fs slots sets)
    {listed : Array Bool} {β : Val} {ts : Array Value} {w : World} (hI : DInv x s TF slots sets O w0 listed β ts w) {i : Nat} (hi : i ∈ Region.ready .any x.os listed) (his : i < s) (fr : Frame) (ds : List Deferred) (rest : List Nat) (k : List Item) (cs : List Frame) :
    ∃ β' ts' w', β.le β' ∧ DInv x s TF slots sets O w0 (listed.setIfInBounds i true) β' ts' w' ∧ Steps x.c.P (lone (fr.atR ⟨ts, ds⟩ (.inRegion x.os (i :: rest) :: k)) cs w) (lone (fr.atR ⟨ts', ds⟩ (.inRegion x.os rest :: k)) cs w') := by
  have hr := mem_ready.1 hi
  obtain ⟨hun, o, ho, hall⟩ := hr
  have hio := (Array.getElem?_eq_some_iff.1 ho).1
  have hunf : listed.getD i false = false := by rw [getD_true_false (by rw [hI.size]; exact hio)]; exact hun
  have hhd : (x.os.toList.take s)[i]? = some o := by rw [List.getElem?_take, if_pos his, Array.getElem?_toList]; exact ho
  obtain ⟨f, hf⟩ : ∃ f, Fs[i]? = some f := by
    have := (List.getElem?_eq_some_iff.1 hhd).1
    rw [← hF.len] at this
    exact ⟨_, List.getElem?_eq_getElem this⟩
  obtain ⟨hslot, hval, ⟨hfs, hfn⟩, T', G, hgood, hseen, hT'l, hT'⟩ := hF.good i o f hhd hf
  rw [Nat.zero_add] at hslot hseen
  simp only [List.length_nil, Nat.add_zero, List.nil_append] at hslot hseen
  rw [takeN_eq] at hh
  obtain ⟨hread, hdst⟩ := headOK_spec _ _ _ _ _ hh i o hhd
  have hset : ∀ j, (listed.setIfInBounds i true).getD j false = if i = j then true else listed.getD j false := by
    intro j
    by_cases hij : i = j
    · subst hij; rw [if_pos rfl]; simp [Array.getD_eq_getD_getElem?, hI.size, hio]
    · rw [if_neg hij, getD_set_ne false hij]
  -- what it reads is there
  have hagree : AgreeOn β T' ts (readsOp x.os o) := by
    refine ⟨by rw [hI.tsz, hT'l, hF.lenT], fun t ht => ?_⟩
    rw [← hT' t (fun j o' hij ho' hd => ?_) β]
    · refine hI.tmps t fun j o' ho' hd => ?_
      obtain ⟨m, hm, hb⟩ := hread j o' t ho' hd ht
      exact mask_ready hI.closed hi hm hb
    · obtain ⟨m, hm, hb⟩ := hread j o' t ho' hd ht
      have := mask_lt he i m hm j hb
      omega
  have hfree : ∀ (v : SV) (N : List SO) (b : Nat) (q : List (Nat × SO)), f = .run v N b q → Free β b N := by
    intro v N b q hfe
    rcases hslot.ex with ⟨hnil, _⟩ | ⟨e, p, v', q', hfe', hp, _⟩
    · rw [hfe] at hnil
      have : N = [] := hnil
      subst this
      intro j hj; simp at hj
    · rw [hfe] at hfe'; cases hfe'
      intro j hj
      have : j = 0 := by simp at hj; exact hj
      subst this
      refine hI.free _ (by omega) fun j' e' hje => ?_
      rw [show x.H.length + p + 0 - x.H.length = p from by omega, hp] at hje
      cases hje; exact hunf
  -- what it sees is there
  have hunl : ∀ (hL : listed.getD ((x.os.toList.take s).length - 1) false = true) (j : Nat), (((masks x.os.toList [])[(x.os.toList.take s).length - 1]?).getD 0).testBit j = true → listed.getD j false = true := by
    intro hL j hb
    have hmi : (masks x.os.toList [])[(x.os.toList.take s).length - 1]? = some (((masks x.os.toList [])[(x.os.toList.take s).length - 1]?).getD 0) := by
      cases hm : (masks x.os.toList [])[(x.os.toList.take s).length - 1]? with
      | none => rw [hm] at hb; simp at hb
      | some m => rfl
    exact hI.closed _ _ hL hmi j hb
  have hhlen : i < (x.os.toList.take s).length := (List.getElem?_eq_some_iff.1 hhd).1
  have hsee : ∀ (n : Nat) (e : SO), G[n]? = some e → e = .gone ∨ (wholeH x s slots sets listed)[n]? = some e := by
    intro n e hn
    have hA : e = .gone ∨ (x.H ++ mslots listed slots)[n]? = some e := by
      rcases hseen n e hn with h | h | ⟨hge, j, hj, hb⟩
      · exact .inl h
      · rcases atI_in x _ _ h with h | h
        · exact .inl h
        · right
          rw [List.getElem?_append_left (List.getElem?_eq_some_iff.1 h).1]; exact h
      · right
        rw [atI_length] at hge hj
        rw [List.getElem?_append_right hge]
        have hmi : (masks x.os.toList [])[i]? = some (((masks x.os.toList [])[i]?).getD 0) := by
          cases hm : (masks x.os.toList [])[i]? with
          | none => rw [hm] at hb; simp at hb
          | some m => rfl
        have hl := mask_ready hI.closed hi hmi hb
        simp only [mslots, List.getElem?_map, hj, Option.map_some]
        rw [hl]; rfl
    rcases hF.last with h0 | ⟨hmL, hhid⟩
    · rw [h0, wholeH_nil]; exact hA
    · cases hL : listed.getD ((x.os.toList.take s).length - 1) false with
      | false =>
        have : wholeH x s slots sets listed = x.H ++ mslots listed slots := by unfold wholeH; rw [hL]; rfl
        rw [this]; exact hA
      | true =>
        have hcu : wholeH x s slots sets listed = setsH (x.H ++ mslots listed slots) sets := by unfold wholeH; rw [hL]; rfl
        rw [hcu]
        have hne : ¬ (i + 1 = (x.os.toList.take s).length) := by
          intro h
          rw [← h, Nat.add_sub_cancel] at hL
          rw [hunf] at hL; cases hL
        rcases hA with hA | hA
        · exact .inl hA
        -- is it turned?
        by_cases hno : ∀ e', (n, e') ∉ sets
        · exact .inr (by rw [setsH_other _ _ _ hno]; exact hA)
        · obtain ⟨e', he'⟩ : ∃ e', (n, e') ∈ sets := by
            refine Classical.byContradiction fun h => hno fun e' he' => h ⟨e', he'⟩
          left
          rcases hhid n e' he' with hh | ⟨hge, j, e0, hj, hb, hall'⟩
          · -- it is hidden
            have hnl : n < x.H.length := by
              rcases Nat.lt_or_ge n x.H.length with h | h
              · exact h
              · unfold hidN at hh
                rw [nth_eq, List.getElem?_eq_none h] at hh; cases hh
            have hat : x.atI i (decide (i + 1 = (x.os.toList.take s).length)) = mapN hideE x.H := by
              unfold DCtx.atI
              rw [hmL, decide_eq_false hne]
              show boolC (bitN _ i) x.H (mapN hideE x.H) = _
              cases hb : bitN (((masks x.os.toList [])[(x.os.toList.take s).length - 1]?).getD 0) i with
              | false => rfl
              | true =>
                exfalso
                have := hunl hL i hb
                rw [hunf] at this; cases this
            rcases hseen n e hn with h | h | ⟨h, _⟩
            · exact h
            · rw [hat, mapN_eq, List.getElem?_map] at h
              unfold hidN at hh
              rw [nth_eq] at hh
              cases hx : x.H[n]? with
              | none => rw [hx] at h; cases h
              | some e1 =>
                rw [hx] at h hh
                have h : hideE e1 = e := Option.some.inj h
                have hh : hiddenE e1 = true := hh
                unfold hideE at h
                rw [hh] at h
                exact h.symm
            · rw [atI_length] at h; omega
          · -- it is the region's own
            rcases hseen n e hn with h | h | ⟨h, j', hj', hb'⟩
            · exact h
            · have := (List.getElem?_eq_some_iff.1 h).1
              rw [atI_length] at this
              omega
            · exfalso
              rw [atI_length] at hj'
              simp only [List.nil_append] at hj
              rw [hj] at hj'
              have hjj : j' = j := ((Prod.mk.inj (Option.some.inj hj')).1).symm
              subst hjj
              rcases hall' i (by simp only [Nat.zero_add]; omega) with h1 | h1
              · have := hunl hL i h1
                rw [hunf] at this; cases this
              · rw [hb'] at h1; cases h1
  have hcl := wholeH_length x s slots sets listed
  have hG0 : HeapRel0 x.c.P O w0 β G w := hI.heap.less fun n e hn => (hsee n e hn).symm
  have hlastEq : sets = [] ∨ i + 1 ≠ (x.os.toList.take s).length → (∀ e, (i, e) ∉ slots) → wholeH x s slots sets (listed.setIfInBounds i true) = wholeH x s slots sets listed := by
    intro hor hno
    have h3 : mslots (listed.setIfInBounds i true) slots = mslots listed slots := by
      unfold mslots
      apply List.map_congr_left
      intro p hp
      have h1 : (listed.setIfInBounds i true).getD p.1 false = listed.getD p.1 false := by
        rw [hset]; exact if_neg fun h => hno p.2 (by rw [h]; exact hp)
      rw [h1]
    rcases hor with h0 | hil
    · rw [h0, wholeH_nil, wholeH_nil, h3]
    · have h1 : (listed.setIfInBounds i true).getD ((x.os.toList.take s).length - 1) false = listed.getD ((x.os.toList.take s).length - 1) false := by
        rw [hset]; exact if_neg (by omega)
      unfold wholeH
      rw [h1, h3]
  -- what it does
  have hstep : ∃ y w' β' b SS, f.val.den β' = some y ∧ Eff x.c.P β w b SS f.news β' w' ∧ (∀ n e, (n, e) ∈ SS → ∃ e0, G[n]? = some e0 ∧ e0.owned = true) ∧ (SS = f.sets ∨ (f.sets = [] ∧ f.news = [] ∧ ∃ nm e, SS = [(nm, e)] ∧ G[nm]? = some e ∧ e.owned = true)) ∧ (∀ e p v q, f = .run v [e] (x.H.length + p) q → b = x.H.length + p) ∧
      Steps x.c.P (lone (fr.atR ⟨ts, ds⟩ (.inRegion x.os (i :: rest) :: k)) cs w) (lone (fr.atR (Act.put ⟨ts, ds⟩ o.dst y) (.inRegion x.os rest :: k)) cs w') := by
    cases f with
    | skip =>
      have hw := hgood β ts hagree
      refine ⟨undef, w, β, 0, [], by simp [Fct.val, undefS, SV.den, SV.denL, undef], Eff.refl _ _ _ _, (by intro n e h; simp at h), .inl rfl, (by intro e p v q h; cases h), .one ?_⟩
      have := stepR_op_skip (P := x.c.P) (b := fr) (a := ⟨ts, ds⟩) (k := k) (cs := cs) (w := w) (ops := x.os) (i := i) (rest := rest) (by rw [ho]; exact hw)
      rw [ho] at this; exact this
    | run v N b q =>
      obtain ⟨hw, hrun⟩ := hgood β ts hagree
      obtain ⟨y, w', β', hv, hE, hso, hst⟩ := hrun O w0 w hG0 hI.glob (hfree v N b q rfl) (fr.atR ⟨ts, ds⟩ (.inRegion x.os (i :: rest) :: k)) cs i rest k rfl rfl ho rfl
      rw [Frame.finish_atR, ho] at hst
      exact ⟨y, w', β', b, q, hv, hE, hso, .inl rfl, (by intro e p v q h; cases h; rfl), hst⟩
    | touch v nm =>
      obtain ⟨hw, hrun⟩ := hgood β ts hagree
      obtain ⟨y, w', e, hv, he, heo, hE, hst⟩ := hrun O w0 w hG0 hI.glob (fr.atR ⟨ts, ds⟩ (.inRegion x.os (i :: rest) :: k)) cs i rest k rfl rfl ho rfl
      rw [Frame.finish_atR, ho] at hst
      exact ⟨y, w', β, 0, [(nm, e)], hv, hE, (by intro n e' hn; simp at hn; obtain ⟨rfl, rfl⟩ := hn; exact ⟨e', he, heo⟩), .inr ⟨rfl, rfl, nm, e, rfl, he, heo⟩, (by intro e p v q h; cases h), hst⟩
  obtain ⟨y, w', β', b, SS, hv, hE, hso, hSS, hbase, hst⟩ := hstep
  rw [put_mk] at hst
  refine ⟨β', _, w', hE.le, ⟨by simp [hI.size], by rw [put_size]; exact hI.tsz, ?_, ?_, ?_, ?_, ?_, hI.glob.mono hE.le⟩, hst⟩
  · -- the temporaries
    intro t ht
    rw [getD_put]
    by_cases hd : o.dst = some t
    · by_cases hlt : t < ts.size
      · rw [if_pos ⟨hd, hlt⟩, hval t hd (by rw [← hF.lenT, ← hI.tsz]; exact hlt) (fun j o' hij ho' => hdst t hd j o' hij ho')]
        exact hv
      · rw [if_neg (fun h => hlt h.2)]
        have h1 : nth TF t = none := by rw [nth_eq, List.getElem?_eq_none]; rw [← hI.tsz]; exact Nat.not_lt.1 hlt
        have h2 : ts.getD t undef = undef := by rw [Array.getD_eq_getD_getElem?, Array.getElem?_eq_none (Nat.not_lt.1 hlt)]; rfl
        rw [h2]; unfold getT; rw [h1]; simp [undefS, SV.den, SV.denL, undef]
    · rw [if_neg (fun h => hd h.1)]
      refine SV.den_mono hE.le _ (hI.tmps t fun j o' ho' hd' => ?_)
      have := ht j o' ho' hd'
      rw [hset] at this
      by_cases hij : i = j
      · subst hij; rw [hhd] at ho'; cases ho'; exact absurd hd' hd
      · rwa [if_neg hij] at this
  · -- the heap
    rcases hSS with rfl | ⟨hs0, hn0, nm, e, rfl, hge, heo⟩
    case inr =>
      -- an entry is marked
      have hno : ∀ e, (i, e) ∉ slots := by
        rcases hslot.ex with ⟨_, hno⟩ | ⟨e', p, v, q, hfe, _, _⟩
        · exact hno
        · rw [hfe] at hn0; cases hn0
      have hcu := hlastEq (by
        by_cases hil : i + 1 = (x.os.toList.take s).length
        · rw [if_pos hil, hs0] at hfs
          exact .inl hfs.symm
        · exact .inr hil) hno
      rw [hn0] at hE
      have hin : (wholeH x s slots sets listed)[nm]? = some e := by
        rcases hsee nm e hge with rfl | h
        · cases heo
        · exact h
      rw [hcu, ← setsH_same hin]
      refine hI.heap.turn (fun n hn => ?_) hE fun n e' hn => ?_
      · rw [hcl] at hn
        refine hI.free n (by omega) fun j e hj => ?_
        have := (List.getElem?_eq_some_iff.1 hj).1
        omega
      · simp at hn
        obtain ⟨rfl, rfl⟩ := hn
        exact ⟨e', hin, heo⟩
    by_cases hse : f.sets = []
    · rw [hse] at hE
      have hor : sets = [] ∨ i + 1 ≠ (x.os.toList.take s).length := by
        by_cases hil : i + 1 = (x.os.toList.take s).length
        · rw [if_pos hil, hse] at hfs
          exact .inl hfs.symm
        · exact .inr hil
      -- without what the last one turns
      have hplain : ∀ n e, (x.H ++ mslots (listed.setIfInBounds i true) slots)[n]? = some e → ((x.H ++ mslots listed slots)[n]? = some e ∧ (n < b ∨ b + f.news.length ≤ n)) ∨ (∃ i, n = b + i ∧ f.news[i]? = some e) := by
        intro n e hn
        rcases Nat.lt_or_ge n x.H.length with hlt | hge
        · rw [List.getElem?_append_left hlt] at hn
          left
          refine ⟨by rw [List.getElem?_append_left hlt]; exact hn, ?_⟩
          rcases hslot.ex with ⟨hnil, _⟩ | ⟨e', p, v, q, hfe, _, _⟩
          · rw [hnil]; simp; omega
          · rw [hbase e' p v q hfe]; left; omega
        · rw [List.getElem?_append_right hge] at hn
          simp only [mslots, List.getElem?_map, Option.map_eq_some_iff] at hn
          obtain ⟨⟨j, e0⟩, hj, hje⟩ := hn
          by_cases hij : i = j
          · subst hij
            rw [hset, if_pos rfl] at hje
            simp only [if_true] at hje
            subst hje
            right
            rcases hslot.ex with ⟨_, hno⟩ | ⟨e', p, v, q, hfe, hp, hu⟩
            · exact absurd (List.mem_of_getElem? hj) (hno e0)
            · have := hu _ _ hj
              rw [this, hp] at hj; cases hj
              exact ⟨0, by rw [hbase _ p v q hfe]; omega, by rw [hfe]; rfl⟩
          · left
            rw [List.getElem?_append_right hge]
            refine ⟨?_, ?_⟩
            · simp only [mslots, List.getElem?_map, hj, Option.map_some]
              rw [hset, if_neg hij] at hje
              exact congrArg some hje
            · rcases hslot.ex with ⟨hnil, _⟩ | ⟨e', p, v, q, hfe, hp, _⟩
              · rw [hnil]; simp; omega
              · have hne : n - x.H.length ≠ p := by
                  intro h; rw [h, hp] at hj; cases hj; exact hij rfl
                rw [hbase e' p v q hfe, hfe]
                simp only [Fct.news, List.length_cons, List.length_nil]
                omega
      refine hI.heap.lay hE fun n e hn => ?_
      rcases hor with h0 | hil
      · rw [h0, wholeH_nil] at hn ⊢
        exact hplain n e hn
      · have h1 : (listed.setIfInBounds i true).getD ((x.os.toList.take s).length - 1) false = listed.getD ((x.os.toList.take s).length - 1) false := by
          rw [hset]; exact if_neg (by omega)
        cases hL : listed.getD ((x.os.toList.take s).length - 1) false with
        | false =>
          have e1 : wholeH x s slots sets (listed.setIfInBounds i true) = x.H ++ mslots (listed.setIfInBounds i true) slots := by unfold wholeH; rw [h1, hL]; rfl
          have e2 : wholeH x s slots sets listed = x.H ++ mslots listed slots := by unfold wholeH; rw [hL]; rfl
          rw [e1] at hn
          rw [e2]
          exact hplain n e hn
        | true =>
          have e1 : wholeH x s slots sets (listed.setIfInBounds i true) = setsH (x.H ++ mslots (listed.setIfInBounds i true) slots) sets := by unfold wholeH; rw [h1, hL]; rfl
          have e2 : wholeH x s slots sets listed = setsH (x.H ++ mslots listed slots) sets := by unfold wholeH; rw [hL]; rfl
          rw [e1] at hn
          rw [e2]
          by_cases hno : ∀ e', (n, e') ∉ sets
          · rw [setsH_other _ _ _ hno] at hn ⊢
            exact hplain n e hn
          · obtain ⟨e', he'⟩ : ∃ e', (n, e') ∈ sets := Classical.byContradiction fun h => hno fun e' he' => h ⟨e', he'⟩
            left
            refine ⟨?_, ?_⟩
            · rw [← setsH_at (A := x.H ++ mslots (listed.setIfInBounds i true) slots) (B := x.H ++ mslots listed slots) (by rw [List.length_append, List.length_append, mslots, mslots, List.length_map, List.length_map]) he']
              exact hn
            · rcases hslot.ex with ⟨hnil, _⟩ | ⟨e1, p, v, q, hfe, hp, _⟩
              · rw [hnil]; simp; omega
              · rw [hbase e1 p v q hfe, hfe]
                simp only [Fct.news, List.length_cons, List.length_nil]
                rcases hF.last with h0 | ⟨_, hhid⟩
                · rw [h0] at he'; simp at he'
                · rcases hhid n e' he' with hh | ⟨hge, j, e0, hj, hb, _⟩
                  · have hnl : n < x.H.length := by
                      rcases Nat.lt_or_ge n x.H.length with h | h
                      · exact h
                      · unfold hidN at hh
                        rw [nth_eq, List.getElem?_eq_none h] at hh; cases hh
                    left; omega
                  · simp only [List.nil_append] at hj
                    have hne : n - x.H.length ≠ p := by
                      intro h
                      rw [h, hp] at hj; cases hj
                      have := hunl hL i hb
                      rw [hunf] at this; cases this
                    omega
    · have hil : i + 1 = (x.os.toList.take s).length := by
        by_cases h : i + 1 = (x.os.toList.take s).length
        · exact h
        · rw [if_neg h] at hfs; exact absurd hfs hse
      rw [if_pos hil] at hfs
      have hnn := hfn hse
      rw [hnn, hfs] at hE
      have hLi : (x.os.toList.take s).length - 1 = i := by omega
      have hno : ∀ e, (i, e) ∉ slots := by
        rcases hslot.ex with ⟨_, hno⟩ | ⟨e', p, v, q, hfe, _, _⟩
        · exact hno
        · rw [hfe] at hnn; cases hnn
      have h3 : mslots (listed.setIfInBounds i true) slots = mslots listed slots := by
        unfold mslots
        apply List.map_congr_left
        intro p hp
        have h1 : (listed.setIfInBounds i true).getD p.1 false = listed.getD p.1 false := by
          rw [hset]; exact if_neg fun h => hno p.2 (by rw [h]; exact hp)
        rw [h1]
      have h1 : wholeH x s slots sets listed = x.H ++ mslots listed slots := by unfold wholeH; rw [hLi, hunf]; rfl
      have h2 : wholeH x s slots sets (listed.setIfInBounds i true) = setsH (x.H ++ mslots listed slots) sets := by unfold wholeH; rw [hLi, hset, if_pos rfl, h3]; rfl
      have hH := hI.heap
      rw [h1] at hH
      rw [h2]
      refine hH.turn (fun n hn => ?_) hE fun n e hn => ?_
      · rw [List.length_append, mslots, List.length_map] at hn
        refine hI.free n (by omega) fun j e hj => ?_
        have := (List.getElem?_eq_some_iff.1 hj).1
        omega
      · obtain ⟨e0, hg, ho⟩ := hso n e (by rw [hfs]; exact hn)
        refine ⟨e0, ?_, ho⟩
        rcases hsee n e0 hg with rfl | h
        · cases ho
        · rw [h1] at h; exact h
  · -- the free names
    intro n hge hn
    have hold : β n = none := hI.free n hge fun j e hj => by
      have := hn j e hj
      rw [hset] at this
      split at this
      · cases this
      · exact this
    rcases hslot.ex with ⟨hnil, _⟩ | ⟨e', p, v, q, hfe, hp, _⟩
    · rw [hE.dom n (by rw [hnil]; simp; omega)]; exact hold
    · rw [hE.dom n ?_]; · exact hold
      rw [hbase e' p v q hfe, hfe]
      simp only [Fct.news, List.length_cons, List.length_nil]
      by_cases hnp : n = x.H.length + p
      · exfalso
        have := hn i e' (by rw [hnp]; simpa using hp)
        rw [hset, if_pos rfl] at this; cases this
      · omega
  · intro j m hj hm l hl
    rw [hset] at hj ⊢
    split
    · rfl
    · by_cases hij : i = j
      · subst hij; exact mask_ready hI.closed hi hm hl
      · rw [if_neg hij] at hj; exact hI.closed j m hj hm l hl
  · intro j hj
    rw [hset, if_neg (by omega)]; exact hI.tail j hj

/-- ANY ORDER -/
theorem order_steps (he : edgesAll x.os.toList 0 = true) (hh : headOK x.os (takeN x.os.toList s) (takeN x.os.toList s) (masks x.os.toList []) 0 = true) (ht : tailOK (dropN (masks x.os.toList []) s) s = true) (hF : Facts x (x.os.toList.take s) (masks x.os.toList []) T 0 [] TF Fs slots sets)
    (fr : Frame) (ds : List Deferred) (k : List Item) (cs : List Frame) : ∀ (fuel t : Nat) (listed : Array Bool) (β : Val) (ts : Array Value) (w : World), DInv x s TF slots sets O w0 listed β ts w → unl listed x.os.size ≤ fuel →
    ∃ β' ts' w' listed', β.le β' ∧ DInv x s TF slots sets O w0 listed' β' ts' w' ∧ (∀ j, j < s → j < x.os.size → listed'.getD j false = true) ∧
      Steps x.c.P (lone (fr.atR ⟨ts, ds⟩ (.inRegion x.os (Region.linearise.go .any x.os fuel t listed []) :: k)) cs w) (lone (fr.atR ⟨ts', ds⟩ (.inRegion x.os (List.range' s (x.os.size - s)) :: k)) cs w') := by
  have htm : ∀ (i m : Nat), s ≤ i → (masks x.os.toList [])[i]? = some m → ∀ j, j < i → m.testBit j = true := by
    intro i m hi hm j hj
    rw [dropN_eq] at ht
    have := tailOK_spec _ _ ht (i - s) m (by rw [List.getElem?_drop, show s + (i - s) = i from by omega]; exact hm)
    rw [show s + (i - s) = i from by omega] at this
    exact allBefore_spec this hj
  intro fuel
  induction fuel with
  | zero =>
    intro t listed β ts w hI hf
    have hall : ∀ j, j < x.os.size → listed.getD j true = true := by
      intro j hj
      cases h : listed.getD j true with
      | true => rfl
      | false => have := unl_pos hj h; omega
    have hs : x.os.size ≤ s := by
      rcases Nat.lt_or_ge s x.os.size with h | h
      · have h1 := hI.tail s (Nat.le_refl _)
        rw [getD_true_false (by rw [hI.size]; exact h), hall s h] at h1; cases h1
      · exact h
    refine ⟨β, ts, w, listed, Val.le_refl β, hI, fun j _ hj => by rw [getD_true_false (by rw [hI.size]; exact hj)]; exact hall j hj, ?_⟩
    rw [show x.os.size - s = 0 from by omega]
    exact .refl _ _
  | succ fuel ih =>
    intro t listed β ts w hI hf
    by_cases hall : ∀ j, j < s → j < x.os.size → listed.getD j false = true
    · refine ⟨β, ts, w, listed, Val.le_refl β, hI, hall, ?_⟩
      rcases Nat.lt_or_ge x.os.size s with h | h
      · rw [show x.os.size - s = 0 from by omega]
        rw [go_nil]
        · exact .refl _ _
        · apply List.eq_nil_iff_forall_not_mem.2
          intro j hj
          rw [mem_ready] at hj
          obtain ⟨h1, o, ho, _⟩ := hj
          have hlt := (Array.getElem?_eq_some_iff.1 ho).1
          rw [← getD_true_false (by rw [hI.size]; exact hlt), hall j (by omega) hlt] at h1
          cases h1
      · have hdec : ∀ j, j < x.os.size → listed.getD j true = decide (j < s) := by
          intro j hj
          rw [← getD_true_false (by rw [hI.size]; exact hj)]
          by_cases hjs : j < s
          · rw [hall j hjs hj]; simp [hjs]
          · rw [hI.tail j (by omega)]; simp [hjs]
        rw [tail_order he htm (x.os.size - s) (fuel + 1) t s listed hI.size (Nat.le_refl _) (by omega) hdec ?_]
        · exact .refl _ _
        · exact Nat.le_trans (unl_ge (s := s) (n := x.os.size) (fun j h1 h2 => by rw [hdec j h2]; simp; omega) _ (by omega)) hf
    · -- the least of those that have not come
      have hex : ∃ i, i < s ∧ i < x.os.size ∧ listed.getD i true = false ∧ ∀ j, j < i → listed.getD j false = true := by
        have hgen : ∀ n, (∃ i, i < n ∧ i < s ∧ i < x.os.size ∧ listed.getD i true = false ∧ ∀ j, j < i → listed.getD j false = true) ∨ (∀ j, j < n → j < s → j < x.os.size → listed.getD j false = true) := by
          intro n
          induction n with
          | zero => exact .inr fun j hj => by omega
          | succ n ih2 =>
            rcases ih2 with ⟨i, h1, h2⟩ | h
            · exact .inl ⟨i, by omega, h2⟩
            · by_cases hn : n < s ∧ n < x.os.size ∧ listed.getD n false = false
              · refine .inl ⟨n, by omega, hn.1, hn.2.1, ?_, fun j hj => h j hj (by omega) (by omega)⟩
                rw [← getD_true_false (by rw [hI.size]; exact hn.2.1)]; exact hn.2.2
              · refine .inr fun j hj h1 h2 => ?_
                by_cases hjn : j = n
                · subst hjn
                  cases hx : listed.getD j false with
                  | true => rfl
                  | false => exact absurd ⟨h1, h2, hx⟩ hn
                · exact h j (by omega) h1 h2
        rcases hgen s with ⟨i, _, h⟩ | h
        · exact ⟨i, h⟩
        · exact absurd (fun j h1 h2 => h j h1 h1 h2) hall
      obtain ⟨i0, h1, h2, h3, h4⟩ := hex
      have hin := ready_least he h2 h3 h4
      obtain ⟨i, hi, t', heq⟩ := go_cons (List.ne_nil_of_mem hin) fuel t
      have hio : i < x.os.size := by
        obtain ⟨_, o, ho, _⟩ := mem_ready.1 hi
        exact (Array.getElem?_eq_some_iff.1 ho).1
      have his : i < s := by
        rcases Nat.lt_or_ge i s with h | h
        · exact h
        · exfalso
          obtain ⟨_, hml, _⟩ := masks_spec x.os.toList []
          have hlt : i < (masks x.os.toList []).length := by rw [hml]; simpa using hio
          have := mask_ready hI.closed hi (List.getElem?_eq_getElem hlt) (htm i _ h (List.getElem?_eq_getElem hlt) i0 (by omega))
          rw [getD_true_false (by rw [hI.size]; exact h2), h3] at this; cases this
      obtain ⟨β1, ts1, w1, hle, hI1, hst⟩ := turn_step he hh hF hI hi his fr ds (Region.linearise.go .any x.os fuel t' (listed.setIfInBounds i true) []) k cs
      have hu := unl_set (mem_ready.1 hi).1 x.os.size
      rw [if_pos hio] at hu
      obtain ⟨β2, ts2, w2, l2, hle2, hI2, hall2, hst2⟩ := ih t' (listed.setIfInBounds i true) β1 ts1 w1 hI1 (by omega)
      exact ⟨β2, ts2, w2, l2, Val.le_trans hle hle2, hI2, hall2, by rw [heq]; exact hst.trans hst2⟩

end

/- Regions whose head holds appends. -/
section
variable {os : Array Oper} {s : Nat}
/-- any order, whatever is kept -/
theorem order_steps_gen {P : Program} {Inv : Array Bool → Val → Array Value → World → Prop} (he : edgesAll os.toList 0 = true) (ht : tailOK (dropN (masks os.toList []) s) s = true)
    (fr : Frame) (ds : List Deferred) (k : List Item) (cs : List Frame)
    (hsz : ∀ {l β ts w}, Inv l β ts w → l.size = os.size) (htl : ∀ {l β ts w}, Inv l β ts w → ∀ i, s ≤ i → l.getD i false = false)
    (hcl : ∀ {l β ts w}, Inv l β ts w → ∀ (i m : Nat), l.getD i false = true → (masks os.toList [])[i]? = some m → ∀ j, m.testBit j = true → l.getD j false = true)
    (hturn : ∀ {l : Array Bool} {β ts w} {i : Nat}, Inv l β ts w → i ∈ Region.ready .any os l → i < s → ∀ rest : List Nat, ∃ β' ts' w', β.le β' ∧ Inv (l.setIfInBounds i true) β' ts' w' ∧
      Steps P (lone (fr.atR ⟨ts, ds⟩ (.inRegion os (i :: rest) :: k)) cs w) (lone (fr.atR ⟨ts', ds⟩ (.inRegion os rest :: k)) cs w')) :
    ∀ (fuel t : Nat) (listed : Array Bool) (β : Val) (ts : Array Value) (w : World), Inv listed β ts w → unl listed os.size ≤ fuel →
    ∃ β' ts' w' listed', β.le β' ∧ Inv listed' β' ts' w' ∧ (∀ j, j < s → j < os.size → listed'.getD j false = true) ∧
      Steps P (lone (fr.atR ⟨ts, ds⟩ (.inRegion os (Region.linearise.go .any os fuel t listed []) :: k)) cs w) (lone (fr.atR ⟨ts', ds⟩ (.inRegion os (List.range' s (os.size - s)) :: k)) cs w') := by
  have htm : ∀ (i m : Nat), s ≤ i → (masks os.toList [])[i]? = some m → ∀ j, j < i → m.testBit j = true := by
    intro i m hi hm j hj
    rw [dropN_eq] at ht
    have := tailOK_spec _ _ ht (i - s) m (by rw [List.getElem?_drop, show s + (i - s) = i from by omega]; exact hm)
    rw [show s + (i - s) = i from by omega] at this
    exact allBefore_spec this hj
  intro fuel
  induction fuel with
  | zero =>
    intro t listed β ts w hI hf
    have hall : ∀ j, j < os.size → listed.getD j true = true := by
      intro j hj
      cases h : listed.getD j true with
      | true => rfl
      | false => have := unl_pos hj h; omega
    have hs : os.size ≤ s := by
      rcases Nat.lt_or_ge s os.size with h | h
      · have h1 := htl hI s (Nat.le_refl _)
        rw [getD_true_false (by rw [(hsz hI)]; exact h), hall s h] at h1; cases h1
      · exact h
    refine ⟨β, ts, w, listed, Val.le_refl β, hI, fun j _ hj => by rw [getD_true_false (by rw [(hsz hI)]; exact hj)]; exact hall j hj, ?_⟩
    rw [show os.size - s = 0 from by omega]
    exact .refl _ _
  | succ fuel ih =>
    intro t listed β ts w hI hf
    by_cases hall : ∀ j, j < s → j < os.size → listed.getD j false = true
    · refine ⟨β, ts, w, listed, Val.le_refl β, hI, hall, ?_⟩
      rcases Nat.lt_or_ge os.size s with h | h
      · rw [show os.size - s = 0 from by omega]
        rw [go_nil]
        · exact .refl _ _
        · apply List.eq_nil_iff_forall_not_mem.2
          intro j hj
          rw [mem_ready] at hj
          obtain ⟨h1, o, ho, _⟩ := hj
          have hlt := (Array.getElem?_eq_some_iff.1 ho).1
          rw [← getD_true_false (by rw [(hsz hI)]; exact hlt), hall j (by omega) hlt] at h1
          cases h1
      · have hdec : ∀ j, j < os.size → listed.getD j true = decide (j < s) := by
          intro j hj
          rw [← getD_true_false (by rw [(hsz hI)]; exact hj)]
          by_cases hjs : j < s
          · rw [hall j hjs hj]; simp [hjs]
          · rw [htl hI j (by omega)]; simp [hjs]
        rw [tail_order he htm (os.size - s) (fuel + 1) t s listed (hsz hI) (Nat.le_refl _) (by omega) hdec ?_]
        · exact .refl _ _
        · exact Nat.le_trans (unl_ge (s := s) (n := os.size) (fun j h1 h2 => by rw [hdec j h2]; simp; omega) _ (by omega)) hf
    · -- the least of those that have not come
      have hex : ∃ i, i < s ∧ i < os.size ∧ listed.getD i true = false ∧ ∀ j, j < i → listed.getD j false = true := by
        have hgen : ∀ n, (∃ i, i < n ∧ i < s ∧ i < os.size ∧ listed.getD i true = false ∧ ∀ j, j < i → listed.getD j false = true) ∨ (∀ j, j < n → j < s → j < os.size → listed.getD j false = true) := by
          intro n
          induction n with
          | zero => exact .inr fun j hj => by omega
          | succ n ih2 =>
            rcases ih2 with ⟨i, h1, h2⟩ | h
            · exact .inl ⟨i, by omega, h2⟩
            · by_cases hn : n < s ∧ n < os.size ∧ listed.getD n false = false
              · refine .inl ⟨n, by omega, hn.1, hn.2.1, ?_, fun j hj => h j hj (by omega) (by omega)⟩
                rw [← getD_true_false (by rw [(hsz hI)]; exact hn.2.1)]; exact hn.2.2
              · refine .inr fun j hj h1 h2 => ?_
                by_cases hjn : j = n
                · subst hjn
                  cases hx : listed.getD j false with
                  | true => rfl
                  | false => exact absurd ⟨h1, h2, hx⟩ hn
                · exact h j (by omega) h1 h2
        rcases hgen s with ⟨i, _, h⟩ | h
        · exact ⟨i, h⟩
        · exact absurd (fun j h1 h2 => h j h1 h1 h2) hall
      obtain ⟨i0, h1, h2, h3, h4⟩ := hex
      have hin := ready_least he h2 h3 h4
      obtain ⟨i, hi, t', heq⟩ := go_cons (List.ne_nil_of_mem hin) fuel t
      have hio : i < os.size := by
        obtain ⟨_, o, ho, _⟩ := mem_ready.1 hi
        exact (Array.getElem?_eq_some_iff.1 ho).1
      have his : i < s := by
        rcases Nat.lt_or_ge i s with h | h
        · exact h
        · exfalso
          obtain ⟨_, hml, _⟩ := masks_spec os.toList []
          have hlt : i < (masks os.toList []).length := by rw [hml]; simpa using hio
          have := mask_ready (hcl hI) hi (List.getElem?_eq_getElem hlt) (htm i _ h (List.getElem?_eq_getElem hlt) i0 (by omega))
          rw [getD_true_false (by rw [(hsz hI)]; exact h2), h3] at this; cases this
      obtain ⟨β1, ts1, w1, hle, hI1, hst⟩ := hturn hI hi his (Region.linearise.go .any os fuel t' (listed.setIfInBounds i true) [])
      have hu := unl_set (mem_ready.1 hi).1 os.size
      rw [if_pos hio] at hu
      obtain ⟨β2, ts2, w2, l2, hle2, hI2, hall2, hst2⟩ := ih t' (listed.setIfInBounds i true) β1 ts1 w1 hI1 (by omega)
      exact ⟨β2, ts2, w2, l2, Val.le_trans hle hle2, hI2, hall2, by rw [heq]; exact hst.trans hst2⟩

end

theorem cmpOK_spec {P : Program} {i m : Nat} : ∀ (ops : List Oper) (ms : List Nat) (k : Nat), cmpOK P i m ops ms k = true → ∀ (j : Nat) (o : Oper), ops[j]? = some o → moves P o = true → k + j ≠ i → (k + j < i → m.testBit (k + j) = true) ∧ (i < k + j → ((ms[j]?).getD 0).testBit i = true) := by
  intro ops
  induction ops with
  | nil => intro ms k _ j o h; simp at h
  | cons a r ih =>
    intro ms k h j o ho hm hne
    obtain ⟨h1, h2⟩ := boolC_and (show boolC (boolC (moves P a) (boolC (Nat.beq k i) true (boolC (Nat.blt k i) (bitN m k) (bitN (headM ms) i))) true) (cmpOK P i m r (tailM ms) (k + 1)) false = true from h)
    cases j with
    | zero =>
      simp at ho; subst ho
      rw [hm, boolC_true, show Nat.beq k i = false from Bool.eq_false_iff.2 fun h => hne (Nat.eq_of_beq_eq_true h), boolC_false] at h1
      rw [Nat.add_zero]
      refine ⟨fun hlt => ?_, fun hlt => ?_⟩
      · rw [show Nat.blt k i = true from Nat.ble_eq_true_of_le hlt, boolC_true] at h1; exact h1
      · rw [show Nat.blt k i = false from Bool.eq_false_iff.2 fun h => by have := Nat.le_of_ble_eq_true h; omega, boolC_false] at h1
        cases ms with
        | nil => simp [headM, bitN] at h1
        | cons m0 ms => exact h1
    | succ j =>
      have := ih (tailM ms) (k + 1) h2 j o (by simpa using ho) hm (by omega)
      rw [show k + (j + 1) = k + 1 + j from by omega]
      refine ⟨this.1, fun hlt => ?_⟩
      have h3 := this.2 hlt
      cases ms with
      | nil => simp [tailM] at h3
      | cons m0 ms => simpa [tailM] using h3

section
variable {D : SV → List SO → Prop} {S : SS → Prop}

theorem chVal_ob {v : SV} {sets : List (Nat × SO)} {news : List SO} {mv : Bool} {x : CCtx} {dst : Option Tmp} {T : List SV} {H : List SO} {next : List SV → List SO → Tree} (h : (chVal v sets news mv x dst T H next).Ob D S) :
    (next (putT T dst v) (applyH H sets news)).Ob D S ∧ (mv = false → sets = [] ∧ news = []) ∧ ∀ n e, (n, e) ∈ sets → visN x.hid x.H n = false := by
  unfold chVal at h
  cases mv with
  | true =>
    rw [boolC_true] at h
    cases ha : allN (fun q => boolC (visN x.hid x.H q.1) false true) sets with
    | false => rw [ha] at h; exact h.elim
    | true =>
      rw [ha] at h
      refine ⟨h, (fun h => by cases h), fun n e hn => ?_⟩
      have := allN_mem ha _ hn
      cases hv : visN x.hid x.H n with
      | false => rfl
      | true => rw [show visN x.hid x.H (n, e).1 = visN x.hid x.H n from rfl, hv] at this; cases this
  | false =>
    rw [boolC_false] at h
    unfold chNo at h
    split at h
    · exact ⟨h, fun _ => ⟨rfl, rfl⟩, by simp⟩
    · exact h.elim
theorem chOpG_ob {x : CCtx} (hc : CfgOK x.c) {G : List SO} {mv : Bool} {o : Oper} {T : List SV} {H : List SO} {next : List SV → List SO → Tree} (h : (chOpG G mv o x T H next).Ob D S) :
    ∃ T' f, SameDen T T' ∧ OpGood x.c.P x.c.glob G x.os o T' f ∧ (next (putT T' o.dst f.val) (applyH H f.sets f.news)).Ob D S ∧ (mv = false → f.sets = [] ∧ f.news = []) ∧ (∀ n e, (n, e) ∈ f.sets → visN x.hid x.H n = false) ∧ ∀ v M b s, f = .run v M b s → b = H.length := by
  unfold chOpG at h
  rcases wantT_leaf h with ⟨T', hsd, hwant, h⟩ | ⟨hwant, h⟩
  · obtain ⟨r, hleaf, h⟩ := R.leaf_of_ob h
    have hnd : ∀ cc, o.op ≠ .defer cc := by
      intro cc hd
      rw [show opS x.c.P (evS x.c.glob T') G (lenN H) o = .stuck 342 from by unfold opS; rw [hd]; rfl] at hleaf
      exact hleaf
    rw [lenN_eq] at hleaf
    have hev : ∀ (β : Val) (ts : Array Value) (ds : List Deferred), AgreeOn β T' ts (readsOp x.os o) → GlobRel x.c.glob β → ∀ y ∈ o.op.operands, (evS x.c.glob T' y).den β = some (Act.eval ⟨ts, ds⟩ y) := by
      intro β ts ds ha hG y hy
      cases y with
      | tmp t =>
        have h1 := ha.at_ t (reads_operand hy)
        have e : evS x.c.glob T' (.tmp t) = getT T' t := by
          show optC (nth T' t) undefS (fun v => v) = _
          unfold getT; cases nth T' t <;> rfl
        rw [e]; exact h1
      | const v => exact constV_den β v
      | global g =>
        show (evGlob g x.c.glob T').den β = _
        unfold evGlob
        split
        · rename_i nm h
          obtain ⟨l, h1, h2, h3⟩ := hG g nm h
          simp [SV.den, SA.den, h1, h2, h3, SN.den, Act.eval]
        · rfl
      | func f => rfl
    cases r with
    | val v sets news =>
      obtain ⟨h1, h2, h3⟩ := chVal_ob (show (chVal v sets news mv x o.dst T' H next).Ob D S from h)
      refine ⟨T', .run v news H.length sets, hsd, ?_, h1, h2, h3, fun _ _ _ _ e => by cases e; rfl⟩
      intro β ts ha
      refine ⟨hwant β ts ha, fun O w0 w hH hG hfree f cs i rest k hm htd ho hts => ?_⟩
      subst hts
      have hsg := step_op (P := x.c.P) hm htd ho (hwant β f.tmps ha) hnd (cs := cs) (w := w)
      obtain ⟨nx, y, w', β', hrun, hnx, hv, hE, hso⟩ := R.sat_leaf (opS_sat hH o (hev β f.tmps f.defers ha hG)) hleaf hfree
      exact ⟨y, w', β', hv, hE, hso, .one (step_val hsg hrun hnx)⟩
    | enter g args =>
      replace h : (chEnter g args mv x G o.dst T' H next).Ob D S := h
      unfold chEnter at h
      split at h
      · rename_i sm hsm
        obtain ⟨r, hleaf2, h⟩ := R.leaf_of_ob h
        rw [lenN_eq] at hleaf2
        obtain ⟨v, sets, news⟩ := r
        obtain ⟨h1, h2, h3⟩ := chVal_ob h
        refine ⟨T', .run v news H.length sets, hsd, ?_, h1, h2, h3, fun _ _ _ _ e => by cases e; rfl⟩
        intro β ts ha
        refine ⟨hwant β ts ha, fun O w0 w hH hG hfree f cs i rest k hm htd ho hts => ?_⟩
        subst hts
        have hsg := step_op (P := x.c.P) hm htd ho (hwant β f.tmps ha) hnd (cs := cs) (w := w)
        obtain ⟨vs, hvs, hrun⟩ := R.sat_leaf (opS_sat hH o (hev β f.tmps f.defers ha hG)) hleaf
        obtain ⟨hso, hcall⟩ := R.sat_leaf (hc.sums g sm hsm O w0 β G w _ args vs hH hG hvs) hleaf2 hfree
        rcases hcall with ⟨⟨fn, hfn, hb⟩, hcall⟩ | ⟨v', w', β', hrun2, hv, hE⟩
        · obtain ⟨e, w', fr', ⟨v', β', rfl, hv, hE⟩, hcomes, _, hleave⟩ := hcall (f :: cs)
          exact ⟨v', w', β', hv, hE, hso, .trans (.one (step_enter (by rw [htd]; intros; simp) hsg (hrun.trans (run_callFunc hc.prog hfn hb _ _)))) (.trans hcomes (.one (step_leave_returned hleave)))⟩
        · exact ⟨v', w', β', hv, hE, hso, .one (step_val hsg (hrun.trans hrun2) rfl)⟩
      · exact h.elim
    | round nm args => exact h.elim
    | defer d => exact h.elim
    | panic v => exact h.elim
    | touch v nm =>
      refine ⟨T', .touch v nm, hsd, ?_, h, fun _ => ⟨rfl, rfl⟩, by simp [Fct.sets], fun _ _ _ _ e => by cases e⟩
      intro β ts ha
      refine ⟨hwant β ts ha, fun O w0 w hH hG f cs i rest k hm htd ho hts => ?_⟩
      subst hts
      have hsg := step_op (P := x.c.P) hm htd ho (hwant β f.tmps ha) hnd (cs := cs) (w := w)
      obtain ⟨nx, y, w', e, hrun, hnx, hv, he, heo, hE⟩ := R.sat_leaf (opS_sat (base := H.length) hH o (hev β f.tmps f.defers ha hG)) hleaf
      exact ⟨y, w', e, hv, he, heo, hE.rebase, .one (step_val hsg hrun hnx)⟩
  · exact ⟨T, .skip, .refl T, hwant, h, fun _ => ⟨rfl, rfl⟩, by simp [Fct.sets], fun _ _ _ _ e => by cases e⟩

/-- the entries that are to stay have stayed -/
def StableH (hid : SO → Bool) (H0 H : List SO) : Prop := ∀ (n : Nat) (e : SO), H0[n]? = some e → hid e = false → H[n]? = some e
theorem StableH.apply {hid : SO → Bool} {H0 H : List SO} (h : StableH hid H0 H) {sets : List (Nat × SO)} {news : List SO} (hs : ∀ n e, (n, e) ∈ sets → visN hid H0 n = false) : StableH hid H0 (applyH H sets news) := by
  intro n e hn he
  have h1 := h n e hn he
  rw [applyH_eq, List.getElem?_append_left (by rw [setsH_length]; exact (List.getElem?_eq_some_iff.1 h1).1), setsH_other _ _ _ ?_]
  · exact h1
  · intro e' he'
    have := hs n e' he'
    unfold visN at this
    rw [nth_eq, hn] at this
    rw [show optC (some e) false (fun e => boolC (hid e) false true) = boolC (hid e) false true from rfl, he] at this
    cases this
structure CFacts (x : CCtx) (ops : List Oper) (ms : List Nat) (i0 : Nat) (T : List SV) (H : List SO) (TF : List SV) (Fs : List Fct) (hs : Nat → List SO) : Prop where
  len : Fs.length = ops.length
  lenT : TF.length = T.length
  same : ∀ t, (∀ o ∈ ops, o.dst ≠ some t) → ∀ β, (getT TF t).den β = (getT T t).den β
  zero : hs 0 = H
  stable : ∀ i, i ≤ ops.length → StableH x.hid x.H (hs i)
  good : ∀ (i : Nat) (o : Oper) (f : Fct), ops[i]? = some o → Fs[i]? = some f →
    (∀ d, o.dst = some d → d < T.length → (∀ (k : Nat) (o' : Oper), i < k → ops[k]? = some o' → o'.dst ≠ some d) → ∀ β, (getT TF d).den β = f.val.den β) ∧
    hs (i + 1) = applyH (hs i) f.sets f.news ∧ (moves x.c.P o = false → f.sets = [] ∧ f.news = []) ∧ (∀ v M b s, f = .run v M b s → b = (hs i).length) ∧
    ∃ T' G, OpGood x.c.P x.c.glob G x.os o T' f ∧ T'.length = T.length ∧ (∀ t, (∀ (k : Nat) (o' : Oper), i ≤ k → ops[k]? = some o' → o'.dst ≠ some t) → ∀ β, (getT TF t).den β = (getT T' t).den β) ∧
      ((cmpOK x.c.P (i0 + i) ((ms[i]?).getD 0) x.hd x.ms 0 = true ∧ G = hs i) ∨ (moves x.c.P o = false ∧ G = mapN (hideW x.hid) x.H))
theorem chP_facts {x : CCtx} (hc : CfgOK x.c) : ∀ (ops : List Oper) (ms : List Nat) (i0 : Nat) (T : List SV) (H : List SO), StableH x.hid x.H H → (chP ops x ms i0 T H).Ob D S →
    ∃ TF Fs hs, CFacts x ops ms i0 T H TF Fs hs ∧ (x.fin TF (hs ops.length)).Ob D S := by
  intro ops
  induction ops with
  | nil =>
    intro ms i0 T H hst h
    exact ⟨T, [], fun _ => H, ⟨rfl, rfl, fun _ _ _ => rfl, rfl, fun _ _ => hst, by simp⟩, h⟩
  | cons o r ih =>
    intro ms i0 T H hst h
    have hm0 : headM ms = (ms[0]?).getD 0 := by cases ms <;> rfl
    have hms : ∀ i : Nat, (tailM ms)[i]? = ms[i + 1]? := by intro i; cases ms <;> simp [tailM]
    replace h : (chOp o x i0 (headM ms) T H (chP r x (tailM ms) (i0 + 1))).Ob D S := h
    obtain ⟨T', f, G, hsd, hgood, hnx, hmv, hvis, hbase, hG⟩ : ∃ T' f G, SameDen T T' ∧ OpGood x.c.P x.c.glob G x.os o T' f ∧ (chP r x (tailM ms) (i0 + 1) (putT T' o.dst f.val) (applyH H f.sets f.news)).Ob D S ∧ (moves x.c.P o = false → f.sets = [] ∧ f.news = []) ∧
        (∀ n e, (n, e) ∈ f.sets → visN x.hid x.H n = false) ∧ (∀ v M b s, f = .run v M b s → b = H.length) ∧ ((cmpOK x.c.P i0 (headM ms) x.hd x.ms 0 = true ∧ G = H) ∨ (moves x.c.P o = false ∧ G = mapN (hideW x.hid) x.H)) := by
      unfold chOp at h
      cases hcm : cmpOK x.c.P i0 (headM ms) x.hd x.ms 0 with
      | true =>
        rw [hcm, boolC_true] at h
        obtain ⟨T', f, h1, h2, h3, h4, h5, h6⟩ := chOpG_ob hc h
        exact ⟨T', f, H, h1, h2, h3, h4, h5, h6, .inl ⟨rfl, rfl⟩⟩
      | false =>
        rw [hcm, boolC_false] at h
        cases hmo : moves x.c.P o with
        | true => rw [hmo] at h; exact h.elim
        | false =>
          rw [hmo, boolC_false] at h
          obtain ⟨T', f, h1, h2, h3, h4, h5, h6⟩ := chOpG_ob hc h
          exact ⟨T', f, _, h1, h2, h3, fun _ => h4 rfl, h5, h6, .inr ⟨rfl, rfl⟩⟩
    have hlen : T'.length = T.length := hsd.len
    have hlenP : (putT T' o.dst f.val).length = T.length := by rw [putT_length, hlen]
    obtain ⟨TF, Fs, hs, hF, hfin⟩ := ih _ _ _ _ (hst.apply hvis) hnx
    refine ⟨TF, f :: Fs, fun k => match k with | 0 => H | k + 1 => hs k, ⟨by simp [hF.len], hF.lenT.trans hlenP, ?_, rfl, ?_, ?_⟩, hfin⟩
    · intro t ht β
      rw [hF.same t (fun o' ho' => ht o' (List.mem_cons_of_mem _ ho')) β, getT_put_ne (ht o List.mem_cons_self), hsd.den β t]
    · intro i hi
      cases i with
      | zero => exact hst
      | succ i => exact hF.stable i (by simpa using hi)
    · intro i o' f' ho' hf'
      cases i with
      | zero =>
        simp at ho' hf'; subst ho'; subst hf'
        refine ⟨fun d hd hdl hlate β => ?_, hF.zero, hmv, hbase, T', G, hgood, hlen, fun t ht β => ?_, by rw [← hm0]; exact hG⟩
        · rw [hF.same d (fun o' ho' => ?_) β, hd, getT_put_eq (Nat.lt_of_lt_of_eq hdl hlen.symm)]
          obtain ⟨k, hk⟩ := List.mem_iff_getElem?.1 ho'
          exact hlate (k + 1) o' (by omega) (by simpa using hk)
        · rw [hF.same t (fun o' ho' => ?_) β, getT_put_ne (ht 0 o (Nat.le_refl _) rfl)]
          obtain ⟨k, hk⟩ := List.mem_iff_getElem?.1 ho'
          exact ht (k + 1) o' (by omega) (by simpa using hk)
      | succ i =>
        obtain ⟨h1, h2, h3, h4, T2, G2, h5, h6, h7, h8⟩ := hF.good i o' f' (by simpa using ho') (by simpa using hf')
        refine ⟨fun d hd hdl hlate β => h1 d hd (Nat.lt_of_lt_of_eq hdl hlenP.symm) (fun k o'' hk ho'' => hlate (k + 1) o'' (by omega) (by simpa using ho'')) β, h2, h3, h4, T2, G2, h5, h6.trans hlenP,
          fun t ht β => h7 t (fun k o'' hk ho'' => ht (k + 1) o'' (by omega) (by simpa using ho'')) β, ?_⟩
        rw [← hms, show i0 + (i + 1) = i0 + 1 + i from by omega]
        exact h8
end

section
variable {x : CCtx} {s : Nat} {T TF : List SV} {Fs : List Fct} {hs : Nat → List SO} {H0 : List SO} {O : Bool → Nat → Prop} {w0 : Bool → World}
structure CInv (x : CCtx) (s tl : Nat) (ex : Option Tmp) (TF : List SV) (hs : Nat → List SO) (O : Bool → Nat → Prop) (w0 : Bool → World) (listed : Array Bool) (β : Val) (ts : Array Value) (w : World) : Prop where
  size : listed.size = x.os.size
  tsz : ts.size = TF.length
  tmps : ∀ t, ex ≠ some t → (∀ (j : Nat) (o : Oper), (x.os.toList.take s)[j]? = some o → o.dst = some t → listed.getD j false = true) → (getT TF t).den β = some (ts.getD t undef)
  heap : ∃ c, c ≤ (x.os.toList.take s).length ∧ (∀ (j : Nat) (o : Oper), (x.os.toList.take s)[j]? = some o → moves x.c.P o = true → (listed.getD j false = true ↔ j < c)) ∧ ∀ q, HeapRel x.c.P (O q) (w0 q) β (hs c) w
  closed : ∀ (i m : Nat), listed.getD i false = true → (masks x.os.toList [])[i]? = some m → ∀ j, m.testBit j = true → listed.getD j false = true
  tail : ∀ i, tl ≤ i → listed.getD i false = false
  glob : GlobRel x.c.glob β

theorem hs_const {ops : List Oper} {ms : List Nat} {i0 : Nat} (hF : CFacts x ops ms i0 T H0 TF Fs hs) {a : Nat} : ∀ (n : Nat), a + n ≤ ops.length → (∀ (j : Nat) (o : Oper), a ≤ j → j < a + n → ops[j]? = some o → moves x.c.P o = false) → hs a = hs (a + n) := by
  intro n
  induction n with
  | zero => intro _ _; rfl
  | succ n ih =>
    intro hl hm
    rw [ih (by omega) fun j o h1 h2 => hm j o h1 (by omega)]
    have hlt : a + n < ops.length := by omega
    obtain ⟨_, h2, h3, _⟩ := hF.good (a + n) _ _ (List.getElem?_eq_getElem hlt) (List.getElem?_eq_getElem (by rw [hF.len]; exact hlt))
    obtain ⟨h4, h5⟩ := h3 (hm (a + n) _ (by omega) (by omega) (List.getElem?_eq_getElem hlt))
    rw [show a + (n + 1) = a + n + 1 from by omega, h2, h4, h5]; rfl

/-- an operation's turn -/
theorem chain_step {tl : Nat} {ex : Option Tmp} (hst0 : s ≤ tl) (hex : ∀ t, ex = some t → ∃ j o, s ≤ j ∧ (x.os.toList.take tl)[j]? = some o ∧ o.dst = some t) (he : edgesAll x.os.toList 0 = true) (hh : headOK x.os (takeN x.os.toList tl) (takeN x.os.toList tl) (masks x.os.toList []) 0 = true) (hF : CFacts x (x.os.toList.take s) (masks x.os.toList []) 0 T H0 TF Fs hs) (hxh : x.hd = x.os.toList.take s) (hxm : x.ms = masks x.os.toList [])
    {listed : Array Bool} {β : Val} {ts : Array Value} {w : World} (hI : CInv x s tl ex TF hs O w0 listed β ts w) {i : Nat} (hi : i ∈ Region.ready .any x.os listed) (his : i < s) (fr : Frame) (ds : List Deferred) (rest : List Nat) (k : List Item) (cs : List Frame) :
    ∃ β' ts' w', β.le β' ∧ CInv x s tl ex TF hs O w0 (listed.setIfInBounds i true) β' ts' w' ∧ (∀ t, ex = some t → ts'.getD t undef = ts.getD t undef) ∧ Steps x.c.P (lone (fr.atR ⟨ts, ds⟩ (.inRegion x.os (i :: rest) :: k)) cs w) (lone (fr.atR ⟨ts', ds⟩ (.inRegion x.os rest :: k)) cs w') := by
  have hr := mem_ready.1 hi
  obtain ⟨hun, o, ho, hall⟩ := hr
  have hio := (Array.getElem?_eq_some_iff.1 ho).1
  have hunf : listed.getD i false = false := by rw [getD_true_false (by rw [hI.size]; exact hio)]; exact hun
  have hhd : (x.os.toList.take s)[i]? = some o := by rw [List.getElem?_take, if_pos his, Array.getElem?_toList]; exact ho
  have hilt := (List.getElem?_eq_some_iff.1 hhd).1
  obtain ⟨f, hf⟩ : ∃ f, Fs[i]? = some f := ⟨_, List.getElem?_eq_getElem (by rw [hF.len]; exact hilt)⟩
  obtain ⟨hval, hnext, hmv, hbase, T', G, hgood, hT'l, hT', hGc⟩ := hF.good i o f hhd hf
  rw [Nat.zero_add, hxh, hxm] at hGc
  rw [takeN_eq] at hh
  have htk : ∀ (j : Nat) (o' : Oper), (x.os.toList.take s)[j]? = some o' → (x.os.toList.take tl)[j]? = some o' := fun j o' h => by
    have hj := (List.getElem?_eq_some_iff.1 h).1
    rw [List.length_take] at hj
    rw [List.getElem?_take, if_pos (by omega)] at h ⊢
    exact h
  obtain ⟨hread, hdst⟩ := headOK_spec _ _ _ _ _ hh i o (htk _ _ hhd)
  have hset : ∀ j, (listed.setIfInBounds i true).getD j false = if i = j then true else listed.getD j false := by
    intro j
    by_cases hij : i = j
    · subst hij; rw [if_pos rfl]; simp [Array.getD_eq_getD_getElem?, hI.size, hio]
    · rw [if_neg hij, getD_set_ne false hij]
  have hmi : ∀ j, (((masks x.os.toList [])[i]?).getD 0).testBit j = true → listed.getD j false = true := by
    intro j hb
    refine mask_ready hI.closed hi (m := ((masks x.os.toList [])[i]?).getD 0) ?_ hb
    cases hm : (masks x.os.toList [])[i]? with
    | none => rw [hm] at hb; simp at hb
    | some m => rfl
  have hmj : ∀ j, (((masks x.os.toList [])[j]?).getD 0).testBit i = true → listed.getD j false = true → False := by
    intro j hb hl
    have := hI.closed j (((masks x.os.toList [])[j]?).getD 0) hl (by
      cases hm : (masks x.os.toList [])[j]? with
      | none => rw [hm] at hb; simp at hb
      | some m => rfl) i hb
    rw [hunf] at this; cases this
  -- what it reads is there
  have hagree : AgreeOn β T' ts (readsOp x.os o) := by
    refine ⟨by rw [hI.tsz, hT'l, hF.lenT], fun t ht => ?_⟩
    rw [← hT' t (fun j o' hij ho' hd => ?_) β]
    · refine hI.tmps t (fun hex' => ?_) fun j o' ho' hd => ?_
      · obtain ⟨j, o', hj, ho', hd⟩ := hex t hex'
        obtain ⟨m, hm, hb⟩ := hread j o' t ho' hd ht
        have := mask_lt he i m hm j hb
        omega
      obtain ⟨m, hm, hb⟩ := hread j o' t (htk _ _ ho') hd ht
      exact mask_ready hI.closed hi hm hb
    · obtain ⟨m, hm, hb⟩ := hread j o' t (htk _ _ ho') hd ht
      have := mask_lt he i m hm j hb
      omega
  obtain ⟨c, hcl, hcm, hH⟩ := hI.heap
  have hcase : (G = hs c ∧ hs c = hs i ∧ cmpOK x.c.P i (((masks x.os.toList [])[i]?).getD 0) (x.os.toList.take s) (masks x.os.toList []) 0 = true) ∨ (moves x.c.P o = false ∧ G = mapN (hideW x.hid) x.H) := by
    rcases hGc with ⟨hcmp, hGi⟩ | h
    · left
      have hspec := cmpOK_spec _ _ _ hcmp
      have hci : hs c = hs i := by
        rcases Nat.le_total c i with hle | hle
        · have := hs_const hF (a := c) (i - c) (by omega) fun j o' h1 h2 ho' => by
            cases hmo : moves x.c.P o' with
            | false => rfl
            | true =>
              exfalso
              have h3 := (hspec j o' ho' hmo (by omega)).1 (by omega)
              rw [Nat.zero_add] at h3
              have := (hcm j o' ho' hmo).1 (hmi j h3)
              omega
          rw [show c + (i - c) = i from by omega] at this; exact this
        · have := hs_const hF (a := i) (c - i) (by omega) fun j o' h1 h2 ho' => by
            cases hmo : moves x.c.P o' with
            | false => rfl
            | true =>
              exfalso
              have hl := (hcm j o' ho' hmo).2 (by omega)
              by_cases hij : j = i
              · subst hij; rw [hunf] at hl; cases hl
              · have h3 := (hspec j o' ho' hmo (by omega)).2 (by omega)
                exact hmj j h3 hl
          rw [show i + (c - i) = c from by omega] at this; exact this.symm
      exact ⟨hGi.trans hci.symm, hci, hcmp⟩
    · exact .inr h
  have hvisG : ∀ (n : Nat) (e : SO), G[n]? = some e → e = SO.gone ∨ (hs c)[n]? = some e := by
    intro n e hn
    rcases hcase with ⟨rfl, _⟩ | ⟨_, rfl⟩
    · exact .inr hn
    · rw [mapN_eq, List.getElem?_map] at hn
      cases hx : x.H[n]? with
      | none => rw [hx] at hn; cases hn
      | some e0 =>
        rw [hx] at hn
        have hn : hideW x.hid e0 = e := Option.some.inj hn
        unfold hideW at hn
        cases hhe : x.hid e0 with
        | true => rw [hhe] at hn; exact .inl hn.symm
        | false =>
          rw [hhe] at hn
          have hn : e0 = e := hn
          subst hn
          exact .inr (hF.stable c hcl n e0 hx hhe)
  have hG0 : ∀ q, HeapRel0 x.c.P (O q) (w0 q) β G w := fun q => (hH q).toHeapRel0.less fun n e hn => (hvisG n e hn).symm
  have hown : ∀ (n : Nat) (e : SO), G[n]? = some e → e.owned = true → (hs c)[n]? = some e := by
    intro n e hn ho
    rcases hvisG n e hn with rfl | h
    · cases ho
    · exact h
  have hb0 : f.news = [] ∧ f.sets = [] ∨ (hs c = hs i) := by
    rcases hcase with ⟨_, h, _⟩ | ⟨h, _⟩
    · exact .inr h
    · exact .inl ⟨(hmv h).2, (hmv h).1⟩
  -- what it does
  have hstep : ∃ y w' β', f.val.den β' = some y ∧ β.le β' ∧ (∀ q, HeapRel x.c.P (O q) (w0 q) β' (applyH (hs c) f.sets f.news) w') ∧
      Steps x.c.P (lone (fr.atR ⟨ts, ds⟩ (.inRegion x.os (i :: rest) :: k)) cs w) (lone (fr.atR (Act.put ⟨ts, ds⟩ o.dst y) (.inRegion x.os rest :: k)) cs w') := by
    cases f with
    | skip =>
      have hw := hgood β ts hagree
      refine ⟨undef, w, β, by simp [Fct.val, undefS, SV.den, SV.denL, undef], Val.le_refl β, hH, .one ?_⟩
      have := stepR_op_skip (P := x.c.P) (b := fr) (a := ⟨ts, ds⟩) (k := k) (cs := cs) (w := w) (ops := x.os) (i := i) (rest := rest) (by rw [ho]; exact hw)
      rw [ho] at this; exact this
    | run v N b q =>
      obtain ⟨hw, hrun⟩ := hgood β ts hagree
      have hb := hbase v N b q rfl
      have hfree : Free β b N := by
        rcases hb0 with ⟨h1, _⟩ | h
        · have h1 : N = [] := h1
          subst h1
          intro j hj; simp at hj
        · intro j _
          exact (hH true).bound _ (by rw [h, hb]; omega)
      obtain ⟨y, w', β', hv, hE, hso, hst⟩ := hrun (O true) (w0 true) w (hG0 true) hI.glob hfree (fr.atR ⟨ts, ds⟩ (.inRegion x.os (i :: rest) :: k)) cs i rest k rfl rfl ho rfl
      rw [Frame.finish_atR, ho] at hst
      refine ⟨y, w', β', hv, hE.le, ?_, hst⟩
      have hso' : ∀ n e, (n, e) ∈ q → ∃ e0, (hs c)[n]? = some e0 ∧ e0.owned = true := fun n e hn => by
        obtain ⟨e0, h1, h2⟩ := hso n e hn
        exact ⟨e0, hown n e0 h1 h2, h2⟩
      rcases hb0 with ⟨h1, _⟩ | h
      · have h1 : N = [] := h1
        subst h1
        exact fun q => (hH q).apply (hE.rebase (b := (hs c).length)) hso'
      · rw [hb, ← h] at hE
        exact fun q => (hH q).apply hE hso'
    | touch v nm =>
      obtain ⟨hw, hrun⟩ := hgood β ts hagree
      obtain ⟨y, w', e, hv, he, heo, hE, hst⟩ := hrun (O true) (w0 true) w (hG0 true) hI.glob (fr.atR ⟨ts, ds⟩ (.inRegion x.os (i :: rest) :: k)) cs i rest k rfl rfl ho rfl
      rw [Frame.finish_atR, ho] at hst
      refine ⟨y, w', β, hv, Val.le_refl β, fun q => ?_, hst⟩
      have h1 := hown nm e he heo
      have := (hH q).apply (hE.rebase (b := (hs c).length)) (by intro n e' hn; simp at hn; obtain ⟨rfl, rfl⟩ := hn; exact ⟨e', h1, heo⟩)
      rw [applyH_eq, List.append_nil, setsH_same h1] at this
      exact this
  obtain ⟨y, w', β', hv, hle, hH', hst⟩ := hstep
  rw [put_mk] at hst
  refine ⟨β', _, w', hle, ⟨by simp [hI.size], by rw [put_size]; exact hI.tsz, ?_, ?_, ?_, ?_, hI.glob.mono hle⟩, ?_, hst⟩
  · -- the temporaries
    intro t hext ht
    rw [getD_put]
    by_cases hd : o.dst = some t
    · by_cases hlt : t < ts.size
      · rw [if_pos ⟨hd, hlt⟩, hval t hd (by rw [← hF.lenT, ← hI.tsz]; exact hlt) (fun j o' hij ho' => hdst t hd j o' hij (htk _ _ ho'))]
        exact hv
      · rw [if_neg (fun h => hlt h.2)]
        have h1 : nth TF t = none := by rw [nth_eq, List.getElem?_eq_none]; rw [← hI.tsz]; exact Nat.not_lt.1 hlt
        have h2 : ts.getD t undef = undef := by rw [Array.getD_eq_getD_getElem?, Array.getElem?_eq_none (Nat.not_lt.1 hlt)]; rfl
        rw [h2]; unfold getT; rw [h1]; simp [undefS, SV.den, SV.denL, undef]
    · rw [if_neg (fun h => hd h.1)]
      refine SV.den_mono hle _ (hI.tmps t hext fun j o' ho' hd' => ?_)
      have := ht j o' ho' hd'
      rw [hset] at this
      by_cases hij : i = j
      · subst hij; rw [hhd] at ho'; cases ho'; exact absurd hd' hd
      · rwa [if_neg hij] at this
  · -- the heap
    cases hmo : moves x.c.P o with
    | false =>
      obtain ⟨h1, h2⟩ := hmv hmo
      rw [h1, h2] at hH'
      refine ⟨c, hcl, fun j o' ho' hm => ?_, hH'⟩
      have hij : i ≠ j := by
        intro h; subst h
        rw [hhd] at ho'; cases ho'
        rw [hmo] at hm; cases hm
      rw [hset, if_neg hij]
      exact hcm j o' ho' hm
    | true =>
      rcases hcase with ⟨_, hci, hcmp⟩ | ⟨h, _⟩
      · have hspec := cmpOK_spec _ _ _ hcmp
        refine ⟨i + 1, hilt, fun j o' ho' hm => ?_, by rw [hnext, ← hci]; exact hH'⟩
        rw [hset]
        by_cases hij : i = j
        · subst hij; simp
        · rw [if_neg hij]
          rcases Nat.lt_or_ge j i with hlt | hge
          · have h3 := (hspec j o' ho' hm (by omega)).1 (by omega)
            rw [Nat.zero_add] at h3
            exact ⟨fun _ => by omega, fun _ => hmi j h3⟩
          · have h3 := (hspec j o' ho' hm (by omega)).2 (by omega)
            exact ⟨fun hl => (hmj j h3 hl).elim, fun h => by omega⟩
      · rw [hmo] at h; cases h
  · intro j m hj hm l hl
    rw [hset] at hj ⊢
    split
    · rfl
    · by_cases hij : i = j
      · subst hij; exact mask_ready hI.closed hi hm hl
      · rw [if_neg hij] at hj; exact hI.closed j m hj hm l hl
  · intro j hj
    rw [hset, if_neg (by omega)]; exact hI.tail j hj
  · intro t hext
    rw [getD_put, if_neg]
    rintro ⟨hd, _⟩
    obtain ⟨j, o', hj, ho', hd'⟩ := hex t hext
    exact hdst t hd j o' (by omega) ho' hd'
/-- the chain's heaps grow -/
theorem hs_len {ops : List Oper} {ms : List Nat} {i0 : Nat} (hF : CFacts x ops ms i0 T H0 TF Fs hs) {a : Nat} : ∀ (n : Nat), a + n ≤ ops.length → (hs a).length ≤ (hs (a + n)).length := by
  intro n
  induction n with
  | zero => intro _; exact Nat.le_refl _
  | succ n ih =>
    intro hl
    have hlt : a + n < ops.length := by omega
    obtain ⟨_, h2, _⟩ := hF.good (a + n) _ _ (List.getElem?_eq_getElem hlt) (List.getElem?_eq_getElem (by rw [hF.len]; exact hlt))
    refine Nat.le_trans (ih (by omega)) ?_
    rw [show a + (n + 1) = a + n + 1 from by omega, h2, applyH_eq, List.length_append, setsH_length]
    omega

end

end Go.Sim


/-
  The symbolic simulator, twenty-fourth part: the other steps.
-/
namespace Go.Sim
variable {α : Type}

/-- one new block, of whatever kind -/
theorem Eff.lay1 {P : Program} {β : Val} {w : World} {base : Nat} {o : Obj} {e : SO} (hb : β base = Option.none) (ho : e.owned = true)
    (hown : OwnRel P (β.upd base ⟨w.heap.size, 0, 0⟩) (w.alloc o) base e) : Eff P β w base [] [e] (β.upd base ⟨w.heap.size, 0, 0⟩) (w.alloc o) where
  le := Val.upd_le hb
  os := rfl
  tape := rfl
  output := rfl
  size := by show w.heap.size ≤ (w.heap.push o).size; simp
  dom := fun n hn => by
    unfold Val.upd
    rw [if_neg]; simp at hn; omega
  frame := fun b hb _ => by show (w.heap.push o)[b]? = _; rw [Array.getElem?_push, if_neg (by omega)]
  one := by simp
  turned := by simp
  made := fun i e' he => by
    cases i with
    | zero =>
      simp at he; subst he
      exact ⟨ho, hown, _, Val.upd_same _ _ _, .inl (Nat.le_refl _)⟩
    | succ i => simp at he
  apart := fun i j l l' hij hi hj => by simp at hi hj; omega

section
variable {c : Cfg} {B : Base} {go : SS → Tree} {D : SV → List SO → Prop} {S : SS → Prop}

theorem HeapRel.sameHeap {P : Program} {O : Nat → Prop} {w0 : World} {β : Val} {H : List SO} {w w' : World} (h : HeapRel P O w0 β H w) (hh : w'.heap = w.heap) (ho : w'.os = w.os) (ht : w'.tape = w.tape) (hu : w'.output = w.output) : HeapRel P O w0 β H w' := by
  have := h.apply (Eff.none (P := P) (β := β) (base := H.length) hh ho ht hu) (by simp)
  rw [applyH_eq, List.append_nil] at this
  exact this

/-- a region that draws its order -/
theorem drawS_after (hc : CfgOK c) (hP : B.P = c.P) (hgl : B.glob = c.glob) {id : Nat} {os : Array Oper} {k : List SItem} {s : SF} {rest : List SF} {H : List SO} {β : Val} {fr : Frame} {frs : List Frame} {w : World} (hF : FrameRel β s fr) (hR : FramesRel β rest frs) (hH : HeapRel B.P B.O B.w0 β H w) (hG : BRel B β)
    (hl : ((fr :: frs).getLast?).map (·.fn) = some B.fn0) (htd : s.todo = .code (.region id os true) :: k) {sh : Nat} (hob : (drawS os sh (masks os.toList []) k s rest c H go).Ob D S) : After B go D S (lone fr (frs ++ B.cs) w) := by
  have htd' := hF.todo
  rw [htd] at htd'
  cases hft : fr.todo with
  | nil => rw [hft] at htd'; exact htd'.elim
  | cons y k' =>
    rw [hft] at htd'
    obtain ⟨hxy, hkk⟩ := htd'
    cases y <;> first | exact hxy.elim | skip
    rename_i cd
    have hcd : cd = .region id os true := hxy
    subst hcd
    unfold drawS at hob
    cases hok : drawOK os os.toList (masks os.toList []) sh with
    | false => rw [hok] at hob; exact hob.elim
    | true =>
      rw [hok, boolC_true] at hob
      obtain ⟨he, hok'⟩ := boolC_and (show boolC (edgesAll os.toList 0) (boolC (headOK os (takeN os.toList sh) (takeN os.toList sh) (masks os.toList []) 0) (tailOK (dropN (masks os.toList []) sh) sh) false) false = true from hok)
      obtain ⟨hh, ht⟩ := boolC_and hok'
      obtain ⟨TF, Fs, slots, sets, hFa, hfin⟩ := drawP_facts (x := ⟨c, os, H, fun T N sets => go ⟨⟨s.fn, T, .ops os (dropN os.toList sh) :: k, s.defers, s.roundOf⟩ :: rest, applyH (app H N) sets []⟩, lastM os.toList (masks os.toList []) sh⟩) hc _ _ _ _ 0 hob
      replace hfin : (go ⟨⟨s.fn, TF, .ops os (dropN os.toList sh) :: k, s.defers, s.roundOf⟩ :: rest, applyH (app H (([] ++ slots : List (Nat × SO)).map (·.2))) sets []⟩).Ob D S := hfin
      simp only [List.nil_append] at hfin
      rw [takeN_eq] at hFa
      rw [applyH_eq, List.append_nil, app_eq, dropN_eq] at hfin
      -- the order is drawn
      have hstep : step B.P (lone fr (frs ++ B.cs) w) = .next (lone (fr.atR ⟨fr.tmps, fr.defers⟩ (.inRegion os (Region.linearise.go .any os os.size (w.tape w.drawn (.order fr.fn id)) (Array.replicate os.size false) []) :: k')) (frs ++ B.cs) { w with drawn := w.drawn + 1 }) := by
        conv => lhs; rw [frame_eta hF.mode, hft]
        rw [stepR_region_draw]
        simp only [Region.schedule, hP, hc.prog.mixed, Bool.true_or, if_true, Region.linearise]
      refine .step hstep ?_
      have hH' : HeapRel B.P B.O B.w0 β H { w with drawn := w.drawn + 1 } := hH.sameHeap rfl rfl rfl rfl
      generalize ({ w with drawn := w.drawn + 1 } : World) = w1 at hH'
      have hlist : ∀ j, (Array.replicate os.size false).getD j false = false := by
        intro j
        rw [Array.getD_eq_getD_getElem?, Array.getElem?_replicate]
        split <;> rfl
      have hI : DInv ⟨c, os, H, fun T N sets => go ⟨⟨s.fn, T, .ops os (dropN os.toList sh) :: k, s.defers, s.roundOf⟩ :: rest, applyH (app H N) sets []⟩, lastM os.toList (masks os.toList []) sh⟩ sh TF slots sets B.O B.w0 (Array.replicate os.size false) β fr.tmps w1 := by
        have hTlen : fr.tmps.size = s.tmps.length := by have := denL_length hF.tmps; simpa using this
        refine ⟨by simp, by rw [hTlen, hFa.lenT], fun t ht => ?_, ?_, fun n hn _ => hH'.bound n hn, fun i m hi => ?_, fun i _ => hlist i, hgl ▸ hG.glob⟩
        · rw [hFa.same t (fun o ho hd => ?_) β]
          · have := evS_den (glob := fun _ => none) (a := ⟨fr.tmps, fr.defers⟩) hF.tmps (fun _ _ h => by cases h) (.tmp t)
            have e : evS (fun _ => none) s.tmps (.tmp t) = getT s.tmps t := by
              show optC (nth s.tmps t) undefS (fun v => v) = _
              unfold getT; cases nth s.tmps t <;> rfl
            rw [e] at this; exact this
          · obtain ⟨j, hj⟩ := List.mem_iff_getElem?.1 ho
            have := ht j o hj hd
            rw [hlist] at this; cases this
        · have hgone : mslots (Array.replicate os.size false) slots = slots.map fun _ => SO.gone := by
            unfold mslots
            apply List.map_congr_left
            intro p _
            rw [hlist]; rfl
          have hcu : wholeH ⟨c, os, H, fun T N sets => go ⟨⟨s.fn, T, .ops os (dropN os.toList sh) :: k, s.defers, s.roundOf⟩ :: rest, applyH (app H N) sets []⟩, lastM os.toList (masks os.toList []) sh⟩ sh slots sets (Array.replicate os.size false) = H ++ mslots (Array.replicate os.size false) slots := by
            unfold wholeH; rw [hlist]; rfl
          rw [hcu, hgone, ← hP]
          have hbase := hH'.toHeapRel0
          have hin : ∀ (n : Nat) (e : SO), (H ++ slots.map fun _ => SO.gone)[n]? = some e → H[n]? = some e ∨ e = SO.gone := by
            intro n e hn
            rcases Nat.lt_or_ge n H.length with h | h
            · rw [List.getElem?_append_left h] at hn; exact .inl hn
            · rw [List.getElem?_append_right h, List.getElem?_map] at hn
              right
              cases hx : slots[n - H.length]? with
              | none => rw [hx] at hn; cases hn
              | some p => rw [hx] at hn; exact (Option.some.inj hn).symm
          refine ⟨fun n e hn => ?_, fun n m e e' l l' hn hm ho ho' => ?_, fun n e l hn ho => ?_, hbase.keep⟩
          · rcases hin n e hn with h | rfl
            · exact hbase.entries n e h
            · trivial
          · rcases hin n e hn with h | rfl
            · rcases hin m e' hm with h' | rfl
              · exact hbase.sep n m e e' l l' h h' ho ho'
              · cases ho'
            · cases ho
          · rcases hin n e hn with h | rfl
            · exact hbase.fresh n e l h ho
            · cases ho
        · rw [hlist] at hi; cases hi
      have hun : ∀ k, unl (Array.replicate os.size false) k ≤ k := by
        intro k
        induction k with
        | zero => exact Nat.le_refl _
        | succ k ih =>
          show unl _ k + _ ≤ k + 1
          split <;> omega
      obtain ⟨β2, ts2, w2, l2, hle, hI2, hall, hst⟩ := order_steps he hh ht hFa fr fr.defers k' (frs ++ B.cs) os.size _ _ β fr.tmps w1 hI (hun _)
      replace hst : Steps c.P _ _ := hst
      rw [← hP] at hst
      have hslots : mslots l2 slots = slots.map (·.2) := by
        unfold mslots
        apply List.map_congr_left
        intro p hp
        -- each slot is an operation's
        obtain ⟨j, e⟩ := p
        by_cases hj : j < sh ∧ j < os.size
        · rw [hall j hj.1 hj.2]; rfl
        · exfalso
          have h1 := hFa.ge j e hp
          rw [List.length_take, Array.length_toList] at h1
          exact hj (by omega)
      refine .of_steps hst ⟨_, .refl _ _, .inl ⟨_, hfin, ⟨β2, _, frs, w2, rfl, ⟨⟨hF.fn, ?_, ?_, SD.denL_mono hle hF.defers, rfl, hF.kind, hF.round.mono hle⟩, hR.mono hle⟩, ?_, ⟨hgl ▸ hI2.glob, Val.le_trans hG.fix hle⟩, Eq.trans (last_fn (f := fr) (f' := fr.atR ⟨ts2, fr.defers⟩ _) rfl) hl⟩⟩⟩
      · -- the temporaries
        refine denL_mk (show ts2.toList.length = _ by rw [Array.length_toList]; exact hI2.tsz) fun i v hv => ?_
        have hi := hI2.tmps i fun j o ho _ => by
          have hj := (List.getElem?_eq_some_iff.1 ho).1
          rw [List.length_take, Array.length_toList] at hj
          exact hall j (Nat.lt_of_lt_of_le hj (Nat.min_le_left _ _)) (Nat.lt_of_lt_of_le hj (Nat.min_le_right _ _))
        have hg : getT TF i = v := by unfold getT; rw [nth_eq, hv]; rfl
        have hil : i < ts2.size := by rw [hI2.tsz]; exact (List.getElem?_eq_some_iff.1 hv).1
        rw [hg] at hi
        refine ⟨_, ?_, hi⟩
        show ts2.toList[i]? = some (ts2.getD i undef)
        rw [Array.getElem?_toList]
        exact size_getD hil rfl
      · exact ⟨⟨rfl, OpsAt.drop os sh⟩, hkk.mono hle⟩
      · refine ⟨?_, fun n hn => ?_⟩
        · have := hI2.heap
          have hcu : wholeH ⟨c, os, H, fun T N sets => go ⟨⟨s.fn, T, .ops os (dropN os.toList sh) :: k, s.defers, s.roundOf⟩ :: rest, applyH (app H N) sets []⟩, lastM os.toList (masks os.toList []) sh⟩ sh slots sets l2 = setsH (H ++ mslots l2 slots) sets := by
            by_cases h0 : os.toList.take sh = []
            · rw [hFa.none h0, wholeH_nil]; rfl
            · have hpos := List.length_pos_iff.2 h0
              have h1 : (os.toList.take sh).length - 1 < sh ∧ (os.toList.take sh).length - 1 < os.size := by
                rw [List.length_take, Array.length_toList] at hpos ⊢
                omega
              unfold wholeH
              rw [show l2.getD ((os.toList.take sh).length - 1) false = true from hall _ h1.1 h1.2]; rfl
          rw [hcu, hslots, ← hP] at this; exact this
        · rw [setsH_length, List.length_append, List.length_map] at hn
          have hn' : H.length ≤ n := by omega
          refine hI2.free n hn' fun j e hj => ?_
          have := (List.getElem?_eq_some_iff.1 hj).1
          have h2 : n - H.length < slots.length := this
          omega

/-- a region whose head holds appends -/
theorem chainS_after (hc : CfgOK c) (hP : B.P = c.P) (hgl : B.glob = c.glob) {id : Nat} {os : Array Oper} {k : List SItem} {s : SF} {rest : List SF} {H : List SO} {β : Val} {fr : Frame} {frs : List Frame} {w : World} (hF : FrameRel β s fr) (hR : FramesRel β rest frs) (hH : HeapRel B.P B.O B.w0 β H w) (hG : BRel B β)
    (hl : ((fr :: frs).getLast?).map (·.fn) = some B.fn0) (htd : s.todo = .code (.region id os true) :: k) {sh : Nat} {hid : SO → Bool} (hob : (chainS hid os sh (masks os.toList []) k s rest c H go).Ob D S) : After B go D S (lone fr (frs ++ B.cs) w) := by
  have htd' := hF.todo
  rw [htd] at htd'
  cases hft : fr.todo with
  | nil => rw [hft] at htd'; exact htd'.elim
  | cons y k' =>
    rw [hft] at htd'
    obtain ⟨hxy, hkk⟩ := htd'
    cases y <;> first | exact hxy.elim | skip
    rename_i cd
    have hcd : cd = .region id os true := hxy
    subst hcd
    unfold chainS at hob
    cases hok : drawOK os os.toList (masks os.toList []) sh with
    | false => rw [hok] at hob; exact hob.elim
    | true =>
      rw [hok, boolC_true] at hob
      obtain ⟨he, hok'⟩ := boolC_and (show boolC (edgesAll os.toList 0) (boolC (headOK os (takeN os.toList sh) (takeN os.toList sh) (masks os.toList []) 0) (tailOK (dropN (masks os.toList []) sh) sh) false) false = true from hok)
      obtain ⟨hh, ht⟩ := boolC_and hok'
      generalize hxe : (⟨hid, c, os, H, takeN os.toList sh, masks os.toList [], fun T H' => go ⟨⟨s.fn, T, .ops os (dropN os.toList sh) :: k, s.defers, s.roundOf⟩ :: rest, H'⟩⟩ : CCtx) = x at hob
      have hxc : x.c = c := by rw [← hxe]
      have hxhid : x.hid = hid := by rw [← hxe]
      have hxo : x.os = os := by rw [← hxe]
      have hxH : x.H = H := by rw [← hxe]
      have hxh : x.hd = takeN os.toList sh := by rw [← hxe]
      have hxm : x.ms = masks os.toList [] := by rw [← hxe]
      have hxf : x.fin = fun T H' => go ⟨⟨s.fn, T, .ops os (dropN os.toList sh) :: k, s.defers, s.roundOf⟩ :: rest, H'⟩ := by rw [← hxe]
      obtain ⟨TF, Fs, hs, hFa, hfin⟩ := chP_facts (x := x) (hxc ▸ hc) _ _ _ _ _ (by rw [hxH]; exact fun n e h _ => h) hob
      rw [hxf] at hfin
      replace hfin : (go ⟨⟨s.fn, TF, .ops os (dropN os.toList sh) :: k, s.defers, s.roundOf⟩ :: rest, hs (takeN os.toList sh).length⟩).Ob D S := hfin
      rw [takeN_eq] at hFa hfin hxh
      rw [dropN_eq] at hfin
      -- the order is drawn
      have hstep : step B.P (lone fr (frs ++ B.cs) w) = .next (lone (fr.atR ⟨fr.tmps, fr.defers⟩ (.inRegion os (Region.linearise.go .any os os.size (w.tape w.drawn (.order fr.fn id)) (Array.replicate os.size false) []) :: k')) (frs ++ B.cs) { w with drawn := w.drawn + 1 }) := by
        conv => lhs; rw [frame_eta hF.mode, hft]
        rw [stepR_region_draw]
        simp only [Region.schedule, hP, hc.prog.mixed, Bool.true_or, if_true, Region.linearise]
      refine .step hstep ?_
      have hH' : HeapRel B.P B.O B.w0 β H { w with drawn := w.drawn + 1 } := hH.sameHeap rfl rfl rfl rfl
      generalize ({ w with drawn := w.drawn + 1 } : World) = w1 at hH'
      have hlist : ∀ j, (Array.replicate os.size false).getD j false = false := by
        intro j
        rw [Array.getD_eq_getD_getElem?, Array.getElem?_replicate]
        split <;> rfl
      have hI : CInv x sh sh none TF hs (fun _ => B.O) (fun _ => B.w0) (Array.replicate os.size false) β fr.tmps w1 := by
        have hTlen : fr.tmps.size = s.tmps.length := by have := denL_length hF.tmps; simpa using this
        refine ⟨by simp [hxo], by rw [hTlen, hFa.lenT], fun t _ ht => ?_, ⟨0, Nat.zero_le _, fun j o _ _ => ?_, ?_⟩, fun i m hi => ?_, fun i _ => hlist i, hxc ▸ hgl ▸ hG.glob⟩
        · rw [hFa.same t (fun o ho hd => ?_) β]
          · have := evS_den (glob := fun _ => none) (a := ⟨fr.tmps, fr.defers⟩) hF.tmps (fun _ _ h => by cases h) (.tmp t)
            have e : evS (fun _ => none) s.tmps (.tmp t) = getT s.tmps t := by
              show optC (nth s.tmps t) undefS (fun v => v) = _
              unfold getT; cases nth s.tmps t <;> rfl
            rw [e] at this; exact this
          · obtain ⟨j, hj⟩ := List.mem_iff_getElem?.1 ho
            have := ht j o (by rw [hxo]; exact hj) hd
            rw [hlist] at this; cases this
        · rw [hlist]; simp
        · rw [hFa.zero, hxc, ← hP]; exact fun _ => hH'
        · rw [hlist] at hi; cases hi
      have hun : ∀ k, unl (Array.replicate os.size false) k ≤ k := by
        intro k
        induction k with
        | zero => exact Nat.le_refl _
        | succ k ih =>
          show unl _ k + _ ≤ k + 1
          split <;> omega
      have hsteps := order_steps_gen (os := os) (s := sh) (P := c.P) (Inv := fun l β ts w => CInv x sh sh none TF hs (fun _ => B.O) (fun _ => B.w0) l β ts w) he ht fr fr.defers k' (frs ++ B.cs)
        (fun h => by rw [← hxo]; exact h.size) (fun h => h.tail) (fun h => by rw [← hxo]; exact h.closed)
        (fun {l β ts w i} h hi his rest => by
          have := chain_step (x := x) (s := sh) (Nat.le_refl _) (ex := none) (fun _ h => by cases h) (by rw [hxo]; exact he) (by rw [hxo]; exact hh) (by rw [hxo]; exact hFa) (by rw [hxo]; exact hxh) (by rw [hxo]; exact hxm) h (by rw [hxo]; exact hi) his fr fr.defers rest k' (frs ++ B.cs)
          rw [hxo, hxc] at this
          obtain ⟨β', ts', w', h1, h2, _, h3⟩ := this
          exact ⟨β', ts', w', h1, h2, h3⟩)
      obtain ⟨β2, ts2, w2, l2, hle, hI2, hall, hst⟩ := hsteps os.size _ _ β fr.tmps w1 hI (hun _)
      rw [← hP] at hst
      obtain ⟨cc, hcl, hcm, hH2⟩ := hI2.heap
      replace hH2 := hH2 true
      rw [hxo] at hcl
      have hend : hs cc = hs (os.toList.take sh).length := by
        have := hs_const hFa (a := cc) ((os.toList.take sh).length - cc) (by omega) fun j o h1 h2 ho => by
          cases hmo : moves x.c.P o with
          | false => rfl
          | true =>
            exfalso
            have hj := (List.getElem?_eq_some_iff.1 ho).1
            rw [List.length_take, Array.length_toList] at hj
            have := (hcm j o (by rw [hxo]; exact ho) hmo).1 (hall j (Nat.lt_of_lt_of_le hj (Nat.min_le_left _ _)) (Nat.lt_of_lt_of_le hj (Nat.min_le_right _ _)))
            omega
        rw [show cc + ((os.toList.take sh).length - cc) = (os.toList.take sh).length from by omega] at this
        exact this
      rw [hend, hxc, ← hP] at hH2
      refine .of_steps hst ⟨_, .refl _ _, .inl ⟨_, hfin, ⟨β2, _, frs, w2, rfl, ⟨⟨hF.fn, ?_, ?_, SD.denL_mono hle hF.defers, rfl, hF.kind, hF.round.mono hle⟩, hR.mono hle⟩, hH2, ⟨by rw [hgl, ← hxc]; exact hI2.glob, Val.le_trans hG.fix hle⟩, Eq.trans (last_fn (f := fr) (f' := fr.atR ⟨ts2, fr.defers⟩ _) rfl) hl⟩⟩⟩
      · -- the temporaries
        refine denL_mk (show ts2.toList.length = _ by rw [Array.length_toList]; exact hI2.tsz) fun i v hv => ?_
        have hi := hI2.tmps i (fun h => by cases h) fun j o ho _ => by
          have hj := (List.getElem?_eq_some_iff.1 ho).1
          rw [hxo, List.length_take, Array.length_toList] at hj
          exact hall j (Nat.lt_of_lt_of_le hj (Nat.min_le_left _ _)) (Nat.lt_of_lt_of_le hj (Nat.min_le_right _ _))
        have hg : getT TF i = v := by unfold getT; rw [nth_eq, hv]; rfl
        have hil : i < ts2.size := by rw [hI2.tsz]; exact (List.getElem?_eq_some_iff.1 hv).1
        rw [hg] at hi
        refine ⟨_, ?_, hi⟩
        show ts2.toList[i]? = some (ts2.getD i undef)
        rw [Array.getElem?_toList]
        exact size_getD hil rfl
      · exact ⟨⟨rfl, OpsAt.drop os sh⟩, hkk.mono hle⟩
theorem getElem?_snoc {l : List α} {a : α} {n : Nat} {e : α} (h : (l ++ [a])[n]? = some e) : l[n]? = some e ∨ (n = l.length ∧ e = a) := by
  rcases Nat.lt_or_ge n l.length with hn | hn
  · rw [List.getElem?_append_left hn] at h; exact .inl h
  · rw [List.getElem?_append_right hn] at h
    right
    cases hx : n - l.length with
    | zero => rw [hx] at h; exact ⟨by omega, (Option.some.inj h).symm⟩
    | succ k => rw [hx] at h; simp at h
/-- a name more: something that is read alone, or a block of one's own -/
theorem HeapRel.snoc {P : Program} {O : Nat → Prop} {w0 : World} {β : Val} {H : List SO} {w : World} (h : HeapRel P O w0 β H w) (l : Loc) (e : SO)
    (he : EntryRel P O w0 (β.upd H.length l) w H.length e) (hf : e.owned = true → (w0.heap.size ≤ l.blk ∨ O l.blk) ∧ ∀ n e' l', H[n]? = some e' → e'.owned = true → β n = some l' → l'.blk ≠ l.blk) :
    HeapRel P O w0 (β.upd H.length l) (H ++ [e]) w ∧ β.le (β.upd H.length l) := by
  have hb := h.bound _ (Nat.le_refl _)
  have hle := Val.upd_le (l := l) hb
  have hold : ∀ n, n < H.length → (β.upd H.length l) n = β n := fun n hn => by unfold Val.upd; rw [if_neg (by omega)]
  have hlen : ∀ (n : Nat) (e : SO), H[n]? = some e → n < H.length := fun n e h => (List.getElem?_eq_some_iff.1 h).1
  refine ⟨⟨⟨fun n e' hn => ?_, fun n m e1 e2 l1 l2 h1 h2 o1 o2 hnm b1 b2 => ?_, fun n e' l' hn ho hl => ?_, h.keep⟩, fun n hn => ?_⟩, hle⟩
  · rcases getElem?_snoc hn with h' | ⟨rfl, rfl⟩
    · have h0 := h.entries n e' h'
      cases e' with
      | row c =>
        obtain ⟨l, vs, hl, hc, hx⟩ := h0
        exact ⟨l, vs, hle _ _ hl, hc.mono hle, hx⟩
      | own c wh el => exact OwnRel.kept (P := P) (e := .own c wh el) h0 hle fun _ _ _ => rfl
      | loop s p f T ps a b d => exact OwnRel.kept (P := P) (e := .loop s p f T ps a b d) h0 hle fun _ _ _ => rfl
      | deferred ds => exact OwnRel.kept (P := P) (e := .deferred ds) h0 hle fun _ _ _ => rfl
      | gone => trivial
      | obj o => exact OwnRel.kept (P := P) (e := .obj o) h0 hle fun _ _ _ => rfl
    · exact he
  · rcases getElem?_snoc h1 with h1' | ⟨rfl, rfl⟩ <;> rcases getElem?_snoc h2 with h2' | ⟨rfl, rfl⟩
    · rw [hold _ (hlen _ _ h1')] at b1
      rw [hold _ (hlen _ _ h2')] at b2
      exact h.sep n m e1 e2 l1 l2 h1' h2' o1 o2 hnm b1 b2
    · rw [hold _ (hlen _ _ h1')] at b1
      rw [Val.upd_same] at b2; cases b2
      exact (hf o2).2 n e1 l1 h1' o1 b1
    · rw [hold _ (hlen _ _ h2')] at b2
      rw [Val.upd_same] at b1; cases b1
      exact ((hf o1).2 m e2 l2 h2' o2 b2).symm
    · exact absurd rfl hnm
  · rcases getElem?_snoc hn with h' | ⟨rfl, rfl⟩
    · rw [hold _ (hlen _ _ h')] at hl
      exact h.fresh n e' l' h' ho hl
    · rw [Val.upd_same] at hl; cases hl
      exact (hf ho).1
  · rw [List.length_append] at hn
    simp at hn
    unfold Val.upd
    rw [if_neg (by omega)]
    exact h.bound n (by omega)


/-- the blocks that have names -/
def Owns (β : Val) (H : List SO) (b : Nat) : Prop := ∃ n e l, H[n]? = some e ∧ e.owned = true ∧ β n = some l ∧ l.blk = b
/-- the same heap, from now on -/
theorem HeapRel.rebase {P : Program} {O : Nat → Prop} {w0 : World} {β : Val} {H : List SO} {w : World} (h : HeapRel P O w0 β H w) : HeapRel P (Owns β H) w β H w := by
  refine ⟨⟨fun n e hn => ?_, h.sep, fun n e l hn ho hl => .inr ⟨n, e, l, hn, ho, hl, rfl⟩, ⟨rfl, rfl, rfl, Nat.le_refl _, fun _ _ _ => rfl⟩⟩, h.bound⟩
  have h0 := h.entries n e hn
  cases e with
  | row c =>
    obtain ⟨l, vs, hl, hc, hx⟩ := h0
    refine ⟨l, vs, hl, hc, fun i x hi => ?_⟩
    obtain ⟨h1, h2, h3⟩ := hx i x hi
    refine ⟨Nat.lt_of_lt_of_le h1 h.keep.size, ?_, ?_⟩
    · rintro ⟨m, e', l', hm, ho, hl', hb⟩
      rcases h.fresh m e' l' hm ho hl' with h4 | h4
      · omega
      · exact h2 (hb ▸ h4)
    · have : w.cell? ⟨l.blk, l.off + i, none⟩ = w0.cell? ⟨l.blk, l.off + i, none⟩ := by
        unfold World.cell?
        rw [h.keep.block l.blk h1 h2]
      exact this.trans h3
  | own => exact h0
  | loop => exact h0
  | deferred => exact h0
  | gone => trivial
  | obj => exact h0
/-- a block more, that has no name yet -/
theorem HeapRel.unnamed {P : Program} {O : Nat → Prop} {w0 : World} {β β' : Val} {H : List SO} {w w' : World} {base : Nat} {news : List SO} (h : HeapRel P O w0 β H w) (hE : Eff P β w base [] news β' w') : HeapRel P O w0 β H w' := by
  have hE' : Eff P β w H.length [] [] β w' := ⟨Val.le_refl β, hE.os, hE.tape, hE.output, hE.size, fun _ _ => rfl, hE.frame, hE.one, by simp, by simp, by simp⟩
  have := h.apply hE' (by simp)
  rw [applyH_eq, List.append_nil] at this
  exact this

theorem lyOp_ob {x : CCtx} {o : Oper} {T : List SV} {H : List SO} (h : (lyOp o x T H).Ob D S) :
    o.guard = none ∧ ∃ v e, OpGood x.c.P x.c.glob (mapN (hideW x.hid) x.H) x.os o T (.run v [e] H.length []) ∧ (x.fin (putT T o.dst v) (H ++ [e])).Ob D S := by
  unfold lyOp at h
  cases hg : o.guard with
  | some g => rw [hg] at h; exact h.elim
  | none =>
    rw [hg] at h
    replace h : ((opS x.c.P (evS x.c.glob T) (mapN (hideW x.hid) x.H) (lenN H) o).treeD fun r => lyRes r x o.dst T H).Ob D S := h
    obtain ⟨r, hleaf, h⟩ := R.leaf_of_ob h
    have hnd : ∀ cc, o.op ≠ .defer cc := by
      intro cc hd
      rw [show opS x.c.P (evS x.c.glob T) (mapN (hideW x.hid) x.H) (lenN H) o = .stuck 342 from by unfold opS; rw [hd]; rfl] at hleaf
      exact hleaf
    rw [lenN_eq] at hleaf
    have hev : ∀ (β : Val) (ts : Array Value) (ds : List Deferred), AgreeOn β T ts (readsOp x.os o) → GlobRel x.c.glob β → ∀ y ∈ o.op.operands, (evS x.c.glob T y).den β = some (Act.eval ⟨ts, ds⟩ y) := by
      intro β ts ds ha hG y hy
      cases y with
      | tmp t =>
        have h1 := ha.at_ t (reads_operand hy)
        have e : evS x.c.glob T (.tmp t) = getT T t := by
          show optC (nth T t) undefS (fun v => v) = _
          unfold getT; cases nth T t <;> rfl
        rw [e]; exact h1
      | const v => exact constV_den β v
      | global g =>
        show (evGlob g x.c.glob T).den β = _
        unfold evGlob
        split
        · rename_i nm h
          obtain ⟨l, h1, h2, h3⟩ := hG g nm h
          simp [SV.den, SA.den, h1, h2, h3, SN.den, Act.eval]
        · rfl
      | func f => rfl
    have hwant : ∀ ts : Array Value, Region.wanted o (yielded x.os ts) = true := fun ts => by simp [Region.wanted, hg]
    cases r with
    | val v sets news =>
      replace h : (lyVal v sets news x o.dst T H).Ob D S := h
      unfold lyVal at h
      split at h
      · rename_i e
        refine ⟨rfl, v, e, fun β ts ha => ⟨hwant ts, fun O w0 w hH hG hfree f cs i rest k hm htd ho hts => ?_⟩, by rw [app_eq] at h; exact h⟩
        subst hts
        have hsg := step_op (P := x.c.P) hm htd ho (hwant f.tmps) hnd (cs := cs) (w := w)
        obtain ⟨nx, y, w', β', hrun, hnx, hv, hE, hso⟩ := R.sat_leaf (opS_sat hH o (hev β f.tmps f.defers ha hG)) hleaf hfree
        exact ⟨y, w', β', hv, hE, hso, .one (step_val hsg hrun hnx)⟩
      · exact h.elim
    | enter => exact h.elim
    | round => exact h.elim
    | defer => exact h.elim
    | panic => exact h.elim
    | touch => exact h.elim

/-- what is kept where the last operation comes anywhere -/
structure LInv (x : CCtx) (s : Nat) (o0 : Oper) (v0 : SV) (e0 : SO) (TF : List SV) (hs : Nat → List SO) (O : Nat → Prop) (w0 : World) (listed : Array Bool) (β : Val) (ts : Array Value) (w : World) : Prop where
  not : listed.getD s false = false → CInv x s (s + 1) none TF hs (fun _ => O) (fun _ => w0) listed β ts w
  yes : listed.getD s false = true → ∃ (O1 : Nat → Prop) (w1 : World) (l : Loc) (β1 : Val), CInv x s (s + 1) o0.dst TF hs (fun q => if q then O else O1) (fun q => if q then w0 else w1) listed β ts w ∧ l.blk < w1.heap.size ∧ ¬ O1 l.blk ∧ w0.heap.size ≤ l.blk ∧ β1.le β ∧
    OwnRel x.c.P (β1.upd (hs s).length l) w1 (hs s).length e0 ∧ e0.owned = true ∧ ∀ d, o0.dst = some d → d < ts.size → v0.den (β1.upd (hs s).length l) = some (ts.getD d undef)
theorem LInv.any {x : CCtx} {s : Nat} {o0 : Oper} {v0 : SV} {e0 : SO} {TF : List SV} {hs : Nat → List SO} {O : Nat → Prop} {w0 : World} {listed : Array Bool} {β : Val} {ts : Array Value} {w : World} (h : LInv x s o0 v0 e0 TF hs O w0 listed β ts w) : ∃ ex O1 w1, CInv x s (s + 1) ex TF hs (fun q => if q then O else O1) (fun q => if q then w0 else w1) listed β ts w := by
  cases hl : listed.getD s false with
  | false =>
    refine ⟨none, O, w0, ?_⟩
    have := h.not hl
    simpa using this
  | true =>
    obtain ⟨O1, w1, l, β1, h1, _⟩ := h.yes hl
    exact ⟨_, O1, w1, h1⟩
theorem Val.upd_mono {β β' : Val} (h : β.le β') (n : Nat) (l : Loc) : (β.upd n l).le (β'.upd n l) := by
  intro m a hm
  unfold Val.upd at hm ⊢
  split
  · rename_i he; rw [if_pos he] at hm; exact hm
  · rename_i he; rw [if_neg he] at hm; exact h _ _ hm
theorem chainL_after (hc : CfgOK c) (hP : B.P = c.P) (hgl : B.glob = c.glob) {id : Nat} {os : Array Oper} {k : List SItem} {s : SF} {rest : List SF} {H : List SO} {β : Val} {fr : Frame} {frs : List Frame} {w : World} (hF : FrameRel β s fr) (hR : FramesRel β rest frs) (hH : HeapRel B.P B.O B.w0 β H w) (hG : BRel B β)
    (hl : ((fr :: frs).getLast?).map (·.fn) = some B.fn0) (htd : s.todo = .code (.region id os true) :: k) {sh : Nat} {hid : SO → Bool} (hob : (chainL hid os sh (masks os.toList []) k s rest c H go).Ob D S) : After B go D S (lone fr (frs ++ B.cs) w) := by
  have htd' := hF.todo
  rw [htd] at htd'
  cases hft : fr.todo with
  | nil => rw [hft] at htd'; exact htd'.elim
  | cons y k' =>
    rw [hft] at htd'
    obtain ⟨hxy, hkk⟩ := htd'
    cases y <;> first | exact hxy.elim | skip
    rename_i cd
    have hcd : cd = .region id os true := hxy
    subst hcd
    unfold chainL at hob
    cases hok : drawOK os os.toList (masks os.toList []) (Nat.succ sh) with
    | false => rw [hok] at hob; exact hob.elim
    | true =>
      rw [hok, boolC_true] at hob
      obtain ⟨he, hok'⟩ := boolC_and (show boolC (edgesAll os.toList 0) (boolC (headOK os (takeN os.toList (sh + 1)) (takeN os.toList (sh + 1)) (masks os.toList []) 0) (tailOK (dropN (masks os.toList []) (sh + 1)) (sh + 1)) false) false = true from hok)
      obtain ⟨hh, ht⟩ := boolC_and hok'
      rw [nth_eq] at hob
      cases ho0 : os.toList[sh]? with
      | none => rw [ho0] at hob; exact hob.elim
      | some o0 =>
      rw [ho0, optC_some] at hob
      have hoA : os[sh]? = some o0 := by rw [← Array.getElem?_toList]; exact ho0
      have hsz0 := (Array.getElem?_eq_some_iff.1 hoA).1
      have hlast : (os.toList.take (sh + 1))[sh]? = some o0 := by rw [List.getElem?_take, if_pos (by omega)]; exact ho0
      generalize hxe : (⟨hid, c, os, H, takeN os.toList sh, masks os.toList [], fun T H' => lyOp o0 ⟨hid, c, os, H, [], [], fun T H' => go ⟨⟨s.fn, T, .ops os (dropN os.toList (Nat.succ sh)) :: k, s.defers, s.roundOf⟩ :: rest, H'⟩⟩ T H'⟩ : CCtx) = x at hob
      have hxc : x.c = c := by rw [← hxe]
      have hxhid : x.hid = hid := by rw [← hxe]
      have hxo : x.os = os := by rw [← hxe]
      have hxH : x.H = H := by rw [← hxe]
      have hxh : x.hd = takeN os.toList sh := by rw [← hxe]
      have hxm : x.ms = masks os.toList [] := by rw [← hxe]
      have hxf : x.fin = fun T H' => lyOp o0 ⟨hid, c, os, H, [], [], fun T H' => go ⟨⟨s.fn, T, .ops os (dropN os.toList (Nat.succ sh)) :: k, s.defers, s.roundOf⟩ :: rest, H'⟩⟩ T H' := by rw [← hxe]
      obtain ⟨TF, Fs, hs, hFa, hfin⟩ := chP_facts (x := x) (hxc ▸ hc) _ _ _ _ _ (by rw [hxH]; exact fun n e h _ => h) hob
      rw [hxf] at hfin
      obtain ⟨hgu, v0, e0, hgood, hfin⟩ := lyOp_ob (x := ⟨hid, c, os, H, [], [], fun T H' => go ⟨⟨s.fn, T, .ops os (dropN os.toList (Nat.succ sh)) :: k, s.defers, s.roundOf⟩ :: rest, H'⟩⟩) hfin
      replace hfin : (go ⟨⟨s.fn, putT TF o0.dst v0, .ops os (dropN os.toList (sh + 1)) :: k, s.defers, s.roundOf⟩ :: rest, hs (takeN os.toList sh).length ++ [e0]⟩).Ob D S := hfin
      replace hgood : OpGood c.P c.glob (mapN (hideW hid) H) os o0 TF (.run v0 [e0] (hs (takeN os.toList sh).length).length []) := hgood
      rw [takeN_eq] at hFa hfin hxh hgood
      have hlsh : (os.toList.take sh).length = sh := by rw [List.length_take, Array.length_toList, Nat.min_eq_left (by omega)]
      rw [dropN_eq, hlsh] at hfin
      rw [hlsh] at hgood
      obtain ⟨hreadL, hdstL⟩ := headOK_spec _ _ _ _ _ (by rw [takeN_eq] at hh; exact hh) sh o0 hlast
      -- the order is drawn
      have hstep : step B.P (lone fr (frs ++ B.cs) w) = .next (lone (fr.atR ⟨fr.tmps, fr.defers⟩ (.inRegion os (Region.linearise.go .any os os.size (w.tape w.drawn (.order fr.fn id)) (Array.replicate os.size false) []) :: k')) (frs ++ B.cs) { w with drawn := w.drawn + 1 }) := by
        conv => lhs; rw [frame_eta hF.mode, hft]
        rw [stepR_region_draw]
        simp only [Region.schedule, hP, hc.prog.mixed, Bool.true_or, if_true, Region.linearise]
      refine .step hstep ?_
      have hH' : HeapRel B.P B.O B.w0 β H { w with drawn := w.drawn + 1 } := hH.sameHeap rfl rfl rfl rfl
      generalize ({ w with drawn := w.drawn + 1 } : World) = w1 at hH'
      have hlist : ∀ j, (Array.replicate os.size false).getD j false = false := by
        intro j
        rw [Array.getD_eq_getD_getElem?, Array.getElem?_replicate]
        split <;> rfl
      have hI : LInv x sh o0 v0 e0 TF hs B.O B.w0 (Array.replicate os.size false) β fr.tmps w1 := by
        refine ⟨fun _ => ?_, fun h => by rw [hlist] at h; cases h⟩
        have hTlen : fr.tmps.size = s.tmps.length := by have := denL_length hF.tmps; simpa using this
        refine ⟨by simp [hxo], by rw [hTlen, hFa.lenT], fun t _ ht => ?_, ⟨0, Nat.zero_le _, fun j o _ _ => ?_, ?_⟩, fun i m hi => ?_, fun i _ => hlist i, hxc ▸ hgl ▸ hG.glob⟩
        · rw [hFa.same t (fun o ho hd => ?_) β]
          · have := evS_den (glob := fun _ => none) (a := ⟨fr.tmps, fr.defers⟩) hF.tmps (fun _ _ h => by cases h) (.tmp t)
            have e : evS (fun _ => none) s.tmps (.tmp t) = getT s.tmps t := by
              show optC (nth s.tmps t) undefS (fun v => v) = _
              unfold getT; cases nth s.tmps t <;> rfl
            rw [e] at this; exact this
          · obtain ⟨j, hj⟩ := List.mem_iff_getElem?.1 ho
            have := ht j o (by rw [hxo]; exact hj) hd
            rw [hlist] at this; cases this
        · rw [hlist]; simp
        · rw [hFa.zero, hxc, ← hP]; exact fun _ => hH'
        · rw [hlist] at hi; cases hi
      have hun : ∀ k, unl (Array.replicate os.size false) k ≤ k := by
        intro k
        induction k with
        | zero => exact Nat.le_refl _
        | succ k ih =>
          show unl _ k + _ ≤ k + 1
          split <;> omega
      have hset0 : ∀ {l : Array Bool} {i j : Nat}, l.size = os.size → i < os.size → (l.setIfInBounds i true).getD j false = if i = j then true else l.getD j false := by
        intro l i j hsz hi
        by_cases hij : i = j
        · subst hij; rw [if_pos rfl]; simp [Array.getD_eq_getD_getElem?, hsz, hi]
        · rw [if_neg hij, getD_set_ne false hij]
      have hsteps := order_steps_gen (os := os) (s := sh + 1) (P := c.P) (Inv := fun l β ts w => LInv x sh o0 v0 e0 TF hs B.O B.w0 l β ts w) he ht fr fr.defers k' (frs ++ B.cs)
        (fun h => by obtain ⟨_, _, _, h⟩ := h.any; rw [← hxo]; exact h.size) (fun h => by obtain ⟨_, _, _, h⟩ := h.any; exact h.tail) (fun h => by obtain ⟨_, _, _, h⟩ := h.any; rw [← hxo]; exact h.closed)
        (fun {l β ts w i} h hi his rest => by
          obtain ⟨ex', O', w', hCC⟩ := h.any
          have hlsz : l.size = os.size := by rw [← hxo]; exact hCC.size
          obtain ⟨hunl, o, ho, hready⟩ := mem_ready.1 hi
          have hio := (Array.getElem?_eq_some_iff.1 ho).1
          have hunf : l.getD i false = false := by rw [getD_true_false (by rw [hlsz]; exact hio)]; exact hunl
          rcases Nat.lt_or_ge i sh with hlt | hge
          · -- one of the chain
            cases hls : l.getD sh false with
            | false =>
              have := chain_step (x := x) (s := sh) (tl := sh + 1) (Nat.le_succ _) (ex := none) (fun _ h => by cases h) (by rw [hxo]; exact he) (by rw [hxo]; exact hh) (by rw [hxo]; exact hFa) (by rw [hxo]; exact hxh) (by rw [hxo]; exact hxm) (h.not hls) (by rw [hxo]; exact hi) hlt fr fr.defers rest k' (frs ++ B.cs)
              rw [hxo, hxc] at this
              obtain ⟨β', ts', w', h1, h2, _, h3⟩ := this
              refine ⟨β', ts', w', h1, ⟨fun _ => h2, fun h4 => ?_⟩, h3⟩
              rw [hset0 hlsz hio, if_neg (by omega), hls] at h4; cases h4
            | true =>
              obtain ⟨O1, w1, ll, β1, hC, h5, h6, h7, h8, h9, h10, h11⟩ := h.yes hls
              have := chain_step (x := x) (s := sh) (tl := sh + 1) (Nat.le_succ _) (ex := o0.dst) (fun t ht => ⟨sh, o0, Nat.le_refl _, by rw [hxo]; exact hlast, ht⟩) (by rw [hxo]; exact he) (by rw [hxo]; exact hh) (by rw [hxo]; exact hFa) (by rw [hxo]; exact hxh) (by rw [hxo]; exact hxm) hC (by rw [hxo]; exact hi) hlt fr fr.defers rest k' (frs ++ B.cs)
              rw [hxo, hxc] at this
              obtain ⟨β', ts', w', h1, h2, h12, h3⟩ := this
              refine ⟨β', ts', w', h1, ⟨fun h4 => ?_, fun _ => ⟨O1, w1, ll, β1, h2, h5, h6, h7, Val.le_trans h8 h1, h9, h10, fun d hd hdl => ?_⟩⟩, h3⟩
              · rw [hset0 hlsz hio, if_neg (by omega), hls] at h4; cases h4
              · rw [h12 d hd]
                exact h11 d hd (by rw [hC.tsz, ← h2.tsz]; exact hdl)
          · -- the last one
            have hish : i = sh := by omega
            subst hish
            rw [hoA] at ho; cases ho
            have hC := h.not hunf
            obtain ⟨cc, hcl, hcm, hHc⟩ := hC.heap
            replace hHc := hHc true
            rw [hxc] at hHc
            rw [hxo] at hcl
            have hagree : AgreeOn β TF ts (readsOp os o0) := by
              refine ⟨by rw [hC.tsz], fun t ht => ?_⟩
              refine hC.tmps t (fun h => by cases h) fun j o' ho' hd => ?_
              rw [hxo, List.getElem?_take] at ho'
              split at ho'
              · obtain ⟨m, hm, hb⟩ := hreadL j o' t (by rw [List.getElem?_take, if_pos (by omega)]; exact ho') hd ht
                rw [← hxo] at hm
                exact mask_ready hC.closed (by rw [hxo]; exact hi) hm hb
              · cases ho'
            obtain ⟨hw, hrun⟩ := hgood β ts hagree
            have hG0 : HeapRel0 c.P B.O B.w0 β (mapN (hideW hid) H) w := hHc.toHeapRel0.less fun n e hn => by
              rw [mapN_eq, List.getElem?_map] at hn
              cases hx : H[n]? with
              | none => rw [hx] at hn; cases hn
              | some e1 =>
                rw [hx] at hn
                have hn : hideW hid e1 = e := Option.some.inj hn
                unfold hideW at hn
                cases hhe : hid e1 with
                | true => rw [hhe] at hn; exact .inr hn.symm
                | false =>
                  rw [hhe] at hn
                  have hn : e1 = e := hn
                  subst hn
                  exact .inl (hFa.stable cc hcl n e1 (by rw [hxH]; exact hx) (by rw [hxhid]; exact hhe))
            have hlen : (hs cc).length ≤ (hs i).length := by
              rw [hlsh] at hcl
              have := hs_len hFa (a := cc) (i - cc) (by rw [hlsh]; omega)
              rwa [show cc + (i - cc) = i from by omega] at this
            have hfree : Free β (hs i).length [e0] := fun j hj => hHc.bound _ (by omega)
            obtain ⟨y, w', β', hv, hE, _, hst⟩ := hrun B.O B.w0 w hG0 (by have := hC.glob; rw [hxc] at this; exact this) hfree (fr.atR ⟨ts, fr.defers⟩ (.inRegion os (i :: rest) :: k')) (frs ++ B.cs) i rest k' rfl rfl hoA rfl
            rw [Frame.finish_atR, hoA] at hst
            obtain ⟨hown, hrel, ll, hll, hblk⟩ := hE.made 0 e0 rfl
            rw [Nat.add_zero] at hrel hll
            replace hblk : w.heap.size ≤ ll.blk := by
              rcases hblk with h | ⟨_, _, h, _⟩
              · exact h
              · simp at h
            have hβ' : β' = β.upd (hs i).length ll := by
              funext n
              unfold Val.upd
              split
              · rename_i hn; subst hn; exact hll
              · rename_i hn; exact hE.dom n (by simp; omega)
            rw [hβ'] at hv hrel
            have hHc' := hHc.unnamed hE
            have hlw : ll.blk < w'.heap.size := OwnRel.lt (β := β.upd (hs i).length ll) hrel hown (Val.upd_same _ _ _)
            have hst' : Steps c.P (lone (fr.atR ⟨ts, fr.defers⟩ (.inRegion os (i :: rest) :: k')) (frs ++ B.cs) w) (lone (fr.atR (Act.put ⟨ts, fr.defers⟩ o0.dst y) (.inRegion os rest :: k')) (frs ++ B.cs) w') := hst
            rw [put_mk] at hst'
            refine ⟨β, _, w', Val.le_refl β, ⟨fun h4 => ?_, fun _ => ⟨Owns β (hs cc), w', ll, β, ⟨by simp [hC.size], by rw [put_size]; exact hC.tsz, fun t hext ht => ?_, ⟨cc, by rw [hxo]; exact hcl, fun j o' ho' hm => ?_, fun q => ?_⟩, ?_, fun j hj => ?_, hC.glob⟩, hlw, ?_, Nat.le_trans hHc.keep.size hblk, Val.le_refl β, hxc ▸ hrel, hown, fun d hd hdl => ?_⟩⟩, hst'⟩
            · rw [hset0 hlsz hio, if_pos rfl] at h4; cases h4
            · rw [getD_put, if_neg (fun h => hext h.1)]
              refine hC.tmps t (fun h => by cases h) fun j o' ho' hd => ?_
              have := ht j o' ho' hd
              rw [hset0 hlsz hio] at this
              have hj := (List.getElem?_eq_some_iff.1 ho').1
              rw [hxo, hlsh] at hj
              rwa [if_neg (by omega)] at this
            · rw [hset0 hlsz hio]
              have hj := (List.getElem?_eq_some_iff.1 ho').1
              rw [hxo, hlsh] at hj
              rw [if_neg (by omega)]
              exact hcm j o' ho' hm
            · rw [hxc]
              cases q with
              | true => exact hHc'
              | false => exact hHc'.rebase
            · intro j m hj hm b hb
              rw [hset0 hlsz hio] at hj ⊢
              split
              · rfl
              · by_cases hij : i = j
                · subst hij; exact mask_ready hC.closed (by rw [hxo]; exact hi) hm hb
                · rw [if_neg hij] at hj; exact hC.closed j m hj hm b hb
            · rw [hset0 hlsz hio, if_neg (by omega)]; exact hC.tail j hj
            · rintro ⟨n, e, l', hn, ho', hl', hb⟩
              have := ((hHc.entries n e hn).toOwn ho').lt ho' hl'
              omega
            · rw [getD_put, if_pos ⟨hd, by rw [put_size] at hdl; exact hdl⟩]
              exact hv)
      obtain ⟨β2, ts2, w2, l2, hle, hI2, hall, hst⟩ := hsteps os.size _ _ β fr.tmps w1 hI (hun _)
      rw [← hP] at hst
      obtain ⟨O1, w3, ll, β1, hC, h5, h6, h7, h8, h9, h10, h11⟩ := hI2.yes (hall sh (by omega) hsz0)
      obtain ⟨cc, hcl, hcm, hH2⟩ := hC.heap
      rw [hxo] at hcl
      have hend : hs cc = hs sh := by
        rw [hlsh] at hcl
        have := hs_const hFa (a := cc) (sh - cc) (by rw [hlsh]; omega) fun j o h1 h2 ho => by
          cases hmo : moves x.c.P o with
          | false => rfl
          | true =>
            exfalso
            have hj := (List.getElem?_eq_some_iff.1 ho).1
            rw [hlsh] at hj
            have := (hcm j o (by rw [hxo]; exact ho) hmo).1 (hall j (by omega) (by omega))
            omega
        rw [show cc + (sh - cc) = sh from by omega] at this
        exact this
      rw [hend, hxc] at hH2
      have hHt : HeapRel c.P B.O B.w0 β2 (hs sh) w2 := hH2 true
      have hHf : HeapRel c.P O1 w3 β2 (hs sh) w2 := hH2 false
      have hmono := Val.upd_mono h8 (hs sh).length ll
      have hrel : OwnRel c.P (β2.upd (hs sh).length ll) w2 (hs sh).length e0 := by
        rw [hxc] at h9
        refine OwnRel.kept h9 hmono fun _ l' hl' => ?_
        rw [Val.upd_same] at hl'; cases hl'
        exact hHf.keep.block _ h5 h6
      obtain ⟨hfinH, hleB⟩ := hHt.snoc ll e0 (by
        cases e0 with
        | row => cases h10
        | own => exact hrel
        | loop => exact hrel
        | deferred => exact hrel
        | gone => trivial
        | obj => exact hrel) fun _ => ⟨.inl h7, fun n e' l' hn ho' hl' hb => by
          rcases hHf.fresh n e' l' hn ho' hl' with h | h
          · omega
          · exact h6 (hb ▸ h)⟩
      rw [← hP] at hfinH
      have hle2 := Val.le_trans hle hleB
      refine .of_steps hst ⟨_, .refl _ _, .inl ⟨_, hfin, ⟨β2.upd (hs sh).length ll, _, frs, w2, rfl, ⟨⟨hF.fn, ?_, ?_, SD.denL_mono hle2 hF.defers, rfl, hF.kind, hF.round.mono hle2⟩, hR.mono hle2⟩, hfinH, ⟨by rw [hgl, ← hxc]; exact hC.glob.mono hleB, Val.le_trans hG.fix hle2⟩, Eq.trans (last_fn (f := fr) (f' := fr.atR ⟨ts2, fr.defers⟩ _) rfl) hl⟩⟩⟩
      · -- the temporaries
        refine denL_mk (show ts2.toList.length = _ by rw [Array.length_toList, putT_length]; exact hC.tsz) fun i v hv => ?_
        have hil : i < ts2.size := by
          have := (List.getElem?_eq_some_iff.1 hv).1
          rw [putT_length] at this
          rw [hC.tsz]; exact this
        have hg : getT (putT TF o0.dst v0) i = v := by unfold getT; rw [nth_eq, hv]; rfl
        refine ⟨ts2.getD i undef, ?_, ?_⟩
        · show ts2.toList[i]? = some (ts2.getD i undef)
          rw [Array.getElem?_toList]
          exact size_getD hil rfl
        · by_cases hd : o0.dst = some i
          · rw [hd, getT_put_eq (by rw [← hC.tsz]; exact hil)] at hg
            rw [← hg]
            exact SV.den_mono hmono _ (h11 i hd hil)
          · rw [getT_put_ne hd] at hg
            rw [← hg]
            refine SV.den_mono hleB _ (hC.tmps i hd fun j o ho _ => ?_)
            have hj := (List.getElem?_eq_some_iff.1 ho).1
            rw [hxo, hlsh] at hj
            exact hall j (by omega) (by omega)
      · exact ⟨⟨rfl, OpsAt.drop os (sh + 1)⟩, hkk.mono hle2⟩
/- Every order, one by one. -/
theorem gather_mem {f : Nat → Oper → List (List Nat)} {e : List Nat} : ∀ (ops : List Oper) (i0 : Nat) (j : Nat) (o : Oper), ops[j]? = some o → e ∈ f (i0 + j) o → e ∈ gatherE f ops i0
  | [], _, _, _, h, _ => by simp at h
  | o' :: ops, i0, 0, o, h, he => by
    simp at h; subst h
    show e ∈ app (f i0 o') (gatherE f ops (Nat.succ i0))
    rw [app_eq, List.mem_append]
    exact .inl he
  | o' :: ops, i0, j + 1, o, h, he => by
    show e ∈ app (f i0 o') (gatherE f ops (Nat.succ i0))
    rw [app_eq, List.mem_append]
    exact .inr (gather_mem ops (i0 + 1) j o (by simpa using h) (by rw [show i0 + 1 + j = i0 + (j + 1) from by omega]; exact he))
theorem orNil_mem {e : List Nat} {l : List (List Nat)} (h : e ∈ l) : e ∈ orNil l := by
  cases l with
  | nil => cases h
  | cons => exact h
theorem orNil_nil {l : List (List Nat)} (h : l = []) : [] ∈ orNil l := by subst h; exact List.mem_cons_self
theorem gather_nil {f : Nat → Oper → List (List Nat)} : ∀ (ops : List Oper) (i0 : Nat), (∀ (j : Nat) (o : Oper), ops[j]? = some o → f (i0 + j) o = []) → gatherE f ops i0 = []
  | [], _, _ => rfl
  | o' :: ops, i0, h => by
    show app (f i0 o') (gatherE f ops (Nat.succ i0)) = []
    rw [app_eq, show f i0 o' = [] from h 0 o' (by simp), gather_nil ops (i0 + 1) (fun j o ho => by rw [show i0 + 1 + j = i0 + (j + 1) from by omega]; exact h (j + 1) o (by simpa using ho))]; rfl
theorem allN_iff {α : Type} {p : α → Bool} {l : List α} : allN p l = true ↔ ∀ x ∈ l, p x = true := by
  induction l with
  | nil => exact ⟨fun _ _ h => by simp at h, fun _ => rfl⟩
  | cons a r ih =>
    constructor
    · intro h
      obtain ⟨h1, h2⟩ := boolC_and (show boolC (p a) (allN p r) false = true from h)
      intro x hx
      rcases List.mem_cons.1 hx with rfl | hx
      · exact h1
      · exact ih.1 h2 x hx
    · intro h
      show boolC (p a) (allN p r) false = true
      rw [h a List.mem_cons_self, boolC_true]
      exact ih.2 fun x hx => h x (List.mem_cons_of_mem _ hx)
theorem exts_mem {os : Array Oper} : ∀ (fuel t : Nat) (listed : Array Bool) (b : Nat), listed.size = os.size → (∀ j, j < os.size → bitN b j = listed.getD j false) → (∀ j, os.size ≤ j → bitN b j = false) → Region.linearise.go .any os fuel t listed [] ∈ extsE os.toList fuel b := by
  intro fuel
  induction fuel with
  | zero => intro t listed b _ _ _; exact List.mem_cons_self
  | succ fuel ih =>
    intro t listed b hsz hb hb2
    have hrd : ∀ (i : Nat) (o : Oper), os[i]? = some o → (i ∈ Region.ready .any os listed ↔ bitN b i = false ∧ rdyE b o = true) := by
      intro i o ho
      have hio := (Array.getElem?_eq_some_iff.1 ho).1
      rw [mem_ready, hb i hio, getD_true_false (by rw [hsz]; exact hio)]
      constructor
      · rintro ⟨h1, o', ho', hall⟩
        rw [ho] at ho'; cases ho'
        refine ⟨h1, allN_iff.2 fun e he => ?_⟩
        cases hbi : Region.binds .any e with
        | false => rfl
        | true =>
          rw [boolC_true]
          have hl := hall e (by simpa using he) hbi
          rcases Nat.lt_or_ge e.on os.size with h | h
          · rw [hb _ h]; exact hl
          · rw [Array.getD_eq_getD_getElem?, Array.getElem?_eq_none (by omega)] at hl; cases hl
      · rintro ⟨h1, h2⟩
        refine ⟨h1, o, ho, fun e he hbi => ?_⟩
        have := allN_iff.1 h2 e (by simpa using he)
        rw [hbi, boolC_true] at this
        rcases Nat.lt_or_ge e.on os.size with h | h
        · rw [← hb _ h]; exact this
        · rw [hb2 _ h] at this; cases this
    show _ ∈ orNil (gatherE (fun i o => boolC (bitN b i) [] (boolC (rdyE b o) (mapN (fun l => i :: l) (extsE os.toList fuel (Nat.lor b (Nat.pow 2 i)))) [])) os.toList 0)
    by_cases hne : Region.ready .any os listed = []
    · rw [go_nil hne]
      refine orNil_nil (gather_nil _ _ fun j o ho => ?_)
      rw [Nat.zero_add]
      rw [Array.getElem?_toList] at ho
      have hn : ¬ (j ∈ Region.ready .any os listed) := by rw [hne]; simp
      rw [hrd j o ho] at hn
      cases h1 : bitN b j with
      | true => rfl
      | false =>
        cases h2 : rdyE b o with
        | false => rfl
        | true => exact absurd ⟨h1, h2⟩ hn
    · obtain ⟨i, hi, t', heq⟩ := go_cons hne fuel t
      obtain ⟨_, o, ho, _⟩ := mem_ready.1 hi
      have hio := (Array.getElem?_eq_some_iff.1 ho).1
      obtain ⟨h1, h2⟩ := (hrd i o ho).1 hi
      rw [heq]
      refine orNil_mem (gather_mem _ 0 i o (by rw [Array.getElem?_toList]; exact ho) ?_)
      rw [Nat.zero_add, h1, h2, boolC_false, boolC_true, mapN_eq, List.mem_map]
      have hbit : ∀ j, bitN (Nat.lor b (Nat.pow 2 i)) j = (bitN b j || decide (i = j)) := by
        intro j
        show Nat.testBit (b ||| 2 ^ i) j = _
        rw [Nat.testBit_or, Nat.testBit_two_pow]; rfl
      refine ⟨_, ih t' _ _ (by simp [hsz]) (fun j hj => ?_) (fun j hj => ?_), rfl⟩
      · rw [hbit]
        by_cases hij : i = j
        · subst hij
          simp [Array.getD_eq_getD_getElem?, hsz, hio]
        · rw [getD_set_ne false hij, hb j hj]; simp [hij]
      · rw [hbit, hb2 j hj]
        have : i ≠ j := by omega
        simp [this]
theorem pickE_ob {f : List Nat → Tree} {e : List Nat} : ∀ (l : List (List Nat)) (i : Nat), e ∈ l → ∃ z, ∀ (D : SV → List SO → Prop) (S : SS → Prop), (pickE f l z i).Ob D S → (f e).Ob D S := by
  intro l
  have key : ∀ (l : List (List Nat)) (i : Nat), e ∈ l → ∃ z, i ≤ z ∧ ∀ (D : SV → List SO → Prop) (S : SS → Prop), (pickE f l z i).Ob D S → (f e).Ob D S := by
    intro l
    induction l with
    | nil => intro i h; cases h
    | cons a r ih =>
      intro i h
      cases r with
      | nil =>
        have : e = a := by simpa using h
        subst this
        exact ⟨i, Nat.le_refl _, fun D S h => h⟩
      | cons a2 r =>
        by_cases he : e = a
        · subst he
          exact ⟨i, Nat.le_refl _, fun D S h => h.1 (decide_eq_true rfl)⟩
        · obtain ⟨z, hz, hf⟩ := ih (i + 1) ((List.mem_cons.1 h).resolve_left he)
          exact ⟨z, by omega, fun D S h => hf D S (h.2 (decide_eq_false (by omega)))⟩
  intro i h
  obtain ⟨z, _, hz⟩ := key l i h
  exact ⟨z, hz⟩
theorem opsAt_of {os : Array Oper} : ∀ {idx : List Nat}, (∀ i ∈ idx, ∃ o, os[i]? = some o) → OpsAt os idx (opsE os.toList idx)
  | [], _ => trivial
  | i :: is, h => by
    obtain ⟨o, ho⟩ := h i List.mem_cons_self
    show OpsAt os (i :: is) (optC (nth os.toList i) (opsE os.toList is) fun o => o :: opsE os.toList is)
    rw [nth_eq, Array.getElem?_toList, ho]
    exact ⟨ho, opsAt_of fun j hj => h j (List.mem_cons_of_mem _ hj)⟩
theorem go_in {os : Array Oper} : ∀ (fuel t : Nat) (listed : Array Bool), ∀ i ∈ Region.linearise.go .any os fuel t listed [], ∃ o, os[i]? = some o := by
  intro fuel
  induction fuel with
  | zero => intro t listed i hi; simp [Region.linearise.go] at hi
  | succ fuel ih =>
    intro t listed i hi
    by_cases hne : Region.ready .any os listed = []
    · rw [go_nil hne] at hi; cases hi
    · obtain ⟨i0, hi0, t', heq⟩ := go_cons hne fuel t
      rw [heq] at hi
      rcases List.mem_cons.1 hi with rfl | hi
      · obtain ⟨_, o, ho, _⟩ := mem_ready.1 hi0
        exact ⟨o, ho⟩
      · exact ih _ _ i hi
theorem drawE_after (hc : CfgOK c) (hP : B.P = c.P) {id : Nat} {os : Array Oper} {k : List SItem} {s : SF} {rest : List SF} {H : List SO} {β : Val} {fr : Frame} {frs : List Frame} {w : World} (hF : FrameRel β s fr) (hR : FramesRel β rest frs) (hH : HeapRel B.P B.O B.w0 β H w) (hG : BRel B β)
    (hl : ((fr :: frs).getLast?).map (·.fn) = some B.fn0) (htd : s.todo = .code (.region id os true) :: k) (hob : (drawE os k s rest c H go).Ob D S) : After B go D S (lone fr (frs ++ B.cs) w) := by
  have htd' := hF.todo
  rw [htd] at htd'
  cases hft : fr.todo with
  | nil => rw [hft] at htd'; exact htd'.elim
  | cons y k' =>
    rw [hft] at htd'
    obtain ⟨hxy, hkk⟩ := htd'
    cases y <;> first | exact hxy.elim | skip
    rename_i cd
    have hcd : cd = .region id os true := hxy
    subst hcd
    have hstep : step B.P (lone fr (frs ++ B.cs) w) = .next (lone (fr.atR ⟨fr.tmps, fr.defers⟩ (.inRegion os (Region.linearise.go .any os os.size (w.tape w.drawn (.order fr.fn id)) (Array.replicate os.size false) []) :: k')) (frs ++ B.cs) { w with drawn := w.drawn + 1 }) := by
      conv => lhs; rw [frame_eta hF.mode, hft]
      rw [stepR_region_draw]
      simp only [Region.schedule, hP, hc.prog.mixed, Bool.true_or, if_true, Region.linearise]
    refine .step hstep ?_
    have hH' : HeapRel B.P B.O B.w0 β H { w with drawn := w.drawn + 1 } := hH.sameHeap rfl rfl rfl rfl
    have hlist : ∀ j, (Array.replicate os.size false).getD j false = false := by
      intro j
      rw [Array.getD_eq_getD_getElem?, Array.getElem?_replicate]
      split <;> rfl
    have hmem := exts_mem (os := os) os.size (w.tape w.drawn (.order fr.fn id)) (Array.replicate os.size false) 0 (by simp) (fun j _ => by rw [hlist]; exact Nat.zero_testBit j) (fun j _ => Nat.zero_testBit j)
    have hin := go_in (os := os) os.size (w.tape w.drawn (.order fr.fn id)) (Array.replicate os.size false)
    generalize Region.linearise.go .any os os.size (w.tape w.drawn (.order fr.fn id)) (Array.replicate os.size false) [] = idx at hmem hin
    generalize ({ w with drawn := w.drawn + 1 } : World) = w1 at hH'
    have hmem : idx ∈ extsE os.toList (lenN os.toList) 0 := by rw [lenN_eq, Array.length_toList]; exact hmem
    obtain ⟨z, hz⟩ := pickE_ob (f := fun idx => go ⟨s.to (.ops os (opsE os.toList idx) :: k) :: rest, H⟩) _ 0 hmem
    have hgo := hz D S (hob fun _ => z)
    refine ⟨_, .refl _ _, .inl ⟨_, hgo, ⟨β, _, frs, w1, rfl, ⟨hF.to ⟨⟨rfl, opsAt_of hin⟩, hkk⟩, hR⟩, hH', hG, ?_⟩⟩⟩
    have := last_fn (f := fr) (f' := fr.atR ⟨fr.tmps, fr.defers⟩ (.inRegion os idx :: k')) (frs := frs) rfl
    rw [this]; exact hl

/-- a region that draws its order -/
theorem drawT_after (hc : CfgOK c) (hP : B.P = c.P) (hgl : B.glob = c.glob) {id : Nat} {os : Array Oper} {k : List SItem} {s : SF} {rest : List SF} {H : List SO} {β : Val} {fr : Frame} {frs : List Frame} {w : World} (hF : FrameRel β s fr) (hR : FramesRel β rest frs) (hH : HeapRel B.P B.O B.w0 β H w) (hG : BRel B β)
    (hl : ((fr :: frs).getLast?).map (·.fn) = some B.fn0) (htd : s.todo = .code (.region id os true) :: k) (hob : (drawT os k s rest c H go).Ob D S) : After B go D S (lone fr (frs ++ B.cs) w) := by
  unfold drawT drawB at hob
  cases ha : anyApp (takeN os.toList (headLen (masks os.toList []) 0)) with
  | true =>
    rw [ha] at hob
    unfold drawA at hob
    simp only [boolC_true] at hob
    cases hf : lastFree c.P os (headLen (masks os.toList []) 0) (masks os.toList []) with
    | false =>
      rw [hf, boolC_false] at hob
      cases hb : chainB c.P (takeN os.toList (headLen (masks os.toList []) 0)) (masks os.toList []) (takeN os.toList (headLen (masks os.toList []) 0)) (masks os.toList []) 0 with
      | true => rw [hb] at hob; exact chainS_after hc hP hgl hF hR hH hG hl htd hob
      | false => rw [hb] at hob; exact drawE_after hc hP hF hR hH hG hl htd hob
    | true =>
      rw [hf, boolC_true] at hob
      cases hb : chainB c.P (takeN os.toList (Nat.pred (headLen (masks os.toList []) 0))) (masks os.toList []) (takeN os.toList (Nat.pred (headLen (masks os.toList []) 0))) (masks os.toList []) 0 with
      | true => rw [hb] at hob; exact chainL_after hc hP hgl hF hR hH hG hl htd hob
      | false => rw [hb] at hob; exact drawE_after hc hP hF hR hH hG hl htd hob
  | false =>
    rw [ha] at hob
    unfold drawR at hob
    simp only [boolC_false] at hob
    cases hr : anyRun c (takeN os.toList (headLen (masks os.toList []) 0)) with
    | false => rw [hr] at hob; exact drawS_after hc hP hgl hF hR hH hG hl htd hob
    | true =>
      rw [hr, boolC_true] at hob
      cases hf : lastFree c.P os (headLen (masks os.toList []) 0) (masks os.toList []) with
      | false => rw [hf] at hob; exact chainS_after hc hP hgl hF hR hH hG hl htd hob
      | true => rw [hf] at hob; exact chainL_after hc hP hgl hF hR hH hG hl htd hob

end
end Go.Sim


/-
  The symbolic simulator, twenty-fifth part: one step, and a run of steps.
-/
namespace Go.Sim
variable {α : Type}

section
variable {c : Cfg} {B : Base} {go : SS → Tree} {D : SV → List SO → Prop} {S : SS → Prop}

theorem alloc_get (w : World) (o : Obj) : (w.alloc o).heap[w.heap.size]? = some o := by
  show (w.heap.push o)[w.heap.size]? = _
  simp
/-- a range over a function: entered, or answered at once -/
theorem step_range_enter {P : Program} {b : Frame} {a : Act} {k : List Item} {cs : List Frame} {w : World} {g : Operand} {ps : Array Tmp} {assign body : Code} {l : Nat} {mark : List Deferred} {w₁ w₂ : World} {f : FuncId} {args : Array Value}
    (he : (Instr.enterLoop b.fn a.tmps ps assign body b.roundOf).run P w = .ok (l, mark) w₁) {d : Deferred}
    (hres : (resolve a.eval (rangeCall g l) 0).run P w₁ = .ok d w₁) (hinv : (invoke d.target d.args).run P w₁ = .ok (.enter f args) w₂) :
    step P (lone (b.atR a (.code (.rangeFunc g ps assign body) :: k)) cs w) = .next (lone (Frame.enter P f args .normal) (b.atR { a with defers := mark ++ a.defers } (.inRangeFunc l :: k) :: cs) w₂) :=
  stepR_rangeFunc he hres hinv
theorem step_range_value {P : Program} {b : Frame} {a : Act} {k : List Item} {cs : List Frame} {w : World} {g : Operand} {ps : Array Tmp} {assign body : Code} {l : Nat} {mark : List Deferred} {w₁ w₂ : World} {v : Value}
    (he : (Instr.enterLoop b.fn a.tmps ps assign body b.roundOf).run P w = .ok (l, mark) w₁) {d : Deferred}
    (hres : (resolve a.eval (rangeCall g l) 0).run P w₁ = .ok d w₁) (hinv : (invoke d.target d.args).run P w₁ = .ok (.value v) w₂) :
    step P (lone (b.atR a (.code (.rangeFunc g ps assign body) :: k)) cs w) = .next (lone ((b.atR { a with defers := mark ++ a.defers } (.inRangeFunc l :: k)).finish v) cs w₂) :=
  step_lone_go (by
    have hev := Frame.eval_atR b { a with defers := mark ++ a.defers } (.inRangeFunc l :: k)
    simp only [Frame.atR] at hev
    have hres' : Sem.run P (resolve ({ tmps := a.tmps, defers := mark ++ a.defers } : Act).eval { callee := .value g, args := #[.const (.func (.yield l) #[] #[])], argTypes := #[] } 0) w₁ = .ok d w₁ := hres
    simp [stepG, stepG.exec, Frame.atR, Sem.runT_eq, he, GStep.bare_after, stepG.apply, hev, Sem.run_bind, hres', hinv, Result.andThen])

theorem callT_enter {P : Program} {β : Val} {w : World} {f : SV} {fv : Value} {az args : List SV} {vs : List Value} {g : FuncId} (h : callT f az = .ok (.enter g args)) (hf : f.den β = some fv) (has : SV.denL β az = some vs) :
    ∃ d us, (Deferred.ofValue fv vs.toArray).run P w = .ok d w ∧ SV.denL β args = some us ∧ (invoke d.target d.args).run P w = (callFunc g us.toArray).run P w := by
  unfold callT at h
  rcases asFunc_cases f with ⟨fn, xs, ys, h'⟩ | h'
  · rw [h'] at hf h
    simp only [SV.den, Option.bind_eq_some_iff, Option.map_eq_some_iff] at hf
    obtain ⟨F, hF, x, hx, y, hy, rfl⟩ := hf
    cases fn with
    | yield nm => cases h
    | fn fn =>
      simp only [SFn.den, Option.some.injEq] at hF
      subst hF
      cases fn with
      | func g' =>
        cases h
        exact ⟨_, x ++ (vs ++ y), rfl, app_den hx (app_den has hy), by simp [invoke]⟩
      | method => cases h
      | methodOf => cases h
      | via => cases h
      | yield => cases h
  · rw [h'] at h; cases h

theorem rangeT_after (hc : CfgOK c) (hP : B.P = c.P) (hgl : B.glob = c.glob) {f : Operand} {ps : Array Tmp} {az bd : Code} {k : List SItem} {s : SF} {rest : List SF} {H : List SO} {β : Val} {fr : Frame} {frs : List Frame} {w : World} (hF : FrameRel β s fr) (hR : FramesRel β rest frs) (hH : HeapRel B.P B.O B.w0 β H w) (hG : BRel B β)
    (hl : ((fr :: frs).getLast?).map (·.fn) = some B.fn0) (htd : s.todo = .code (.rangeFunc f ps az bd) :: k) (hob : (rangeT c f ps az bd s k rest H go).Ob D S) : After B go D S (lone fr (frs ++ B.cs) w) := by
  have htd' := hF.todo
  rw [htd] at htd'
  cases hft : fr.todo with
  | nil => rw [hft] at htd'; exact htd'.elim
  | cons y k' =>
    rw [hft] at htd'
    obtain ⟨hxy, hkk⟩ := htd'
    cases y <;> first | exact hxy.elim | skip
    rename_i cd
    have hcd : cd = .rangeFunc f ps az bd := hxy
    subst hcd
    have hfv := evS_den (glob := c.glob) (a := ⟨fr.tmps, fr.defers⟩) hF.tmps (hgl ▸ hG.glob) f
    unfold rangeT at hob
    have hround := hF.round
    rw [lenN_eq] at hob
    -- the call, from the world with the record in it
    have key : ∀ (β1 : Val) (H1 : List SO) (w1 : World) (nm : Nat) (ll : Loc) (sd : List SD) (mark : List Deferred), β.le β1 → β1 nm = some ll → HeapRel B.P B.O B.w0 β1 H1 w1 → SD.denL β1 sd = some (mark ++ fr.defers) →
        (Instr.enterLoop fr.fn fr.tmps ps az bd fr.roundOf).run B.P w = .ok (ll.blk, mark) w1 →
        (match callT (evS c.glob s.tmps f) [.func (.yield nm) [] []] with
          | .ok (.enter g args) => callFT c g args ⟨s.fn, s.tmps, .inRF nm :: k, sd, s.roundOf⟩ rest H1 go
          | _ => .stuck 414).Ob D S → After B go D S (lone fr (frs ++ B.cs) w) := by
      intro β1 H1 w1 nm ll sd mark hle hnm hH1 hsd hent hob
      split at hob
      · rename_i g args hcall
        have hyd : SV.denL β1 [.func (.yield nm) [] []] = some [.func (.yield ll.blk) #[] #[]] := by
          simp [SV.denL, SV.den, SFn.den, hnm]
        obtain ⟨d, us, hd, hus, hinv⟩ := callT_enter (P := B.P) (w := w1) hcall (SV.den_mono hle _ hfv) hyd
        have hF1 : FrameRel β1 ⟨s.fn, s.tmps, .inRF nm :: k, sd, s.roundOf⟩ (fr.atR ⟨fr.tmps, mark ++ fr.defers⟩ (.inRangeFunc ll.blk :: k')) :=
          ⟨hF.fn, SV.denL_mono hle _ hF.tmps, ⟨⟨ll, hnm, rfl⟩, hkk.mono hle⟩, hsd, rfl, hF.kind, hF.round.mono hle⟩
        have hres : (resolve (Act.eval ⟨fr.tmps, fr.defers⟩) (rangeCall f ll.blk) 0).run B.P w1 = .ok d w1 := by
          have e : resolve (Act.eval ⟨fr.tmps, fr.defers⟩) (rangeCall f ll.blk) 0 = Deferred.ofValue (Act.eval ⟨fr.tmps, fr.defers⟩ f) #[.func (.yield ll.blk) #[] #[]] := by simp [resolve, Act.eval]
          rw [e]; exact hd
        refine callFT_after hc hP hgl hF1 (hR.mono hle) hH1 (hG.mono hle) ((last_fn (f := fr) (f' := fr.atR ⟨fr.tmps, mark ++ fr.defers⟩ (.inRangeFunc ll.blk :: k')) rfl).trans hl) hus hob (fun he => .one ?_) fun v w' he => .one ?_
        · conv => lhs; rw [frame_eta hF.mode, hft]
          exact step_range_enter (a := ⟨fr.tmps, fr.defers⟩) hent hres (hinv.trans he)
        · conv => lhs; rw [frame_eta hF.mode, hft]
          exact step_range_value (a := ⟨fr.tmps, fr.defers⟩) hent hres (hinv.trans he)
      · exact hob.elim
    cases hro : s.roundOf with
    | none =>
      rw [hro] at hob hround
      have hfr : fr.roundOf = none := by
        cases hx : fr.roundOf with
        | none => rfl
        | some b => rw [hx] at hround; exact hround.elim
      have hb0 := hH.bound _ (Nat.le_refl H.length)
      have hE1 : Eff B.P β w H.length [] [.deferred (some [])] (β.upd H.length ⟨w.heap.size, 0, 0⟩) (w.alloc (.deferred (some []))) :=
        Eff.lay1 hb0 rfl ⟨_, some [], Val.upd_same _ _ _, rfl, alloc_get _ _⟩
      have hH1 := hH.apply hE1 (by simp)
      rw [applyH_eq] at hH1
      replace hH1 : HeapRel B.P B.O B.w0 _ (H ++ [.deferred (some [])]) _ := hH1
      have hlen : (H ++ [SO.deferred (some [])]).length = H.length + 1 := by simp
      have hb1 := hH1.bound _ (Nat.le_refl _)
      have hE2 : Eff B.P (β.upd H.length ⟨w.heap.size, 0, 0⟩) (w.alloc (.deferred (some []))) (H ++ [SO.deferred (some [])]).length [] [.loop .ready none s.fn s.tmps ps az bd H.length] ((β.upd H.length ⟨w.heap.size, 0, 0⟩).upd (H ++ [SO.deferred (some [])]).length ⟨(w.alloc (.deferred (some []))).heap.size, 0, 0⟩)
          ((w.alloc (.deferred (some []))).alloc (.loop { state := .ready, pending := none, fn := fr.fn, tmps := fr.tmps, params := ps, assign := az, body := bd, defers := w.heap.size })) := by
        refine Eff.lay1 hb1 rfl ⟨_, ⟨w.heap.size, 0, 0⟩, fr.tmps.toList, Val.upd_same _ _ _, Val.upd_le hb1 _ _ (Val.upd_same _ _ _), SV.denL_mono (Val.le_trans hE1.le (Val.upd_le hb1)) _ hF.tmps, ?_⟩
        rw [hF.fn]; exact alloc_get _ _
      have hH2 := hH1.apply hE2 (by simp)
      rw [applyH_eq] at hH2
      have hle := Val.le_trans hE1.le hE2.le
      refine key _ _ _ (H.length + 1) ⟨(w.alloc (.deferred (some []))).heap.size, 0, 0⟩ (.coll H.length :: s.defers) [{ target := .collected w.heap.size, args := #[] }] hle ?_ hH2 ?_ ?_ ?_
      · rw [← hlen]; exact Val.upd_same _ _ _
      · have h1 := hE2.le _ _ (Val.upd_same β H.length ⟨w.heap.size, 0, 0⟩)
        have h2 := SD.denL_mono (Val.le_trans hE1.le hE2.le) hF.defers
        show (SD.den _ (.coll H.length)).bind _ = _
        simp only [SD.den, h1, Option.map_some, Option.bind_some, h2]
        rfl
      · rw [hfr, run_enterLoop_outer, World.size_alloc]
      · have e : setsH (H ++ [SO.deferred (some [])]) [] ++ [SO.loop .ready none s.fn s.tmps ps az bd H.length] = app H [.deferred (some []), .loop .ready none s.fn s.tmps ps az bd H.length] := by
          rw [app_eq]; show (H ++ _) ++ _ = _; simp
        rw [e, hro]
        exact hob
    | some nm0 =>
      rw [hro] at hob hround
      simp only at hob
      cases hx : fr.roundOf with
      | none => rw [hx] at hround; exact hround.elim
      | some b =>
        rw [hx] at hround
        obtain ⟨l0, hl0, rfl⟩ := hround
        split at hob
        · rename_i st p f0 T0 ps0 a0 b0 d hloop
          obtain ⟨l1, r, hl1, hh, _, _, _, _, _, _, _, ⟨ld, hd, hrd⟩, _⟩ := loop_turn hH (loopOf_spec hloop)
          rw [hl0] at hl1; cases hl1
          have hb0 := hH.bound _ (Nat.le_refl H.length)
          have hE1 : Eff B.P β w H.length [] [.loop .ready none s.fn s.tmps ps az bd d] (β.upd H.length ⟨w.heap.size, 0, 0⟩)
              (w.alloc (.loop { state := .ready, pending := none, fn := fr.fn, tmps := fr.tmps, params := ps, assign := az, body := bd, defers := r.defers })) := by
            refine Eff.lay1 hb0 rfl ⟨_, ld, fr.tmps.toList, Val.upd_same _ _ _, Val.upd_le hb0 _ _ hd, SV.denL_mono (Val.upd_le hb0) _ hF.tmps, ?_⟩
            rw [hF.fn, hrd]; exact alloc_get _ _
          have hH1 := hH.apply hE1 (by simp)
          rw [applyH_eq] at hH1
          refine key _ _ _ H.length _ s.defers [] hE1.le (Val.upd_same _ _ _) hH1 ?_ ?_ ?_
          · rw [List.nil_append]; exact SD.denL_mono hE1.le hF.defers
          · rw [hx]; exact run_enterLoop_inner hh _ _ _ _ _
          · have e : setsH H [] ++ [SO.loop .ready none s.fn s.tmps ps az bd d] = app H [.loop .ready none s.fn s.tmps ps az bd d] := by
              rw [app_eq]; rfl
            rw [e, hro]
            split at hob
            · rename_i g args hcall
              rw [hcall]; exact hob
            · exact hob.elim
        · exact hob.elim

/-- ONE STEP -/
theorem step_sound (hc : CfgOK c) (hP : B.P = c.P) (hgl : B.glob = c.glob) {s : SS} {m : Machine} (hM : MRel B s m) (hob : (stepT c s go).Ob D S) : After B go D S m := by
  obtain ⟨β, fr, frs, w, rfl, hFs, hH, hG, hl⟩ := hM.ex
  obtain ⟨frames, H⟩ := s
  cases frames with
  | nil => exact hFs.elim
  | cons s rest =>
    obtain ⟨hF, hR⟩ := hFs
    replace hob : (todoT s.todo s rest c H go).Ob D S := hob
    cases htd : s.todo with
    | nil => rw [htd] at hob; exact returnT_after hP hF hR hH hG hl (.inl htd) hob
    | cons x k =>
      rw [htd] at hob
      replace hob : (itemT x k s rest c H go).Ob D S := hob
      have htd' := hF.todo
      rw [htd] at htd'
      cases hft : fr.todo with
      | nil => rw [hft] at htd'; exact htd'.elim
      | cons y k' =>
        rw [hft] at htd'
        obtain ⟨hxy, hkk⟩ := htd'
        cases x with
        | inBlock id =>
          cases y <;> first | exact hxy.elim | skip
          refine after_to hF hR hH hG hl hkk hob ?_
          rw [hft]; exact stepR_inBlock
        | inScope cd =>
          cases y <;> first | exact hxy.elim | skip
          refine after_to hF hR hH hG hl hkk hob ?_
          rw [hft]; exact step_lone_go (by simp [stepG, stepG.exec, Frame.atR])
        | inLoop cd =>
          cases y <;> first | exact hxy.elim | skip
          · rename_i cd'
            have : cd' = .loop cd := hxy
            subst this
            refine after_to hF hR hH hG hl (k := .code cd :: .inLoop cd :: k) (k' := .code cd :: .inLoop cd :: k') ⟨rfl, rfl, hkk⟩ hob ?_
            rw [hft]; exact stepR_loop
          · rename_i cd'
            have : cd' = cd := hxy
            subst this
            refine after_to hF hR hH hG hl (k := .code cd' :: .inLoop cd' :: k) (k' := .code cd' :: .inLoop cd' :: k') ⟨rfl, rfl, hkk⟩ hob ?_
            rw [hft]; exact stepR_inLoop
        | inRF nm => exact hob.elim
        | endRF nm =>
          cases y <;> first | exact hxy.elim | skip
          rename_i b
          obtain ⟨l0, hl0, rfl⟩ := hxy
          replace hob : (endRFT nm k s rest c H go).Ob D S := hob
          unfold endRFT at hob
          split at hob
          · rename_i st p f T ps a b d hloop
            obtain ⟨l1, r, hl1, hh, hst, hpe, _, _, _, _, _, _, hturn⟩ := loop_turn hH (loopOf_spec hloop)
            rw [hl0] at hl1; cases hl1
            obtain ⟨hnb, td, htd2, hob⟩ : st ≠ .busy ∧ ∃ td, TodoRel β td ((p.map Item.code).toList ++ k') ∧ (go ⟨⟨s.fn, s.tmps, td, s.defers, s.roundOf⟩ :: rest, setN H nm (.loop .exhausted p f T ps a b d)⟩).Ob D S := by
              cases st <;> first
                | exact hob.elim
                | (cases p with
                  | none => exact ⟨by simp, k, hkk, hob⟩
                  | some j => exact ⟨by simp, .code j :: k, ⟨rfl, hkk⟩, hob⟩)
            subst hpe
            have hrun := run_endLoop (P := B.P) hh (by rw [hst]; exact hnb)
            have hstep := stepR_endRangeFunc (P := B.P) (b := fr) (a := ⟨fr.tmps, fr.defers⟩) (k := k') (cs := frs ++ B.cs) hrun
            rw [← hft, ← frame_eta hF.mode] at hstep
            have hH' := hturn .exhausted r.pending
            exact ⟨_, .one hstep, .inl ⟨_, hob, ⟨β, _, frs, _, rfl, ⟨⟨hF.fn, hF.tmps, htd2, hF.defers, rfl, hF.kind, hF.round⟩, hR⟩, hH', hG, Eq.trans (last_fn (f := fr) (f' := fr.atR ⟨fr.tmps, fr.defers⟩ _) rfl) hl⟩⟩⟩
          · exact hob.elim
        | beginRound =>
          cases y <;> first | exact hxy.elim | skip
          replace hob : (beginT k s rest c H go).Ob D S := hob
          unfold beginT at hob
          split at hob
          · rename_i nm hro
            have hround := hF.round
            rw [hro] at hround
            cases hx : fr.roundOf with
            | none => rw [hx] at hround; exact hround.elim
            | some b =>
              rw [hx] at hround
              obtain ⟨l0, hl0, rfl⟩ := hround
              split at hob
              · rename_i p f T ps a b d hloop
                obtain ⟨l1, r, hl1, hh, hst, hpe, _, _, _, _, _, _, hturn⟩ := loop_turn hH (loopOf_spec hloop)
                rw [hl0] at hl1; cases hl1
                subst hpe
                have hstep := stepR_beginRound (P := B.P) (b := fr) (a := ⟨fr.tmps, fr.defers⟩) (k := k') (cs := frs ++ B.cs) hx (run_beginRound hh hst)
                rw [← hft, ← frame_eta hF.mode] at hstep
                have hH' := hturn .busy r.pending
                exact ⟨_, .one hstep, .inl ⟨_, hob, ⟨β, _, frs, _, rfl, ⟨⟨hF.fn, hF.tmps, hkk, hF.defers, rfl, hF.kind, hF.round⟩, hR⟩, hH', hG, Eq.trans (last_fn (f := fr) (f' := fr.atR ⟨fr.tmps, fr.defers⟩ _) rfl) hl⟩⟩⟩
              · exact hob.elim
          · exact hob.elim
        | ops os l =>
          cases l with
          | nil =>
            cases y <;> first | exact hxy.elim | skip
            rename_i os' idx
            obtain ⟨rfl, hat⟩ := hxy
            cases idx with
            | cons => exact hat.elim
            | nil =>
            refine after_to hF hR hH hG hl hkk hob ?_
            rw [hft]; exact stepR_region_end
          | cons o l => exact opT_after hc hP hgl hF hR hH hG hl htd hob
        | code cd =>
          cases y <;> first | exact hxy.elim | skip
          rename_i cd'
          have hcd : cd' = cd := hxy
          subst hcd
          replace hob : (codeT cd' k s rest c H go).Ob D S := hob
          cases cd' with
          | skip => refine after_to hF hR hH hG hl hkk hob ?_; rw [hft]; exact stepR_skip
          | label n => refine after_to hF hR hH hG hl hkk hob ?_; rw [hft]; exact stepR_label
          | seq a b => refine after_to hF hR hH hG hl (k := .code a :: .code b :: k) (k' := .code a :: .code b :: k') ⟨rfl, rfl, hkk⟩ hob ?_; rw [hft]; exact stepR_seq
          | block id body => refine after_to hF hR hH hG hl (k := .code body :: .inBlock id :: k) (k' := .code body :: .inBlock id :: k') ⟨rfl, rfl, hkk⟩ hob ?_; rw [hft]; exact stepR_block
          | loop body =>
            replace hob : (go ⟨s.to (.inLoop body :: k) :: rest, H⟩).Ob D S := hob
            exact ⟨_, .refl _ _, .inl ⟨_, hob, ⟨β, fr, frs, w, rfl, ⟨⟨hF.fn, hF.tmps, by rw [hft]; exact ⟨rfl, hkk⟩, hF.defers, hF.mode, hF.kind, hF.round⟩, hR⟩, hH, hG, hl⟩⟩⟩
          | scope body =>
            refine after_to hF hR hH hG hl (k := .code body :: .inScope body :: k) (k' := .code body :: .inScope body :: k') ⟨rfl, rfl, hkk⟩ hob ?_
            rw [hft]; exact step_lone_go (by simp [stepG, stepG.exec, Frame.atR])
          | goto n => exact hob.elim
          | refuse w => exact hob.elim
          | ret => exact returnT_after hP hF hR hH hG hl (.inr ⟨k, htd⟩) hob
          | exit id =>
            replace hob : (exitT id k s rest c H go).Ob D S := hob
            unfold exitT at hob
            have hsp := exitS_spec (β := β) id k k' hkk
            cases hex : exitS id k with
            | some r =>
              rw [hex] at hob hsp
              obtain ⟨r', hr', hrr⟩ := hsp
              refine after_to hF hR hH hG hl hrr hob ?_
              rw [hft]; exact stepR_exit hr'
            | none =>
              rw [hex] at hob hsp
              simp only at hob hsp
              split at hob
              · rename_i nm hro
                have hround := hF.round
                rw [hro] at hround
                cases hx : fr.roundOf with
                | none => rw [hx] at hround; exact hround.elim
                | some b =>
                  rw [hx] at hround
                  obtain ⟨l0, hl0, rfl⟩ := hround
                  refine endRound_after hR hH hG hl hob fun l cc cs w' hb hrun => ?_
                  rw [hl0] at hb; cases hb
                  rw [frame_eta hF.mode, hft]
                  exact stepR_round_exit hx hF.kind hsp hrun
              · exact hob.elim
          | cond x a b =>
            replace hob : (condT x a b k s rest c H go).Ob D S := hob
            unfold condT at hob
            have hx := evS_den (glob := c.glob) (a := ⟨fr.tmps, fr.defers⟩) hF.tmps (hgl ▸ hG.glob) x
            rcases asBool_cases (evS c.glob s.tmps x) with ⟨v, hv⟩ | hno
            · rw [hv] at hob hx
              have hval : Act.eval ⟨fr.tmps, fr.defers⟩ x = .bool v.den := (Option.some.inj hx).symm
              have key : ∀ t : Bool, v.den = t → (go ⟨s.to (.code (if t then a else b) :: k) :: rest, H⟩).Ob D S → After B go D S (lone fr (frs ++ B.cs) w) := by
                intro t ht hob
                refine after_to hF hR hH hG hl (k := .code (if t then a else b) :: k) (k' := .code (if t then a else b) :: k') ⟨rfl, hkk⟩ hob ?_
                rw [hft]
                exact stepR_cond (by rw [hval, ht])
              cases v with
              | lit v => cases v with
                | true => exact key true rfl hob
                | false => exact key false rfl hob
              | sym v => cases v with
                | true => exact key true rfl (hob.1 rfl)
                | false => exact key false rfl (hob.2 rfl)
            · rw [hno] at hob; exact hob.elim
          | region id os draw =>
            cases draw with
            | true => exact drawT_after hc hP hgl hF hR hH hG hl htd hob
            | false =>
              refine after_to hF hR hH hG hl (k := .ops os os.toList :: k) (k' := .inRegion os (List.range os.size) :: k') ⟨⟨rfl, OpsAt.all os⟩, hkk⟩ hob ?_
              rw [hft]; exact stepR_region
          | rangeFunc f ps a b => exact rangeT_after hc hP hgl hF hR hH hG hl htd hob

/-- what a run comes to -/
def Ends (B : Base) (D : SV → List SO → Prop) (S : SS → Prop) (m : Machine) : Prop :=
  ∃ m', Steps B.P m m' ∧ ((∃ v H, D v H ∧ DoneRel B v H m') ∨ (∃ s, S s ∧ MRel B s m'))
theorem sim_sound (hc : CfgOK c) (hP : B.P = c.P) (hgl : B.glob = c.glob) : ∀ (n : Nat) (s : SS) (m : Machine), MRel B s m → (sim c n s).Ob D S → Ends B D S m := by
  intro n
  induction n with
  | zero => intro s m hM h; exact ⟨m, .refl _ _, .inr ⟨s, h, hM⟩⟩
  | succ n ih =>
    intro s m hM h
    replace h : (boolC (stopS c s) (.stop s) (stepT c s (sim c n))).Ob D S := h
    cases hst : stopS c s with
    | true => rw [hst] at h; exact ⟨m, .refl _ _, .inr ⟨s, h, hM⟩⟩
    | false =>
      rw [hst] at h
      obtain ⟨m1, hs, ⟨s', h', hM'⟩ | ⟨v, H, hD, hM'⟩⟩ := step_sound hc hP hgl hM h
      · obtain ⟨m2, hs2, hr⟩ := ih s' m1 hM' h'
        exact ⟨m2, hs.trans hs2, hr⟩
      · exact ⟨m1, hs, .inl ⟨v, H, hD, hM'⟩⟩
theorem sim1_sound (hc : CfgOK c) (hP : B.P = c.P) (hgl : B.glob = c.glob) {n : Nat} {s : SS} {m : Machine} (hM : MRel B s m) (h : (sim1 c n s).Ob D S) : Ends B D S m := by
  obtain ⟨m1, hs, ⟨s', h', hM'⟩ | ⟨v, H, hD, hM'⟩⟩ := step_sound hc hP hgl hM h
  · obtain ⟨m2, hs2, hr⟩ := sim_sound hc hP hgl n s' m1 hM' h'
    exact ⟨m2, hs.trans hs2, hr⟩
  · exact ⟨m1, hs, .inl ⟨v, H, hD, hM'⟩⟩

end
end Go.Sim


/-
  The symbolic simulator, twenty-sixth part: calls.
-/
namespace Go.Sim
variable {α : Type}

/-- a call, run to its end -/
noncomputable def callSim (c : Cfg) (n : Nat) (f : FuncId) (args : List SV) (H : List SO) : Tree := optC (enterF c.P f args) (.stuck 500) fun g => sim c n ⟨[g], H⟩

/-- the outcome of a call that comes to its end -/
def Came (P : Program) (O : Nat → Prop) (w0 : World) (β : Val) (D : SV → List SO → Prop) (e : Ending) (w' : World) : Prop :=
  ∃ v H x β', e = .returned x ∧ D v H ∧ β.le β' ∧ v.den β' = some x ∧ HeapRel P O w0 β' H w'

theorem enter_mrel {c : Cfg} {O : Nat → Prop} {w0 w : World} {β : Val} {H : List SO} {f : FuncId} {args : List SV} {vs : List Value} {g : SF} (hH : HeapRel c.P O w0 β H w) (hG : GlobRel c.glob β) (ha : SV.denL β args = some vs) (hg : enterF c.P f args = some g) (cs : List Frame) :
    MRel ⟨c.P, c.glob, O, w0, cs, f, β⟩ ⟨[g], H⟩ (lone (Frame.enter c.P f vs.toArray .normal) cs w) := by
  obtain ⟨h1, _⟩ := enter_rel hg ha
  exact ⟨β, _, [], w, rfl, ⟨h1, trivial⟩, hH, ⟨hG, Val.le_refl β⟩, rfl⟩

/-- CALLS FROM A RUN OF THE SIMULATOR -/
theorem calls_of {c : Cfg} (hc : CfgOK c) {n : Nat} {O : Nat → Prop} {w0 w : World} {β : Val} {H : List SO} {f : FuncId} {args : List SV} {vs : List Value} (hH : HeapRel c.P O w0 β H w) (hG : GlobRel c.glob β) (ha : SV.denL β args = some vs) {D : SV → List SO → Prop}
    (hob : (callSim c n f args H).Ob D fun _ => False) : Calls c.P f vs.toArray w (Came c.P O w0 β D) := by
  intro cs
  unfold callSim at hob
  cases hg : enterF c.P f args with
  | none => rw [hg] at hob; exact hob.elim
  | some g =>
    rw [hg] at hob
    obtain ⟨m', hs, ⟨v, H', hD, hdone⟩ | ⟨s, hS, _⟩⟩ := sim_sound (B := ⟨c.P, c.glob, O, w0, cs, f, β⟩) hc rfl rfl n _ _ (enter_mrel hH hG ha hg cs) hob
    · obtain ⟨β', fr, x, w', rfl, hfn, hleave, hv, hH', hG'⟩ := hdone.ex
      exact ⟨.returned x, w', fr, ⟨v, H', x, β', rfl, hD, hG'.fix, hv, hH'⟩, hs, hfn, hleave⟩
    · exact hS.elim

/-- nothing that was there has turned -/
theorem Keep.below {w w' : World} (h : Keep (fun _ => False) w w') : Go.RowKit.Below w.heap.size w w' :=
  ⟨h.os, h.tape, h.output, h.size, fun k hk => h.block k hk fun f => f⟩

/- A world in which nothing has a name. -/
end Go.Sim

