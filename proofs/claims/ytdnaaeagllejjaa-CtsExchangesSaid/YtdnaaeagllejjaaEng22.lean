/-
  The symbolic simulator, twenty-second part: a region that draws its order: the looks at its edges, and what all the operations ahead of the tail come to.
-/
import Derived.Test.YtdnaaeagllejjaaEng21
import Derived.Orders
namespace Go.Sim
variable {α : Type}

/- The masks. -/
theorem mask_spec (acc : List Nat) (es : List Edge) (j : Nat) (h : (maskOf acc es).testBit j = true) : ∃ e ∈ es, Region.binds .any e = true ∧ (j = e.on ∨ ∃ m, acc[e.on]? = some m ∧ m.testBit j = true) := by
  induction es with
  | nil => simp [maskOf] at h
  | cons e es ih =>
    replace h : (boolC (Region.binds .any e) (Nat.lor (Nat.lor (Nat.pow 2 e.on) (optC (nth acc e.on) 0 fun m => m)) (maskOf acc es)) (maskOf acc es)).testBit j = true := h
    cases hb : Region.binds .any e with
    | false =>
      rw [hb, boolC_false] at h
      obtain ⟨e', h1, h2⟩ := ih h
      exact ⟨e', List.mem_cons_of_mem _ h1, h2⟩
    | true =>
      rw [hb, boolC_true] at h
      replace h : (2 ^ e.on ||| (optC (nth acc e.on) 0 fun m => m) ||| maskOf acc es).testBit j = true := h
      rw [Nat.testBit_or, Nat.testBit_or, Bool.or_eq_true, Bool.or_eq_true] at h
      rcases h with (h | h) | h
      · rw [Nat.testBit_two_pow] at h
        exact ⟨e, List.mem_cons_self, hb, .inl (by simpa using (of_decide_eq_true h).symm)⟩
      · refine ⟨e, List.mem_cons_self, hb, .inr ?_⟩
        rw [nth_eq] at h
        cases hm : acc[e.on]? with
        | none => rw [hm] at h; simp [optC] at h
        | some m => rw [hm] at h; exact ⟨m, rfl, h⟩
      · obtain ⟨e', h1, h2⟩ := ih h
        exact ⟨e', List.mem_cons_of_mem _ h1, h2⟩
theorem masks_spec : ∀ (ops : List Oper) (acc : List Nat), (masks ops acc).take acc.length = acc ∧ (masks ops acc).length = acc.length + ops.length ∧
    ∀ (i : Nat) (o : Oper), ops[i]? = some o → (masks ops acc)[acc.length + i]? = some (maskOf ((masks ops acc).take (acc.length + i)) o.after.toList) := by
  intro ops
  induction ops with
  | nil => intro acc; exact ⟨List.take_length, rfl, by simp⟩
  | cons o r ih =>
    intro acc
    have e : masks (o :: r) acc = masks r (acc ++ [maskOf acc o.after.toList]) := by
      show masks r (app acc _) = _
      rw [app_eq]
    rw [e]
    obtain ⟨h1, h2, h3⟩ := ih (acc ++ [maskOf acc o.after.toList])
    have h1' : (masks r (acc ++ [maskOf acc o.after.toList])).take acc.length = acc := by
      have := congrArg (List.take acc.length) h1
      rw [List.take_take, List.take_left] at this
      rw [show min acc.length (acc ++ [maskOf acc o.after.toList]).length = acc.length from by simp] at this
      exact this
    refine ⟨h1', by rw [h2]; simp; omega, fun i o' ho => ?_⟩
    cases i with
    | zero =>
      simp at ho; subst ho
      rw [Nat.add_zero, h1']
      have : ((masks r (acc ++ [maskOf acc o.after.toList])).take (acc ++ [maskOf acc o.after.toList]).length)[acc.length]? = (acc ++ [maskOf acc o.after.toList])[acc.length]? := by rw [h1]
      rw [List.getElem?_take, if_pos (by simp)] at this
      rw [this]; simp
    | succ i =>
      have := h3 i o' (by simpa using ho)
      rw [show acc.length + (i + 1) = (acc ++ [maskOf acc o.after.toList]).length + i from by simp; omega]
      exact this
theorem allBefore_spec {m i : Nat} (h : allBefore m i = true) {j : Nat} (hj : j < i) : m.testBit j = true := by
  have h' : m &&& (2 ^ i - 1) = 2 ^ i - 1 := Nat.eq_of_beq_eq_true h
  have := congrArg (fun x => x.testBit j) h'
  simp only [Nat.testBit_and, Nat.testBit_two_pow_sub_one, hj, decide_true, Bool.and_true] at this
  exact this
theorem boolC_and {a b : Bool} (h : boolC a b false = true) : a = true ∧ b = true := by cases a <;> cases b <;> simp_all
theorem edgesAll_spec : ∀ (ops : List Oper) (k : Nat), edgesAll ops k = true → ∀ (i : Nat) (o : Oper), ops[i]? = some o → ∀ e ∈ o.after.toList, Region.binds .any e = true → e.on < k + i := by
  intro ops
  induction ops with
  | nil => intro k _ i o h; simp at h
  | cons a r ih =>
    intro k h i o ho e he hb
    obtain ⟨h1, h2⟩ := boolC_and (show boolC (edgesOK k a.after.toList) (edgesAll r (k + 1)) false = true from h)
    cases i with
    | zero =>
      simp at ho; subst ho
      have := allN_spec _ _ h1 e he
      rw [hb, boolC_true] at this
      have := Nat.le_of_ble_eq_true this
      omega
    | succ i =>
      have := ih (k + 1) h2 i o (by simpa using ho) e he hb
      omega
theorem tailOK_spec : ∀ (ms : List Nat) (k : Nat), tailOK ms k = true → ∀ (i m : Nat), ms[i]? = some m → allBefore m (k + i) = true := by
  intro ms
  induction ms with
  | nil => intro k _ i m h; simp at h
  | cons a r ih =>
    intro k h i m hm
    obtain ⟨h1, h2⟩ := boolC_and (show boolC (allBefore a k) (tailOK r (k + 1)) false = true from h)
    cases i with
    | zero => simp at hm; subst hm; exact h1
    | succ i =>
      have := ih (k + 1) h2 i m (by simpa using hm)
      rw [show k + (i + 1) = k + 1 + i from by omega]; exact this
theorem memN_spec {n : Nat} {l : List Nat} (h : n ∈ l) : memN n l = true := by
  induction l with
  | nil => cases h
  | cons a l ih =>
    show boolC (Nat.beq a n) true (memN n l) = true
    by_cases ha : a = n
    · subst ha; rw [show Nat.beq a a = true from Nat.beq_refl a]; rfl
    · rw [show Nat.beq a n = false from Bool.eq_false_iff.2 fun h => ha (Nat.eq_of_beq_eq_true h)]
      exact ih ((List.mem_cons.1 h).resolve_left fun e => ha e.symm)
theorem writersOK_spec (m : Nat) (reads : List Nat) : ∀ (ops : List Oper) (k : Nat), writersOK m reads ops k = true → ∀ (j : Nat) (o : Oper) (d : Nat), ops[j]? = some o → o.dst = some d → d ∈ reads → m.testBit (k + j) = true := by
  intro ops
  induction ops with
  | nil => intro k _ j o d h; simp at h
  | cons a r ih =>
    intro k h j o d ho hd hr
    obtain ⟨h1, h2⟩ := boolC_and (show boolC (optC a.dst true fun d => boolC (memN d reads) (bitN m k) true) (writersOK m reads r (k + 1)) false = true from h)
    cases j with
    | zero =>
      simp at ho; subst ho
      rw [hd, optC_some, memN_spec hr, boolC_true] at h1
      exact h1
    | succ j =>
      have := ih (k + 1) h2 j o d (by simpa using ho) hd hr
      rw [show k + (j + 1) = k + 1 + j from by omega]; exact this
theorem dstFree_spec {d : Tmp} {ops : List Oper} (h : dstFree (some d) ops = true) {o : Oper} (ho : o ∈ ops) : o.dst ≠ some d := by
  intro hd
  have := allN_spec _ _ (show allN (fun o : Oper => optC o.dst true fun e => boolC (Nat.beq e d) false true) ops = true from h) o ho
  rw [hd, optC_some, show Nat.beq d d = true from Nat.beq_refl d] at this
  cases this
theorem headOK_spec (os : Array Oper) (hd0 : List Oper) : ∀ (ops : List Oper) (ms : List Nat) (k : Nat), headOK os hd0 ops ms k = true → ∀ (i : Nat) (o : Oper), ops[i]? = some o →
    (∀ (j : Nat) (o' : Oper) (d : Nat), hd0[j]? = some o' → o'.dst = some d → d ∈ readsOp os o → ∃ m : Nat, ms[i]? = some m ∧ m.testBit j = true) ∧ (∀ d, o.dst = some d → ∀ (j : Nat) (o' : Oper), i < j → ops[j]? = some o' → o'.dst ≠ some d) := by
  intro ops
  induction ops with
  | nil => intro ms k _ i o h; simp at h
  | cons a r ih =>
    intro ms k h i o ho
    have h' : boolC (writersOK (List.rec (motive := fun _ => Nat) 0 (fun m _ _ => m) ms) (readsOp os a) hd0 0) (boolC (dstFree a.dst r) (headOK os hd0 r (List.rec (motive := fun _ => List Nat) [] (fun _ r _ => r) ms) (k + 1)) false) false = true := h
    obtain ⟨h1, h2⟩ := boolC_and h'
    obtain ⟨h2, h3⟩ := boolC_and h2
    cases i with
    | zero =>
      simp at ho; subst ho
      refine ⟨fun j o' d hj hd hr => ?_, fun d hd j o' hj ho' => ?_⟩
      · have := writersOK_spec _ _ hd0 0 h1 j o' d hj hd hr
        rw [Nat.zero_add] at this
        cases ms with
        | nil => simp at this
        | cons m ms => exact ⟨m, rfl, this⟩
      · cases j with
        | zero => omega
        | succ j =>
          rw [hd] at h2
          exact dstFree_spec h2 (List.mem_of_getElem? (by simpa using ho'))
    | succ i =>
      obtain ⟨h4, h5⟩ := ih _ _ h3 i o (by simpa using ho)
      refine ⟨fun j o' d hj hd hr => ?_, fun d hd j o' hj ho' => ?_⟩
      · obtain ⟨m, hm, hb⟩ := h4 j o' d hj hd hr
        cases ms with
        | nil => simp at hm
        | cons m0 ms => exact ⟨m, by simpa using hm, hb⟩
      · cases j with
        | zero => omega
        | succ j => exact h5 d hd j o' (by omega) (by simpa using ho')

section
variable {c : Cfg} {D : SV → List SO → Prop} {S : SS → Prop}

/-- which entry is whose: the operation's number (from i0 on) and the entry -/
structure SlotOf (slots : List (Nat × SO)) (i : Nat) (n0 : Nat) (f : Fct) : Prop where
  ex : (f.news = [] ∧ ∀ e, (i, e) ∉ slots) ∨ ∃ (e : SO) (p : Nat) (v : SV) (q : List (Nat × SO)), f = .run v [e] (n0 + p) q ∧ slots[p]? = some (i, e) ∧ ∀ (q : Nat) (e' : SO), slots[q]? = some (i, e') → q = p
/-- a heap of which all that stands for something has come for certain -/
def SeenOK (H : List SO) (slots : List (Nat × SO)) (m : Nat) (G : List SO) : Prop :=
  ∀ n e, G[n]? = some e → e = .gone ∨ H[n]? = some e ∨ (H.length ≤ n ∧ ∃ j, slots[n - H.length]? = some (j, e) ∧ m.testBit j = true)
theorem seen_ok (H : List SO) (m : Nat) (N R : List (Nat × SO)) : SeenOK H (N ++ R) m (seenH H m N) := by
  intro n e hn
  rw [seenH_eq] at hn
  rcases Nat.lt_or_ge n H.length with h | h
  · rw [List.getElem?_append_left h] at hn; exact .inr (.inl hn)
  · rw [List.getElem?_append_right h] at hn
    unfold maskN at hn
    rw [mapN_eq, List.getElem?_map] at hn
    cases hx : N[n - H.length]? with
    | none => rw [hx] at hn; cases hn
    | some p =>
      rw [hx] at hn
      have hn : boolC (bitN m p.1) p.2 .gone = e := Option.some.inj hn
      cases hb : bitN m p.1 with
      | false => rw [hb] at hn; exact .inl hn.symm
      | true =>
        rw [hb] at hn
        refine .inr (.inr ⟨h, p.1, ?_, hb⟩)
        rw [List.getElem?_append_left (List.getElem?_eq_some_iff.1 hx).1, hx, ← hn]; rfl
/-- what all the operations come to; 'sets': what the last one turns -/
structure Facts (x : DCtx) (ops : List Oper) (ms : List Nat) (T : List SV) (i0 : Nat) (N : List (Nat × SO)) (TF : List SV) (Fs : List Fct) (slots : List (Nat × SO)) (sets : List (Nat × SO)) : Prop where
  len : Fs.length = ops.length
  lenT : TF.length = T.length
  ge : ∀ j e, (j, e) ∈ slots → i0 ≤ j ∧ j < i0 + ops.length
  same : ∀ t, (∀ o ∈ ops, o.dst ≠ some t) → ∀ β, (getT TF t).den β = (getT T t).den β
  none : ops = [] → sets = []
  last : sets = [] ∨ (x.mL = some ((ms[ops.length - 1]?).getD 0) ∧ ∀ n e, (n, e) ∈ sets → hidN x.H n = true)
  good : ∀ (i : Nat) (o : Oper) (f : Fct), ops[i]? = some o → Fs[i]? = some f → SlotOf slots (i0 + i) (x.H.length + N.length) f ∧
    (∀ d, o.dst = some d → d < T.length → (∀ (k : Nat) (o' : Oper), i < k → ops[k]? = some o' → o'.dst ≠ some d) → ∀ β, (getT TF d).den β = f.val.den β) ∧
    (f.sets = (if i + 1 = ops.length then sets else []) ∧ (f.sets ≠ [] → f.news = [])) ∧
    ∃ T' G, OpGood x.c.P x.c.glob G x.os o T' f ∧ SeenOK (x.atI (i0 + i) (decide (i + 1 = ops.length))) (N ++ slots) ((ms[i]?).getD 0) G ∧ T'.length = T.length ∧ ∀ t, (∀ (k : Nat) (o' : Oper), i ≤ k → ops[k]? = some o' → o'.dst ≠ some t) → ∀ β, (getT TF t).den β = (getT T' t).den β
theorem putT_length (T : List SV) (dst : Option Tmp) (v : SV) : (putT T dst v).length = T.length := by
  cases dst with
  | none => rfl
  | some d => show (setN T d v).length = _; rw [setN_eq]; simp
theorem getT_put_ne {T : List SV} {dst : Option Tmp} {v : SV} {t : Nat} (h : dst ≠ some t) : getT (putT T dst v) t = getT T t := by
  cases dst with
  | none => rfl
  | some d =>
    show getT (setN T d v) t = _
    rw [getT_set, if_neg]
    rintro ⟨rfl, _⟩; exact h rfl
theorem getT_put_eq {T : List SV} {v : SV} {d : Nat} (h : d < T.length) : getT (putT T (some d) v) d = v := by
  show getT (setN T d v) d = _
  rw [getT_set, if_pos ⟨rfl, h⟩]
theorem fct_news_le {f : Fct} (h : f.news.length ≤ 1) : f.news = [] ∨ ∃ e v b q, f = .run v [e] b q := by
  cases f with
  | skip => exact .inl rfl
  | touch => exact .inl rfl
  | run v N b q =>
    cases N with
    | nil => exact .inl rfl
    | cons e r =>
      cases r with
      | nil => exact .inr ⟨e, v, b, q, rfl⟩
      | cons => simp [Fct.news] at h

theorem atI_length (x : DCtx) (i : Nat) (l : Bool) : (x.atI i l).length = x.H.length := by
  unfold DCtx.atI
  cases x.mL with
  | none => rfl
  | some m =>
    show (boolC l x.H (boolC (bitN m i) x.H (mapN hideE x.H))).length = _
    cases l with
    | true => rfl
    | false =>
      cases bitN m i with
      | true => rfl
      | false => show (mapN hideE x.H).length = _; rw [mapN_eq, List.length_map]

theorem drawP_facts {x : DCtx} (hc : CfgOK x.c) : ∀ (ops : List Oper) (ms : List Nat) (T : List SV) (N : List (Nat × SO)) (i0 : Nat), (drawP ops x ms i0 T N).Ob D S →
    ∃ TF Fs slots sets, Facts x ops ms T i0 N TF Fs slots sets ∧ (x.fin TF ((N ++ slots).map (·.2)) sets).Ob D S := by
  intro ops
  induction ops with
  | nil =>
    intro ms T N i0 h
    have h : (x.fin T (mapN (fun p => p.2) N) []).Ob D S := h
    rw [mapN_eq] at h
    exact ⟨T, [], [], [], ⟨rfl, rfl, by simp, fun _ _ _ => rfl, fun _ => rfl, .inl rfl, by simp⟩, by rw [List.append_nil]; exact h⟩
  | cons o r ih =>
    intro ms T N i0 h
    obtain ⟨T', f, hsd, hgood, hor, hn1, hbase⟩ := drOp_ob hc (show (drOp o x ⟨i0, headM ms, List.rec (motive := fun _ => Bool) true (fun _ _ _ => false) r⟩ T N (drawP r x (tailM ms) (i0 + 1))).Ob D S from h)
    have hlast : (List.rec (motive := fun _ => Bool) true (fun _ _ _ => false) r : Bool) = decide (0 + 1 = (o :: r).length) := by cases r <;> simp
    rw [hlast] at hgood hor
    have hm0 : headM ms = (ms[0]?).getD 0 := by cases ms <;> rfl
    have hms : ∀ i : Nat, (tailM ms)[i]? = ms[i + 1]? := by intro i; cases ms <;> simp [tailM]
    have hlen : T'.length = T.length := hsd.len
    have hlenP : (putT T' o.dst f.val).length = T.length := by rw [putT_length, hlen]
    rcases hor with ⟨hs0, h⟩ | ⟨hs1, hnn, hsl, hfin⟩
    case inr =>
      -- the last operation turns entries
      have hr : r = [] := by
        have := of_decide_eq_true hsl.last
        cases r with
        | nil => rfl
        | cons => simp at this
      subst hr
      refine ⟨putT T' o.dst f.val, [f], [], f.sets, ⟨rfl, hlenP, by simp, ?_, by simp, .inr ⟨?_, hsl.hid⟩, ?_⟩, by rw [List.append_nil]; exact hfin⟩
      · intro t ht β
        rw [getT_put_ne (ht o List.mem_cons_self), hsd.den β t]
      · rw [hsl.mL]; exact congrArg some hm0
      · intro i o' f' ho' hf'
        cases i with
        | succ i => simp at ho'
        | zero =>
          simp at ho' hf'; subst ho'; subst hf'
          refine ⟨⟨.inl ⟨hnn, by simp⟩⟩, fun d hd hdl _ β => ?_, ⟨by simp, fun _ => hnn⟩, T', _, hgood, ?_, hlen, fun t ht β => ?_⟩
          · rw [hd, getT_put_eq (Nat.lt_of_lt_of_eq hdl hlen.symm)]
          · rw [← hm0]; exact seen_ok _ _ _ _
          · rw [getT_put_ne (ht 0 o (Nat.le_refl _) rfl)]
    case inl =>
    obtain ⟨TF, Fs, slots, sets, hF, hfin⟩ := ih _ _ _ (i0 + 1) h
    have key : ∀ (head : List (Nat × SO)), head = f.news.map (fun e => (i0, e)) → (∀ j e, (j, e) ∈ head → j = i0) → SlotOf (head ++ slots) i0 (x.H.length + N.length) f →
        ∃ TF Fs slots sets, Facts x (o :: r) ms T i0 N TF Fs slots sets ∧ (x.fin TF ((N ++ slots).map (·.2)) sets).Ob D S := by
      intro head hmap hge hslot
      have hhl : head.length = f.news.length := by rw [hmap]; simp
      have hall : N ++ (head ++ slots) = N ++ f.news.map (fun e => (i0, e)) ++ slots := by rw [hmap, List.append_assoc]
      refine ⟨TF, f :: Fs, head ++ slots, sets, ⟨by simp [hF.len], hF.lenT.trans hlenP, ?_, ?_, by simp, ?_, ?_⟩, by rw [hall]; exact hfin⟩
      · intro j e hj
        rw [List.length_cons]
        rcases List.mem_append.1 hj with hj | hj
        · have := hge j e hj; omega
        · have := hF.ge j e hj; omega
      · intro t ht β
        rw [hF.same t (fun o' ho' => ht o' (List.mem_cons_of_mem _ ho')) β, getT_put_ne (ht o List.mem_cons_self), hsd.den β t]
      · rcases hF.last with h | ⟨h1, h2⟩
        · exact .inl h
        · cases hr : r with
          | nil => exact .inl (hF.none hr)
          | cons a r' =>
            refine .inr ⟨?_, h2⟩
            rw [h1, hms, hr]; rfl
      · intro i o' f' ho' hf'
        cases i with
        | zero =>
          simp at ho' hf'; subst ho'; subst hf'
          refine ⟨by rw [Nat.add_zero]; exact hslot, fun d hd hdl hlate β => ?_, ⟨?_, fun h => absurd hs0 h⟩, T', _, hgood, by rw [← hm0]; exact seen_ok _ _ _ _, hlen, fun t ht β => ?_⟩
          · rw [hF.same d (fun o' ho' => ?_) β, hd, getT_put_eq (Nat.lt_of_lt_of_eq hdl hlen.symm)]
            obtain ⟨k, hk⟩ := List.mem_iff_getElem?.1 ho'
            exact hlate (k + 1) o' (by omega) (by simpa using hk)
          · rw [hs0]
            split
            · rename_i h1
              exact (hF.none (by cases hr : r with
                | nil => rfl
                | cons a r' => rw [hr] at h1; simp at h1)).symm
            · rfl
          · rw [hF.same t (fun o' ho' => ?_) β, getT_put_ne (ht 0 o (Nat.le_refl _) rfl)]
            obtain ⟨k, hk⟩ := List.mem_iff_getElem?.1 ho'
            exact ht (k + 1) o' (by omega) (by simpa using hk)
        | succ i =>
          obtain ⟨h1, h2, ⟨h6, h7⟩, T2, G, h3, hG, h4, h5⟩ := hF.good i o' f' (by simpa using ho') (by simpa using hf')
          have hii : (i + 1 + 1 = (o :: r).length) ↔ (i + 1 = r.length) := by simp
          refine ⟨?_, fun d hd hdl hlate β => h2 d hd (Nat.lt_of_lt_of_eq hdl hlenP.symm) (fun k o'' hk ho'' => hlate (k + 1) o'' (by omega) (by simpa using ho'')) β, ⟨by rw [h6]; simp only [hii], h7⟩, T2, G, h3, ?_, h4.trans hlenP, fun t ht β => h5 t (fun k o'' hk ho'' => ht (k + 1) o'' (by omega) (by simpa using ho'')) β⟩
          · rw [show i0 + (i + 1) = i0 + 1 + i from by omega]
            rcases h1.ex with ⟨hnil, hno⟩ | ⟨e, p, v, q, hf, hp, huniq⟩
            · refine ⟨.inl ⟨hnil, fun e he => ?_⟩⟩
              rcases List.mem_append.1 he with he | he
              · have := hge _ _ he; omega
              · exact hno e he
            · refine ⟨.inr ⟨e, head.length + p, v, q, ?_, ?_, fun q e' hq => ?_⟩⟩
              · rw [hf, List.length_append, hhl, List.length_map]; congr 1; omega
              · rw [List.getElem?_append_right (by omega)]; simpa using hp
              · rcases Nat.lt_or_ge q head.length with hlt | hlt
                · rw [List.getElem?_append_left hlt] at hq
                  have := hge _ _ (List.mem_of_getElem? hq); omega
                · rw [List.getElem?_append_right hlt] at hq
                  have := huniq _ _ hq; omega
          · rw [hall, ← hms, show i0 + (i + 1) = i0 + 1 + i from by omega]
            simp only [hii]
            exact hG
    rcases fct_news_le hn1 with hnil | ⟨e, v, b, q, rfl⟩
    · refine key [] (by rw [hnil]; rfl) (by simp) ⟨.inl ⟨hnil, fun e he => ?_⟩⟩
      have := hF.ge _ _ he; omega
    · refine key [(i0, e)] rfl (by simp) ⟨.inr ⟨e, 0, v, q, ?_, rfl, fun q e' hq => ?_⟩⟩
      · rw [hbase v [e] b q rfl]; rfl
      · cases q with
        | zero => rfl
        | succ q =>
          have := hF.ge _ _ (List.mem_of_getElem? (show slots[q]? = some (i0, e') from by simpa using hq)); omega

end

/-- the same, of which some entries stand for nothing -/
theorem HeapRel0.less {P : Program} {O : Nat → Prop} {w0 : World} {β : Val} {H G : List SO} {w : World} (h : HeapRel0 P O w0 β H w) (hin : ∀ (n : Nat) (e : SO), G[n]? = some e → H[n]? = some e ∨ e = SO.gone) : HeapRel0 P O w0 β G w := by
  refine ⟨fun n e hn => ?_, fun n m e e' l l' hn hm ho ho' => ?_, fun n e l hn ho => ?_, h.keep⟩
  · rcases hin n e hn with h' | rfl
    · exact h.entries n e h'
    · trivial
  · rcases hin n e hn with h' | rfl
    · rcases hin m e' hm with h2 | rfl
      · exact h.sep n m e e' l l' h' h2 ho ho'
      · cases ho'
    · cases ho
  · rcases hin n e hn with h' | rfl
    · exact h.fresh n e l h' ho
    · cases ho
theorem HeapRel0.front {P : Program} {O : Nat → Prop} {w0 : World} {β : Val} {H R : List SO} {w : World} (h : HeapRel0 P O w0 β (H ++ R) w) : HeapRel0 P O w0 β H w := by
  have hin : ∀ n e, H[n]? = some e → (H ++ R)[n]? = some e := fun n e he => by
    rw [List.getElem?_append_left (List.getElem?_eq_some_iff.1 he).1]; exact he
  exact ⟨fun n e he => h.entries n e (hin n e he), fun n m e e' l l' h1 h2 => h.sep n m e e' l l' (hin _ _ h1) (hin _ _ h2), fun n e l he => h.fresh n e l (hin _ _ he), h.keep⟩
/-- new entries laid at names that stood for nothing -/
theorem HeapRel0.lay {P : Program} {O : Nat → Prop} {w0 : World} {β β' : Val} {G G' : List SO} {w w' : World} {base : Nat} {news : List SO} (h : HeapRel0 P O w0 β G w) (hE : Eff P β w base [] news β' w')
    (hG : ∀ n e, G'[n]? = some e → (G[n]? = some e ∧ (n < base ∨ base + news.length ≤ n)) ∨ (∃ i, n = base + i ∧ news[i]? = some e)) : HeapRel0 P O w0 β' G' w' := by
  have hold : ∀ n, (n < base ∨ base + news.length ≤ n) → β' n = β n := fun n hn => hE.dom n hn
  have hlt : ∀ n e l, G[n]? = some e → e.owned = true → β n = some l → l.blk < w.heap.size := by
    intro n e l he ho hl
    exact ((h.entries n e he).toOwn ho).lt ho hl
  have hfr : ∀ b, b < w.heap.size → w'.heap[b]? = w.heap[b]? := fun b hb => hE.frame b hb (by simp)
  have hnew : ∀ i e l, news[i]? = some e → β' (base + i) = some l → w.heap.size ≤ l.blk := by
    intro i e l hi hl
    obtain ⟨_, _, l2, hl2, hor⟩ := hE.made i e hi
    rw [hl] at hl2; cases hl2
    rcases hor with h | ⟨_, _, hm, _⟩
    · exact h
    · simp at hm
  have hkept : ∀ n e, G[n]? = some e → EntryRel P O w0 β' w' n e := by
    intro n e he
    have h0 := h.entries n e he
    cases e with
    | row c =>
      obtain ⟨l, vs, hl, hc, hx⟩ := h0
      exact ⟨l, vs, hE.le _ _ hl, hc.mono hE.le, hx⟩
    | own c wh el => exact OwnRel.kept (P := P) (e := .own c wh el) h0 hE.le fun hw l hl => hfr _ (hlt n _ l he hw hl)
    | loop s p f T ps a b d => exact OwnRel.kept (P := P) (e := .loop s p f T ps a b d) h0 hE.le fun hw l hl => hfr _ (hlt n _ l he hw hl)
    | deferred ds => exact OwnRel.kept (P := P) (e := .deferred ds) h0 hE.le fun hw l hl => hfr _ (hlt n _ l he hw hl)
    | gone => trivial
  refine ⟨fun n e he => ?_, fun n m e e' l l' he he' hw hw' hnm hl hl' => ?_, fun n e l he hw hl => ?_, ?_⟩
  · rcases hG n e he with ⟨h1, _⟩ | ⟨i, rfl, hi⟩
    · exact hkept n e h1
    · obtain ⟨hw, hr, _⟩ := hE.made i e hi
      cases e <;> first | exact hr | (cases hw; done)
  · rcases hG n e he with ⟨h1, hn⟩ | ⟨i, rfl, hi⟩ <;> rcases hG m e' he' with ⟨h2, hm⟩ | ⟨j, rfl, hj⟩
    · rw [hold n hn] at hl; rw [hold m hm] at hl'
      exact h.sep n m e e' l l' h1 h2 hw hw' hnm hl hl'
    · rw [hold n hn] at hl
      have := hlt n e l h1 hw hl
      have := hnew j e' l' hj hl'
      omega
    · rw [hold m hm] at hl'
      have := hlt m e' l' h2 hw' hl'
      have := hnew i e l hi hl
      omega
    · exact hE.apart i j l l' (by omega) (List.getElem?_eq_some_iff.1 hi).1 (List.getElem?_eq_some_iff.1 hj).1 hl hl'
  · rcases hG n e he with ⟨h1, hn⟩ | ⟨i, rfl, hi⟩
    · rw [hold n hn] at hl
      exact h.fresh n e l h1 hw hl
    · left
      have := hnew i e l hi hl
      have := h.keep.size
      omega
  · refine ⟨hE.os.trans h.keep.os, hE.tape.trans h.keep.tape, hE.output.trans h.keep.output, Nat.le_trans h.keep.size hE.size, fun k hk hO => ?_⟩
    rw [hfr k (Nat.lt_of_lt_of_le hk h.keep.size), h.keep.block k hk hO]

/-- entries turned, where nothing new is laid -/
theorem HeapRel0.turn {P : Program} {O : Nat → Prop} {w0 : World} {β β' : Val} {H : List SO} {w w' : World} {base : Nat} {sets : List (Nat × SO)} (h : HeapRel0 P O w0 β H w) (hb : ∀ n, H.length ≤ n → β n = none) (hE : Eff P β w base sets [] β' w')
    (hs : ∀ n e, (n, e) ∈ sets → ∃ e0, H[n]? = some e0 ∧ e0.owned = true) : HeapRel0 P O w0 β' (setsH H sets) w' := by
  have hE' : Eff P β w H.length sets [] β' w' := ⟨hE.le, hE.os, hE.tape, hE.output, hE.size, fun n _ => hE.dom n (by simp; omega), hE.frame, hE.one, hE.turned, (by intro i e h; simp at h), (by intro i j l l' _ h; simp at h)⟩
  have := (HeapRel.apply ⟨h, hb⟩ hE' hs).toHeapRel0
  rw [applyH_eq, List.append_nil] at this
  exact this
theorem setsH_app (sets : List (Nat × SO)) : ∀ (H R : List SO), (∀ n e, (n, e) ∈ sets → n < H.length) → setsH (H ++ R) sets = setsH H sets ++ R := by
  induction sets with
  | nil => intro H R _; rfl
  | cons a r ih =>
    intro H R h
    rw [setsH_cons, setsH_cons, List.set_append, if_pos (h a.1 a.2 List.mem_cons_self), ih]
    intro n e hn
    rw [List.length_set]
    exact h n e (List.mem_cons_of_mem _ hn)

end Go.Sim
