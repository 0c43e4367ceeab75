/-
  The symbolic simulator, twenty-first part: a region that draws its order: what each operation ahead of its tail comes to, wherever its turn comes.
-/
import Derived.Test.YtdnaaeagllejjaaEng20
namespace Go.Sim
variable {α : Type}

/-- the outcome that the conditions let through -/
def R.Leaf (r : R α) (a : α) : Prop :=
  match r with
  | .ok b => a = b
  | .need p r => p ∧ r.Leaf a
  | .fork b t f => (b = true ∧ t.Leaf a) ∨ (b = false ∧ f.Leaf a)
  | .stuck _ => False
  | .any _ => False
theorem R.leaf_of_ob {r : R α} {k : α → Tree} {D : SV → List SO → Prop} {S : SS → Prop} (ho : (r.treeD k).Ob D S) : ∃ a, r.Leaf a ∧ (k a).Ob D S := by
  induction r with
  | ok a => exact ⟨a, rfl, ho⟩
  | need p r ih => obtain ⟨a, h1, h2⟩ := ih ho.2; exact ⟨a, ⟨ho.1, h1⟩, h2⟩
  | fork b t f iht ihf =>
    cases b with
    | true => obtain ⟨a, h1, h2⟩ := iht (ho.1 rfl); exact ⟨a, .inl ⟨rfl, h1⟩, h2⟩
    | false => obtain ⟨a, h1, h2⟩ := ihf (ho.2 rfl); exact ⟨a, .inr ⟨rfl, h1⟩, h2⟩
  | stuck n => exact ho.elim
  | any k ih => exact ho.elim
theorem R.sat_leaf {r : R α} {φ : α → Prop} {a : α} (h : r.Sat φ) (hl : r.Leaf a) : φ a := by
  induction r with
  | ok b => rw [show a = b from hl]; exact h
  | need p r ih => exact ih (h hl.1) hl.2
  | fork b t f iht ihf =>
    rcases hl with ⟨hb, hl⟩ | ⟨hb, hl⟩
    · exact iht (h.1 hb) hl
    · exact ihf (h.2 hb) hl
  | stuck n => exact hl.elim
  | any k ih => exact hl.elim

noncomputable def getT (T : List SV) (t : Nat) : SV := (nth T t).getD undefS
structure AgreeOn (β : Val) (T : List SV) (ts : Array Value) (l : List Nat) : Prop where
  size : ts.size = T.length
  at_ : ∀ t ∈ l, (getT T t).den β = some (ts.getD t undef)
structure SameDen (T T' : List SV) : Prop where
  len : T'.length = T.length
  den : ∀ β t, (getT T' t).den β = (getT T t).den β
theorem SameDen.refl (T : List SV) : SameDen T T := ⟨rfl, fun _ _ => rfl⟩
theorem SameDen.agree {T T' : List SV} (h : SameDen T T') {β : Val} {ts : Array Value} {l : List Nat} (ha : AgreeOn β T' ts l) : AgreeOn β T ts l :=
  ⟨ha.size.trans h.len, fun t ht => (h.den β t).symm.trans (ha.at_ t ht)⟩
theorem getT_set (T : List SV) (d t : Nat) (v : SV) : getT (setN T d v) t = if t = d ∧ d < T.length then v else getT T t := by
  unfold getT
  rw [nth_eq, nth_eq, setN_eq, List.getElem?_set]
  by_cases h : t = d
  · subst h
    by_cases h2 : t < T.length
    · simp [h2]
    · simp [h2]
  · simp [h, Ne.symm h]

theorem mem_app {l r : List Nat} {x : Nat} : x ∈ app l r ↔ x ∈ l ∨ x ∈ r := by rw [app_eq, List.mem_append]
theorem reads_guard {os : Array Oper} {o : Oper} {j : Nat} {want : Bool} {d : Nat} (hg : o.guard = some (j, want)) (hd : (os[j]?).bind (·.dst) = some d) : d ∈ readsOp os o := by
  unfold readsOp
  rw [mem_app]
  left
  rw [hg]
  have : dstOf os j = some d := by
    unfold dstOf
    rw [nth_eq, show os.toList[j]? = os[j]? from by simp]
    cases h : os[j]? with
    | none => rw [h] at hd; cases hd
    | some o' => rw [h] at hd; exact hd
  simp [this]
theorem reads_operand {os : Array Oper} {o : Oper} {t : Nat} (h : .tmp t ∈ o.op.operands) : t ∈ readsOp os o := by
  unfold readsOp
  rw [mem_app]
  right
  have h' : .tmp t ∈ o.op.operands.toList := by simpa using h
  generalize o.op.operands.toList = l at h'
  induction l with
  | nil => cases h'
  | cons x l ih =>
    show t ∈ app (readTmp x) _
    rw [mem_app]
    rcases List.mem_cons.1 h' with rfl | h''
    · left; exact List.mem_cons_self
    · right; exact ih h''
theorem size_getD {ts : Array Value} {d : Nat} {x : Value} (h : d < ts.size) (hx : ts.getD d undef = x) : ts[d]? = some x := by
  rw [Array.getD_eq_getD_getElem?, Array.getElem?_eq_getElem h] at hx
  rw [Array.getElem?_eq_getElem h]; exact congrArg some hx

section
variable {c : Cfg} {D : SV → List SO → Prop} {S : SS → Prop}

/-- is it carried out? whenever its turn comes -/
theorem wantT_leaf {o : Oper} {os : Array Oper} {T : List SV} {yes : List SV → Tree} {no : Tree} (hob : (wantT o.guard os T yes no).Ob D S) :
    (∃ T', SameDen T T' ∧ (∀ β ts, AgreeOn β T' ts (readsOp os o) → Region.wanted o (yielded os ts) = true) ∧ (yes T').Ob D S) ∨
    ((∀ β ts, AgreeOn β T ts (readsOp os o) → Region.wanted o (yielded os ts) = false) ∧ no.Ob D S) := by
  cases hg : o.guard with
  | none =>
    rw [hg] at hob
    exact .inl ⟨T, .refl T, fun β ts _ => by simp [Region.wanted, hg], hob⟩
  | some p =>
    obtain ⟨j, want⟩ := p
    rw [hg] at hob
    replace hob : (optC (dstOf os j) no fun d => optC (nth T d) (.stuck 410) fun v => v.asBool (isUndef v no) fun b => wantB b want T d yes no).Ob D S := hob
    have hdst : dstOf os j = (os[j]?).bind (·.dst) := by
      unfold dstOf
      rw [nth_eq, show os.toList[j]? = os[j]? from by simp]
      cases os[j]? <;> rfl
    rw [hdst] at hob
    have hw : ∀ ts, Region.wanted o (yielded os ts) = (yielded os ts j == some want) := fun ts => by simp [Region.wanted, hg]
    cases hd : (os[j]?).bind (·.dst) with
    | none =>
      rw [hd] at hob
      exact .inr ⟨fun β ts _ => by rw [hw]; simp [yielded, hd], hob⟩
    | some d =>
      have hmem := reads_guard hg hd
      rw [hd] at hob
      simp only [optC_some] at hob
      cases hv : nth T d with
      | none => rw [hv] at hob; exact hob.elim
      | some v =>
        rw [hv] at hob
        simp only [optC_some] at hob
        have hdlt : d < T.length := by
          rw [nth_eq] at hv; exact (List.getElem?_eq_some_iff.1 hv).1
        have hgv : getT T d = v := by unfold getT; rw [hv]; rfl
        have hsee : ∀ β ts (T' : List SV) (x : Value), AgreeOn β T' ts (readsOp os o) → T'.length = T.length → (getT T' d).den β = some x → ts[d]? = some x := by
          intro β ts T' x ha hl hx
          have := ha.at_ d hmem
          rw [hx] at this
          exact size_getD (by rw [ha.size, hl]; exact hdlt) (Option.some.inj this).symm
        rcases asBool_cases v with ⟨b, rfl⟩ | hnb
        · replace hob : (wantB b want T d yes no).Ob D S := hob
          have hy : ∀ β ts (T' : List SV) (q : Bool), AgreeOn β T' ts (readsOp os o) → T'.length = T.length → (getT T' d).den β = some (.bool q) → yielded os ts j = some q := by
            intro β ts T' q ha hl hx
            have := hsee β ts T' _ ha hl hx
            simp [yielded, hd, this]
          cases b with
          | lit b =>
            have hyl : ∀ β ts, AgreeOn β T ts (readsOp os o) → yielded os ts j = some b := fun β ts ha => hy β ts T b ha rfl (by rw [hgv]; rfl)
            cases b <;> cases want <;> first
              | exact .inl ⟨T, .refl T, fun β ts ha => by rw [hw, hyl β ts ha]; rfl, hob⟩
              | exact .inr ⟨fun β ts ha => by rw [hw, hyl β ts ha]; rfl, hob⟩
          | sym b =>
            have hsd : ∀ q : Bool, b = q → SameDen T (setN T d (.bool (.lit q))) := by
              intro q hq
              refine ⟨by rw [setN_eq]; simp, fun β t => ?_⟩
              rw [getT_set]
              split
              · rename_i h; rw [h.1, hgv, hq]; rfl
              · rfl
            have hyq : ∀ q : Bool, b = q → ∀ β ts, AgreeOn β (setN T d (.bool (.lit q))) ts (readsOp os o) → yielded os ts j = some q := fun q hq β ts ha =>
              hy β ts _ q ha (hsd q hq).len (by rw [getT_set, if_pos ⟨rfl, hdlt⟩]; rfl)
            have hyl : ∀ q : Bool, b = q → ∀ β ts, AgreeOn β T ts (readsOp os o) → yielded os ts j = some q := fun q hq β ts ha => hy β ts T q ha rfl (by rw [hgv, ← hq]; rfl)
            cases b with
            | true =>
              have := hob.1 rfl
              cases want
              · exact .inr ⟨fun β ts ha => by rw [hw, hyl true rfl β ts ha]; rfl, this⟩
              · exact .inl ⟨_, hsd true rfl, fun β ts ha => by rw [hw, hyq true rfl β ts ha]; rfl, this⟩
            | false =>
              have := hob.2 rfl
              cases want
              · exact .inl ⟨_, hsd false rfl, fun β ts ha => by rw [hw, hyq false rfl β ts ha]; rfl, this⟩
              · exact .inr ⟨fun β ts ha => by rw [hw, hyl false rfl β ts ha]; rfl, this⟩
        · rw [hnb] at hob
          rcases asTuple_cases v with ⟨l, rfl⟩ | hnt
          · cases l with
            | cons => exact hob.elim
            | nil =>
              refine .inr ⟨fun β ts ha => ?_, hob⟩
              have := hsee β ts T (.tuple #[]) ha rfl (by rw [hgv]; rfl)
              rw [hw]; simp [yielded, hd, this]
          · unfold isUndef at hob
            rw [hnt] at hob
            exact hob.elim

inductive Fct where
  | skip
  | run (v : SV) (N : List SO) (base : Nat) (sets : List (Nat × SO))
  | touch (v : SV) (nm : Nat)
def Fct.val : Fct → SV
  | .skip => undefS
  | .run v _ _ _ => v
  | .touch v _ => v
def Fct.news : Fct → List SO
  | .skip => []
  | .run _ N _ _ => N
  | .touch _ _ => []
def Fct.sets : Fct → List (Nat × SO)
  | .skip => []
  | .run _ _ _ s => s
  | .touch _ _ => []
/-- what an operation comes to, whenever its turn comes -/
def OpGood (P : Program) (glob : Nat → Option Nat) (H : List SO) (os : Array Oper) (o : Oper) (T : List SV) : Fct → Prop
  | .skip => ∀ β ts, AgreeOn β T ts (readsOp os o) → Region.wanted o (yielded os ts) = false
  | .run v N base sets => ∀ β ts, AgreeOn β T ts (readsOp os o) → Region.wanted o (yielded os ts) = true ∧
      ∀ (O : Nat → Prop) (w0 w : World), HeapRel0 P O w0 β H w → GlobRel glob β → Free β base N →
        ∀ (f : Frame) (cs : List Frame) (i : Nat) (rest : List Nat) (k : List Item), f.mode = .run → f.todo = .inRegion os (i :: rest) :: k → os[i]? = some o → f.tmps = ts →
          ∃ x w' β', v.den β' = some x ∧ Eff P β w base sets N β' w' ∧ (∀ n e, (n, e) ∈ sets → ∃ e0, H[n]? = some e0 ∧ e0.owned = true) ∧ Steps P (lone f cs w) (lone (f.finish x) cs w')

  | .touch v nm => ∀ β ts, AgreeOn β T ts (readsOp os o) → Region.wanted o (yielded os ts) = true ∧
      ∀ (O : Nat → Prop) (w0 w : World), HeapRel0 P O w0 β H w → GlobRel glob β →
        ∀ (f : Frame) (cs : List Frame) (i : Nat) (rest : List Nat) (k : List Item), f.mode = .run → f.todo = .inRegion os (i :: rest) :: k → os[i]? = some o → f.tmps = ts →
          ∃ x w' e, v.den β = some x ∧ H[nm]? = some e ∧ e.owned = true ∧ Eff P β w 0 [(nm, e)] [] β w' ∧ Steps P (lone f cs w) (lone (f.finish x) cs w')

theorem drNews_ob {v : SV} {news : List SO} {p : DPos} {dst : Option Tmp} {T : List SV} {N : List (Nat × SO)} {next : List SV → List (Nat × SO) → Tree} (h : (drNews v news p dst T N next).Ob D S) : news.length ≤ 1 ∧ (next (putT T dst v) (N ++ news.map fun e => (p.i, e))).Ob D S := by
  unfold drNews at h
  split at h
  · exact ⟨by simp, by rw [List.map_nil, List.append_nil]; exact h⟩
  · exact ⟨by simp, by rw [← app_eq]; exact h⟩
  · exact h.elim
theorem allN_mem {α : Type} {p : α → Bool} {l : List α} (h : allN p l = true) : ∀ x ∈ l, p x = true := by
  induction l with
  | nil => intro x hx; cases hx
  | cons a r ih =>
    obtain ⟨h1, h2⟩ : p a = true ∧ allN p r = true := by
      replace h : boolC (p a) (allN p r) false = true := h
      cases hp : p a with
      | true => rw [hp] at h; exact ⟨rfl, h⟩
      | false => rw [hp] at h; cases h
    intro x hx
    rcases List.mem_cons.1 hx with rfl | hx
    · exact h1
    · exact ih h2 x hx
/-- where the last operation turns entries -/
structure SetsLast (x : DCtx) (p : DPos) (sets : List (Nat × SO)) : Prop where
  last : p.last = true
  mL : x.mL = some p.m
  hid : ∀ n e, (n, e) ∈ sets → hidN x.H n = true
theorem drVal_ob {v : SV} {sets : List (Nat × SO)} {news : List SO} {x : DCtx} {p : DPos} {dst : Option Tmp} {T : List SV} {N : List (Nat × SO)} {next : List SV → List (Nat × SO) → Tree} (h : (drVal v sets news x p dst T N next).Ob D S) :
    (sets = [] ∧ news.length ≤ 1 ∧ (next (putT T dst v) (N ++ news.map fun e => (p.i, e))).Ob D S) ∨ (sets ≠ [] ∧ news = [] ∧ SetsLast x p sets ∧ (x.fin (putT T dst v) (N.map (·.2)) sets).Ob D S) := by
  unfold drVal at h
  split at h
  · exact .inl ⟨rfl, drNews_ob h⟩
  · rename_i hne
    right
    unfold drSets at h
    split at h
    · cases hl : p.last with
      | false => rw [hl] at h; exact h.elim
      | true =>
        rw [hl] at h
        cases hm : x.mL with
        | none => rw [hm] at h; exact h.elim
        | some m =>
          rw [hm] at h
          replace h : (boolC (Nat.beq m p.m) (boolC (allN (fun q => hidN x.H q.1) sets) (x.fin (putT T dst v) (mapN (fun p => p.2) N) sets) (.stuck 436)) (.stuck 437)).Ob D S := h
          cases hb : Nat.beq m p.m with
          | false => rw [hb] at h; exact h.elim
          | true =>
            rw [hb] at h
            cases ha : allN (fun q => hidN x.H q.1) sets with
            | false => rw [ha] at h; exact h.elim
            | true =>
              rw [ha] at h
              replace h : (x.fin (putT T dst v) (mapN (fun p => p.2) N) sets).Ob D S := h
              rw [mapN_eq] at h
              exact ⟨fun he => hne he, rfl, ⟨hl, by rw [Nat.eq_of_beq_eq_true hb] at hm; exact hm, fun n e hn => allN_mem ha _ hn⟩, h⟩
    · exact h.elim
theorem seenH_eq (H : List SO) (m : Nat) (N : List (Nat × SO)) : seenH H m N = H ++ maskN m N := by
  cases N with
  | nil => show H = H ++ []; rw [List.append_nil]
  | cons a r => show app H (maskN m (a :: r)) = _; rw [app_eq]
theorem drOp_ob {x : DCtx} (hc : CfgOK x.c) {o : Oper} {p : DPos} {T : List SV} {N : List (Nat × SO)} {next : List SV → List (Nat × SO) → Tree} (h : (drOp o x p T N next).Ob D S) :
    ∃ T' f, SameDen T T' ∧ OpGood x.c.P x.c.glob (seenH (x.atI p.i p.last) p.m N) x.os o T' f ∧ ((f.sets = [] ∧ (next (putT T' o.dst f.val) (N ++ f.news.map fun e => (p.i, e))).Ob D S) ∨ (f.sets ≠ [] ∧ f.news = [] ∧ SetsLast x p f.sets ∧ (x.fin (putT T' o.dst f.val) (N.map (·.2)) f.sets).Ob D S)) ∧ f.news.length ≤ 1 ∧ ∀ v M b s, f = .run v M b s → b = x.H.length + N.length := by
  unfold drOp at h
  rcases wantT_leaf h with ⟨T', hsd, hwant, h⟩ | ⟨hwant, h⟩
  · obtain ⟨r, hleaf, h⟩ := R.leaf_of_ob h
    have hnd : ∀ cc, o.op ≠ .defer cc := by
      intro cc hd
      rw [show opS x.c.P (evS x.c.glob T') (seenH (x.atI p.i p.last) p.m N) (Nat.add (lenN x.H) (lenN N)) o = .stuck 342 from by unfold opS; rw [hd]; rfl] at hleaf
      exact hleaf
    have hbase : Nat.add (lenN x.H) (lenN N) = x.H.length + N.length := by rw [lenN_eq, lenN_eq]; rfl
    rw [hbase] at hleaf
    have hev : ∀ (β : Val) (ts : Array Value) (ds : List Deferred), AgreeOn β T' ts (readsOp x.os o) → GlobRel x.c.glob β → ∀ y ∈ o.op.operands, (evS x.c.glob T' y).den β = some (Act.eval ⟨ts, ds⟩ y) := by
      intro β ts ds ha hG y hy
      cases y with
      | tmp t =>
        have h1 := ha.at_ t (reads_operand hy)
        have e : evS x.c.glob T' (.tmp t) = getT T' t := by
          show optC (nth T' t) undefS (fun v => v) = _
          unfold getT; cases nth T' t <;> rfl
        rw [e]; exact h1
      | const v => exact constV_den β v
      | global g =>
        show (evGlob g x.c.glob T').den β = _
        unfold evGlob
        split
        · rename_i nm h
          obtain ⟨l, h1, h2, h3⟩ := hG g nm h
          simp [SV.den, SA.den, h1, h2, h3, SN.den, Act.eval]
        · rfl
      | func f => rfl
    cases r with
    | val v sets news =>
      have hor := drVal_ob (x := x) (D := D) (S := S) (show (drVal v sets news x p o.dst T' N next).Ob D S from h)
      have hn : news.length ≤ 1 := by rcases hor with ⟨_, hn, _⟩ | ⟨_, hn, _⟩ <;> first | exact hn | (have hn : news = [] := hn; simp [hn])
      refine ⟨T', .run v news (x.H.length + N.length) sets, hsd, ?_, hor.imp (fun h => ⟨h.1, h.2.2⟩) id, hn, fun _ _ _ _ e => by cases e; rfl⟩
      intro β ts ha
      refine ⟨hwant β ts ha, fun O w0 w hH hG hfree f cs i rest k hm htd ho hts => ?_⟩
      subst hts
      have hsg := step_op (P := x.c.P) hm htd ho (hwant β f.tmps ha) hnd (cs := cs) (w := w)
      obtain ⟨nx, y, w', β', hrun, hnx, hv, hE, hso⟩ := R.sat_leaf (opS_sat hH o (hev β f.tmps f.defers ha hG)) hleaf hfree
      exact ⟨y, w', β', hv, hE, hso, .one (step_val hsg hrun hnx)⟩
    | enter g args =>
      replace h : (drEnter g args x p o.dst T' N next).Ob D S := h
      unfold drEnter at h
      split at h
      · rename_i sm hsm
        obtain ⟨r, hleaf2, h⟩ := R.leaf_of_ob h
        rw [hbase] at hleaf2
        obtain ⟨v, sets, news⟩ := r
        have hor := drVal_ob (x := x) (D := D) (S := S) h
        have hn : news.length ≤ 1 := by rcases hor with ⟨_, hn, _⟩ | ⟨_, hn, _⟩ <;> first | exact hn | (have hn : news = [] := hn; simp [hn])
        refine ⟨T', .run v news (x.H.length + N.length) sets, hsd, ?_, hor.imp (fun h => ⟨h.1, h.2.2⟩) id, hn, fun _ _ _ _ e => by cases e; rfl⟩
        intro β ts ha
        refine ⟨hwant β ts ha, fun O w0 w hH hG hfree f cs i rest k hm htd ho hts => ?_⟩
        subst hts
        have hsg := step_op (P := x.c.P) hm htd ho (hwant β f.tmps ha) hnd (cs := cs) (w := w)
        obtain ⟨vs, hvs, hrun⟩ := R.sat_leaf (opS_sat hH o (hev β f.tmps f.defers ha hG)) hleaf
        obtain ⟨hso, hcall⟩ := R.sat_leaf (hc.sums g sm hsm O w0 β (seenH (x.atI p.i p.last) p.m N) w _ args vs hH hG hvs) hleaf2 hfree
        rcases hcall with ⟨⟨fn, hfn, hb⟩, hcall⟩ | ⟨v', w', β', hrun2, hv, hE⟩
        · obtain ⟨e, w', fr', ⟨v', β', rfl, hv, hE⟩, hcomes, _, hleave⟩ := hcall (f :: cs)
          exact ⟨v', w', β', hv, hE, hso, .trans (.one (step_enter (by rw [htd]; intros; simp) hsg (hrun.trans (run_callFunc hc.prog hfn hb _ _)))) (.trans hcomes (.one (step_leave_returned hleave)))⟩
        · exact ⟨v', w', β', hv, hE, hso, .one (step_val hsg (hrun.trans hrun2) rfl)⟩
      · exact h.elim
    | round nm args => exact h.elim
    | defer d => exact h.elim
    | panic v => exact h.elim
    | touch v nm =>
      have hor := drVal_ob (x := x) (D := D) (S := S) (show (drVal v [] [] x p o.dst T' N next).Ob D S from h)
      refine ⟨T', .touch v nm, hsd, ?_, hor.imp (fun h => ⟨h.1, h.2.2⟩) (fun h => absurd rfl h.1), by simp [Fct.news], fun _ _ _ _ e => by cases e⟩
      intro β ts ha
      refine ⟨hwant β ts ha, fun O w0 w hH hG f cs i rest k hm htd ho hts => ?_⟩
      subst hts
      have hsg := step_op (P := x.c.P) hm htd ho (hwant β f.tmps ha) hnd (cs := cs) (w := w)
      obtain ⟨nx, y, w', e, hrun, hnx, hv, he, heo, hE⟩ := R.sat_leaf (opS_sat (base := x.H.length + N.length) hH o (hev β f.tmps f.defers ha hG)) hleaf
      exact ⟨y, w', e, hv, he, heo, hE.rebase, .one (step_val hsg hrun hnx)⟩
  · exact ⟨T, .skip, .refl T, hwant, .inl ⟨rfl, by rw [show Fct.news .skip = [] from rfl, List.map_nil, List.append_nil]; exact h⟩, by simp [Fct.news], fun _ _ _ _ e => by cases e⟩

end
end Go.Sim
