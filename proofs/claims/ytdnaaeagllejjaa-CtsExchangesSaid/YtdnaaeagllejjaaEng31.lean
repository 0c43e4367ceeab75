/-
  The symbolic simulator, thirty-first part: the start of a law: slices of bytes that came in; its end.
-/
import Derived.Test.YtdnaaeagllejjaaEng30
namespace Go.Sim
open Go.RowKit
variable {α : Type}

/-- where a slice that came in leads is no spot -/
theorem spot_of {P : Program} {w : World} {r : Reach} {base t e : Nat} {a : Option Addr} {len cap : Nat} (ht : P.underlying t = some (.slice e)) (h : Value.okWide P w r base t (.slice a len cap)) : ∀ x, a = some x → x.spot = none := by
  rintro x rfl
  simp only [Value.okWide, ht, Cell.okWide, Cell.ok] at h
  exact h.2.2.2.1
/-- a slice of bytes that came in -/
def ByteRow (w : World) (a : Option Addr) (len cap : Nat) (X : Nat → BitVec 8) : Prop :=
  (a = none ∧ len = 0 ∧ cap = 0) ∨ ∃ x, a = some x ∧ x.spot = none ∧ len ≤ cap ∧ cap ≤ maxLen ∧ ∀ i, i < cap → w.cell? (x.add i) = some (.int .u8 ((X i).toNat : Int))
/-- the same, from a list of numbers -/
theorem byteRow_of {w : World} {a : Option Addr} {len cap : Nat} {zs : List Int}
    (h : (a = none ∧ len = 0 ∧ cap = 0 ∧ zs = []) ∨ ∃ x, a = some x ∧ len ≤ cap ∧ cap ≤ maxLen ∧ zs.length = cap ∧ (∀ i, i < zs.length → w.cell? (x.add i) = some (.int .u8 (zs.getD i 0))) ∧ ∀ n ∈ zs, (Lit.int .u8 n).wf = true)
    (hs : ∀ x, a = some x → x.spot = none) : ByteRow w a len cap fun i => BitVec.ofInt 8 (zs.getD i 0) := by
  rcases h with ⟨h1, h2, h3, _⟩ | ⟨x, hx, h1, h2, h3, h4, h5⟩
  · exact .inl ⟨h1, h2, h3⟩
  · refine .inr ⟨x, hx, hs x hx, h1, h2, fun i hi => ?_⟩
    rw [h4 i (by omega)]
    have hm : zs.getD i 0 ∈ zs := by
      rw [List.getD_eq_getElem?_getD, List.getElem?_eq_getElem (by omega)]
      exact List.getElem_mem _
    have hw := h5 _ hm
    have hr : 0 ≤ zs.getD i 0 ∧ zs.getD i 0 ≤ 255 := by
      generalize zs.getD i 0 = n at hw
      simp [Lit.wf, IntKind.min, IntKind.max, IntKind.signed, IntKind.bits] at hw
      omega
    have : ((BitVec.ofInt 8 (zs.getD i 0)).toNat : Int) = zs.getD i 0 := by
      rw [BitVec.toNat_ofInt]
      omega
    show _ = some (Value.int .u8 ((BitVec.ofInt 8 (zs.getD i 0)).toNat : Int))
    rw [this]
theorem start_row {P : Program} {w : World} {β : Val} {H : List SO} (h : HeapRel P (fun _ => False) w β H w) {x : Addr} {len cap : Nat} {X : Nat → BitVec 8} (hs : x.spot = none) (hl : len ≤ cap)
    (hx : ∀ i, i < cap → w.cell? (x.add i) = some (.int .u8 ((X i).toNat : Int))) :
    ∃ β', HeapRel P (fun _ => False) w β' (H ++ [rowF X cap]) w ∧ β.le β' ∧ (SV.slice ⟨H.length, .lit 0⟩ (.sym len) (.sym cap)).den β' = some (.slice (some x) len cap) := by
  have hsn := h.snoc (⟨x.block, x.off, 0⟩ : Loc) (rowF X cap) ?_ (fun ho => by cases ho)
  · refine ⟨_, hsn.1, hsn.2, ?_⟩
    simp only [SV.den, SA.den, SC.den, Val.upd_same, Option.map_some, Option.bind_some, SN.den, Nat.add_zero, sliceV]
    cases x; cases hs
    exact if_pos hl
  · refine ⟨_, (List.range cap).map fun i => Value.int .u8 ((X i).toNat : Int), Val.upd_same .., ⟨by simp, fun i y hy => ?_⟩, fun i y hy => ?_⟩
    · rw [List.getElem?_map] at hy
      cases hi : (List.range cap)[i]? with
      | none => rw [hi] at hy; cases hy
      | some j =>
        rw [hi] at hy; cases hy
        have := List.getElem?_eq_some_iff.1 hi
        obtain ⟨h1, h2⟩ := this
        rw [List.getElem_range] at h2
        subst h2; rfl
    · rw [List.getElem?_map] at hy
      cases hi : (List.range cap)[i]? with
      | none => rw [hi] at hy; cases hy
      | some j =>
        rw [hi] at hy; cases hy
        obtain ⟨h1, h2⟩ := List.getElem?_eq_some_iff.1 hi
        rw [List.getElem_range] at h2
        subst h2
        have hi : i < cap := by simpa using h1
        have hc := hx i hi
        have e : (x.add i : Addr) = ⟨x.block, x.off + i, none⟩ := by
          cases x; cases hs
          unfold Addr.add
          split
          · rename_i h0; rw [h0]; rfl
          · rfl
        rw [e] at hc
        refine ⟨?_, fun f => f, hc⟩
        unfold World.cell? at hc
        show x.block < w.heap.size
        by_cases hb : x.block < w.heap.size
        · exact hb
        · have hn : w.heap[x.block]? = none := Array.getElem?_eq_none (by omega)
          simp only [hn] at hc
          cases hc
/-- A LAW THAT RETURNS TRUE, FROM A RUN -/
theorem calls_true {c : Cfg} (hc : CfgOK c) (n : Nat) {w : World} {β : Val} {H : List SO} {f : FuncId} {args : List SV} {vs : List Value} (hH : HeapRel c.P (fun _ => False) w β H w) (hG : GlobRel c.glob β) (ha : SV.denL β args = some vs)
    (hob : (callSim c n f args H).Ob (fun v _ => v = .bool (.lit true)) fun _ => False) : Calls c.P f vs.toArray w fun e w' => e = .returned (.bool true) ∧ Below w.heap.size w w' := by
  refine (calls_of hc hH hG ha hob).mono fun e w' hcame => ?_
  obtain ⟨v, H', x, β', rfl, rfl, _, hv, hH'⟩ := hcame
  cases hv
  exact ⟨rfl, hH'.keep.below⟩
/-- a path's conditions (at each fork: the first way), its value, some of its entries -/
noncomputable def outA (js : List Nat) (t : Tree) : List Prop × Option (SV × List (Option SO)) :=
  Tree.rec (motive := fun _ => List Prop × Option (SV × List (Option SO))) (fun v H => ([], some (v, mapN (fun j => nth H j) js))) (fun _ => ([], none)) (fun p _ ih => (p :: ih.1, ih.2)) (fun b _ _ ih _ => ((b = true) :: ih.1, ih.2)) (fun _ => ([], none)) (fun _ _ => ([], none)) t
theorem outA_ob {js : List Nat} {t : Tree} {ps : List Prop} {v : SV} {es : List (Option SO)} (h : outA js t = (ps, some (v, es))) (hp : ∀ p ∈ ps, p) {D : SV → List SO → Prop} {S : SS → Prop} (hD : ∀ H : List SO, js.map (fun j => H[j]?) = es → D v H) : t.Ob D S := by
  induction t generalizing ps with
  | done v' H =>
    have h' : ([], some (v', mapN (fun j => nth H j) js)) = (ps, some (v, es)) := h
    have h1 := Option.some.inj (Prod.mk.inj h').2
    obtain ⟨h2, h3⟩ := Prod.mk.inj h1
    subst h2
    refine hD H ?_
    rw [mapN_eq] at h3
    rw [← h3]
    exact List.map_congr_left fun j _ => (nth_eq H j).symm
  | stop => cases (Prod.mk.inj (show ([], none) = (ps, some (v, es)) from h)).2
  | need p t ih =>
    have h' : (p :: (outA js t).1, (outA js t).2) = (ps, some (v, es)) := h
    obtain ⟨h1, h2⟩ := Prod.mk.inj h'
    subst h1
    exact ⟨hp p List.mem_cons_self, ih (ps := (outA js t).1) (by rw [← h2]) fun q hq => hp q (List.mem_cons_of_mem _ hq)⟩
  | fork b t f iht ihf =>
    have h' : ((b = true) :: (outA js t).1, (outA js t).2) = (ps, some (v, es)) := h
    obtain ⟨h1, h2⟩ := Prod.mk.inj h'
    subst h1
    refine ⟨fun _ => iht (ps := (outA js t).1) (by rw [← h2]) fun q hq => hp q (List.mem_cons_of_mem _ hq), fun hb => ?_⟩
    have := hp _ List.mem_cons_self
    rw [hb] at this; cases this
  | stuck => cases (Prod.mk.inj (show ([], none) = (ps, some (v, es)) from h)).2
  | any => cases (Prod.mk.inj (show ([], none) = (ps, some (v, es)) from h)).2
/-- a path's conditions, at each fork the way that is told; its value, some of its entries -/
noncomputable def outO (js : List Nat) (t : Tree) : List Bool → List Prop × Option (SV × List (Option SO)) :=
  Tree.rec (motive := fun _ => List Bool → List Prop × Option (SV × List (Option SO))) (fun v H _ => ([], some (v, mapN (fun j => nth H j) js))) (fun _ _ => ([], none)) (fun p _ ih ds => (p :: (ih ds).1, (ih ds).2))
    (fun b _ _ iht ihf ds => List.rec (motive := fun _ => List Prop × Option (SV × List (Option SO))) ([], none) (fun d r _ => ((b = d) :: (boolC d (iht r) (ihf r)).1, (boolC d (iht r) (ihf r)).2)) ds) (fun _ _ => ([], none)) (fun _ _ _ => ([], none)) t
theorem outO_ob {js : List Nat} {t : Tree} {ds : List Bool} {ps : List Prop} {v : SV} {es : List (Option SO)} (h : outO js t ds = (ps, some (v, es))) (hp : ∀ p ∈ ps, p) {D : SV → List SO → Prop} {S : SS → Prop} (hD : ∀ H : List SO, js.map (fun j => H[j]?) = es → D v H) : t.Ob D S := by
  induction t generalizing ps ds with
  | done v' H =>
    have h' : ([], some (v', mapN (fun j => nth H j) js)) = (ps, some (v, es)) := h
    have h1 := Option.some.inj (Prod.mk.inj h').2
    obtain ⟨h2, h3⟩ := Prod.mk.inj h1
    subst h2
    refine hD H ?_
    rw [mapN_eq] at h3
    rw [← h3]
    exact List.map_congr_left fun j _ => (nth_eq H j).symm
  | stop => cases (Prod.mk.inj (show ([], none) = (ps, some (v, es)) from h)).2
  | need p t ih =>
    have h' : (p :: (outO js t ds).1, (outO js t ds).2) = (ps, some (v, es)) := h
    obtain ⟨h1, h2⟩ := Prod.mk.inj h'
    subst h1
    exact ⟨hp p List.mem_cons_self, ih (ds := ds) (ps := (outO js t ds).1) (by rw [← h2]) fun q hq => hp q (List.mem_cons_of_mem _ hq)⟩
  | fork b t f iht ihf =>
    cases ds with
    | nil => cases (Prod.mk.inj (show ([], none) = (ps, some (v, es)) from h)).2
    | cons d r =>
      have h' : ((b = d) :: (boolC d (outO js t r) (outO js f r)).1, (boolC d (outO js t r) (outO js f r)).2) = (ps, some (v, es)) := h
      obtain ⟨h1, h2⟩ := Prod.mk.inj h'
      subst h1
      have hb := hp _ List.mem_cons_self
      cases d with
      | true => exact ⟨fun _ => iht (ds := r) (ps := (outO js t r).1) (by rw [← h2]; rfl) fun q hq => hp q (List.mem_cons_of_mem _ hq), fun hf => by rw [hf] at hb; cases hb⟩
      | false => exact ⟨fun ht => (by rw [ht] at hb; cases hb), fun _ => ihf (ds := r) (ps := (outO js f r).1) (by rw [← h2]; rfl) fun q hq => hp q (List.mem_cons_of_mem _ hq)⟩
  | stuck => cases (Prod.mk.inj (show ([], none) = (ps, some (v, es)) from h)).2
  | any => cases (Prod.mk.inj (show ([], none) = (ps, some (v, es)) from h)).2
/-- the same, where numbers come that nobody knows -/
noncomputable def outZ (js : List Nat) (t : Tree) : List Bool → (Nat → Nat → Nat) → List Prop × Option (SV × List (Option SO)) :=
  Tree.rec (motive := fun _ => List Bool → (Nat → Nat → Nat) → List Prop × Option (SV × List (Option SO))) (fun v H _ _ => ([], some (v, mapN (fun j => nth H j) js))) (fun _ _ _ => ([], none)) (fun p _ ih ds z => (p :: (ih ds z).1, (ih ds z).2))
    (fun b _ _ iht ihf ds z => List.rec (motive := fun _ => List Prop × Option (SV × List (Option SO))) ([], none) (fun d r _ => ((b = d) :: (boolC d (iht r z) (ihf r z)).1, (boolC d (iht r z) (ihf r z)).2)) ds) (fun _ _ _ => ([], none)) (fun _ ih ds z => ih (z 0) ds fun i => z (i + 1)) t
theorem outZ_ob {js : List Nat} {t : Tree} {ds : List Bool} {ps : (Nat → Nat → Nat) → List Prop} {v : (Nat → Nat → Nat) → SV} {es : (Nat → Nat → Nat) → List (Option SO)} (h : ∀ z, outZ js t ds z = (ps z, some (v z, es z))) (hp : ∀ z, ∀ p ∈ ps z, p) {D : SV → List SO → Prop} {S : SS → Prop} (hD : ∀ z, ∀ H : List SO, js.map (fun j => H[j]?) = es z → D (v z) H) : t.Ob D S := by
  have z0 : Nat → Nat → Nat := fun _ _ => 0
  induction t generalizing ps v es ds with
  | done v' H =>
    have h := h z0
    have hD := hD z0
    have h' : ([], some (v', mapN (fun j => nth H j) js)) = (ps z0, some (v z0, es z0)) := h
    have h1 := Option.some.inj (Prod.mk.inj h').2
    obtain ⟨h2, h3⟩ := Prod.mk.inj h1
    rw [← h2] at hD
    refine hD H ?_
    rw [mapN_eq] at h3
    rw [← h3]
    exact List.map_congr_left fun j _ => (nth_eq H j).symm
  | stop => cases (Prod.mk.inj (show ([], none) = (ps z0, some (v z0, es z0)) from h z0)).2
  | need p t ih =>
    have h' : ∀ z, (p :: (outZ js t ds z).1, (outZ js t ds z).2) = (ps z, some (v z, es z)) := h
    refine ⟨?_, ih (ds := ds) (ps := fun z => (outZ js t ds z).1) (v := v) (es := es) (fun z => by rw [← (Prod.mk.inj (h' z)).2]) (fun z q hq => hp z q ?_) hD⟩
    · have := (Prod.mk.inj (h' z0)).1
      exact hp z0 p (by rw [← this]; exact List.mem_cons_self)
    · rw [← (Prod.mk.inj (h' z)).1]; exact List.mem_cons_of_mem _ hq
  | fork b t f iht ihf =>
    cases ds with
    | nil => cases (Prod.mk.inj (show ([], none) = (ps z0, some (v z0, es z0)) from h z0)).2
    | cons d r =>
      have h' : ∀ z, ((b = d) :: (boolC d (outZ js t r z) (outZ js f r z)).1, (boolC d (outZ js t r z) (outZ js f r z)).2) = (ps z, some (v z, es z)) := h
      have hb : b = d := hp z0 _ (by rw [← (Prod.mk.inj (h' z0)).1]; exact List.mem_cons_self)
      have hq : ∀ z, ∀ q ∈ (boolC d (outZ js t r z) (outZ js f r z)).1, q := fun z q hq => hp z q (by rw [← (Prod.mk.inj (h' z)).1]; exact List.mem_cons_of_mem _ hq)
      cases d with
      | true => exact ⟨fun _ => iht (ds := r) (ps := fun z => (outZ js t r z).1) (v := v) (es := es) (fun z => by rw [← (Prod.mk.inj (h' z)).2]; rfl) hq hD, fun hf => by rw [hf] at hb; cases hb⟩
      | false => exact ⟨fun ht => (by rw [ht] at hb; cases hb), fun _ => ihf (ds := r) (ps := fun z => (outZ js f r z).1) (v := v) (es := es) (fun z => by rw [← (Prod.mk.inj (h' z)).2]; rfl) hq hD⟩
  | stuck => cases (Prod.mk.inj (show ([], none) = (ps z0, some (v z0, es z0)) from h z0)).2
  | any k ih =>
    have h' : ∀ z, outZ js (k (z 0)) ds (fun i => z (i + 1)) = (ps z, some (v z, es z)) := h
    intro y
    let c : (Nat → Nat → Nat) → Nat → Nat → Nat := fun z i => Nat.rec (motive := fun _ => Nat → Nat) y (fun j _ => z j) i
    exact ih y (ds := ds) (ps := fun z => ps (c z)) (v := fun z => v (c z)) (es := fun z => es (c z)) (fun z => h' (c z)) (fun z => hp (c z)) (fun z => hD (c z))
theorem sum_outO {c : Cfg} (hc : CfgOK c) (hgl : c.glob = fun _ => none) (n : Nat) {O : Nat → Prop} {w0 w : World} {β : Val} {H : List SO} {base : Nat} {f : FuncId} {vs : List Value} (hH : HeapRel0 c.P O w0 β H w)
    (I : Ifc) (ha : SV.denL β (SV.renL I.big I.args) = some vs) (hI : I.Fits H) {r : SumRes} (keep : List Nat) (hk : ∀ j ∈ keep, I.names.length ≤ j) (hkn : keep.Nodup)
    {js : List Nat} {ds : List Bool} {ps : List Prop} {v : SV} {es : List (Option SO)} (h : outO js (callSim c n f I.args I.ents) ds = (ps, some (v, es))) (hp : ∀ p ∈ ps, p) (hD : ∀ H2 : List SO, js.map (fun j => H2[j]?) = es → I.Ends base keep r v H2) : SumSem c.P H β w base f vs r :=
  sum_run hc hgl n hH I ha hI keep hk hkn (outO_ob h hp hD)
/-- conditions, one by one -/
theorem all_nil : ∀ p ∈ ([] : List Prop), p := by simp
theorem all_cons {p : Prop} {ps : List Prop} (h : p) (hs : ∀ q ∈ ps, q) : ∀ q ∈ p :: ps, q := by
  intro q hq
  rcases List.mem_cons.1 hq with rfl | hq
  · exact h
  · exact hs q hq
theorem law_of {c : Cfg} (hc : CfgOK c) (n : Nat) {w : World} {β : Val} {H : List SO} {f : FuncId} {args : List SV} {vs : List Value} (hH : HeapRel c.P (fun _ => False) w β H w) (hG : GlobRel c.glob β) (ha : SV.denL β args = some vs)
    {ps : List Prop} (h : outA [] (callSim c n f args H) = (ps, some (.bool (.lit true), []))) (hp : ∀ p ∈ ps, p) : Calls c.P f vs.toArray w fun e w' => e = .returned (.bool true) ∧ Below w.heap.size w w' :=
  calls_true hc n hH hG ha (by generalize callSim c n f args H = t at h ⊢; exact outA_ob h hp fun _ _ => rfl)
theorem law_by {c : Cfg} (hc : CfgOK c) (n : Nat) {w : World} {β : Val} {H : List SO} {f : FuncId} {args : List SV} {vs : List Value} (hH : HeapRel c.P (fun _ => False) w β H w) (hG : GlobRel c.glob β) (ha : SV.denL β args = some vs) (ds : List Bool)
    {ps : List Prop} (h : outO [] (callSim c n f args H) ds = (ps, some (.bool (.lit true), []))) (hp : ∀ p ∈ ps, p) : Calls c.P f vs.toArray w fun e w' => e = .returned (.bool true) ∧ Below w.heap.size w w' :=
  calls_true hc n hH hG ha (by generalize callSim c n f args H = t at h ⊢; exact outO_ob h hp fun _ _ => rfl)

noncomputable def need1 (f : Nat → Prop) (n : Nat) : List Prop := mapN f (fromN n 0)
theorem fromN_eqr : ∀ n k : Nat, fromN n k = List.range' k n := by
  intro n
  induction n with
  | zero => intro k; rfl
  | succ n ih => intro k; show k :: fromN n (k + 1) = _; rw [ih]; rfl
theorem need1_all {f : Nat → Prop} {n : Nat} (h : ∀ i, i < n → f i) : ∀ p ∈ need1 f n, p := by
  intro p hp
  unfold need1 at hp
  rw [mapN_eq, fromN_eqr] at hp
  obtain ⟨i, hi, rfl⟩ := List.mem_map.1 hp
  rw [List.mem_range'] at hi
  obtain ⟨j, hj, rfl⟩ := hi
  exact h _ (by omega)

end Go.Sim
