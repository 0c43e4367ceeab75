/-
  The symbolic simulator, thirtieth part: rows of bytes as functions of the place; slices among arguments.
-/
import Derived.Test.YtdnaaeagllejjaaEng29
namespace Go.Sim
variable {α : Type}

/-- a row of bytes -/
noncomputable def rowF (X : Nat → BitVec 8) (n : Nat) : SO := .row (.fn (byteF X) n)
theorem byteF_isB (X : Nat → BitVec 8) : IsB (byteF X) := fun i => ⟨X i, rfl⟩
theorem isB_eq {g : Nat → SV} (h : IsB g) : byteF (fun i => byteOf (g i)) = g := by
  funext i
  obtain ⟨x, hx⟩ := h i
  show SV.int IntKind.u8 (SI.b8 (byteOf (g i))) = _
  rw [hx]; rfl
noncomputable def bytesC (c : Cells) (f : (Nat → BitVec 8) → Nat → R α) : R α :=
  Cells.rec (motive := fun _ => R α) (fun l => optC (unb l) (.stuck 710) fun xs => f (byteAt xs) (lenN xs)) (fun g n => .need (IsB g) (f (fun i => byteOf (g i)) n)) c
noncomputable def bytesE (e : Option SO) (f : (Nat → BitVec 8) → Nat → R α) : R α :=
  optC e (.stuck 711) fun e => SO.rec (motive := fun _ => R α) (fun c _ _ => bytesC c f) (fun c => bytesC c f) (fun _ _ _ _ _ _ _ _ => .stuck 712) (fun _ => .stuck 712) (.stuck 712) e
theorem bx_rel {γ : Val} : ∀ {xs : List (BitVec 8)} {vs : List Value}, SV.denL γ (bx xs) = some vs → CellsRel γ (.fn (byteF (byteAt xs)) xs.length) vs
  | [], vs, h => by cases h; exact ⟨rfl, fun i x hx => by simp at hx⟩
  | x :: xs, vs, h => by
    obtain ⟨v, us, hv, hu, rfl⟩ := denL_cons.1 (show SV.denL γ (.int .u8 (.b8 x) :: bx xs) = some vs from h)
    obtain ⟨h1, h2⟩ := bx_rel hu
    refine ⟨by simp [h1], fun i y hy => ?_⟩
    cases i with
    | zero =>
      simp at hy; subst hy
      cases hv; rfl
    | succ i =>
      have := h2 i y (by simpa using hy)
      exact this
theorem bytesC_sat {c : Cells} {f : (Nat → BitVec 8) → Nat → R α} {φ : α → Prop} (h : ∀ X n, c.Imp (.fn (byteF X) n) → (f X n).Sat φ) : (bytesC c f).Sat φ := by
  cases c with
  | lst l =>
    refine optC_only fun xs hx => h _ _ fun γ vs hv => ?_
    rw [lenN_eq]
    exact bx_rel (unb_imp hx _ _ hv)
  | fn g n =>
    intro hg
    refine h _ _ ?_
    rw [isB_eq hg]; exact .refl _
/-- a row of bytes, read alone -/
theorem bytesE_sat {e : Option SO} {f : (Nat → BitVec 8) → Nat → R α} {φ : α → Prop} (h : ∀ X n, (∀ g, ∃ e', e = some e' ∧ Taken g (rowF X n) e') → (f X n).Sat φ) : (bytesE e f).Sat φ := by
  refine optC_only fun e' he => ?_
  cases e' with
  | own c w el => exact bytesC_sat fun X n hi => h X n fun g => ⟨_, he, taken_row (c0 := c) (.inr ⟨w, el, rfl⟩) hi.front⟩
  | row c => exact bytesC_sat fun X n hi => h X n fun g => ⟨_, he, taken_row (c0 := c) (.inl rfl) hi.front⟩
  | loop => trivial
  | deferred => trivial
  | gone => trivial
theorem rowF_uses (p : Nat → Bool) (X : Nat → BitVec 8) (n : Nat) : (rowF X n).CUses p := fun _ => rfl

/- A slice among the arguments. -/
noncomputable def sliceR (v : SV) (nil : R α) (f : SA → SN → R α) : R α :=
  SV.rec (motive_1 := fun _ => R α) (motive_2 := fun _ => Unit) (fun _ _ => .stuck 713) (fun _ => .stuck 713) (fun _ => .stuck 713) (fun _ => .stuck 713) (.stuck 713) (fun a l _ => f a l) nil (fun _ => .stuck 713) (.stuck 713) (fun _ _ _ _ _ => .stuck 713) (.stuck 713) (fun _ _ _ => .stuck 713) (.stuck 713) (fun _ _ => .stuck 713) (fun _ _ => .stuck 713) (fun _ => .stuck 713) (fun _ _ _ _ => .stuck 713) () (fun _ _ _ _ => ()) v
/-- the slice of one name for another with the place, the length and the capacity as they are -/
theorem slice_den {γ : Val} {a : SA} {l : SN} {c : SC} {x : Value} (h : (SV.slice a l c).den γ = some x) : ∃ m, l.den ≤ m ∧ (SV.slice ⟨a.nm, .sym a.off.den⟩ (.sym l.den) (.sym m)).den γ = some x ∧ (SV.slice ⟨a.nm, .sym a.off.den⟩ l (.sym m)).den γ = some x ∧ (SV.slice a l (.sym m)).den γ = some x := by
  simp only [SV.den, Option.bind_eq_some_iff] at h
  obtain ⟨y, hy, m, hm, hs⟩ := h
  unfold sliceV at hs
  have hl : l.den ≤ m := by
    by_cases h : l.den ≤ m
    · exact h
    · rw [if_neg h] at hs; cases hs
  have hy' : (⟨a.nm, .sym a.off.den⟩ : SA).den γ = some y := hy
  refine ⟨m, hl, ?_, ?_, ?_⟩
  · simp only [SV.den, Option.bind_eq_some_iff]
    exact ⟨y, hy', m, rfl, hs⟩
  · simp only [SV.den, Option.bind_eq_some_iff]
    exact ⟨y, hy', m, rfl, hs⟩
  · simp only [SV.den, Option.bind_eq_some_iff]
    exact ⟨y, hy, m, rfl, hs⟩
theorem sliceR_sat {v : SV} {nil : R α} {f : SA → SN → R α} {φ : α → Prop} (h0 : v = .nilSlice → nil.Sat φ) (h : ∀ a l c, v = .slice a l c → (f a l).Sat φ) : (sliceR v nil f).Sat φ := by
  cases v <;> first | trivial | exact h0 rfl | exact h _ _ _ rfl
/-- a slice of which the length alone is looked at -/
noncomputable def valS (v : SV) (no : R α) (f : Nat → R α) : R α := v.asVal no fun x => match x with | .slice _ n _ => f n | _ => no
theorem valS_sat {v : SV} {no : R α} {f : Nat → R α} {φ : α → Prop} (h0 : no.Sat φ) (h : ∀ p n c, v = .val (.slice p n c) → (f n).Sat φ) : (valS v no f).Sat φ := by
  cases v <;> first | exact h0 | skip
  rename_i x
  cases x <;> first | exact h0 | exact h _ _ _ rfl
/-- a length: known to be n, or as a fork -/
noncomputable def lenIs (l : SN) (n : Nat) (t f : R α) : R α := SN.rec (motive := fun _ => R α) (fun m => boolC (Nat.beq m n) t f) (fun m => .fork (decide (m = n)) t f) (fun o x => .fork (decide (o + x.toNat = n)) t f) l
theorem lenIs_sat {l : SN} {n : Nat} {t f : R α} {φ : α → Prop} (h : l.den = n → t.Sat φ) (h' : l.den ≠ n → f.Sat φ) : (lenIs l n t f).Sat φ := by
  cases l with
  | lit m => exact boolC_sat (fun hm => h (beq_spec hm)) fun hm => h' (beq_ne hm)
  | sym m => exact ⟨fun hm => h (of_decide_eq_true hm), fun hm => h' (of_decide_eq_false hm)⟩
  | byt o x => exact ⟨fun hm => h (of_decide_eq_true hm), fun hm => h' (of_decide_eq_false hm)⟩
/-- a run's fork: its condition, and what comes of either -/
noncomputable def outF (js : List Nat) (t : Tree) : Option (Bool × (List Prop × Option (SV × List (Option SO))) × (List Prop × Option (SV × List (Option SO)))) :=
  Tree.rec (motive := fun _ => Option (Bool × (List Prop × Option (SV × List (Option SO))) × (List Prop × Option (SV × List (Option SO))))) (fun _ _ => none) (fun _ => none) (fun _ _ _ => none) (fun b t f _ _ => some (b, outP js t, outP js f)) (fun _ => none) (fun _ _ => none) t
theorem outF_ob {js : List Nat} {t : Tree} {b : Bool} {o o' : List Prop × Option (SV × List (Option SO))} (h : outF js t = some (b, o, o')) {D : SV → List SO → Prop} {S : SS → Prop}
    (ht : b = true → ∀ t', outP js t' = o → t'.Ob D S) (hf : b = false → ∀ t', outP js t' = o' → t'.Ob D S) : t.Ob D S := by
  cases t with
  | fork b' t f =>
    have h' : some (b', outP js t, outP js f) = some (b, o, o') := h
    obtain ⟨h1, h2⟩ := Prod.mk.inj (Option.some.inj h')
    obtain ⟨h3, h4⟩ := Prod.mk.inj h2
    subst h1
    exact ⟨fun hb => ht hb t h3, fun hb => hf hb f h4⟩
  | done => cases h
  | stop => cases h
  | need => cases h
  | stuck => cases h
  | any => cases h

/-- a run's conditions at its head, and the rest -/
noncomputable def outN (t : Tree) : List Prop × Tree := Tree.rec (motive := fun _ => List Prop × Tree) (fun v H => ([], .done v H)) (fun s => ([], .stop s)) (fun p _ ih => (p :: ih.1, ih.2)) (fun b t f _ _ => ([], .fork b t f)) (fun n => ([], .stuck n)) (fun k _ => ([], .any k)) t
theorem outN_ob {t : Tree} {ps : List Prop} (h : (outN t).1 = ps) (hp : ∀ p ∈ ps, p) {D : SV → List SO → Prop} {S : SS → Prop} (ht : ((outN t).2).Ob D S) : t.Ob D S := by
  induction t generalizing ps with
  | need p t ih =>
    have h : p :: (outN t).1 = ps := h
    subst h
    exact ⟨hp p List.mem_cons_self, ih rfl (fun q hq => hp q (List.mem_cons_of_mem _ hq)) ht⟩
  | done => exact ht
  | stop => exact ht
  | fork => exact ht
  | stuck => exact ht
  | any => exact ht

/-- a fork whose condition holds -/
noncomputable def outF1 (js : List Nat) (t : Tree) : Option (Bool × (List Prop × Option (SV × List (Option SO)))) :=
  Tree.rec (motive := fun _ => Option (Bool × (List Prop × Option (SV × List (Option SO))))) (fun _ _ => none) (fun _ => none) (fun _ _ _ => none) (fun b t _ _ _ => some (b, outP js t)) (fun _ => none) (fun _ _ => none) t
theorem outF1_ob {js : List Nat} {t : Tree} {b : Bool} {o : List Prop × Option (SV × List (Option SO))} (h : outF1 js t = some (b, o)) (hb : b = true) {D : SV → List SO → Prop} {S : SS → Prop} (ht : ∀ t', outP js t' = o → t'.Ob D S) : t.Ob D S := by
  cases t with
  | fork b' t f =>
    have h' : some (b', outP js t) = some (b, o) := h
    obtain ⟨h1, h2⟩ := Prod.mk.inj (Option.some.inj h')
    subst h1; subst hb
    exact ⟨fun _ => ht t h2, fun h => by cases h⟩
  | done => cases h
  | stop => cases h
  | need => cases h
  | stuck => cases h
  | any => cases h

/-- a summary from a small run's outcome -/
theorem sum_outG {c : Cfg} (hc : CfgOK c) (n : Nat) {O : Nat → Prop} {w0 w : World} {β : Val} {H : List SO} {base : Nat} {f : FuncId} {vs : List Value} (hH : HeapRel0 c.P O w0 β H w)
    (I : Ifc) (hgl : ∀ g j, c.glob g = some j → I.known j = true ∧ ∃ l, β (I.big j) = some l ∧ l.blk = g ∧ l.off = 0) (ha : SV.denL β (SV.renL I.big I.args) = some vs) (hI : I.Fits H) {r : SumRes} (keep : List Nat) (hk : ∀ j ∈ keep, I.names.length ≤ j) (hkn : keep.Nodup)
    {js : List Nat} {ps : List Prop} {v : SV} {es : List (Option SO)} (h : outP js (callSim c n f I.args I.ents) = (ps, some (v, es))) (hp : ∀ p ∈ ps, p) (hD : ∀ H2 : List SO, js.map (fun j => H2[j]?) = es → I.Ends base keep r v H2) : SumSem c.P H β w base f vs r :=
  sum_runG hc n hH I hgl ha hI keep hk hkn (outP_ob h hp hD)
theorem sum_out {c : Cfg} (hc : CfgOK c) (hgl : c.glob = fun _ => none) (n : Nat) {O : Nat → Prop} {w0 w : World} {β : Val} {H : List SO} {base : Nat} {f : FuncId} {vs : List Value} (hH : HeapRel0 c.P O w0 β H w)
    (I : Ifc) (ha : SV.denL β (SV.renL I.big I.args) = some vs) (hI : I.Fits H) {r : SumRes} (keep : List Nat) (hk : ∀ j ∈ keep, I.names.length ≤ j) (hkn : keep.Nodup)
    {js : List Nat} {ps : List Prop} {v : SV} {es : List (Option SO)} (h : outP js (callSim c n f I.args I.ents) = (ps, some (v, es))) (hp : ∀ p ∈ ps, p) (hD : ∀ H2 : List SO, js.map (fun j => H2[j]?) = es → I.Ends base keep r v H2) : SumSem c.P H β w base f vs r :=
  sum_run hc hgl n hH I ha hI keep hk hkn (outP_ob h hp hD)

theorem sum_outF {c : Cfg} (hc : CfgOK c) (hgl : c.glob = fun _ => none) (n : Nat) {O : Nat → Prop} {w0 w : World} {β : Val} {H : List SO} {base : Nat} {f : FuncId} {vs : List Value} (hH : HeapRel0 c.P O w0 β H w)
    (I : Ifc) (ha : SV.denL β (SV.renL I.big I.args) = some vs) (hI : I.Fits H) {r : SumRes} (keep : List Nat) (hk : ∀ j ∈ keep, I.names.length ≤ j) (hkn : keep.Nodup)
    {js : List Nat} {b : Bool} {o o' : List Prop × Option (SV × List (Option SO))} (h : outF js (callSim c n f I.args I.ents) = some (b, o, o')) (ht : b = true → ∀ t', outP js t' = o → t'.Ob (I.Ends base keep r) fun _ => False) (hf : b = false → ∀ t', outP js t' = o' → t'.Ob (I.Ends base keep r) fun _ => False) : SumSem c.P H β w base f vs r :=
  sum_run hc hgl n hH I ha hI keep hk hkn (outF_ob h ht hf)

end Go.Sim
