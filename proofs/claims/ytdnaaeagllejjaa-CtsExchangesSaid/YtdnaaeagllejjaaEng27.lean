/-
  The symbolic simulator, twenty-seventh part: a summary of a function from its run on a small heap, in which nothing but what it is given has a name.
-/
import Derived.Test.YtdnaaeagllejjaaEng26
namespace Go.Sim
variable {α : Type}

/- Names turned. -/
def SA.ren (f : Nat → Nat) (a : SA) : SA := ⟨f a.nm, a.off⟩
def SC.ren (f : Nat → Nat) : SC → SC
  | .lit n => .lit n
  | .sym n => .sym n
  | .rest nm k => .rest (f nm) k
def SFn.ren (f : Nat → Nat) : SFn → SFn
  | .fn g => .fn g
  | .yield nm => .yield (f nm)
mutual
def SV.ren (f : Nat → Nat) : SV → SV
  | .int k n => .int k n
  | .bool b => .bool b
  | .str s => .str s
  | .ptr a => .ptr (a.ren f)
  | .nilPtr => .nilPtr
  | .slice a l c => .slice (a.ren f) l (c.ren f)
  | .nilSlice => .nilSlice
  | .map nm => .map (f nm)
  | .nilMap => .nilMap
  | .func g xs ys => .func (g.ren f) (SV.renL f xs) (SV.renL f ys)
  | .nilFunc => .nilFunc
  | .iface t v => .iface t (v.ren f)
  | .nilIface => .nilIface
  | .agg l => .agg (SV.renL f l)
  | .tuple l => .tuple (SV.renL f l)
  | .val v => .val v
  | .tail a n l c => .tail (a.ren f) n l (c.ren f)
def SV.renL (f : Nat → Nat) : List SV → List SV
  | [] => []
  | v :: l => v.ren f :: SV.renL f l
end
theorem SC.den_ren (f : Nat → Nat) (β : Val) (c : SC) : (c.ren f).den β = c.den (fun n => β (f n)) := by cases c <;> rfl
theorem SFn.den_ren (f : Nat → Nat) (β : Val) (c : SFn) : (c.ren f).den β = c.den (fun n => β (f n)) := by cases c <;> rfl
mutual
theorem SV.den_ren (f : Nat → Nat) (β : Val) : (v : SV) → (v.ren f).den β = v.den (fun n => β (f n))
  | .int _ _ => rfl
  | .bool _ => rfl
  | .str _ => rfl
  | .ptr _ => rfl
  | .nilPtr => rfl
  | .slice a l c => by simp only [SV.ren, SV.den, SC.den_ren]; rfl
  | .nilSlice => rfl
  | .map _ => rfl
  | .nilMap => rfl
  | .func g xs ys => by simp only [SV.ren, SV.den, SFn.den_ren, SV.denL_ren f β xs, SV.denL_ren f β ys]
  | .nilFunc => rfl
  | .iface t v => by simp only [SV.ren, SV.den, SV.den_ren f β v]
  | .nilIface => rfl
  | .agg l => by simp only [SV.ren, SV.den, SV.denL_ren f β l]
  | .tuple l => by simp only [SV.ren, SV.den, SV.denL_ren f β l]
  | .val _ => rfl
  | .tail a n l c => by simp only [SV.ren, SV.den, SC.den_ren]; rfl
theorem SV.denL_ren (f : Nat → Nat) (β : Val) : (l : List SV) → SV.denL β (SV.renL f l) = SV.denL (fun n => β (f n)) l
  | [] => rfl
  | v :: l => by simp only [SV.renL, SV.denL, SV.den_ren f β v, SV.denL_ren f β l]
end
/- What is named. -/
def SC.uses (p : Nat → Bool) : SC → Bool
  | .rest nm _ => p nm
  | _ => true
def SFn.uses (p : Nat → Bool) : SFn → Bool
  | .yield nm => p nm
  | _ => true
mutual
def SV.uses (p : Nat → Bool) : SV → Bool
  | .ptr a => p a.nm
  | .slice a _ c => p a.nm && c.uses p
  | .tail a _ _ c => p a.nm && c.uses p
  | .map nm => p nm
  | .func g xs ys => g.uses p && (SV.usesL p xs && SV.usesL p ys)
  | .iface _ v => v.uses p
  | .agg l => SV.usesL p l
  | .tuple l => SV.usesL p l
  | _ => true
def SV.usesL (p : Nat → Bool) : List SV → Bool
  | [] => true
  | v :: l => v.uses p && SV.usesL p l
end
theorem SC.den_uses {p : Nat → Bool} {β β' : Val} (hp : ∀ n, p n = true → β n = β' n) {c : SC} (h : c.uses p = true) : c.den β = c.den β' := by
  cases c with
  | rest nm k => simp only [SC.den, hp nm h]
  | _ => rfl
theorem SFn.den_uses {p : Nat → Bool} {β β' : Val} (hp : ∀ n, p n = true → β n = β' n) {c : SFn} (h : c.uses p = true) : c.den β = c.den β' := by
  cases c with
  | yield nm => simp only [SFn.den, hp nm h]
  | _ => rfl
mutual
theorem SV.den_uses {p : Nat → Bool} {β β' : Val} (hp : ∀ n, p n = true → β n = β' n) : (v : SV) → v.uses p = true → v.den β = v.den β'
  | .int _ _, _ => rfl
  | .bool _, _ => rfl
  | .str _, _ => rfl
  | .ptr a, h => by simp only [SV.den, SA.den, hp a.nm h]
  | .nilPtr, _ => rfl
  | .slice a l c, h => by
    simp only [SV.uses, Bool.and_eq_true] at h
    simp only [SV.den, SA.den, hp a.nm h.1, SC.den_uses hp h.2]
  | .nilSlice, _ => rfl
  | .map nm, h => by simp only [SV.den, hp nm h]
  | .nilMap, _ => rfl
  | .func g xs ys, h => by
    simp only [SV.uses, Bool.and_eq_true] at h
    simp only [SV.den, SFn.den_uses hp h.1, SV.denL_uses hp xs h.2.1, SV.denL_uses hp ys h.2.2]
  | .nilFunc, _ => rfl
  | .iface t v, h => by simp only [SV.den, SV.den_uses hp v h]
  | .nilIface, _ => rfl
  | .agg l, h => by simp only [SV.den, SV.denL_uses hp l h]
  | .tuple l, h => by simp only [SV.den, SV.denL_uses hp l h]
  | .val _, _ => rfl
  | .tail a n l c, h => by
    simp only [SV.uses, Bool.and_eq_true] at h
    simp only [SV.den, SA.den, hp a.nm h.1, SC.den_uses hp h.2]
theorem SV.denL_uses {p : Nat → Bool} {β β' : Val} (hp : ∀ n, p n = true → β n = β' n) : (l : List SV) → SV.usesL p l = true → SV.denL β l = SV.denL β' l
  | [], _ => rfl
  | v :: l, h => by
    simp only [SV.usesL, Bool.and_eq_true] at h
    simp only [SV.denL, SV.den_uses hp v h.1, SV.denL_uses hp l h.2]
end
def Cells.ren (f : Nat → Nat) : Cells → Cells
  | .lst l => .lst (SV.renL f l)
  | .fn g n => .fn (fun i => (g i).ren f) n
def Cells.Uses (p : Nat → Bool) : Cells → Prop
  | .lst l => SV.usesL p l = true
  | .fn g _ => ∀ i, (g i).uses p = true
theorem CellsRel.ren {f : Nat → Nat} {β β' : Val} {p : Nat → Bool} {c : Cells} (hu : c.Uses p) (hp : ∀ n, p n = true → β (f n) = β' n) {vs : List Value} : CellsRel β (c.ren f) vs ↔ CellsRel β' c vs := by
  cases c with
  | lst l =>
    show SV.denL β (SV.renL f l) = some vs ↔ SV.denL β' l = some vs
    rw [SV.denL_ren, SV.denL_uses hp l hu]
  | fn g n =>
    show (vs.length = n ∧ ∀ i x, vs[i]? = some x → ((g i).ren f).den β = some x) ↔ (vs.length = n ∧ ∀ i x, vs[i]? = some x → (g i).den β' = some x)
    have : ∀ i, ((g i).ren f).den β = (g i).den β' := fun i => by rw [SV.den_ren, SV.den_uses hp _ (hu i)]
    simp only [this]
def SO.ren (f : Nat → Nat) : SO → SO
  | .own c w e => .own (c.ren f) w e
  | .row c => .row (c.ren f)
  | e => e

/-- what a function is given -/
structure Ifc where
  names : List Nat
  ents : List SO
  args : List SV
noncomputable def Ifc.big (I : Ifc) (j : Nat) : Nat := (nth I.names j).getD 0
noncomputable def Ifc.known (I : Ifc) (j : Nat) : Bool := Nat.blt j (lenN I.names)
def SO.placed : SO → Bool
  | .own _ _ _ => true
  | .row _ => true
  | _ => false
/-- whoever has the one has the other -/
def SV.Imp (v u : SV) : Prop := ∀ β x, v.den β = some x → u.den β = some x
def SV.ImpL (l m : List SV) : Prop := ∀ β vs, SV.denL β l = some vs → SV.denL β m = some vs
theorem SV.ImpL.refl (l : List SV) : SV.ImpL l l := fun _ _ h => h
theorem SV.impL_of_eq {l m : List SV} (h : l = m) : SV.ImpL l m := h ▸ .refl l
def Cells.Imp (c d : Cells) : Prop := ∀ β vs, CellsRel β c vs → CellsRel β d vs
def Cells.Front (c d : Cells) : Prop := ∀ β vs, CellsRel β c vs → ∃ k, CellsRel β d (vs.take k)
theorem SV.Imp.refl (v : SV) : v.Imp v := fun _ _ h => h
theorem Cells.Imp.refl (c : Cells) : c.Imp c := fun _ _ h => h
theorem Cells.Imp.trans {a b c : Cells} (h : a.Imp b) (k : b.Imp c) : a.Imp c := fun β vs x => k β vs (h β vs x)
theorem Cells.Imp.front {c d : Cells} (h : c.Imp d) : c.Front d := fun β vs x => ⟨vs.length, by rw [List.take_length]; exact h β vs x⟩
/-- the small entry is the great one's; or a name alone -/
def Taken (f : Nat → Nat) (E e : SO) : Prop :=
  match E with
  | .own c w el => ∃ c0, e = .own c0 w el ∧ c0.Imp (c.ren f)
  | .row c => ∃ c0, (e = .row c0 ∨ ∃ w el, e = .own c0 w el) ∧ c0.Front (c.ren f)
  | .gone => e.placed = true
  | _ => False
def SO.CUses (p : Nat → Bool) : SO → Prop
  | .own c _ _ => c.Uses p
  | .row c => c.Uses p
  | .gone => True
  | _ => False
structure Ifc.Fits (I : Ifc) (H : List SO) : Prop where
  len : I.ents.length = I.names.length
  nodup : ∀ (i j nm : Nat), I.names[i]? = some nm → I.names[j]? = some nm → i = j
  uargs : SV.usesL I.known I.args = true
  ent : ∀ (j : Nat) (E : SO), I.ents[j]? = some E → ∃ e, H[I.big j]? = some e ∧ Taken I.big E e
  uent : ∀ (j : Nat) (E : SO), I.ents[j]? = some E → E.CUses I.known
/-- the small valuation -/
noncomputable def Ifc.val (I : Ifc) (β : Val) : Val := fun j => if I.known j then β (I.big j) else none
def Ifc.owns (I : Ifc) (β : Val) (b : Nat) : Prop := ∃ (j : Nat) (c : Cells) (w : Bool) (el : TypeId) (l : Loc), I.ents[j]? = some (.own c w el) ∧ β (I.big j) = some l ∧ l.blk = b
theorem Ifc.known_iff (I : Ifc) (j : Nat) : I.known j = true ↔ j < I.names.length := by
  unfold Ifc.known
  rw [lenN_eq]
  constructor
  · intro h; have := Nat.le_of_ble_eq_true h; omega
  · intro h; exact Nat.ble_eq_true_of_le h
theorem Ifc.val_known {I : Ifc} {β : Val} : ∀ n, I.known n = true → β (I.big n) = I.val β n := fun n h => by unfold Ifc.val; rw [if_pos h]
theorem Ifc.big_get {I : Ifc} {j : Nat} (h : j < I.names.length) : I.names[j]? = some (I.big j) := by
  unfold Ifc.big
  rw [nth_eq, List.getElem?_eq_getElem h]; rfl

theorem World.cell_of_block {w w' : World} {a : Addr} (h : w'.heap[a.block]? = w.heap[a.block]?) : w'.cell? a = w.cell? a := by
  unfold World.cell?
  rw [h]

theorem Ifc.heap {P : Program} {O : Nat → Prop} {w0 w : World} {β : Val} {H : List SO} {I : Ifc} (h : HeapRel0 P O w0 β H w) (hI : I.Fits H) : HeapRel P (I.owns β) w (I.val β) I.ents w := by
  have hj : ∀ (j : Nat) (E : SO), I.ents[j]? = some E → j < I.names.length := fun j E he => by
    rw [← hI.len]; exact (List.getElem?_eq_some_iff.1 he).1
  have hval : ∀ (j : Nat) (E : SO), I.ents[j]? = some E → I.val β j = β (I.big j) := fun j E he => by
    exact (Ifc.val_known j ((I.known_iff j).2 (hj j E he))).symm
  have hne : ∀ (i j : Nat) (E E' : SO), I.ents[i]? = some E → I.ents[j]? = some E' → i ≠ j → I.big i ≠ I.big j := fun i j E E' h1 h2 hij heq =>
    hij (hI.nodup i j (I.big i) (Ifc.big_get (hj i E h1)) (by rw [heq]; exact Ifc.big_get (hj j E' h2)))
  refine ⟨⟨fun n E hn => ?_, fun n m E E' l l' hn hm ho ho' hnm hl hl' => ?_, fun n E l hn ho hl => ?_, ⟨rfl, rfl, rfl, Nat.le_refl _, fun _ _ _ => rfl⟩⟩, fun n hn => ?_⟩
  · obtain ⟨e, he, ht⟩ := hI.ent n E hn
    have hu := hI.uent n E hn
    have hv := hval n E hn
    have h0 := h.entries _ e he
    cases E with
    | own c wh el =>
      obtain ⟨c0, rfl, himp⟩ := ht
      obtain ⟨l, vs, rest, lo, hi, hl, h0', hc, hh, hfz, hw, hcap⟩ := h0
      exact ⟨l, vs, rest, lo, hi, hv.trans hl, h0', (CellsRel.ren hu Ifc.val_known).1 (himp _ _ hc), hh, hfz, hw, hcap⟩
    | row c =>
      have htake : ∀ (vs : List Value) (k i : Nat) (x : Value), (vs.take k)[i]? = some x → vs[i]? = some x := by
        intro vs k i x h
        rw [List.getElem?_take] at h
        split at h
        · exact h
        · cases h
      obtain ⟨c0, ht, himp⟩ := ht
      rcases ht with rfl | ⟨wh, el, rfl⟩
      · obtain ⟨l, vs, hl, hc, hx⟩ := h0
        obtain ⟨kk, hc⟩ := himp _ _ hc
        refine ⟨l, vs.take kk, hv.trans hl, (CellsRel.ren hu Ifc.val_known).1 hc, fun i x hi => ?_⟩
        obtain ⟨h1, h2, h3⟩ := hx i x (htake _ _ _ _ hi)
        refine ⟨Nat.lt_of_lt_of_le h1 h.keep.size, ?_, ?_⟩
        · rintro ⟨j, c', w', el', l', hj', hl', hb⟩
          obtain ⟨e', he', ht'⟩ := hI.ent j _ hj'
          obtain ⟨c1, rfl, _⟩ := ht'
          rcases h.fresh _ _ l' he' rfl hl' with h4 | h4
          · omega
          · exact h2 (hb ▸ h4)
        · rw [World.cell_of_block (h.keep.block _ h1 h2)]; exact h3
      · obtain ⟨l, vs, rest, lo, hi, hl, h0', hc, hh, hfz, hw, hcap⟩ := h0
        obtain ⟨kk, hc⟩ := himp _ _ hc
        refine ⟨l, vs.take kk, hv.trans hl, (CellsRel.ren hu Ifc.val_known).1 hc, fun i x hi0 => ⟨(Array.getElem?_eq_some_iff.1 hh).1, ?_, ?_⟩⟩
        · rintro ⟨j, c', w', el', l', hj', hl', hb⟩
          obtain ⟨e', he', ht'⟩ := hI.ent j _ hj'
          obtain ⟨c1, rfl, _⟩ := ht'
          by_cases hnj : n = j
          · subst hnj; rw [hn] at hj'; cases hj'
          · exact h.sep _ _ _ _ l l' he he' rfl rfl (hne n j _ _ hn hj' hnj) hl hl' hb.symm
        · unfold World.cell?
          rw [hh, h0', Nat.zero_add]
          have hi' := htake _ _ _ _ hi0
          have hlt := (List.getElem?_eq_some_iff.1 hi').1
          simp only [List.getElem?_toArray, List.getElem?_append_left hlt, hi']
          rfl
    | loop => exact hu.elim
    | deferred => exact hu.elim
    | gone => trivial
  · obtain ⟨e, he, ht⟩ := hI.ent n E hn
    obtain ⟨e', he', ht'⟩ := hI.ent m E' hm
    rw [hval n E hn] at hl
    rw [hval m E' hm] at hl'
    cases E with
    | own c wh el =>
      cases E' with
      | own c' wh' el' =>
        obtain ⟨c1, rfl, _⟩ := ht
        obtain ⟨c2, rfl, _⟩ := ht'
        exact h.sep _ _ _ _ l l' he he' rfl rfl (hne n m _ _ hn hm hnm) hl hl'
      | row => cases ho'
      | loop => exact (hI.uent m _ hm).elim
      | deferred => exact (hI.uent m _ hm).elim
      | gone => cases ho'
    | row => cases ho
    | loop => exact (hI.uent n _ hn).elim
    | deferred => exact (hI.uent n _ hn).elim
    | gone => cases ho
  · rw [hval n E hn] at hl
    cases E with
    | own c wh el => exact .inr ⟨n, c, wh, el, l, hn, hl, rfl⟩
    | row => cases ho
    | loop => exact (hI.uent n _ hn).elim
    | deferred => exact (hI.uent n _ hn).elim
    | gone => cases ho
  · unfold Ifc.val
    rw [if_neg]
    rw [I.known_iff, ← hI.len]; omega

/-- the great names of the small ones behind the run: those that were given, and those of what is kept -/
noncomputable def idxN (k : Nat) (l : List Nat) : Nat := List.rec (motive := fun _ => Nat) 0 (fun a _ ih => boolC (Nat.beq a k) 0 (Nat.succ ih)) l
noncomputable def Ifc.out (I : Ifc) (base : Nat) (keep : List Nat) (j : Nat) : Nat := boolC (I.known j) (I.big j) (base + idxN j keep)
noncomputable def Ifc.seen (I : Ifc) (keep : List Nat) (j : Nat) : Bool := boolC (I.known j) true (memN j keep)
/-- the small entry is the great one's, at last -/
def Given (p : Nat → Bool) (g : Nat → Nat) (E : Option SO) (e : SO) : Prop := ∃ c w el c', E = some (.own c w el) ∧ c.Uses p ∧ (c.ren g).Imp c' ∧ e = .own c' w el
/-- the small outcome is the great one's -/
structure Ifc.Out (I : Ifc) (base : Nat) (turn keep : List Nat) (r : SumRes) (v : SV) (H : List SO) : Prop where
  val : (v.ren (I.out base keep)).Imp r.v
  uv : v.uses (I.seen keep) = true
  setsLen : r.sets.length = turn.length
  sets : ∀ (i j : Nat), turn[i]? = some j → ∃ e, r.sets[i]? = some (I.big j, e) ∧ Given (I.seen keep) (I.out base keep) H[j]? e
  newsLen : r.news.length = keep.length
  news : ∀ (i j : Nat), keep[i]? = some j → ∃ e, r.news[i]? = some e ∧ Given (I.seen keep) (I.out base keep) H[j]? e
theorem idxN_spec {k : Nat} {l : List Nat} (h : k ∈ l) : l[idxN k l]? = some k := by
  induction l with
  | nil => cases h
  | cons a l ih =>
    show (a :: l)[boolC (Nat.beq a k) 0 (Nat.succ (idxN k l))]? = _
    by_cases ha : a = k
    · subst ha; rw [show Nat.beq a a = true from Nat.beq_refl a]; rfl
    · rw [show Nat.beq a k = false from Bool.eq_false_iff.2 fun h => ha (Nat.eq_of_beq_eq_true h)]
      simpa using ih ((List.mem_cons.1 h).resolve_left fun e => ha e.symm)
theorem memN_iff {n : Nat} {l : List Nat} : memN n l = true ↔ n ∈ l := by
  constructor
  · intro h
    induction l with
    | nil => cases h
    | cons a l ih =>
      have h' : boolC (Nat.beq a n) true (memN n l) = true := h
      by_cases ha : a = n
      · subst ha; exact List.mem_cons_self
      · rw [show Nat.beq a n = false from Bool.eq_false_iff.2 fun h => ha (Nat.eq_of_beq_eq_true h)] at h'
        exact List.mem_cons_of_mem _ (ih h')
  · exact memN_spec

/-- A SUMMARY FROM A SMALL RUN -/
theorem sum_small {c : Cfg} (hc : CfgOK c) {n : Nat} {O : Nat → Prop} {w0 w : World} {β : Val} {H : List SO} {base : Nat} {f : FuncId} {vs : List Value} (hH : HeapRel0 c.P O w0 β H w)
    (I : Ifc) (hgl : ∀ g j, c.glob g = some j → I.known j = true ∧ ∃ l, β (I.big j) = some l ∧ l.blk = g ∧ l.off = 0) (ha : SV.denL β (SV.renL I.big I.args) = some vs) (hI : I.Fits H) {r : SumRes} (turn keep : List Nat) (ht1 : ∀ (j : Nat) c w el, I.ents[j]? = some (.own c w el) → j ∈ turn) (ht2 : ∀ j ∈ turn, ∃ c w el, I.ents[j]? = some (.own c w el)) (hk : ∀ j ∈ keep, I.names.length ≤ j) (hkn : keep.Nodup) (htn : turn.Nodup := by simp)
    (hob : (callSim c n f I.args I.ents).Ob (I.Out base turn keep r) fun _ => False) : SumSem c.P H β w base f vs r := by
  intro hfree
  have hH' := Ifc.heap hH hI
  have ha' : SV.denL (I.val β) I.args = some vs := by
    rw [SV.denL_ren, SV.denL_uses Ifc.val_known _ hI.uargs] at ha; exact ha
  have hbody : ∃ fn, c.P.funcs[f]? = some fn ∧ fn.body.isSome = true := by
    unfold callSim at hob
    cases hg : enterF c.P f I.args with
    | none => rw [hg] at hob; exact hob.elim
    | some g => exact (enter_rel hg ha').2
  have hcalls := calls_of hc hH' (fun g j hg => let ⟨hk, l, h1, h2⟩ := hgl g j hg; ⟨l, by rw [← Ifc.val_known j hk]; exact h1, h2⟩) ha' hob
  have hown : ∀ j ∈ turn, ∃ cb wb el l vs rest lo hi, H[I.big j]? = some (.own cb wb el) ∧ β (I.big j) = some l ∧ I.val β j = some l ∧ j < I.names.length ∧ w.heap[l.blk]? = some (.cells (vs ++ rest : List Value).toArray el (lo, hi)) := by
    intro j hj
    obtain ⟨cc, ww, el, he⟩ := ht2 j hj
    obtain ⟨e, he', ht⟩ := hI.ent j _ he
    obtain ⟨c1, rfl, _⟩ := ht
    obtain ⟨l, vs, rest, lo, hi, hl, _, _, hh, _⟩ := hH.entries _ _ he'
    have hjl : j < I.names.length := by rw [← hI.len]; exact (List.getElem?_eq_some_iff.1 he).1
    exact ⟨_, _, _, l, vs, rest, lo, hi, he', hl, by rw [← Ifc.val_known j ((I.known_iff j).2 hjl)]; exact hl, hjl, hh⟩
  -- what is turned
  have hsets : ∀ (v : SV) (H'' : List SO), I.Out base turn keep r v H'' → ∀ m e, (m, e) ∈ r.sets → ∃ j ∈ turn, m = I.big j ∧ Given (I.seen keep) (I.out base keep) H''[j]? e ∧ ∃ i : Nat, turn[i]? = some j ∧ r.sets[i]? = some (m, e) := by
    intro v H'' hout m e hm
    obtain ⟨i, hi⟩ := List.mem_iff_getElem?.1 hm
    have hil := (List.getElem?_eq_some_iff.1 hi).1
    rw [hout.setsLen] at hil
    obtain ⟨e', h1, h2⟩ := hout.sets i _ (List.getElem?_eq_getElem hil)
    rw [hi] at h1
    cases h1
    exact ⟨_, List.getElem_mem hil, rfl, h2, i, List.getElem?_eq_getElem hil, hi⟩
  refine ⟨?_, .inl ⟨hbody, ?_⟩⟩
  · intro m e hm
    -- what is turned was a block of one's own
    obtain ⟨e', w', fr, hcame, _⟩ := hcalls []
    obtain ⟨v, H'', x, β'', _, hout, _⟩ := hcame
    obtain ⟨j, hj, rfl, _⟩ := hsets v H'' hout m e hm
    obtain ⟨cb, wb, el, l, vs, rest, lo, hi, h1, _⟩ := hown j hj
    exact ⟨_, h1, rfl⟩
  · intro cs
    obtain ⟨e', w', fr, hcame, hst⟩ := hcalls cs
    refine ⟨e', w', fr, ?_, hst⟩
    obtain ⟨v, H'', x, β'', rfl, hout, hle, hv, hH2⟩ := hcame
    -- the great valuation behind the call
    let βb : Val := fun n => if base ≤ n ∧ n < base + keep.length then (keep[n - base]?).bind β'' else β n
    have hlenn : r.news.length = keep.length := hout.newsLen
    have hfree' : ∀ i, i < keep.length → β (base + i) = none := fun i hi => hfree i (by rw [hlenn]; exact hi)
    have hβle : β.le βb := by
      intro n l hn
      show (if _ then _ else _) = _
      rw [if_neg]
      · exact hn
      · rintro ⟨h1, h2⟩
        have := hfree' (n - base) (by omega)
        rw [show base + (n - base) = n from by omega, hn] at this; cases this
    have hseen : ∀ j, I.seen keep j = true → βb (I.out base keep j) = β'' j := by
      intro j hj
      unfold Ifc.seen at hj
      unfold Ifc.out
      cases hkn' : I.known j with
      | true =>
        rw [boolC_true]
        have hjl := (I.known_iff j).1 hkn'
        obtain ⟨E, hE⟩ : ∃ E, I.ents[j]? = some E := ⟨_, List.getElem?_eq_getElem (by rw [hI.len]; exact hjl)⟩
        obtain ⟨e, he, htk⟩ := hI.ent j E hE
        -- it stands for something
        have hsome : ∃ l, β (I.big j) = some l := by
          have h0 := hH.entries _ e he
          have hu := hI.uent j E hE
          have hplaced : e.placed = true := by
            cases E with
            | own cc ww el => obtain ⟨c1, rfl, _⟩ := htk; rfl
            | row cc => obtain ⟨c1, rfl | ⟨ww, el, rfl⟩, _⟩ := htk <;> rfl
            | loop => exact hu.elim
            | deferred => exact hu.elim
            | gone => exact htk
          cases e with
          | own cc ww el => obtain ⟨l, _, _, _, _, hl, _⟩ := h0; exact ⟨l, hl⟩
          | row cc => obtain ⟨l, _, hl, _⟩ := h0; exact ⟨l, hl⟩
          | loop => cases hplaced
          | deferred => cases hplaced
          | gone => cases hplaced
        obtain ⟨l, hl⟩ := hsome
        rw [hβle _ _ hl]
        have : I.val β j = some l := by rw [← Ifc.val_known j hkn']; exact hl
        rw [hle _ _ this]
      | false =>
        rw [hkn', boolC_false, memN_iff] at hj
        rw [boolC_false]
        have h1 := idxN_spec hj
        have h2 := (List.getElem?_eq_some_iff.1 h1).1
        show (if _ then _ else _) = _
        rw [if_pos (by omega), show base + idxN j keep - base = idxN j keep from by omega, h1]; rfl
    have hrenOwn : ∀ (j : Nat) (e : SO), Given (I.seen keep) (I.out base keep) H''[j]? e → I.seen keep j = true → e.owned = true ∧ OwnRel c.P βb w' (I.out base keep j) e := by
      intro j e hg hs
      obtain ⟨cc, ww, el, c', he, hu, himp, rfl⟩ := hg
      obtain ⟨l, vs, rest, lo, hi, hl, h0, hcl, hh, hfz, hw, hcap⟩ := hH2.entries j _ he
      exact ⟨rfl, l, vs, rest, lo, hi, (hseen j hs).trans hl, h0, himp _ _ ((CellsRel.ren hu hseen).2 hcl), hh, hfz, hw, hcap⟩
    have hseenT : ∀ j ∈ turn, I.seen keep j = true ∧ I.out base keep j = I.big j := by
      intro j hj
      obtain ⟨_, _, _, _, _, _, _, _, _, _, _, hjl, _⟩ := hown j hj
      have := (I.known_iff j).2 hjl
      unfold Ifc.seen Ifc.out
      rw [this]; exact ⟨rfl, rfl⟩
    have hseenK : ∀ j ∈ keep, I.seen keep j = true ∧ I.known j = false := by
      intro j hj
      have hnk : I.known j = false := by
        cases hx : I.known j with
        | false => rfl
        | true => have := (I.known_iff j).1 hx; have := hk j hj; omega
      unfold Ifc.seen
      rw [hnk]; exact ⟨memN_spec hj, rfl⟩
    have hnewsAt : ∀ (i : Nat) (e : SO), r.news[i]? = some e → ∃ j, keep[i]? = some j ∧ Given (I.seen keep) (I.out base keep) H''[j]? e := by
      intro i e hi
      have hil := (List.getElem?_eq_some_iff.1 hi).1
      rw [hlenn] at hil
      obtain ⟨e', h1, h2⟩ := hout.news i _ (List.getElem?_eq_getElem hil)
      rw [hi] at h1; cases h1
      exact ⟨_, List.getElem?_eq_getElem hil, h2⟩
    refine ⟨x, βb, rfl, ?_, ⟨hβle, hH2.keep.os, hH2.keep.tape, hH2.keep.output, hH2.keep.size, ?_, ?_, ?_, ?_, ?_, ?_⟩⟩
    · refine hout.val _ _ ?_
      rw [SV.den_ren, SV.den_uses hseen _ hout.uv]; exact hv
    · intro n hn
      rw [hlenn] at hn
      show (if _ then _ else _) = _
      rw [if_neg (by omega)]
    · intro b hb hno
      refine hH2.keep.block b hb ?_
      rintro ⟨j, cc, ww, el, l, hj, hl, rfl⟩
      have hjt := ht1 j cc ww el hj
      obtain ⟨i, hi⟩ := List.mem_iff_getElem?.1 hjt
      obtain ⟨e, he, _⟩ := hout.sets i j hi
      exact hno (I.big j) e l (List.mem_of_getElem? he) hl rfl
    · intro m e e' h1 h2
      obtain ⟨j, hj, hm1, hg1, i1, ht1', hs1⟩ := hsets v H'' hout m e h1
      obtain ⟨k, hk', hm2, hg2, i2, ht2', hs2⟩ := hsets v H'' hout m e' h2
      obtain ⟨_, _, _, _, _, _, _, _, _, _, _, hjl, _⟩ := hown j hj
      obtain ⟨_, _, _, _, _, _, _, _, _, _, _, hkl, _⟩ := hown k hk'
      have hjk : k = j := hI.nodup k j (I.big k) (Ifc.big_get hkl) (by rw [← hm2, hm1]; exact Ifc.big_get hjl)
      subst hjk
      have : i1 = i2 := (List.getElem?_inj (List.getElem?_eq_some_iff.1 ht1').1 htn).1 (ht1'.trans ht2'.symm)
      subst this
      rw [hs1] at hs2
      exact (Prod.mk.inj (Option.some.inj hs2)).2
    · intro m e hm
      obtain ⟨j, hj, rfl, hg, _⟩ := hsets v H'' hout m e hm
      obtain ⟨hs, hb⟩ := hseenT j hj
      rw [← hb]
      exact (hrenOwn j e hg hs).2
    · intro i e hi
      obtain ⟨j, hj, hg⟩ := hnewsAt i e hi
      have hjm := List.mem_of_getElem? hj
      obtain ⟨hs, hnk⟩ := hseenK j hjm
      have hout' : I.out base keep j = base + i := by
        unfold Ifc.out
        rw [hnk, boolC_false]
        have h1 := idxN_spec hjm
        have : idxN j keep = i := (List.getElem?_inj (List.getElem?_eq_some_iff.1 h1).1 hkn).1 (h1.trans hj.symm)
        rw [this]
      obtain ⟨ho, hor⟩ := hrenOwn j e hg hs
      refine ⟨ho, hout' ▸ hor, ?_⟩
      obtain ⟨cc, ww, el, c', he, _⟩ := hg
      obtain ⟨l, vs2, rest, lo, hi2, hl, _⟩ := hH2.entries j _ he
      refine ⟨l, by rw [← hout', hseen j hs]; exact hl, .inl ?_⟩
      rcases hH2.fresh j _ l he rfl hl with h1 | ⟨k, ck, wk, ek, lk, hk1, hk2, hk3⟩
      · exact h1
      · exfalso
        -- a block that was given is still its own
        have hkt := ht1 k ck wk ek hk1
        obtain ⟨i3, hi3⟩ := List.mem_iff_getElem?.1 hkt
        obtain ⟨_, _, c2, w2, e2, _, he2, _⟩ := hout.sets i3 k hi3
        obtain ⟨_, _, _, l2, _, _, _, _, _, hb2, hv2, hkl, _⟩ := hown k hkt
        rw [hb2] at hk2; cases hk2
        refine hH2.sep k j _ _ lk l he2 he rfl rfl ?_ (hle _ _ hv2) hl hk3
        have := hk j hjm; omega
    · intro i j l l' hij hi hj hl hl'
      rw [hlenn] at hi hj
      have hone : ∀ i, i < keep.length → ∀ l, βb (base + i) = some l → ∃ k, keep[i]? = some k ∧ β'' k = some l := by
        intro i hi l hl
        have hl : (if base ≤ base + i ∧ base + i < base + keep.length then (keep[base + i - base]?).bind β'' else β (base + i)) = some l := hl
        rw [if_pos (by omega), show base + i - base = i from by omega, List.getElem?_eq_getElem hi] at hl
        exact ⟨_, List.getElem?_eq_getElem hi, hl⟩
      obtain ⟨k1, hk1, hb1⟩ := hone i hi l hl
      obtain ⟨k2, hk2, hb2⟩ := hone j hj l' hl'
      obtain ⟨_, _, c1, w1, e1, _, he1, _⟩ := hout.news i k1 hk1
      obtain ⟨_, _, c2, w2, e2, _, he2, _⟩ := hout.news j k2 hk2
      refine hH2.sep k1 k2 _ _ l l' he1 he2 rfl rfl (fun h => ?_) hb1 hb2
      subst h
      exact hij ((List.getElem?_inj (List.getElem?_eq_some_iff.1 hk1).1 hkn).1 (hk1.trans hk2.symm))

/- The plain case: nothing is turned, nothing is new. -/
theorem Ifc.Out.nil {I : Ifc} {base : Nat} {r v : SV} {H : List SO} (h : (v.ren (I.out base [])).Imp r) (hu : v.uses (I.seen []) = true) : I.Out base [] [] ⟨r, [], []⟩ v H :=
  ⟨h, hu, rfl, by simp, rfl, by simp⟩
theorem Cells.imp_of_eq {c d : Cells} (h : c = d) : c.Imp d := h ▸ .refl c
theorem SV.imp_of_eq {c d : SV} (h : c = d) : c.Imp d := h ▸ .refl c

end Go.Sim
