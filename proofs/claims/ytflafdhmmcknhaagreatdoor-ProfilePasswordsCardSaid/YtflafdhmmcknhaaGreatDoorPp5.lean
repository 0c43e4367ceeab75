/-
  Texts behind one another: the symbolic simulator and what it is told of the program.
-/
import Derived.Test.YtflafdhmmcknhaaGreatDoorPp4
import Derived.Test.YtflafdhmmcknhaaGreatDoorProg

/-
  The symbolic simulator, twenty-seventh part: a summary of a function from its run on a small heap, in which nothing but what it is given has a name.
-/
namespace Go.Sim
variable {α : Type}

/- Names turned. -/
def SA.ren (f : Nat → Nat) (a : SA) : SA := ⟨f a.nm, a.off⟩
def SC.ren (f : Nat → Nat) : SC → SC
  | .lit n => .lit n
  | .sym n => .sym n
  | .rest nm k => .rest (f nm) k
def SFn.ren (f : Nat → Nat) : SFn → SFn
  | .fn g => .fn g
  | .yield nm => .yield (f nm)
mutual
def SV.ren (f : Nat → Nat) : SV → SV
  | .int k n => .int k n
  | .bool b => .bool b
  | .str s => .str s
  | .ptr a => .ptr (a.ren f)
  | .nilPtr => .nilPtr
  | .slice a l c => .slice (a.ren f) l (c.ren f)
  | .nilSlice => .nilSlice
  | .map nm => .map (f nm)
  | .nilMap => .nilMap
  | .func g xs ys => .func (g.ren f) (SV.renL f xs) (SV.renL f ys)
  | .nilFunc => .nilFunc
  | .iface t v => .iface t (v.ren f)
  | .nilIface => .nilIface
  | .agg l => .agg (SV.renL f l)
  | .tuple l => .tuple (SV.renL f l)
  | .val v => .val v
  | .tail a n l c => .tail (a.ren f) n l (c.ren f)
def SV.renL (f : Nat → Nat) : List SV → List SV
  | [] => []
  | v :: l => v.ren f :: SV.renL f l
end
theorem SC.den_ren (f : Nat → Nat) (β : Val) (c : SC) : (c.ren f).den β = c.den (fun n => β (f n)) := by cases c <;> rfl
theorem SFn.den_ren (f : Nat → Nat) (β : Val) (c : SFn) : (c.ren f).den β = c.den (fun n => β (f n)) := by cases c <;> rfl
mutual
theorem SV.den_ren (f : Nat → Nat) (β : Val) : (v : SV) → (v.ren f).den β = v.den (fun n => β (f n))
  | .int _ _ => rfl
  | .bool _ => rfl
  | .str _ => rfl
  | .ptr _ => rfl
  | .nilPtr => rfl
  | .slice a l c => by simp only [SV.ren, SV.den, SC.den_ren]; rfl
  | .nilSlice => rfl
  | .map _ => rfl
  | .nilMap => rfl
  | .func g xs ys => by simp only [SV.ren, SV.den, SFn.den_ren, SV.denL_ren f β xs, SV.denL_ren f β ys]
  | .nilFunc => rfl
  | .iface t v => by simp only [SV.ren, SV.den, SV.den_ren f β v]
  | .nilIface => rfl
  | .agg l => by simp only [SV.ren, SV.den, SV.denL_ren f β l]
  | .tuple l => by simp only [SV.ren, SV.den, SV.denL_ren f β l]
  | .val _ => rfl
  | .tail a n l c => by simp only [SV.ren, SV.den, SC.den_ren]; rfl
theorem SV.denL_ren (f : Nat → Nat) (β : Val) : (l : List SV) → SV.denL β (SV.renL f l) = SV.denL (fun n => β (f n)) l
  | [] => rfl
  | v :: l => by simp only [SV.renL, SV.denL, SV.den_ren f β v, SV.denL_ren f β l]
end
/- What is named. -/
def SC.uses (p : Nat → Bool) : SC → Bool
  | .rest nm _ => p nm
  | _ => true
def SFn.uses (p : Nat → Bool) : SFn → Bool
  | .yield nm => p nm
  | _ => true
mutual
def SV.uses (p : Nat → Bool) : SV → Bool
  | .ptr a => p a.nm
  | .slice a _ c => p a.nm && c.uses p
  | .tail a _ _ c => p a.nm && c.uses p
  | .map nm => p nm
  | .func g xs ys => g.uses p && (SV.usesL p xs && SV.usesL p ys)
  | .iface _ v => v.uses p
  | .agg l => SV.usesL p l
  | .tuple l => SV.usesL p l
  | _ => true
def SV.usesL (p : Nat → Bool) : List SV → Bool
  | [] => true
  | v :: l => v.uses p && SV.usesL p l
end
theorem SC.den_uses {p : Nat → Bool} {β β' : Val} (hp : ∀ n, p n = true → β n = β' n) {c : SC} (h : c.uses p = true) : c.den β = c.den β' := by
  cases c with
  | rest nm k => simp only [SC.den, hp nm h]
  | _ => rfl
theorem SFn.den_uses {p : Nat → Bool} {β β' : Val} (hp : ∀ n, p n = true → β n = β' n) {c : SFn} (h : c.uses p = true) : c.den β = c.den β' := by
  cases c with
  | yield nm => simp only [SFn.den, hp nm h]
  | _ => rfl
mutual
theorem SV.den_uses {p : Nat → Bool} {β β' : Val} (hp : ∀ n, p n = true → β n = β' n) : (v : SV) → v.uses p = true → v.den β = v.den β'
  | .int _ _, _ => rfl
  | .bool _, _ => rfl
  | .str _, _ => rfl
  | .ptr a, h => by simp only [SV.den, SA.den, hp a.nm h]
  | .nilPtr, _ => rfl
  | .slice a l c, h => by
    simp only [SV.uses, Bool.and_eq_true] at h
    simp only [SV.den, SA.den, hp a.nm h.1, SC.den_uses hp h.2]
  | .nilSlice, _ => rfl
  | .map nm, h => by simp only [SV.den, hp nm h]
  | .nilMap, _ => rfl
  | .func g xs ys, h => by
    simp only [SV.uses, Bool.and_eq_true] at h
    simp only [SV.den, SFn.den_uses hp h.1, SV.denL_uses hp xs h.2.1, SV.denL_uses hp ys h.2.2]
  | .nilFunc, _ => rfl
  | .iface t v, h => by simp only [SV.den, SV.den_uses hp v h]
  | .nilIface, _ => rfl
  | .agg l, h => by simp only [SV.den, SV.denL_uses hp l h]
  | .tuple l, h => by simp only [SV.den, SV.denL_uses hp l h]
  | .val _, _ => rfl
  | .tail a n l c, h => by
    simp only [SV.uses, Bool.and_eq_true] at h
    simp only [SV.den, SA.den, hp a.nm h.1, SC.den_uses hp h.2]
theorem SV.denL_uses {p : Nat → Bool} {β β' : Val} (hp : ∀ n, p n = true → β n = β' n) : (l : List SV) → SV.usesL p l = true → SV.denL β l = SV.denL β' l
  | [], _ => rfl
  | v :: l, h => by
    simp only [SV.usesL, Bool.and_eq_true] at h
    simp only [SV.denL, SV.den_uses hp v h.1, SV.denL_uses hp l h.2]
end
def Cells.ren (f : Nat → Nat) : Cells → Cells
  | .lst l => .lst (SV.renL f l)
  | .fn g n => .fn (fun i => (g i).ren f) n
def Cells.Uses (p : Nat → Bool) : Cells → Prop
  | .lst l => SV.usesL p l = true
  | .fn g _ => ∀ i, (g i).uses p = true
theorem CellsRel.ren {f : Nat → Nat} {β β' : Val} {p : Nat → Bool} {c : Cells} (hu : c.Uses p) (hp : ∀ n, p n = true → β (f n) = β' n) {vs : List Value} : CellsRel β (c.ren f) vs ↔ CellsRel β' c vs := by
  cases c with
  | lst l =>
    show SV.denL β (SV.renL f l) = some vs ↔ SV.denL β' l = some vs
    rw [SV.denL_ren, SV.denL_uses hp l hu]
  | fn g n =>
    show (vs.length = n ∧ ∀ i x, vs[i]? = some x → ((g i).ren f).den β = some x) ↔ (vs.length = n ∧ ∀ i x, vs[i]? = some x → (g i).den β' = some x)
    have : ∀ i, ((g i).ren f).den β = (g i).den β' := fun i => by rw [SV.den_ren, SV.den_uses hp _ (hu i)]
    simp only [this]
def SO.ren (f : Nat → Nat) : SO → SO
  | .own c w e => .own (c.ren f) w e
  | .row c => .row (c.ren f)
  | e => e

/-- what a function is given -/
structure Ifc where
  names : List Nat
  ents : List SO
  args : List SV
noncomputable def Ifc.big (I : Ifc) (j : Nat) : Nat := (nth I.names j).getD 0
noncomputable def Ifc.known (I : Ifc) (j : Nat) : Bool := Nat.blt j (lenN I.names)
def SO.placed : SO → Bool
  | .own _ _ _ => true
  | .row _ => true
  | _ => false
/-- whoever has the one has the other -/
def SV.Imp (v u : SV) : Prop := ∀ β x, v.den β = some x → u.den β = some x
def SV.ImpL (l m : List SV) : Prop := ∀ β vs, SV.denL β l = some vs → SV.denL β m = some vs
theorem SV.ImpL.refl (l : List SV) : SV.ImpL l l := fun _ _ h => h
def Cells.Imp (c d : Cells) : Prop := ∀ β vs, CellsRel β c vs → CellsRel β d vs
def Cells.Front (c d : Cells) : Prop := ∀ β vs, CellsRel β c vs → ∃ k, CellsRel β d (vs.take k)
theorem SV.Imp.refl (v : SV) : v.Imp v := fun _ _ h => h
theorem Cells.Imp.refl (c : Cells) : c.Imp c := fun _ _ h => h
theorem Cells.Imp.front {c d : Cells} (h : c.Imp d) : c.Front d := fun β vs x => ⟨vs.length, by rw [List.take_length]; exact h β vs x⟩
/-- the small entry is the great one's; or a name alone -/
def Taken (f : Nat → Nat) (E e : SO) : Prop :=
  match E with
  | .own c w el => ∃ c0, e = .own c0 w el ∧ c0.Imp (c.ren f)
  | .row c => ∃ c0, (e = .row c0 ∨ ∃ w el, e = .own c0 w el) ∧ c0.Front (c.ren f)
  | .gone => e.placed = true
  | _ => False
def SO.CUses (p : Nat → Bool) : SO → Prop
  | .own c _ _ => c.Uses p
  | .row c => c.Uses p
  | .gone => True
  | _ => False
structure Ifc.Fits (I : Ifc) (H : List SO) : Prop where
  len : I.ents.length = I.names.length
  nodup : ∀ (i j nm : Nat), I.names[i]? = some nm → I.names[j]? = some nm → i = j
  uargs : SV.usesL I.known I.args = true
  ent : ∀ (j : Nat) (E : SO), I.ents[j]? = some E → ∃ e, H[I.big j]? = some e ∧ Taken I.big E e
  uent : ∀ (j : Nat) (E : SO), I.ents[j]? = some E → E.CUses I.known
/-- the small valuation -/
noncomputable def Ifc.val (I : Ifc) (β : Val) : Val := fun j => if I.known j then β (I.big j) else none
def Ifc.owns (I : Ifc) (β : Val) (b : Nat) : Prop := ∃ (j : Nat) (c : Cells) (w : Bool) (el : TypeId) (l : Loc), I.ents[j]? = some (.own c w el) ∧ β (I.big j) = some l ∧ l.blk = b
theorem Ifc.known_iff (I : Ifc) (j : Nat) : I.known j = true ↔ j < I.names.length := by
  unfold Ifc.known
  rw [lenN_eq]
  constructor
  · intro h; have := Nat.le_of_ble_eq_true h; omega
  · intro h; exact Nat.ble_eq_true_of_le h
theorem Ifc.val_known {I : Ifc} {β : Val} : ∀ n, I.known n = true → β (I.big n) = I.val β n := fun n h => by unfold Ifc.val; rw [if_pos h]
theorem Ifc.big_get {I : Ifc} {j : Nat} (h : j < I.names.length) : I.names[j]? = some (I.big j) := by
  unfold Ifc.big
  rw [nth_eq, List.getElem?_eq_getElem h]; rfl

theorem World.cell_of_block {w w' : World} {a : Addr} (h : w'.heap[a.block]? = w.heap[a.block]?) : w'.cell? a = w.cell? a := by
  unfold World.cell?
  rw [h]

theorem Ifc.heap {P : Program} {O : Nat → Prop} {w0 w : World} {β : Val} {H : List SO} {I : Ifc} (h : HeapRel0 P O w0 β H w) (hI : I.Fits H) : HeapRel P (I.owns β) w (I.val β) I.ents w := by
  have hj : ∀ (j : Nat) (E : SO), I.ents[j]? = some E → j < I.names.length := fun j E he => by
    rw [← hI.len]; exact (List.getElem?_eq_some_iff.1 he).1
  have hval : ∀ (j : Nat) (E : SO), I.ents[j]? = some E → I.val β j = β (I.big j) := fun j E he => by
    exact (Ifc.val_known j ((I.known_iff j).2 (hj j E he))).symm
  have hne : ∀ (i j : Nat) (E E' : SO), I.ents[i]? = some E → I.ents[j]? = some E' → i ≠ j → I.big i ≠ I.big j := fun i j E E' h1 h2 hij heq =>
    hij (hI.nodup i j (I.big i) (Ifc.big_get (hj i E h1)) (by rw [heq]; exact Ifc.big_get (hj j E' h2)))
  refine ⟨⟨fun n E hn => ?_, fun n m E E' l l' hn hm ho ho' hnm hl hl' => ?_, fun n E l hn ho hl => ?_, ⟨rfl, rfl, rfl, Nat.le_refl _, fun _ _ _ => rfl⟩⟩, fun n hn => ?_⟩
  · obtain ⟨e, he, ht⟩ := hI.ent n E hn
    have hu := hI.uent n E hn
    have hv := hval n E hn
    have h0 := h.entries _ e he
    cases E with
    | own c wh el =>
      obtain ⟨c0, rfl, himp⟩ := ht
      obtain ⟨l, vs, rest, lo, hi, hl, h0', hc, hh, hfz, hw, hcap⟩ := h0
      exact ⟨l, vs, rest, lo, hi, hv.trans hl, h0', (CellsRel.ren hu Ifc.val_known).1 (himp _ _ hc), hh, hfz, hw, hcap⟩
    | row c =>
      have htake : ∀ (vs : List Value) (k i : Nat) (x : Value), (vs.take k)[i]? = some x → vs[i]? = some x := by
        intro vs k i x h
        rw [List.getElem?_take] at h
        split at h
        · exact h
        · cases h
      obtain ⟨c0, ht, himp⟩ := ht
      rcases ht with rfl | ⟨wh, el, rfl⟩
      · obtain ⟨l, vs, hl, hc, hx⟩ := h0
        obtain ⟨kk, hc⟩ := himp _ _ hc
        refine ⟨l, vs.take kk, hv.trans hl, (CellsRel.ren hu Ifc.val_known).1 hc, fun i x hi => ?_⟩
        obtain ⟨h1, h2, h3⟩ := hx i x (htake _ _ _ _ hi)
        refine ⟨Nat.lt_of_lt_of_le h1 h.keep.size, ?_, ?_⟩
        · rintro ⟨j, c', w', el', l', hj', hl', hb⟩
          obtain ⟨e', he', ht'⟩ := hI.ent j _ hj'
          obtain ⟨c1, rfl, _⟩ := ht'
          rcases h.fresh _ _ l' he' rfl hl' with h4 | h4
          · omega
          · exact h2 (hb ▸ h4)
        · rw [World.cell_of_block (h.keep.block _ h1 h2)]; exact h3
      · obtain ⟨l, vs, rest, lo, hi, hl, h0', hc, hh, hfz, hw, hcap⟩ := h0
        obtain ⟨kk, hc⟩ := himp _ _ hc
        refine ⟨l, vs.take kk, hv.trans hl, (CellsRel.ren hu Ifc.val_known).1 hc, fun i x hi0 => ⟨(Array.getElem?_eq_some_iff.1 hh).1, ?_, ?_⟩⟩
        · rintro ⟨j, c', w', el', l', hj', hl', hb⟩
          obtain ⟨e', he', ht'⟩ := hI.ent j _ hj'
          obtain ⟨c1, rfl, _⟩ := ht'
          by_cases hnj : n = j
          · subst hnj; rw [hn] at hj'; cases hj'
          · exact h.sep _ _ _ _ l l' he he' rfl rfl (hne n j _ _ hn hj' hnj) hl hl' hb.symm
        · unfold World.cell?
          rw [hh, h0', Nat.zero_add]
          have hi' := htake _ _ _ _ hi0
          have hlt := (List.getElem?_eq_some_iff.1 hi').1
          simp only [List.getElem?_toArray, List.getElem?_append_left hlt, hi']
          rfl
    | loop => exact hu.elim
    | deferred => exact hu.elim
    | gone => trivial
    | obj => exact hu.elim
  · obtain ⟨e, he, ht⟩ := hI.ent n E hn
    obtain ⟨e', he', ht'⟩ := hI.ent m E' hm
    rw [hval n E hn] at hl
    rw [hval m E' hm] at hl'
    cases E with
    | own c wh el =>
      cases E' with
      | own c' wh' el' =>
        obtain ⟨c1, rfl, _⟩ := ht
        obtain ⟨c2, rfl, _⟩ := ht'
        exact h.sep _ _ _ _ l l' he he' rfl rfl (hne n m _ _ hn hm hnm) hl hl'
      | row => cases ho'
      | loop => exact (hI.uent m _ hm).elim
      | deferred => exact (hI.uent m _ hm).elim
      | gone => cases ho'
      | obj => exact (hI.uent m _ hm).elim
    | row => cases ho
    | loop => exact (hI.uent n _ hn).elim
    | deferred => exact (hI.uent n _ hn).elim
    | gone => cases ho
    | obj => exact (hI.uent n _ hn).elim
  · rw [hval n E hn] at hl
    cases E with
    | own c wh el => exact .inr ⟨n, c, wh, el, l, hn, hl, rfl⟩
    | row => cases ho
    | loop => exact (hI.uent n _ hn).elim
    | deferred => exact (hI.uent n _ hn).elim
    | gone => cases ho
    | obj => exact (hI.uent n _ hn).elim
  · unfold Ifc.val
    rw [if_neg]
    rw [I.known_iff, ← hI.len]; omega

/-- the great names of the small ones behind the run: those that were given, and those of what is kept -/
noncomputable def idxN (k : Nat) (l : List Nat) : Nat := List.rec (motive := fun _ => Nat) 0 (fun a _ ih => boolC (Nat.beq a k) 0 (Nat.succ ih)) l
noncomputable def Ifc.out (I : Ifc) (base : Nat) (keep : List Nat) (j : Nat) : Nat := boolC (I.known j) (I.big j) (base + idxN j keep)
noncomputable def Ifc.seen (I : Ifc) (keep : List Nat) (j : Nat) : Bool := boolC (I.known j) true (memN j keep)
/-- the small entry is the great one's, at last -/
def Given (p : Nat → Bool) (g : Nat → Nat) (E : Option SO) (e : SO) : Prop := ∃ c w el c', E = some (.own c w el) ∧ c.Uses p ∧ (c.ren g).Imp c' ∧ e = .own c' w el
/-- the small outcome is the great one's -/
structure Ifc.Out (I : Ifc) (base : Nat) (turn keep : List Nat) (r : SumRes) (v : SV) (H : List SO) : Prop where
  val : (v.ren (I.out base keep)).Imp r.v
  uv : v.uses (I.seen keep) = true
  setsLen : r.sets.length = turn.length
  sets : ∀ (i j : Nat), turn[i]? = some j → ∃ e, r.sets[i]? = some (I.big j, e) ∧ Given (I.seen keep) (I.out base keep) H[j]? e
  newsLen : r.news.length = keep.length
  news : ∀ (i j : Nat), keep[i]? = some j → ∃ e, r.news[i]? = some e ∧ Given (I.seen keep) (I.out base keep) H[j]? e
theorem idxN_spec {k : Nat} {l : List Nat} (h : k ∈ l) : l[idxN k l]? = some k := by
  induction l with
  | nil => cases h
  | cons a l ih =>
    show (a :: l)[boolC (Nat.beq a k) 0 (Nat.succ (idxN k l))]? = _
    by_cases ha : a = k
    · subst ha; rw [show Nat.beq a a = true from Nat.beq_refl a]; rfl
    · rw [show Nat.beq a k = false from Bool.eq_false_iff.2 fun h => ha (Nat.eq_of_beq_eq_true h)]
      simpa using ih ((List.mem_cons.1 h).resolve_left fun e => ha e.symm)
theorem memN_iff {n : Nat} {l : List Nat} : memN n l = true ↔ n ∈ l := by
  constructor
  · intro h
    induction l with
    | nil => cases h
    | cons a l ih =>
      have h' : boolC (Nat.beq a n) true (memN n l) = true := h
      by_cases ha : a = n
      · subst ha; exact List.mem_cons_self
      · rw [show Nat.beq a n = false from Bool.eq_false_iff.2 fun h => ha (Nat.eq_of_beq_eq_true h)] at h'
        exact List.mem_cons_of_mem _ (ih h')
  · exact memN_spec

/-- A SUMMARY FROM A SMALL RUN -/
theorem sum_smallC {c : Cfg} {O : Nat → Prop} {w0 w : World} {β : Val} {H : List SO} {base : Nat} {f : FuncId} {vs : List Value} (hH : HeapRel0 c.P O w0 β H w)
    (I : Ifc) (hgl : ∀ g j, c.glob g = some j → I.known j = true ∧ ∃ l, β (I.big j) = some l ∧ l.blk = g ∧ l.off = 0) (ha : SV.denL β (SV.renL I.big I.args) = some vs) (hI : I.Fits H) {r : SumRes} (turn keep : List Nat) (ht1 : ∀ (j : Nat) c w el, I.ents[j]? = some (.own c w el) → j ∈ turn) (ht2 : ∀ j ∈ turn, ∃ c w el, I.ents[j]? = some (.own c w el)) (hk : ∀ j ∈ keep, I.names.length ≤ j) (hkn : keep.Nodup) (htn : turn.Nodup := by simp)
    (hbody : ∃ fn, c.P.funcs[f]? = some fn ∧ fn.body.isSome = true)
    (hrun : HeapRel c.P (I.owns β) w (I.val β) I.ents w → GlobRel c.glob (I.val β) → SV.denL (I.val β) I.args = some vs → Calls c.P f vs.toArray w (Came c.P (I.owns β) w (I.val β) (I.Out base turn keep r))) : SumSem c.P H β w base f vs r := by
  intro hfree
  have hH' := Ifc.heap hH hI
  have ha' : SV.denL (I.val β) I.args = some vs := by
    rw [SV.denL_ren, SV.denL_uses Ifc.val_known _ hI.uargs] at ha; exact ha
  have hcalls := hrun hH' (fun g j hg => let ⟨hk, l, h1, h2⟩ := hgl g j hg; ⟨l, by rw [← Ifc.val_known j hk]; exact h1, h2⟩) ha'
  have hown : ∀ j ∈ turn, ∃ cb wb el l vs rest lo hi, H[I.big j]? = some (.own cb wb el) ∧ β (I.big j) = some l ∧ I.val β j = some l ∧ j < I.names.length ∧ w.heap[l.blk]? = some (.cells (vs ++ rest : List Value).toArray el (lo, hi)) := by
    intro j hj
    obtain ⟨cc, ww, el, he⟩ := ht2 j hj
    obtain ⟨e, he', ht⟩ := hI.ent j _ he
    obtain ⟨c1, rfl, _⟩ := ht
    obtain ⟨l, vs, rest, lo, hi, hl, _, _, hh, _⟩ := hH.entries _ _ he'
    have hjl : j < I.names.length := by rw [← hI.len]; exact (List.getElem?_eq_some_iff.1 he).1
    exact ⟨_, _, _, l, vs, rest, lo, hi, he', hl, by rw [← Ifc.val_known j ((I.known_iff j).2 hjl)]; exact hl, hjl, hh⟩
  -- what is turned
  have hsets : ∀ (v : SV) (H'' : List SO), I.Out base turn keep r v H'' → ∀ m e, (m, e) ∈ r.sets → ∃ j ∈ turn, m = I.big j ∧ Given (I.seen keep) (I.out base keep) H''[j]? e ∧ ∃ i : Nat, turn[i]? = some j ∧ r.sets[i]? = some (m, e) := by
    intro v H'' hout m e hm
    obtain ⟨i, hi⟩ := List.mem_iff_getElem?.1 hm
    have hil := (List.getElem?_eq_some_iff.1 hi).1
    rw [hout.setsLen] at hil
    obtain ⟨e', h1, h2⟩ := hout.sets i _ (List.getElem?_eq_getElem hil)
    rw [hi] at h1
    cases h1
    exact ⟨_, List.getElem_mem hil, rfl, h2, i, List.getElem?_eq_getElem hil, hi⟩
  refine ⟨?_, .inl ⟨hbody, ?_⟩⟩
  · intro m e hm
    -- what is turned was a block of one's own
    obtain ⟨e', w', fr, hcame, _⟩ := hcalls []
    obtain ⟨v, H'', x, β'', _, hout, _⟩ := hcame
    obtain ⟨j, hj, rfl, _⟩ := hsets v H'' hout m e hm
    obtain ⟨cb, wb, el, l, vs, rest, lo, hi, h1, _⟩ := hown j hj
    exact ⟨_, h1, rfl⟩
  · intro cs
    obtain ⟨e', w', fr, hcame, hst⟩ := hcalls cs
    refine ⟨e', w', fr, ?_, hst⟩
    obtain ⟨v, H'', x, β'', rfl, hout, hle, hv, hH2⟩ := hcame
    -- the great valuation behind the call
    let βb : Val := fun n => if base ≤ n ∧ n < base + keep.length then (keep[n - base]?).bind β'' else β n
    have hlenn : r.news.length = keep.length := hout.newsLen
    have hfree' : ∀ i, i < keep.length → β (base + i) = none := fun i hi => hfree i (by rw [hlenn]; exact hi)
    have hβle : β.le βb := by
      intro n l hn
      show (if _ then _ else _) = _
      rw [if_neg]
      · exact hn
      · rintro ⟨h1, h2⟩
        have := hfree' (n - base) (by omega)
        rw [show base + (n - base) = n from by omega, hn] at this; cases this
    have hseen : ∀ j, I.seen keep j = true → βb (I.out base keep j) = β'' j := by
      intro j hj
      unfold Ifc.seen at hj
      unfold Ifc.out
      cases hkn' : I.known j with
      | true =>
        rw [boolC_true]
        have hjl := (I.known_iff j).1 hkn'
        obtain ⟨E, hE⟩ : ∃ E, I.ents[j]? = some E := ⟨_, List.getElem?_eq_getElem (by rw [hI.len]; exact hjl)⟩
        obtain ⟨e, he, htk⟩ := hI.ent j E hE
        -- it stands for something
        have hsome : ∃ l, β (I.big j) = some l := by
          have h0 := hH.entries _ e he
          have hu := hI.uent j E hE
          have hplaced : e.placed = true := by
            cases E with
            | own cc ww el => obtain ⟨c1, rfl, _⟩ := htk; rfl
            | row cc => obtain ⟨c1, rfl | ⟨ww, el, rfl⟩, _⟩ := htk <;> rfl
            | loop => exact hu.elim
            | deferred => exact hu.elim
            | gone => exact htk
            | obj => exact hu.elim
          cases e with
          | own cc ww el => obtain ⟨l, _, _, _, _, hl, _⟩ := h0; exact ⟨l, hl⟩
          | row cc => obtain ⟨l, _, hl, _⟩ := h0; exact ⟨l, hl⟩
          | loop => cases hplaced
          | deferred => cases hplaced
          | gone => cases hplaced
          | obj => cases hplaced
        obtain ⟨l, hl⟩ := hsome
        rw [hβle _ _ hl]
        have : I.val β j = some l := by rw [← Ifc.val_known j hkn']; exact hl
        rw [hle _ _ this]
      | false =>
        rw [hkn', boolC_false, memN_iff] at hj
        rw [boolC_false]
        have h1 := idxN_spec hj
        have h2 := (List.getElem?_eq_some_iff.1 h1).1
        show (if _ then _ else _) = _
        rw [if_pos (by omega), show base + idxN j keep - base = idxN j keep from by omega, h1]; rfl
    have hrenOwn : ∀ (j : Nat) (e : SO), Given (I.seen keep) (I.out base keep) H''[j]? e → I.seen keep j = true → e.owned = true ∧ OwnRel c.P βb w' (I.out base keep j) e := by
      intro j e hg hs
      obtain ⟨cc, ww, el, c', he, hu, himp, rfl⟩ := hg
      obtain ⟨l, vs, rest, lo, hi, hl, h0, hcl, hh, hfz, hw, hcap⟩ := hH2.entries j _ he
      exact ⟨rfl, l, vs, rest, lo, hi, (hseen j hs).trans hl, h0, himp _ _ ((CellsRel.ren hu hseen).2 hcl), hh, hfz, hw, hcap⟩
    have hseenT : ∀ j ∈ turn, I.seen keep j = true ∧ I.out base keep j = I.big j := by
      intro j hj
      obtain ⟨_, _, _, _, _, _, _, _, _, _, _, hjl, _⟩ := hown j hj
      have := (I.known_iff j).2 hjl
      unfold Ifc.seen Ifc.out
      rw [this]; exact ⟨rfl, rfl⟩
    have hseenK : ∀ j ∈ keep, I.seen keep j = true ∧ I.known j = false := by
      intro j hj
      have hnk : I.known j = false := by
        cases hx : I.known j with
        | false => rfl
        | true => have := (I.known_iff j).1 hx; have := hk j hj; omega
      unfold Ifc.seen
      rw [hnk]; exact ⟨memN_spec hj, rfl⟩
    have hnewsAt : ∀ (i : Nat) (e : SO), r.news[i]? = some e → ∃ j, keep[i]? = some j ∧ Given (I.seen keep) (I.out base keep) H''[j]? e := by
      intro i e hi
      have hil := (List.getElem?_eq_some_iff.1 hi).1
      rw [hlenn] at hil
      obtain ⟨e', h1, h2⟩ := hout.news i _ (List.getElem?_eq_getElem hil)
      rw [hi] at h1; cases h1
      exact ⟨_, List.getElem?_eq_getElem hil, h2⟩
    refine ⟨x, βb, rfl, ?_, ⟨hβle, hH2.keep.os, hH2.keep.tape, hH2.keep.output, hH2.keep.size, ?_, ?_, ?_, ?_, ?_, ?_⟩⟩
    · refine hout.val _ _ ?_
      rw [SV.den_ren, SV.den_uses hseen _ hout.uv]; exact hv
    · intro n hn
      rw [hlenn] at hn
      show (if _ then _ else _) = _
      rw [if_neg (by omega)]
    · intro b hb hno
      refine hH2.keep.block b hb ?_
      rintro ⟨j, cc, ww, el, l, hj, hl, rfl⟩
      have hjt := ht1 j cc ww el hj
      obtain ⟨i, hi⟩ := List.mem_iff_getElem?.1 hjt
      obtain ⟨e, he, _⟩ := hout.sets i j hi
      exact hno (I.big j) e l (List.mem_of_getElem? he) hl rfl
    · intro m e e' h1 h2
      obtain ⟨j, hj, hm1, hg1, i1, ht1', hs1⟩ := hsets v H'' hout m e h1
      obtain ⟨k, hk', hm2, hg2, i2, ht2', hs2⟩ := hsets v H'' hout m e' h2
      obtain ⟨_, _, _, _, _, _, _, _, _, _, _, hjl, _⟩ := hown j hj
      obtain ⟨_, _, _, _, _, _, _, _, _, _, _, hkl, _⟩ := hown k hk'
      have hjk : k = j := hI.nodup k j (I.big k) (Ifc.big_get hkl) (by rw [← hm2, hm1]; exact Ifc.big_get hjl)
      subst hjk
      have : i1 = i2 := (List.getElem?_inj (List.getElem?_eq_some_iff.1 ht1').1 htn).1 (ht1'.trans ht2'.symm)
      subst this
      rw [hs1] at hs2
      exact (Prod.mk.inj (Option.some.inj hs2)).2
    · intro m e hm
      obtain ⟨j, hj, rfl, hg, _⟩ := hsets v H'' hout m e hm
      obtain ⟨hs, hb⟩ := hseenT j hj
      rw [← hb]
      exact (hrenOwn j e hg hs).2
    · intro i e hi
      obtain ⟨j, hj, hg⟩ := hnewsAt i e hi
      have hjm := List.mem_of_getElem? hj
      obtain ⟨hs, hnk⟩ := hseenK j hjm
      have hout' : I.out base keep j = base + i := by
        unfold Ifc.out
        rw [hnk, boolC_false]
        have h1 := idxN_spec hjm
        have : idxN j keep = i := (List.getElem?_inj (List.getElem?_eq_some_iff.1 h1).1 hkn).1 (h1.trans hj.symm)
        rw [this]
      obtain ⟨ho, hor⟩ := hrenOwn j e hg hs
      refine ⟨ho, hout' ▸ hor, ?_⟩
      obtain ⟨cc, ww, el, c', he, _⟩ := hg
      obtain ⟨l, vs2, rest, lo, hi2, hl, _⟩ := hH2.entries j _ he
      refine ⟨l, by rw [← hout', hseen j hs]; exact hl, .inl ?_⟩
      rcases hH2.fresh j _ l he rfl hl with h1 | ⟨k, ck, wk, ek, lk, hk1, hk2, hk3⟩
      · exact h1
      · exfalso
        -- a block that was given is still its own
        have hkt := ht1 k ck wk ek hk1
        obtain ⟨i3, hi3⟩ := List.mem_iff_getElem?.1 hkt
        obtain ⟨_, _, c2, w2, e2, _, he2, _⟩ := hout.sets i3 k hi3
        obtain ⟨_, _, _, l2, _, _, _, _, _, hb2, hv2, hkl, _⟩ := hown k hkt
        rw [hb2] at hk2; cases hk2
        refine hH2.sep k j _ _ lk l he2 he rfl rfl ?_ (hle _ _ hv2) hl hk3
        have := hk j hjm; omega
    · intro i j l l' hij hi hj hl hl'
      rw [hlenn] at hi hj
      have hone : ∀ i, i < keep.length → ∀ l, βb (base + i) = some l → ∃ k, keep[i]? = some k ∧ β'' k = some l := by
        intro i hi l hl
        have hl : (if base ≤ base + i ∧ base + i < base + keep.length then (keep[base + i - base]?).bind β'' else β (base + i)) = some l := hl
        rw [if_pos (by omega), show base + i - base = i from by omega, List.getElem?_eq_getElem hi] at hl
        exact ⟨_, List.getElem?_eq_getElem hi, hl⟩
      obtain ⟨k1, hk1, hb1⟩ := hone i hi l hl
      obtain ⟨k2, hk2, hb2⟩ := hone j hj l' hl'
      obtain ⟨_, _, c1, w1, e1, _, he1, _⟩ := hout.news i k1 hk1
      obtain ⟨_, _, c2, w2, e2, _, he2, _⟩ := hout.news j k2 hk2
      refine hH2.sep k1 k2 _ _ l l' he1 he2 rfl rfl (fun h => ?_) hb1 hb2
      subst h
      exact hij ((List.getElem?_inj (List.getElem?_eq_some_iff.1 hk1).1 hkn).1 (hk1.trans hk2.symm))

theorem enterF_body {P : Program} {f : FuncId} {args : List SV} {g : SF} (h : enterF P f args = some g) : ∃ fn, P.funcs[f]? = some fn ∧ fn.body.isSome = true := by
  unfold enterF at h
  rw [nth_eq, Array.getElem?_toList] at h
  cases hf : P.funcs[f]? with
  | none => rw [hf] at h; cases h
  | some fn =>
    refine ⟨fn, rfl, ?_⟩
    rw [hf] at h
    cases hb : fn.body with
    | none => simp only [optC_some, hb, optC_none] at h; cases h
    | some b => rfl
theorem sum_small {c : Cfg} (hc : CfgOK c) {n : Nat} {O : Nat → Prop} {w0 w : World} {β : Val} {H : List SO} {base : Nat} {f : FuncId} {vs : List Value} (hH : HeapRel0 c.P O w0 β H w)
    (I : Ifc) (hgl : ∀ g j, c.glob g = some j → I.known j = true ∧ ∃ l, β (I.big j) = some l ∧ l.blk = g ∧ l.off = 0) (ha : SV.denL β (SV.renL I.big I.args) = some vs) (hI : I.Fits H) {r : SumRes} (turn keep : List Nat) (ht1 : ∀ (j : Nat) c w el, I.ents[j]? = some (.own c w el) → j ∈ turn) (ht2 : ∀ j ∈ turn, ∃ c w el, I.ents[j]? = some (.own c w el)) (hk : ∀ j ∈ keep, I.names.length ≤ j) (hkn : keep.Nodup) (htn : turn.Nodup := by simp)
    (hob : (callSim c n f I.args I.ents).Ob (I.Out base turn keep r) fun _ => False) : SumSem c.P H β w base f vs r := by
  refine sum_smallC hH I hgl ha hI turn keep ht1 ht2 hk hkn htn ?_ fun hH' hG ha' => calls_of hc hH' hG ha' hob
  unfold callSim at hob
  cases hg : enterF c.P f I.args with
  | none => rw [hg] at hob; exact hob.elim
  | some g => exact enterF_body hg

/- The plain case: nothing is turned, nothing is new. -/
theorem SV.imp_of_eq {c d : SV} (h : c = d) : c.Imp d := h ▸ .refl c

end Go.Sim


/-
  The symbolic simulator, twenty-eighth part: summaries from small runs, in short words.
-/
namespace Go.Sim
variable {α : Type}

/-- what each name is to be -/
def EntsOK (f : Nat → Nat) (p : Nat → Bool) (H : List SO) : List Nat → List SO → Prop
  | n :: ns, E :: Es => ((∃ e, H[n]? = some e ∧ Taken f E e) ∧ E.CUses p) ∧ EntsOK f p H ns Es
  | [], [] => True
  | _, _ => False
theorem EntsOK.length {f : Nat → Nat} {p : Nat → Bool} {H : List SO} : ∀ {ns : List Nat} {Es : List SO}, EntsOK f p H ns Es → Es.length = ns.length
  | [], [], _ => rfl
  | _ :: _, _ :: _, h => by simp only [List.length_cons]; rw [EntsOK.length h.2]
  | [], _ :: _, h => h.elim
  | _ :: _, [], h => h.elim
theorem EntsOK.get {f : Nat → Nat} {p : Nat → Bool} {H : List SO} : ∀ {ns : List Nat} {Es : List SO}, EntsOK f p H ns Es → ∀ (j : Nat) (E : SO), Es[j]? = some E → (∃ e, H[(nth ns j).getD 0]? = some e ∧ Taken f E e) ∧ E.CUses p
  | [], [], _, j, E, h => by simp at h
  | n :: ns, E' :: Es, h, 0, E, hE => by simp at hE; subst hE; exact h.1
  | n :: ns, E' :: Es, h, j + 1, E, hE => by
    have := EntsOK.get h.2 j E (by simpa using hE)
    rw [nth_eq] at this ⊢
    simpa using this
  | [], _ :: _, h, _, _, _ => h.elim
  | _ :: _, [], h, _, _, _ => h.elim
theorem Ifc.fits {I : Ifc} {H : List SO} (hn : I.names.Nodup) (hu : SV.usesL I.known I.args = true) (he : EntsOK I.big I.known H I.names I.ents) : I.Fits H :=
  ⟨he.length, fun _ _ _ hi hj => (List.getElem?_inj (List.getElem?_eq_some_iff.1 hi).1 hn).1 (hi.trans hj.symm), hu, fun j E hE => (he.get j E hE).1, fun j E hE => (he.get j E hE).2⟩
def SO.isOwn : SO → Bool
  | .own _ _ _ => true
  | _ => false
/-- the places of the blocks that may be written -/
def ownsOf : List SO → Nat → List Nat
  | [], _ => []
  | E :: Es, k => if E.isOwn then k :: ownsOf Es (k + 1) else ownsOf Es (k + 1)
theorem ownsOf_spec : ∀ (Es : List SO) (k j : Nat), j ∈ ownsOf Es k ↔ ∃ i c w el, j = k + i ∧ Es[i]? = some (.own c w el)
  | [], k, j => by simp [ownsOf]
  | E :: Es, k, j => by
    have ih := ownsOf_spec Es (k + 1) j
    have hstep : (∃ i c w el, j = k + 1 + i ∧ Es[i]? = some (SO.own c w el)) → ∃ i c w el, j = k + i ∧ (E :: Es)[i]? = some (SO.own c w el) := fun ⟨i, c, w, el, h, h'⟩ => ⟨i + 1, c, w, el, by omega, by simpa using h'⟩
    unfold ownsOf
    split
    · rename_i ho
      rw [List.mem_cons, ih]
      constructor
      · rintro (rfl | h)
        · cases E <;> first | (cases ho; done) | exact ⟨0, _, _, _, rfl, rfl⟩
        · exact hstep h
      · rintro ⟨i, c, w, el, h, h'⟩
        cases i with
        | zero => exact .inl h
        | succ i => exact .inr ⟨i, c, w, el, by omega, by simpa using h'⟩
    · rename_i ho
      rw [ih]
      constructor
      · exact hstep
      · rintro ⟨i, c, w, el, h, h'⟩
        cases i with
        | zero => simp at h'; subst h'; exact absurd rfl ho
        | succ i => exact ⟨i, c, w, el, by omega, by simpa using h'⟩
theorem ownsOf_nodup : ∀ (Es : List SO) (k : Nat), (ownsOf Es k).Nodup
  | [], k => by simp [ownsOf]
  | E :: Es, k => by
    unfold ownsOf
    split
    · refine List.nodup_cons.2 ⟨fun h => ?_, ownsOf_nodup Es (k + 1)⟩
      obtain ⟨i, _, _, _, h, _⟩ := (ownsOf_spec Es (k + 1) k).1 h
      omega
    · exact ownsOf_nodup Es (k + 1)
def SetsOK (big : Nat → Nat) (p : Nat → Bool) (g : Nat → Nat) (H : List SO) : List Nat → List (Nat × SO) → Prop
  | j :: js, x :: rs => (x.1 = big j ∧ Given p g H[j]? x.2) ∧ SetsOK big p g H js rs
  | [], [] => True
  | _, _ => False
def NewsOK (p : Nat → Bool) (g : Nat → Nat) (H : List SO) : List Nat → List SO → Prop
  | j :: js, e :: rs => Given p g H[j]? e ∧ NewsOK p g H js rs
  | [], [] => True
  | _, _ => False
theorem SetsOK.length {big p g H} : ∀ {js : List Nat} {rs : List (Nat × SO)}, SetsOK big p g H js rs → rs.length = js.length
  | [], [], _ => rfl
  | _ :: _, _ :: _, h => by simp only [List.length_cons]; rw [SetsOK.length h.2]
  | [], _ :: _, h => h.elim
  | _ :: _, [], h => h.elim
theorem SetsOK.get {big p g H} : ∀ {js : List Nat} {rs : List (Nat × SO)}, SetsOK big p g H js rs → ∀ (i j : Nat), js[i]? = some j → ∃ e, rs[i]? = some (big j, e) ∧ Given p g H[j]? e
  | [], [], _, i, j, h => by simp at h
  | j' :: js, x :: rs, h, 0, j, hE => by simp at hE; subst hE; exact ⟨x.2, by simp [← h.1.1], h.1.2⟩
  | j' :: js, x :: rs, h, i + 1, j, hE => by
    obtain ⟨e, a, b⟩ := SetsOK.get h.2 i j (by simpa using hE)
    exact ⟨e, by simpa using a, b⟩
  | [], _ :: _, h, _, _, _ => h.elim
  | _ :: _, [], h, _, _, _ => h.elim
theorem NewsOK.length {p g H} : ∀ {js : List Nat} {rs : List SO}, NewsOK p g H js rs → rs.length = js.length
  | [], [], _ => rfl
  | _ :: _, _ :: _, h => by simp only [List.length_cons]; rw [NewsOK.length h.2]
  | [], _ :: _, h => h.elim
  | _ :: _, [], h => h.elim
theorem NewsOK.get {p g H} : ∀ {js : List Nat} {rs : List SO}, NewsOK p g H js rs → ∀ (i j : Nat), js[i]? = some j → ∃ e, rs[i]? = some e ∧ Given p g H[j]? e
  | [], [], _, i, j, h => by simp at h
  | j' :: js, x :: rs, h, 0, j, hE => by simp at hE; subst hE; exact ⟨x, by simp, h.1⟩
  | j' :: js, x :: rs, h, i + 1, j, hE => by
    obtain ⟨e, a, b⟩ := NewsOK.get h.2 i j (by simpa using hE)
    exact ⟨e, by simpa using a, b⟩
  | [], _ :: _, h, _, _, _ => h.elim
  | _ :: _, [], h, _, _, _ => h.elim
/-- what a small run comes to -/
structure Ifc.Ends (I : Ifc) (base : Nat) (keep : List Nat) (r : SumRes) (v : SV) (H : List SO) : Prop where
  val : (v.ren (I.out base keep)).Imp r.v
  uv : v.uses (I.seen keep) = true
  sets : SetsOK I.big (I.seen keep) (I.out base keep) H (ownsOf I.ents 0) r.sets
  news : NewsOK (I.seen keep) (I.out base keep) H keep r.news
theorem Tree.Ob.mono {t : Tree} {D D' : SV → List SO → Prop} {S : SS → Prop} (h : t.Ob D S) (hd : ∀ v H, D v H → D' v H) : t.Ob D' S := by
  induction t with
  | done v H => exact hd v H h
  | stop s => exact h
  | need p t ih => exact ⟨h.1, ih h.2⟩
  | fork b t f iht ihf => exact ⟨fun hb => iht (h.1 hb), fun hb => ihf (h.2 hb)⟩
  | stuck n => exact h
  | any k ih => exact fun z => ih z (h z)
/-- A SUMMARY FROM A SMALL RUN -/
theorem sum_runG {c : Cfg} (hc : CfgOK c) (n : Nat) {O : Nat → Prop} {w0 w : World} {β : Val} {H : List SO} {base : Nat} {f : FuncId} {vs : List Value} (hH : HeapRel0 c.P O w0 β H w)
    (I : Ifc) (hgl : ∀ g j, c.glob g = some j → I.known j = true ∧ ∃ l, β (I.big j) = some l ∧ l.blk = g ∧ l.off = 0) (ha : SV.denL β (SV.renL I.big I.args) = some vs) (hI : I.Fits H) {r : SumRes} (keep : List Nat) (hk : ∀ j ∈ keep, I.names.length ≤ j) (hkn : keep.Nodup)
    (hob : (callSim c n f I.args I.ents).Ob (I.Ends base keep r) fun _ => False) : SumSem c.P H β w base f vs r := by
  refine sum_small hc (n := n) hH I hgl ha hI (ownsOf I.ents 0) keep (fun j c w el h => (ownsOf_spec _ _ _).2 ⟨j, c, w, el, by omega, h⟩) (fun j hj => ?_) hk hkn (ownsOf_nodup _ _) ?_
  · obtain ⟨i, c, w, el, h, h'⟩ := (ownsOf_spec _ _ _).1 hj
    exact ⟨c, w, el, by rw [h, Nat.zero_add]; exact h'⟩
  · refine hob.mono fun v H' h => ⟨h.val, h.uv, h.sets.length, h.sets.get, h.news.length, h.news.get⟩
/-- the same, where no package-level variable is read -/
theorem sum_run {c : Cfg} (hc : CfgOK c) (hgl : c.glob = fun _ => none) (n : Nat) {O : Nat → Prop} {w0 w : World} {β : Val} {H : List SO} {base : Nat} {f : FuncId} {vs : List Value} (hH : HeapRel0 c.P O w0 β H w)
    (I : Ifc) (ha : SV.denL β (SV.renL I.big I.args) = some vs) (hI : I.Fits H) {r : SumRes} (keep : List Nat) (hk : ∀ j ∈ keep, I.names.length ≤ j) (hkn : keep.Nodup)
    (hob : (callSim c n f I.args I.ents).Ob (I.Ends base keep r) fun _ => False) : SumSem c.P H β w base f vs r :=
  sum_runG hc n hH I (fun g j h => by rw [hgl] at h; cases h) ha hI keep hk hkn hob
theorem given_own {p : Nat → Bool} {g : Nat → Nat} {E : Option SO} {c : Cells} {w : Bool} {el : TypeId} {e : SO} (hE : E = some (.own c w el)) (hu : c.Uses p) (he : (SO.own c w el).ren g = e) : Given p g E e :=
  ⟨c, w, el, _, hE, hu, .refl _, he.symm⟩
theorem given_imp {p : Nat → Bool} {g : Nat → Nat} {E : Option SO} {c c' : Cells} {w : Bool} {el : TypeId} (hE : E = some (.own c w el)) (hu : c.Uses p) (hc : (c.ren g).Imp c') : Given p g E (.own c' w el) :=
  ⟨c, w, el, c', hE, hu, hc, rfl⟩
/-- what is read alone: a row, or a block of one's own, whole or its front -/
theorem taken_row {f : Nat → Nat} {c c0 : Cells} {e : SO} (h : e = .row c0 ∨ ∃ w el, e = .own c0 w el) (hi : c0.Front (c.ren f)) : Taken f (.row c) e := ⟨c0, h, hi⟩

end Go.Sim


/-
  The symbolic simulator, twenty-ninth part: lists of bytes az cells; the looks of summaries.
-/
namespace Go.Sim
variable {α β : Type}

theorem boolC_sat {b : Bool} {f g : R α} {φ : α → Prop} (h : b = true → f.Sat φ) (h' : b = false → g.Sat φ) : (boolC b f g).Sat φ := by cases b <;> first | exact h rfl | exact h' rfl
theorem boolC_only {b : Bool} {f : R α} {n : Nat} {φ : α → Prop} (h : b = true → f.Sat φ) : (boolC b f (.stuck n)).Sat φ := boolC_sat h fun _ => trivial
theorem optC_only {o : Option β} {f : β → R α} {n : Nat} {φ : α → Prop} (h : ∀ a, o = some a → (f a).Sat φ) : (optC o (.stuck n) f).Sat φ := by
  cases o with
  | none => trivial
  | some a => exact h a rfl
theorem boolC_opt {b : Bool} {f : Option α} {s : α} (h : boolC b f none = some s) : b = true ∧ f = some s := by
  cases b with
  | true => exact ⟨rfl, h⟩
  | false => cases h
theorem optC_opt {o : Option β} {f : β → Option α} {s : α} (h : optC o none f = some s) : ∃ a, o = some a ∧ f a = some s := by
  cases o with
  | none => cases h
  | some a => exact ⟨a, rfl, h⟩
theorem boolC_some {b : Bool} {f g : Option α} {s : α} (h : boolC b f g = some s) : (b = true ∧ f = some s) ∨ g = some s := by
  cases b with
  | true => exact .inl ⟨rfl, h⟩
  | false => exact .inr h
theorem eqI_spec {x y : Int} (h : eqI x y = true) : x = y := by rw [eqI_eq] at h; simpa using h
theorem beq_spec {x y : Nat} (h : Nat.beq x y = true) : x = y := Nat.eq_of_beq_eq_true h
theorem beq_ne {x y : Nat} (h : Nat.beq x y = false) : x ≠ y := fun e => by subst e; rw [Nat.beq_refl] at h; cases h
theorem blt_spec {x y : Nat} (h : Nat.blt x y = true) : x < y := Nat.le_of_ble_eq_true h
theorem eqK_spec {k k' : IntKind} (h : eqK k k' = true) : k = k' := by cases k <;> cases k' <;> first | rfl | cases h

/- Bytes. -/
noncomputable def bx (l : List (BitVec 8)) : List SV := mapN (fun x => .int .u8 (.b8 x)) l
noncomputable def lx (l : List Int) : List SV := mapN (fun x => .int .u8 (.lit x)) l
theorem asPtr_cases (v : SV) : (∃ b, v = .ptr b) ∨ ∀ {γ : Type} (d : γ) (f : SA → γ), v.asPtr d f = d := by
  cases v <;> first | exact .inl ⟨_, rfl⟩ | exact .inr fun _ _ => rfl
theorem unb1_int {v : SV} {x : BitVec 8} (h : unb1 v = some x) : ∃ n, v = .int .u8 n ∧ si8 n = some x := by
  unfold unb1 at h
  rcases asInt_cases v with ⟨k, n, rfl⟩ | hv
  · obtain ⟨hk, h⟩ := boolC_opt (show boolC (eqK k .u8) (si8 n) none = some x from h)
    rw [eqK_spec hk]; exact ⟨n, rfl, h⟩
  · rw [hv] at h; cases h
theorem unb1_imp {v : SV} {x : BitVec 8} (h : unb1 v = some x) : v.Imp (.int .u8 (.b8 x)) := by
  obtain ⟨n, rfl, hn⟩ := unb1_int h
  intro γ y hy
  have hy : some (Value.int .u8 n.den) = some y := hy
  rw [si8_spec hn] at hy; exact hy
theorem impL_cons {v u : SV} {l m : List SV} (h : v.Imp u) (h' : SV.ImpL l m) : SV.ImpL (v :: l) (u :: m) := by
  intro γ vs hv
  obtain ⟨x, ys, a, b, rfl⟩ := denL_cons.1 hv
  exact denL_cons.2 ⟨x, ys, h _ _ a, h' _ _ b, rfl⟩
theorem impL_nil : SV.ImpL [] [] := .refl _
theorem impL_app {a b c d : List SV} (h : SV.ImpL a b) (h' : SV.ImpL c d) : SV.ImpL (app a c) (app b d) := by
  intro γ vs hv
  rw [app_eq] at hv ⊢
  obtain ⟨x, y, ha, hc, rfl⟩ := denL_split hv
  exact denL_append (h _ _ ha) (h' _ _ hc)
theorem unb_imp : ∀ {l : List SV} {xs : List (BitVec 8)}, unb l = some xs → SV.ImpL l (bx xs)
  | [], xs, h => by cases h; exact .refl _
  | v :: l, xs, h => by
    obtain ⟨x, hx, h⟩ := optC_opt (show (optC (unb1 v) none fun x => optC (unb l) none fun xs => some (x :: xs)) = some xs from h)
    obtain ⟨ys, hy, h⟩ := optC_opt h
    cases h
    exact impL_cons (unb1_imp hx) (unb_imp hy)
theorem bx_ren (f : Nat → Nat) : ∀ xs, SV.renL f (bx xs) = bx xs
  | [] => rfl
  | x :: xs => by show _ :: SV.renL f (bx xs) = _; rw [bx_ren f xs]; rfl
theorem lx_ren (f : Nat → Nat) : ∀ xs, SV.renL f (lx xs) = lx xs
  | [] => rfl
  | x :: xs => by show _ :: SV.renL f (lx xs) = _; rw [lx_ren f xs]; rfl
theorem bx_uses (p : Nat → Bool) : ∀ xs, SV.usesL p (bx xs) = true
  | [] => rfl
  | x :: xs => by show (true && SV.usesL p (bx xs)) = true; rw [bx_uses p xs]; rfl
theorem lx_uses (p : Nat → Bool) : ∀ xs, SV.usesL p (lx xs) = true
  | [] => rfl
  | x :: xs => by show (true && SV.usesL p (lx xs)) = true; rw [lx_uses p xs]; rfl
theorem usesL_app (p : Nat → Bool) : ∀ a b, SV.usesL p (app a b) = (SV.usesL p a && SV.usesL p b)
  | [], b => rfl
  | x :: a, b => by show (x.uses p && SV.usesL p (app a b)) = ((x.uses p && SV.usesL p a) && SV.usesL p b); rw [usesL_app p a b, Bool.and_assoc]
theorem renL_app (f : Nat → Nat) : ∀ a b, SV.renL f (app a b) = app (SV.renL f a) (SV.renL f b)
  | [], b => rfl
  | x :: a, b => by show _ :: SV.renL f (app a b) = _; rw [renL_app f a b]; rfl
theorem app_take_drop (l : List SV) (n : Nat) : app (takeN l n) (dropN l n) = l := by rw [app_eq, takeN_eq, dropN_eq, List.take_append_drop]

/- Known cells. -/
noncomputable def unl1 (v : SV) : Option Int := v.asInt none fun k n => boolC (eqK k .u8) (n.asLit none some) none
theorem unl1_spec {v : SV} {x : Int} (h : unl1 v = some x) : v = .int .u8 (.lit x) := by
  unfold unl1 at h
  rcases asInt_cases v with ⟨k, n, rfl⟩ | hv
  · obtain ⟨hk, h⟩ := boolC_opt (show boolC (eqK k .u8) (n.asLit none some) none = some x from h)
    rw [eqK_spec hk]
    cases n <;> first | (cases h; rfl) | cases h
  · rw [hv] at h; cases h
/-- the known bytes T at the head of cells -/
noncomputable def preLit (T : List Int) : List SV → Bool :=
  List.rec (motive := fun _ => List SV → Bool) (fun _ => true) (fun t _ ih l => List.rec (motive := fun _ => Bool) false (fun v r _ => optC (unl1 v) false fun x => boolC (eqI x t) (ih r) false) l) T
theorem preLit_spec : ∀ {T : List Int} {l : List SV}, preLit T l = true → l = app (lx T) (dropN l (lenN T))
  | [], l, _ => by show l = dropN l 0; rw [dropN_eq]; rfl
  | t :: T, [], h => by cases h
  | t :: T, v :: l, h => by
    have h' : (optC (unl1 v) false fun x => boolC (eqI x t) (preLit T l) false) = true := h
    cases hx : unl1 v with
    | none => rw [hx] at h'; cases h'
    | some x =>
      rw [hx] at h'
      have h' : boolC (eqI x t) (preLit T l) false = true := h'
      cases he : eqI x t with
      | false => rw [he] at h'; cases h'
      | true =>
        rw [he] at h'
        have := preLit_spec (T := T) (l := l) h'
        rw [unl1_spec hx, eqI_spec he]
        show _ = _ :: app (lx T) (dropN (_ :: l) (lenN T + 1))
        rw [dropN_eq] at this ⊢
        rw [List.drop_succ_cons, ← this]

/- What an entry bears. -/
/-- an entry's cells, one by one -/
noncomputable def cellsE (e : Option SO) : Option (List SV) :=
  optC e none fun e => SO.rec (motive := fun _ => Option (List SV)) (fun c _ _ => Cells.rec (motive := fun _ => Option (List SV)) (fun l => some l) (fun _ _ => none) c) (fun c => Cells.rec (motive := fun _ => Option (List SV)) (fun l => some l) (fun _ _ => none) c)
    (fun _ _ _ _ _ _ _ _ => none) (fun _ => none) none (fun _ => none) e
theorem cellsE_spec {e : Option SO} {l : List SV} (h : cellsE e = some l) : ∃ e', e = some e' ∧ (e' = .row (.lst l) ∨ ∃ w el, e' = .own (.lst l) w el) := by
  cases e with
  | none => cases h
  | some e =>
    cases e with
    | own c w el => cases c with
      | lst l' => cases h; exact ⟨_, rfl, .inr ⟨_, _, rfl⟩⟩
      | fn => cases h
    | row c => cases c with
      | lst l' => cases h; exact ⟨_, rfl, .inl rfl⟩
      | fn => cases h
    | loop => cases h
    | deferred => cases h
    | gone => cases h
    | obj => cases h
/-- read alone: all the cells, az 'm' has them -/
theorem taken_cells {f : Nat → Nat} {l m : List SV} {e : Option SO} (h : cellsE e = some l) (hi : SV.ImpL l (SV.renL f m)) : ∃ e', e = some e' ∧ Taken f (.row (.lst m)) e' := by
  obtain ⟨e', rfl, hc⟩ := cellsE_spec h
  exact ⟨e', rfl, taken_row hc (Cells.Imp.front (c := .lst l) (d := (Cells.lst m).ren f) hi)⟩
/-- read alone: the cells at the head -/
theorem taken_front {f : Nat → Nat} {l m r : List SV} {e : Option SO} (h : cellsE e = some (app l r)) (hi : SV.ImpL l (SV.renL f m)) : ∃ e', e = some e' ∧ Taken f (.row (.lst m)) e' := by
  obtain ⟨e', rfl, hc⟩ := cellsE_spec h
  refine ⟨e', rfl, taken_row hc fun γ vs hv => ?_⟩
  have hv : SV.denL γ (app l r) = some vs := hv
  rw [app_eq] at hv
  obtain ⟨x, y, ha, hc, rfl⟩ := denL_split hv
  exact ⟨x.length, by rw [List.take_left]; exact hi _ _ ha⟩
/-- a whole block of one's own, with its cells one by one -/
noncomputable def ownE (t : TypeId) (e : Option SO) : Option (List SV) :=
  optC e none fun e => SO.rec (motive := fun _ => Option (List SV)) (fun c w el => boolC w (boolC (Nat.beq el t) (Cells.rec (motive := fun _ => Option (List SV)) (fun l => some l) (fun _ _ => none) c) none) none) (fun _ => none)
    (fun _ _ _ _ _ _ _ _ => none) (fun _ => none) none (fun _ => none) e
theorem ownE_spec {t : TypeId} {e : Option SO} {l : List SV} (h : ownE t e = some l) : e = some (.own (.lst l) true t) := by
  cases e with
  | none => cases h
  | some e =>
    cases e with
    | own c w el =>
      obtain ⟨hw, h⟩ := boolC_opt (show boolC w (boolC (Nat.beq el t) (Cells.rec (motive := fun _ => Option (List SV)) (fun l => some l) (fun _ _ => none) c) none) none = some l from h)
      obtain ⟨he, h⟩ := boolC_opt h
      rw [hw, beq_spec he]
      cases c with
      | lst l' => cases h; rfl
      | fn => cases h
    | row => cases h
    | loop => cases h
    | deferred => cases h
    | gone => cases h
    | obj => cases h
theorem taken_imp {f : Nat → Nat} {l m : List SV} {w : Bool} {el : TypeId} (hi : SV.ImpL l (SV.renL f m)) : Taken f (.own (.lst m) w el) (.own (.lst l) w el) := ⟨_, rfl, hi⟩
noncomputable def placedE (e : Option SO) : Bool := optC e false fun e => e.placed
theorem taken_gone {f : Nat → Nat} {e : Option SO} (h : placedE e = true) : ∃ e', e = some e' ∧ Taken f .gone e' := by
  cases e with
  | none => cases h
  | some e => exact ⟨e, rfl, h⟩
/-- a pointer to the head of a name -/
noncomputable def headP (v : SV) : Option Nat := v.asPtr none fun a => a.off.asLit none fun n => boolC (Nat.beq n 0) (some a.nm) none
theorem headP_spec {v : SV} {p : Nat} (h : headP v = some p) : v = .ptr ⟨p, .lit 0⟩ := by
  unfold headP at h
  rcases asPtr_cases v with ⟨⟨q, off⟩, rfl⟩ | hv
  · have h : (off.asLit none fun n => boolC (Nat.beq n 0) (some q) none) = some p := h
    cases off with
    | lit n =>
      obtain ⟨hn, h⟩ := boolC_opt (show boolC (Nat.beq n 0) (some q) none = some p from h)
      cases h; rw [beq_spec hn]
    | sym n => cases h
    | byt => cases h
  · rw [hv] at h; cases h

/- Arguments. -/
noncomputable def args1 (args : List SV) (f : SV → R α) : R α := List.rec (motive := fun _ => R α) (.stuck 700) (fun v r _ => List.rec (motive := fun _ => R α) (f v) (fun _ _ _ => .stuck 700) r) args
noncomputable def args2 (args : List SV) (f : SV → SV → R α) : R α := List.rec (motive := fun _ => R α) (.stuck 700) (fun v r _ => args1 r (f v)) args
noncomputable def args3 (args : List SV) (f : SV → SV → SV → R α) : R α := List.rec (motive := fun _ => R α) (.stuck 700) (fun v r _ => args2 r (f v)) args
noncomputable def args4 (args : List SV) (f : SV → SV → SV → SV → R α) : R α := List.rec (motive := fun _ => R α) (.stuck 700) (fun v r _ => args3 r (f v)) args
theorem args1_sat {args : List SV} {f : SV → R α} {φ : α → Prop} (h : ∀ v, args = [v] → (f v).Sat φ) : (args1 args f).Sat φ := by
  match args, h with
  | [], _ => trivial
  | [v], h => exact h v rfl
  | _ :: _ :: _, _ => trivial
theorem args2_sat {args : List SV} {f : SV → SV → R α} {φ : α → Prop} (h : ∀ v u, args = [v, u] → (f v u).Sat φ) : (args2 args f).Sat φ := by
  cases args with
  | nil => trivial
  | cons v r => exact args1_sat fun u hu => h v u (by rw [hu])
theorem args3_sat {args : List SV} {f : SV → SV → SV → R α} {φ : α → Prop} (h : ∀ v u x, args = [v, u, x] → (f v u x).Sat φ) : (args3 args f).Sat φ := by
  cases args with
  | nil => trivial
  | cons v r => exact args2_sat fun u x hu => h v u x (by rw [hu])
theorem args4_sat {args : List SV} {f : SV → SV → SV → SV → R α} {φ : α → Prop} (h : ∀ v u x y, args = [v, u, x, y] → (f v u x y).Sat φ) : (args4 args f).Sat φ := by
  cases args with
  | nil => trivial
  | cons v r => exact args3_sat fun u x y hu => h v u x y (by rw [hu])
/-- a known number of one's own kind: int -/
noncomputable def litI (v : SV) : Option Nat := v.asInt none fun k n => boolC (eqK k .i64) (n.asLit none fun n => intC n some fun _ => none) none
theorem litI_spec {v : SV} {n : Nat} (h : litI v = some n) : v = .int .i64 (.lit (.ofNat n)) := by
  unfold litI at h
  rcases asInt_cases v with ⟨k, m, rfl⟩ | hv
  · obtain ⟨hk, h⟩ := boolC_opt (show boolC (eqK k .i64) (m.asLit none fun n => intC n some fun _ => none) none = some n from h)
    rw [eqK_spec hk]
    cases m with
    | lit m => cases m with
      | ofNat m => cases h; rfl
      | negSucc m => cases h
    | sym => cases h
    | b8 => cases h
    | b32 => cases h
    | b64 => cases h
  · rw [hv] at h; cases h
/-- 'v' bears what 'u' bears -/
theorem denL1 {γ : Val} {v u : SV} {vs : List Value} (h : SV.denL γ [v] = some vs) (hi : v.Imp u) : SV.denL γ [u] = some vs := impL_cons hi impL_nil _ _ h

/- A run's outcome: its conditions, its value, some of its entries. -/
noncomputable def outP (js : List Nat) (t : Tree) : List Prop × Option (SV × List (Option SO)) :=
  Tree.rec (motive := fun _ => List Prop × Option (SV × List (Option SO))) (fun v H => ([], some (v, mapN (fun j => nth H j) js))) (fun _ => ([], none)) (fun p _ ih => (p :: ih.1, ih.2)) (fun _ _ _ _ _ => ([], none)) (fun _ => ([], none)) (fun _ _ => ([], none)) t
theorem outP_ob {js : List Nat} {t : Tree} {ps : List Prop} {v : SV} {es : List (Option SO)} (h : outP js t = (ps, some (v, es))) (hp : ∀ p ∈ ps, p) {D : SV → List SO → Prop} {S : SS → Prop} (hD : ∀ H : List SO, js.map (fun j => H[j]?) = es → D v H) : t.Ob D S := by
  induction t generalizing ps with
  | done v' H =>
    have h' : ([], some (v', mapN (fun j => nth H j) js)) = (ps, some (v, es)) := h
    have h1 := Option.some.inj (Prod.mk.inj h').2
    obtain ⟨h2, h3⟩ := Prod.mk.inj h1
    subst h2
    refine hD H ?_
    rw [mapN_eq] at h3
    rw [← h3]
    exact List.map_congr_left fun j _ => (nth_eq H j).symm
  | stop => cases (Prod.mk.inj (show ([], none) = (ps, some (v, es)) from h)).2
  | need p t ih =>
    have h' : (p :: (outP js t).1, (outP js t).2) = (ps, some (v, es)) := h
    obtain ⟨h1, h2⟩ := Prod.mk.inj h'
    subst h1
    exact ⟨hp p List.mem_cons_self, ih (ps := (outP js t).1) (by rw [← h2]) fun q hq => hp q (List.mem_cons_of_mem _ hq)⟩
  | fork => cases (Prod.mk.inj (show ([], none) = (ps, some (v, es)) from h)).2
  | stuck => cases (Prod.mk.inj (show ([], none) = (ps, some (v, es)) from h)).2
  | any => cases (Prod.mk.inj (show ([], none) = (ps, some (v, es)) from h)).2
/-- the same, where there is no condition -/
theorem outP_ob0 {js : List Nat} {t : Tree} {v : SV} {es : List (Option SO)} (h : outP js t = ([], some (v, es))) {D : SV → List SO → Prop} {S : SS → Prop} (hD : ∀ H : List SO, js.map (fun j => H[j]?) = es → D v H) : t.Ob D S :=
  outP_ob h (by simp) hD
theorem fits0 {H : List SO} {args : List SV} (hu : SV.usesL (Ifc.known ⟨[], [], args⟩) args = true) : Ifc.Fits ⟨[], [], args⟩ H := Ifc.fits (by simp) hu trivial
theorem ends0 {I : Ifc} {base : Nat} {v : SV} {H : List SO} (ho : ownsOf I.ents 0 = []) (h : v = v.ren (I.out base [])) (hu : v.uses (I.seen []) = true) : I.Ends base [] ⟨v, [], []⟩ v H :=
  ⟨SV.imp_of_eq h.symm, hu, by rw [ho]; trivial, trivial⟩

end Go.Sim


/-
  The symbolic simulator, thirtieth part: rows of bytes az functions of the place; slices among arguments.
-/
namespace Go.Sim
variable {α : Type}

/-- a row of bytes -/
noncomputable def rowF (X : Nat → BitVec 8) (n : Nat) : SO := .row (.fn (byteF X) n)
theorem byteF_isB (X : Nat → BitVec 8) : IsB (byteF X) := fun i => ⟨X i, rfl⟩
theorem isB_eq {g : Nat → SV} (h : IsB g) : byteF (fun i => byteOf (g i)) = g := by
  funext i
  obtain ⟨x, hx⟩ := h i
  show SV.int IntKind.u8 (SI.b8 (byteOf (g i))) = _
  rw [hx]; rfl
noncomputable def bytesC (c : Cells) (f : (Nat → BitVec 8) → Nat → R α) : R α :=
  Cells.rec (motive := fun _ => R α) (fun l => optC (unb l) (.stuck 710) fun xs => f (byteAt xs) (lenN xs)) (fun g n => .need (IsB g) (f (fun i => byteOf (g i)) n)) c
noncomputable def bytesE (e : Option SO) (f : (Nat → BitVec 8) → Nat → R α) : R α :=
  optC e (.stuck 711) fun e => SO.rec (motive := fun _ => R α) (fun c _ _ => bytesC c f) (fun c => bytesC c f) (fun _ _ _ _ _ _ _ _ => .stuck 712) (fun _ => .stuck 712) (.stuck 712) (fun _ => .stuck 712) e
theorem bx_rel {γ : Val} : ∀ {xs : List (BitVec 8)} {vs : List Value}, SV.denL γ (bx xs) = some vs → CellsRel γ (.fn (byteF (byteAt xs)) xs.length) vs
  | [], vs, h => by cases h; exact ⟨rfl, fun i x hx => by simp at hx⟩
  | x :: xs, vs, h => by
    obtain ⟨v, us, hv, hu, rfl⟩ := denL_cons.1 (show SV.denL γ (.int .u8 (.b8 x) :: bx xs) = some vs from h)
    obtain ⟨h1, h2⟩ := bx_rel hu
    refine ⟨by simp [h1], fun i y hy => ?_⟩
    cases i with
    | zero =>
      simp at hy; subst hy
      cases hv; rfl
    | succ i =>
      have := h2 i y (by simpa using hy)
      exact this
theorem bytesC_sat {c : Cells} {f : (Nat → BitVec 8) → Nat → R α} {φ : α → Prop} (h : ∀ X n, c.Imp (.fn (byteF X) n) → (f X n).Sat φ) : (bytesC c f).Sat φ := by
  cases c with
  | lst l =>
    refine optC_only fun xs hx => h _ _ fun γ vs hv => ?_
    rw [lenN_eq]
    exact bx_rel (unb_imp hx _ _ hv)
  | fn g n =>
    intro hg
    refine h _ _ ?_
    rw [isB_eq hg]; exact .refl _
/-- a row of bytes, read alone -/
theorem bytesE_sat {e : Option SO} {f : (Nat → BitVec 8) → Nat → R α} {φ : α → Prop} (h : ∀ X n, (∀ g, ∃ e', e = some e' ∧ Taken g (rowF X n) e') → (f X n).Sat φ) : (bytesE e f).Sat φ := by
  refine optC_only fun e' he => ?_
  cases e' with
  | own c w el => exact bytesC_sat fun X n hi => h X n fun g => ⟨_, he, taken_row (c0 := c) (.inr ⟨w, el, rfl⟩) hi.front⟩
  | row c => exact bytesC_sat fun X n hi => h X n fun g => ⟨_, he, taken_row (c0 := c) (.inl rfl) hi.front⟩
  | loop => trivial
  | deferred => trivial
  | gone => trivial
  | obj => trivial
theorem rowF_uses (p : Nat → Bool) (X : Nat → BitVec 8) (n : Nat) : (rowF X n).CUses p := fun _ => rfl

/- A slice among the arguments. -/
noncomputable def sliceR (v : SV) (nil : R α) (f : SA → SN → R α) : R α :=
  SV.rec (motive_1 := fun _ => R α) (motive_2 := fun _ => Unit) (fun _ _ => .stuck 713) (fun _ => .stuck 713) (fun _ => .stuck 713) (fun _ => .stuck 713) (.stuck 713) (fun a l _ => f a l) nil (fun _ => .stuck 713) (.stuck 713) (fun _ _ _ _ _ => .stuck 713) (.stuck 713) (fun _ _ _ => .stuck 713) (.stuck 713) (fun _ _ => .stuck 713) (fun _ _ => .stuck 713) (fun _ => .stuck 713) (fun _ _ _ _ => .stuck 713) () (fun _ _ _ _ => ()) v
/-- the slice of one name for another with the place, the length and the capacity az they are -/
theorem slice_den {γ : Val} {a : SA} {l : SN} {c : SC} {x : Value} (h : (SV.slice a l c).den γ = some x) : ∃ m, l.den ≤ m ∧ (SV.slice ⟨a.nm, .sym a.off.den⟩ (.sym l.den) (.sym m)).den γ = some x ∧ (SV.slice ⟨a.nm, .sym a.off.den⟩ l (.sym m)).den γ = some x ∧ (SV.slice a l (.sym m)).den γ = some x := by
  simp only [SV.den, Option.bind_eq_some_iff] at h
  obtain ⟨y, hy, m, hm, hs⟩ := h
  unfold sliceV at hs
  have hl : l.den ≤ m := by
    by_cases h : l.den ≤ m
    · exact h
    · rw [if_neg h] at hs; cases hs
  have hy' : (⟨a.nm, .sym a.off.den⟩ : SA).den γ = some y := hy
  refine ⟨m, hl, ?_, ?_, ?_⟩
  · simp only [SV.den, Option.bind_eq_some_iff]
    exact ⟨y, hy', m, rfl, hs⟩
  · simp only [SV.den, Option.bind_eq_some_iff]
    exact ⟨y, hy', m, rfl, hs⟩
  · simp only [SV.den, Option.bind_eq_some_iff]
    exact ⟨y, hy, m, rfl, hs⟩
theorem sliceR_sat {v : SV} {nil : R α} {f : SA → SN → R α} {φ : α → Prop} (h0 : v = .nilSlice → nil.Sat φ) (h : ∀ a l c, v = .slice a l c → (f a l).Sat φ) : (sliceR v nil f).Sat φ := by
  cases v <;> first | trivial | exact h0 rfl | exact h _ _ _ rfl
/-- a slice of which the length alone is looked at -/
noncomputable def valS (v : SV) (no : R α) (f : Nat → R α) : R α := v.asVal no fun x => match x with | .slice _ n _ => f n | _ => no
theorem valS_sat {v : SV} {no : R α} {f : Nat → R α} {φ : α → Prop} (h0 : no.Sat φ) (h : ∀ p n c, v = .val (.slice p n c) → (f n).Sat φ) : (valS v no f).Sat φ := by
  cases v <;> first | exact h0 | skip
  rename_i x
  cases x <;> first | exact h0 | exact h _ _ _ rfl
/-- a length: known to be n, or az a fork -/
noncomputable def lenIs (l : SN) (n : Nat) (t f : R α) : R α := SN.rec (motive := fun _ => R α) (fun m => boolC (Nat.beq m n) t f) (fun m => .fork (decide (m = n)) t f) (fun o x => .fork (decide (o + x.toNat = n)) t f) l
theorem lenIs_sat {l : SN} {n : Nat} {t f : R α} {φ : α → Prop} (h : l.den = n → t.Sat φ) (h' : l.den ≠ n → f.Sat φ) : (lenIs l n t f).Sat φ := by
  cases l with
  | lit m => exact boolC_sat (fun hm => h (beq_spec hm)) fun hm => h' (beq_ne hm)
  | sym m => exact ⟨fun hm => h (of_decide_eq_true hm), fun hm => h' (of_decide_eq_false hm)⟩
  | byt o x => exact ⟨fun hm => h (of_decide_eq_true hm), fun hm => h' (of_decide_eq_false hm)⟩
/-- a run's fork: its condition, and what comes of either -/
noncomputable def outF (js : List Nat) (t : Tree) : Option (Bool × (List Prop × Option (SV × List (Option SO))) × (List Prop × Option (SV × List (Option SO)))) :=
  Tree.rec (motive := fun _ => Option (Bool × (List Prop × Option (SV × List (Option SO))) × (List Prop × Option (SV × List (Option SO))))) (fun _ _ => none) (fun _ => none) (fun _ _ _ => none) (fun b t f _ _ => some (b, outP js t, outP js f)) (fun _ => none) (fun _ _ => none) t
theorem outF_ob {js : List Nat} {t : Tree} {b : Bool} {o o' : List Prop × Option (SV × List (Option SO))} (h : outF js t = some (b, o, o')) {D : SV → List SO → Prop} {S : SS → Prop}
    (ht : b = true → ∀ t', outP js t' = o → t'.Ob D S) (hf : b = false → ∀ t', outP js t' = o' → t'.Ob D S) : t.Ob D S := by
  cases t with
  | fork b' t f =>
    have h' : some (b', outP js t, outP js f) = some (b, o, o') := h
    obtain ⟨h1, h2⟩ := Prod.mk.inj (Option.some.inj h')
    obtain ⟨h3, h4⟩ := Prod.mk.inj h2
    subst h1
    exact ⟨fun hb => ht hb t h3, fun hb => hf hb f h4⟩
  | done => cases h
  | stop => cases h
  | need => cases h
  | stuck => cases h
  | any => cases h



/-- a summary from a small run's outcome -/
theorem sum_outG {c : Cfg} (hc : CfgOK c) (n : Nat) {O : Nat → Prop} {w0 w : World} {β : Val} {H : List SO} {base : Nat} {f : FuncId} {vs : List Value} (hH : HeapRel0 c.P O w0 β H w)
    (I : Ifc) (hgl : ∀ g j, c.glob g = some j → I.known j = true ∧ ∃ l, β (I.big j) = some l ∧ l.blk = g ∧ l.off = 0) (ha : SV.denL β (SV.renL I.big I.args) = some vs) (hI : I.Fits H) {r : SumRes} (keep : List Nat) (hk : ∀ j ∈ keep, I.names.length ≤ j) (hkn : keep.Nodup)
    {js : List Nat} {ps : List Prop} {v : SV} {es : List (Option SO)} (h : outP js (callSim c n f I.args I.ents) = (ps, some (v, es))) (hp : ∀ p ∈ ps, p) (hD : ∀ H2 : List SO, js.map (fun j => H2[j]?) = es → I.Ends base keep r v H2) : SumSem c.P H β w base f vs r :=
  sum_runG hc n hH I hgl ha hI keep hk hkn (outP_ob h hp hD)
theorem sum_out {c : Cfg} (hc : CfgOK c) (hgl : c.glob = fun _ => none) (n : Nat) {O : Nat → Prop} {w0 w : World} {β : Val} {H : List SO} {base : Nat} {f : FuncId} {vs : List Value} (hH : HeapRel0 c.P O w0 β H w)
    (I : Ifc) (ha : SV.denL β (SV.renL I.big I.args) = some vs) (hI : I.Fits H) {r : SumRes} (keep : List Nat) (hk : ∀ j ∈ keep, I.names.length ≤ j) (hkn : keep.Nodup)
    {js : List Nat} {ps : List Prop} {v : SV} {es : List (Option SO)} (h : outP js (callSim c n f I.args I.ents) = (ps, some (v, es))) (hp : ∀ p ∈ ps, p) (hD : ∀ H2 : List SO, js.map (fun j => H2[j]?) = es → I.Ends base keep r v H2) : SumSem c.P H β w base f vs r :=
  sum_run hc hgl n hH I ha hI keep hk hkn (outP_ob h hp hD)

theorem sum_outF {c : Cfg} (hc : CfgOK c) (hgl : c.glob = fun _ => none) (n : Nat) {O : Nat → Prop} {w0 w : World} {β : Val} {H : List SO} {base : Nat} {f : FuncId} {vs : List Value} (hH : HeapRel0 c.P O w0 β H w)
    (I : Ifc) (ha : SV.denL β (SV.renL I.big I.args) = some vs) (hI : I.Fits H) {r : SumRes} (keep : List Nat) (hk : ∀ j ∈ keep, I.names.length ≤ j) (hkn : keep.Nodup)
    {js : List Nat} {b : Bool} {o o' : List Prop × Option (SV × List (Option SO))} (h : outF js (callSim c n f I.args I.ents) = some (b, o, o')) (ht : b = true → ∀ t', outP js t' = o → t'.Ob (I.Ends base keep r) fun _ => False) (hf : b = false → ∀ t', outP js t' = o' → t'.Ob (I.Ends base keep r) fun _ => False) : SumSem c.P H β w base f vs r :=
  sum_run hc hgl n hH I ha hI keep hk hkn (outF_ob h ht hf)

end Go.Sim


/-
  The program, az the simulator takes it: configurations with summaries.
-/
namespace Go.Proofs.YtflafdhmmcknhaaGreatDoor.Aes
open Go.Sim
open Go.Proofs
variable {α : Type}

theorem progOK : ProgOK Tryz.prog := by
  refine ⟨?_, by kernel_rfl⟩
  have h : (Tryz.prog.funcs.all fun fn => !(fn.body.isSome && fn.name == "runtime.NumGoroutine")) = true := by kernel_rfl
  intro f fn hf hb
  have := Array.all_eq_true'.1 h fn (Array.mem_of_getElem? hf)
  rw [hb] at this
  simpa using this
/-- a simulator that takes these summaries -/
noncomputable def cfgG (glob : Nat → Option Nat) (s : FuncId → Option Summ) : Cfg := { P := Tryz.prog, glob := glob, sums := s, stopAt := none }
noncomputable def cfgOf (s : FuncId → Option Summ) : Cfg := cfgG (fun _ => none) s
noncomputable def sumsOf (l : List (FuncId × Summ)) : FuncId → Option Summ := List.rec (motive := fun _ => FuncId → Option Summ) (fun _ => none) (fun a _ ih f => boolC (Nat.beq f a.1) (some a.2) (ih f)) l
theorem sumsG_ok {glob : Nat → Option Nat} : ∀ {l : List (FuncId × Summ)}, (∀ x ∈ l, SumAt Tryz.prog glob x.1 x.2) → CfgOK (cfgG glob (sumsOf l))
  | [], _ => ⟨progOK, fun _ _ h => by cases h⟩
  | a :: l, hl => ⟨progOK, fun f s h => by
      rcases boolC_some (show boolC (Nat.beq f a.1) (some a.2) (sumsOf l f) = some s from h) with ⟨hf, h⟩ | h
      · cases h; rw [beq_spec hf]; exact hl a List.mem_cons_self
      · exact (sumsG_ok (l := l) fun x hx => hl x (List.mem_cons_of_mem _ hx)).sums f s h⟩
theorem sumsOf_ok {l : List (FuncId × Summ)} (h : ∀ x ∈ l, SumOK Tryz.prog x.1 x.2) : CfgOK (cfgOf (sumsOf l)) := sumsG_ok fun x hx => h x hx _
theorem all1 {x : FuncId × Summ} (h : SumOK Tryz.prog x.1 x.2) : ∀ y ∈ [x], SumOK Tryz.prog y.1 y.2 := by simpa using h
theorem allC {x : FuncId × Summ} {l : List (FuncId × Summ)} (h : SumOK Tryz.prog x.1 x.2) (h' : ∀ y ∈ l, SumOK Tryz.prog y.1 y.2) : ∀ y ∈ x :: l, SumOK Tryz.prog y.1 y.2 := by
  intro y hy
  rcases List.mem_cons.1 hy with rfl | hy
  · exact h
  · exact h' y hy
noncomputable def cfg0 : Cfg := cfgOf (sumsOf [])
theorem cfg0OK : CfgOK cfg0 := sumsOf_ok (by simp)
noncomputable def byteR (x : BitVec 8) : R SumRes := .ok ⟨.int .u8 (.b8 x), [], []⟩
end Go.Proofs.YtflafdhmmcknhaaGreatDoor.Aes


/-
  The symbolic simulator, thirty-first part: the start of a law: slices of bytes that came in; its end.
-/
namespace Go.Sim
open Go.RowKit
variable {α : Type}

/-- A LAW THAT RETURNS TRUE, FROM A RUN -/
theorem calls_true {c : Cfg} (hc : CfgOK c) (n : Nat) {w : World} {β : Val} {H : List SO} {f : FuncId} {args : List SV} {vs : List Value} (hH : HeapRel c.P (fun _ => False) w β H w) (hG : GlobRel c.glob β) (ha : SV.denL β args = some vs)
    (hob : (callSim c n f args H).Ob (fun v _ => v = .bool (.lit true)) fun _ => False) : Calls c.P f vs.toArray w fun e w' => e = .returned (.bool true) ∧ Below w.heap.size w w' := by
  refine (calls_of hc hH hG ha hob).mono fun e w' hcame => ?_
  obtain ⟨v, H', x, β', rfl, rfl, _, hv, hH'⟩ := hcame
  cases hv
  exact ⟨rfl, hH'.keep.below⟩
/-- a path's conditions, at each fork the way that is told; its value, some of its entries -/
noncomputable def outO (js : List Nat) (t : Tree) : List Bool → List Prop × Option (SV × List (Option SO)) :=
  Tree.rec (motive := fun _ => List Bool → List Prop × Option (SV × List (Option SO))) (fun v H _ => ([], some (v, mapN (fun j => nth H j) js))) (fun _ _ => ([], none)) (fun p _ ih ds => (p :: (ih ds).1, (ih ds).2))
    (fun b _ _ iht ihf ds => List.rec (motive := fun _ => List Prop × Option (SV × List (Option SO))) ([], none) (fun d r _ => ((b = d) :: (boolC d (iht r) (ihf r)).1, (boolC d (iht r) (ihf r)).2)) ds) (fun _ _ => ([], none)) (fun _ _ _ => ([], none)) t
theorem outO_ob {js : List Nat} {t : Tree} {ds : List Bool} {ps : List Prop} {v : SV} {es : List (Option SO)} (h : outO js t ds = (ps, some (v, es))) (hp : ∀ p ∈ ps, p) {D : SV → List SO → Prop} {S : SS → Prop} (hD : ∀ H : List SO, js.map (fun j => H[j]?) = es → D v H) : t.Ob D S := by
  induction t generalizing ps ds with
  | done v' H =>
    have h' : ([], some (v', mapN (fun j => nth H j) js)) = (ps, some (v, es)) := h
    have h1 := Option.some.inj (Prod.mk.inj h').2
    obtain ⟨h2, h3⟩ := Prod.mk.inj h1
    subst h2
    refine hD H ?_
    rw [mapN_eq] at h3
    rw [← h3]
    exact List.map_congr_left fun j _ => (nth_eq H j).symm
  | stop => cases (Prod.mk.inj (show ([], none) = (ps, some (v, es)) from h)).2
  | need p t ih =>
    have h' : (p :: (outO js t ds).1, (outO js t ds).2) = (ps, some (v, es)) := h
    obtain ⟨h1, h2⟩ := Prod.mk.inj h'
    subst h1
    exact ⟨hp p List.mem_cons_self, ih (ds := ds) (ps := (outO js t ds).1) (by rw [← h2]) fun q hq => hp q (List.mem_cons_of_mem _ hq)⟩
  | fork b t f iht ihf =>
    cases ds with
    | nil => cases (Prod.mk.inj (show ([], none) = (ps, some (v, es)) from h)).2
    | cons d r =>
      have h' : ((b = d) :: (boolC d (outO js t r) (outO js f r)).1, (boolC d (outO js t r) (outO js f r)).2) = (ps, some (v, es)) := h
      obtain ⟨h1, h2⟩ := Prod.mk.inj h'
      subst h1
      have hb := hp _ List.mem_cons_self
      cases d with
      | true => exact ⟨fun _ => iht (ds := r) (ps := (outO js t r).1) (by rw [← h2]; rfl) fun q hq => hp q (List.mem_cons_of_mem _ hq), fun hf => by rw [hf] at hb; cases hb⟩
      | false => exact ⟨fun ht => (by rw [ht] at hb; cases hb), fun _ => ihf (ds := r) (ps := (outO js f r).1) (by rw [← h2]; rfl) fun q hq => hp q (List.mem_cons_of_mem _ hq)⟩
  | stuck => cases (Prod.mk.inj (show ([], none) = (ps, some (v, es)) from h)).2
  | any => cases (Prod.mk.inj (show ([], none) = (ps, some (v, es)) from h)).2
/-- the same, where numbers come that nobody knows -/
noncomputable def outZ (js : List Nat) (t : Tree) : List Bool → (Nat → Nat → Nat) → List Prop × Option (SV × List (Option SO)) :=
  Tree.rec (motive := fun _ => List Bool → (Nat → Nat → Nat) → List Prop × Option (SV × List (Option SO))) (fun v H _ _ => ([], some (v, mapN (fun j => nth H j) js))) (fun _ _ _ => ([], none)) (fun p _ ih ds z => (p :: (ih ds z).1, (ih ds z).2))
    (fun b _ _ iht ihf ds z => List.rec (motive := fun _ => List Prop × Option (SV × List (Option SO))) ([], none) (fun d r _ => ((b = d) :: (boolC d (iht r z) (ihf r z)).1, (boolC d (iht r z) (ihf r z)).2)) ds) (fun _ _ _ => ([], none)) (fun _ ih ds z => ih (z 0) ds fun i => z (i + 1)) t
theorem outZ_ob {js : List Nat} {t : Tree} {ds : List Bool} {ps : (Nat → Nat → Nat) → List Prop} {v : (Nat → Nat → Nat) → SV} {es : (Nat → Nat → Nat) → List (Option SO)} (h : ∀ z, outZ js t ds z = (ps z, some (v z, es z))) (hp : ∀ z, ∀ p ∈ ps z, p) {D : SV → List SO → Prop} {S : SS → Prop} (hD : ∀ z, ∀ H : List SO, js.map (fun j => H[j]?) = es z → D (v z) H) : t.Ob D S := by
  have z0 : Nat → Nat → Nat := fun _ _ => 0
  induction t generalizing ps v es ds with
  | done v' H =>
    have h := h z0
    have hD := hD z0
    have h' : ([], some (v', mapN (fun j => nth H j) js)) = (ps z0, some (v z0, es z0)) := h
    have h1 := Option.some.inj (Prod.mk.inj h').2
    obtain ⟨h2, h3⟩ := Prod.mk.inj h1
    rw [← h2] at hD
    refine hD H ?_
    rw [mapN_eq] at h3
    rw [← h3]
    exact List.map_congr_left fun j _ => (nth_eq H j).symm
  | stop => cases (Prod.mk.inj (show ([], none) = (ps z0, some (v z0, es z0)) from h z0)).2
  | need p t ih =>
    have h' : ∀ z, (p :: (outZ js t ds z).1, (outZ js t ds z).2) = (ps z, some (v z, es z)) := h
    refine ⟨?_, ih (ds := ds) (ps := fun z => (outZ js t ds z).1) (v := v) (es := es) (fun z => by rw [← (Prod.mk.inj (h' z)).2]) (fun z q hq => hp z q ?_) hD⟩
    · have := (Prod.mk.inj (h' z0)).1
      exact hp z0 p (by rw [← this]; exact List.mem_cons_self)
    · rw [← (Prod.mk.inj (h' z)).1]; exact List.mem_cons_of_mem _ hq
  | fork b t f iht ihf =>
    cases ds with
    | nil => cases (Prod.mk.inj (show ([], none) = (ps z0, some (v z0, es z0)) from h z0)).2
    | cons d r =>
      have h' : ∀ z, ((b = d) :: (boolC d (outZ js t r z) (outZ js f r z)).1, (boolC d (outZ js t r z) (outZ js f r z)).2) = (ps z, some (v z, es z)) := h
      have hb : b = d := hp z0 _ (by rw [← (Prod.mk.inj (h' z0)).1]; exact List.mem_cons_self)
      have hq : ∀ z, ∀ q ∈ (boolC d (outZ js t r z) (outZ js f r z)).1, q := fun z q hq => hp z q (by rw [← (Prod.mk.inj (h' z)).1]; exact List.mem_cons_of_mem _ hq)
      cases d with
      | true => exact ⟨fun _ => iht (ds := r) (ps := fun z => (outZ js t r z).1) (v := v) (es := es) (fun z => by rw [← (Prod.mk.inj (h' z)).2]; rfl) hq hD, fun hf => by rw [hf] at hb; cases hb⟩
      | false => exact ⟨fun ht => (by rw [ht] at hb; cases hb), fun _ => ihf (ds := r) (ps := fun z => (outZ js f r z).1) (v := v) (es := es) (fun z => by rw [← (Prod.mk.inj (h' z)).2]; rfl) hq hD⟩
  | stuck => cases (Prod.mk.inj (show ([], none) = (ps z0, some (v z0, es z0)) from h z0)).2
  | any k ih =>
    have h' : ∀ z, outZ js (k (z 0)) ds (fun i => z (i + 1)) = (ps z, some (v z, es z)) := h
    intro y
    let c : (Nat → Nat → Nat) → Nat → Nat → Nat := fun z i => Nat.rec (motive := fun _ => Nat → Nat) y (fun j _ => z j) i
    exact ih y (ds := ds) (ps := fun z => ps (c z)) (v := fun z => v (c z)) (es := fun z => es (c z)) (fun z => h' (c z)) (fun z => hp (c z)) (fun z => hD (c z))
theorem sum_outO {c : Cfg} (hc : CfgOK c) (hgl : c.glob = fun _ => none) (n : Nat) {O : Nat → Prop} {w0 w : World} {β : Val} {H : List SO} {base : Nat} {f : FuncId} {vs : List Value} (hH : HeapRel0 c.P O w0 β H w)
    (I : Ifc) (ha : SV.denL β (SV.renL I.big I.args) = some vs) (hI : I.Fits H) {r : SumRes} (keep : List Nat) (hk : ∀ j ∈ keep, I.names.length ≤ j) (hkn : keep.Nodup)
    {js : List Nat} {ds : List Bool} {ps : List Prop} {v : SV} {es : List (Option SO)} (h : outO js (callSim c n f I.args I.ents) ds = (ps, some (v, es))) (hp : ∀ p ∈ ps, p) (hD : ∀ H2 : List SO, js.map (fun j => H2[j]?) = es → I.Ends base keep r v H2) : SumSem c.P H β w base f vs r :=
  sum_run hc hgl n hH I ha hI keep hk hkn (outO_ob h hp hD)
theorem sum_outOG {c : Cfg} (hc : CfgOK c) (n : Nat) {O : Nat → Prop} {w0 w : World} {β : Val} {H : List SO} {base : Nat} {f : FuncId} {vs : List Value} (hH : HeapRel0 c.P O w0 β H w)
    (I : Ifc) (hgl : ∀ g j, c.glob g = some j → I.known j = true ∧ ∃ l, β (I.big j) = some l ∧ l.blk = g ∧ l.off = 0) (ha : SV.denL β (SV.renL I.big I.args) = some vs) (hI : I.Fits H) {r : SumRes} (keep : List Nat) (hk : ∀ j ∈ keep, I.names.length ≤ j) (hkn : keep.Nodup)
    {js : List Nat} {ds : List Bool} {ps : List Prop} {v : SV} {es : List (Option SO)} (h : outO js (callSim c n f I.args I.ents) ds = (ps, some (v, es))) (hp : ∀ p ∈ ps, p) (hD : ∀ H2 : List SO, js.map (fun j => H2[j]?) = es → I.Ends base keep r v H2) : SumSem c.P H β w base f vs r :=
  sum_runG hc n hH I hgl ha hI keep hk hkn (outO_ob h hp hD)
/-- conditions, one by one -/
theorem all_nil : ∀ p ∈ ([] : List Prop), p := by simp
theorem all_cons {p : Prop} {ps : List Prop} (h : p) (hs : ∀ q ∈ ps, q) : ∀ q ∈ p :: ps, q := by
  intro q hq
  rcases List.mem_cons.1 hq with rfl | hq
  · exact h
  · exact hs q hq
theorem law_by {c : Cfg} (hc : CfgOK c) (n : Nat) {w : World} {β : Val} {H : List SO} {f : FuncId} {args : List SV} {vs : List Value} (hH : HeapRel c.P (fun _ => False) w β H w) (hG : GlobRel c.glob β) (ha : SV.denL β args = some vs) (ds : List Bool)
    {ps : List Prop} (h : outO [] (callSim c n f args H) ds = (ps, some (.bool (.lit true), []))) (hp : ∀ p ∈ ps, p) : Calls c.P f vs.toArray w fun e w' => e = .returned (.bool true) ∧ Below w.heap.size w w' :=
  calls_true hc n hH hG ha (by generalize callSim c n f args H = t at h ⊢; exact outO_ob h hp fun _ _ => rfl)

noncomputable def need1 (f : Nat → Prop) (n : Nat) : List Prop := mapN f (fromN n 0)
theorem fromN_eqr : ∀ n k : Nat, fromN n k = List.range' k n := by
  intro n
  induction n with
  | zero => intro k; rfl
  | succ n ih => intro k; show k :: fromN n (k + 1) = _; rw [ih]; rfl
theorem need1_all {f : Nat → Prop} {n : Nat} (h : ∀ i, i < n → f i) : ∀ p ∈ need1 f n, p := by
  intro p hp
  unfold need1 at hp
  rw [mapN_eq, fromN_eqr] at hp
  obtain ⟨i, hi, rfl⟩ := List.mem_map.1 hp
  rw [List.mem_range'] at hi
  obtain ⟨j, hj, rfl⟩ := hi
  exact h _ (by omega)

end Go.Sim


/-
  The symbolic simulator, thirty-second part: loops of any number of rounds.
-/
namespace Go.Sim
variable {α : Type}

/- A state of which some temporaries are known: where a loop's round begins. -/
structure SP where
  fn : FuncId
  tmps : List (Option SV)
  todo : List SItem
  defers : List SD
  roundOf : Option Nat
/-- an entry; a loop's record of which some temporaries are known -/
inductive HP where
  | ent (e : SO)
  | loop (state : LoopState) (pending : Option Code) (fn : FuncId) (tmps : List (Option SV)) (params : Array Tmp) (assign body : Code) (defers : Nat)
structure Cut where
  frames : List SP
  heap : List HP
/-- what nobody looks at -/
structure Junk where
  fr : Nat → Nat → Value
  hp : Nat → Nat → Value
noncomputable def fillT (js : Nat → Value) (T : List (Option SV)) : Nat → List SV :=
  List.rec (motive := fun _ => Nat → List SV) (fun _ => []) (fun o _ ih k => optC o (.val (js k)) (fun v => v) :: ih (Nat.succ k)) T
noncomputable def SP.fill (js : Nat → Value) (p : SP) : SF := ⟨p.fn, fillT js p.tmps 0, p.todo, p.defers, p.roundOf⟩
noncomputable def fillFs (J : Nat → Nat → Value) (l : List SP) : Nat → List SF := List.rec (motive := fun _ => Nat → List SF) (fun _ => []) (fun p _ ih i => p.fill (J i) :: ih (Nat.succ i)) l
noncomputable def HP.fill (js : Nat → Value) (E : HP) : SO := HP.rec (motive := fun _ => SO) (fun e => e) (fun s p f T ps a b d => .loop s p f (fillT js T 0) ps a b d) E
noncomputable def fillHs (J : Nat → Nat → Value) (l : List HP) : Nat → List SO := List.rec (motive := fun _ => Nat → List SO) (fun _ => []) (fun p _ ih i => p.fill (J i) :: ih (Nat.succ i)) l
noncomputable def Cut.fill (J : Junk) (C : Cut) : SS := ⟨fillFs J.fr C.frames 0, fillHs J.hp C.heap 0⟩

/- Names turned. -/
def SItem.ren (f : Nat → Nat) : SItem → SItem
  | .inRF n => .inRF (f n)
  | .endRF n => .endRF (f n)
  | x => x
def SD.ren (f : Nat → Nat) : SD → SD
  | .coll n => .coll (f n)
  | .call g xs ys => .call (g.ren f) (SV.renL f xs) (SV.renL f ys)
noncomputable def renEs (f : Nat → Nat) (es : List (SV × SV × Nat)) : List (SV × SV × Nat) := mapN (fun e => (e.1.ren f, e.2.1.ren f, e.2.2)) es
noncomputable def SObj.ren (f : Nat → Nat) (o : SObj) : SObj := SObj.rec (motive := fun _ => SObj) (fun es clock => .map (renEs f es) clock) (fun m since seen last => .iter (optC m none fun n => some (f n)) since seen last) (fun s pos => .str s pos) o
theorem entsDen_ren (f : Nat → Nat) (β : Val) : ∀ es : List (SV × SV × Nat), entsDen β (renEs f es) = entsDen (fun n => β (f n)) es
  | [] => rfl
  | e :: r => by
    show entsDen β ((e.1.ren f, e.2.1.ren f, e.2.2) :: renEs f r) = _
    simp only [entsDen, SV.den_ren, entsDen_ren f β r]
theorem SObj.den_ren (f : Nat → Nat) (β : Val) (o : SObj) : (o.ren f).den β = o.den (fun n => β (f n)) := by
  cases o with
  | map es clock =>
    show (entsDen β (renEs f es)).map _ = (entsDen _ es).map _
    rw [entsDen_ren]
  | iter m since seen last => cases m <;> rfl
  | str s pos => rfl
def SObj.Imp (a b : SObj) : Prop := ∀ β x, a.den β = some x → b.den β = some x
theorem ItemRel.ren {β : Val} (f : Nat → Nat) {x : SItem} {y : Item} (h : ItemRel β (x.ren f) y) : ItemRel (fun n => β (f n)) x y := by
  cases x <;> cases y <;> exact h
theorem TodoRel.ren {β : Val} (f : Nat → Nat) : ∀ {x : List SItem} {y : List Item}, TodoRel β (x.map (SItem.ren f)) y → TodoRel (fun n => β (f n)) x y
  | [], [], _ => trivial
  | _ :: _, _ :: _, h => ⟨ItemRel.ren f h.1, TodoRel.ren f h.2⟩
  | [], _ :: _, h => h.elim
  | _ :: _, [], h => h.elim
theorem SD.den_ren (f : Nat → Nat) (β : Val) (d : SD) : (d.ren f).den β = d.den (fun n => β (f n)) := by
  cases d with
  | coll n => rfl
  | call g xs ys => simp only [SD.ren, SD.den, SFn.den_ren, SV.denL_ren]
theorem SD.denL_ren (f : Nat → Nat) (β : Val) : ∀ l : List SD, SD.denL β (l.map (SD.ren f)) = SD.denL (fun n => β (f n)) l
  | [] => rfl
  | d :: l => by simp only [List.map_cons, SD.denL, SD.den_ren, SD.denL_ren f β l]

/- What a state comes to, az a cut with other names. -/
def GenT (f : Nat → Nat) : List SV → List (Option SV) → Prop
  | v :: vs, some u :: us => v.Imp (u.ren f) ∧ GenT f vs us
  | _ :: vs, none :: us => GenT f vs us
  | [], [] => True
  | _, _ => False
structure GenF (f : Nat → Nat) (s : SF) (p : SP) : Prop where
  fn : s.fn = p.fn
  tmps : GenT f s.tmps p.tmps
  todo : s.todo = p.todo.map (SItem.ren f)
  defers : s.defers = p.defers.map (SD.ren f)
  roundOf : s.roundOf = p.roundOf.map f
def GenFs (f : Nat → Nat) : List SF → List SP → Prop
  | s :: ss, p :: ps => GenF f s p ∧ GenFs f ss ps
  | [], [] => True
  | _, _ => False
def GenE (f : Nat → Nat) (e : Option SO) (E : HP) : Prop :=
  match E with
  | .ent (.own c w el) => ∃ c0, e = some (.own c0 w el) ∧ c0.Imp (c.ren f)
  | .ent (.row c) => ∃ c0, e = some (.row c0) ∧ c0.Imp (c.ren f)
  | .ent (.deferred ds) => e = some (.deferred (ds.map (List.map (SD.ren f))))
  | .ent (.obj o) => ∃ o0, e = some (.obj o0) ∧ o0.Imp (o.ren f)
  | .ent .gone => True
  | .ent (.loop ..) => False
  | .loop s p g T ps a b d => ∃ T0, e = some (.loop s p g T0 ps a b (f d)) ∧ GenT f T0 T
/-- the names, and what is beyond -/
noncomputable def nameOf (names : List Nat) (N j : Nat) : Nat := optC (nth names j) (Nat.add N j) fun n => n
structure Gen (k0 : Nat) (s : SS) (C : Cut) (names : List Nat) : Prop where
  keep : ∀ j, j < k0 → names[j]? = some j
  nodup : names.Nodup
  len : names.length = C.heap.length
  frames : GenFs (nameOf names s.heap.length) s.frames C.frames
  heap : ∀ j E, C.heap[j]? = some E → GenE (nameOf names s.heap.length) s.heap[nameOf names s.heap.length j]? E
/-- names that a run has had from its start lie ahead of k0 -/
structure BaseOK (k0 : Nat) (B : Base) : Prop where
  fix : ∀ n, k0 ≤ n → B.fix n = none
  glob : ∀ g nm, B.glob g = some nm → nm < k0

theorem fillT_den {β β' : Val} {f : Nat → Nat} (hβ : β' = fun n => β (f n)) {js : Nat → Value} : ∀ {vs : List SV} {T : List (Option SV)} {xs : List Value} {o : Nat}, SV.denL β vs = some xs → GenT f vs T → (∀ k x, xs[k]? = some x → js (o + k) = x) → SV.denL β' (fillT js T o) = some xs
  | [], [], xs, o, h, _, _ => h
  | v :: vs, u :: us, xs, o, h, hg, hj => by
    obtain ⟨y, ys, hy, hys, rfl⟩ := denL_cons.1 h
    have hj' : ∀ k x, ys[k]? = some x → js (o + 1 + k) = x := fun k x hk => by
      rw [show o + 1 + k = o + (k + 1) from by omega]; exact hj (k + 1) x (by simpa using hk)
    cases u with
    | some u =>
      refine denL_cons.2 ⟨y, ys, ?_, fillT_den hβ hys hg.2 hj', rfl⟩
      show u.den β' = _
      rw [hβ, ← SV.den_ren]; exact hg.1 _ _ hy
    | none =>
      refine denL_cons.2 ⟨y, ys, ?_, fillT_den hβ hys hg hj', rfl⟩
      show some (js o) = _
      rw [show o = o + 0 from rfl, hj 0 y rfl]
  | [], _ :: _, _, _, _, h, _ => h.elim
  | _ :: _, [], _, _, _, h, _ => h.elim

theorem nameOf_lt {names : List Nat} {N j : Nat} (h : j < names.length) : names[j]? = some (nameOf names N j) := by
  unfold nameOf
  rw [nth_eq, List.getElem?_eq_getElem h]; rfl
theorem nameOf_ge {names : List Nat} {N j : Nat} (h : names.length ≤ j) : nameOf names N j = N + j := by
  unfold nameOf
  rw [nth_eq, List.getElem?_eq_none h]; rfl
theorem fillHs_get (J : Nat → Nat → Value) : ∀ (l : List HP) (o i : Nat), (fillHs J l o)[i]? = l[i]?.map (HP.fill (J (o + i)))
  | [], _, _ => by simp [fillHs]
  | _ :: _, _, 0 => rfl
  | _ :: l, o, i + 1 => by
    show (fillHs J l (o + 1))[i]? = _
    rw [fillHs_get J l (o + 1) i, show o + 1 + i = o + (i + 1) from by omega]; simp
theorem fillHs_length (J : Nat → Nat → Value) : ∀ (l : List HP) (o : Nat), (fillHs J l o).length = l.length
  | [], _ => rfl
  | _ :: l, o => congrArg (· + 1) (fillHs_length J l (o + 1))
theorem HP.owned_fill {f : Nat → Nat} {js : Nat → Value} {e : Option SO} {E : HP} (h : GenE f e E) (ho : (E.fill js).owned = true) : ∃ e0, e = some e0 ∧ e0.owned = true := by
  cases E with
  | ent E =>
    cases E with
    | own c w el => obtain ⟨c0, rfl, _⟩ := h; exact ⟨_, rfl, rfl⟩
    | row c => cases ho
    | loop => exact h.elim
    | deferred ds => have h : e = _ := h; subst h; exact ⟨_, rfl, rfl⟩
    | gone => cases ho
    | obj o => obtain ⟨o0, rfl, _⟩ := h; exact ⟨_, rfl, rfl⟩
  | loop s p g T ps a b d => obtain ⟨T0, rfl, _⟩ := h; exact ⟨_, rfl, rfl⟩

theorem framesRel_fill {β β' : Val} {f : Nat → Nat} (hβ : β' = fun n => β (f n)) {J : Nat → Nat → Value} : ∀ {ss : List SF} {ps : List SP} {fs : List Frame} {o : Nat}, FramesRel β ss fs → GenFs f ss ps → (∀ i fr, fs[i]? = some fr → ∀ k x, fr.tmps.toList[k]? = some x → J (o + i) k = x) → FramesRel β' (fillFs J ps o) fs
  | [], [], [], o, _, _, _ => trivial
  | s :: ss, p :: ps, fr :: fs, o, h, hg, hj => by
    have h0 := hj 0 fr rfl
    refine ⟨?_, framesRel_fill hβ h.2 hg.2 fun i fr' hi k x hk => ?_⟩
    · obtain ⟨h1, h2, h3, h4, h5, h6, h7⟩ := h.1
      obtain ⟨g1, g2, g3, g4, g5⟩ := hg.1
      refine ⟨h1.trans g1, ?_, ?_, ?_, h5, h6, ?_⟩
      · exact fillT_den hβ h2 g2 fun k x hk => by rw [Nat.zero_add]; exact h0 k x hk
      · rw [hβ]; rw [g3] at h3; exact TodoRel.ren f h3
      · show SD.denL β' p.defers = _
        rw [hβ, ← SD.denL_ren, ← g4]; exact h4
      · show RoundRel β' p.roundOf fr.roundOf
        rw [hβ]
        rw [g5] at h7
        cases hp : p.roundOf <;> cases hr : fr.roundOf <;> rw [hp, hr] at h7 <;> exact h7
    · rw [show o + 1 + i = o + (i + 1) from by omega]
      exact hj (i + 1) fr' (by simpa using hi) k x hk
  | [], _ :: _, _, _, _, h, _ => h.elim
  | _ :: _, [], _, _, _, h, _ => h.elim
  | [], [], _ :: _, _, h, _, _ => h.elim
  | _ :: _, _ :: _, [], _, h, _, _ => h.elim

theorem Cells.den_ren (f : Nat → Nat) {β : Val} {c : Cells} {vs : List Value} (h : CellsRel β (c.ren f) vs) : CellsRel (fun n => β (f n)) c vs := by
  cases c with
  | lst l =>
    have h : SV.denL β (SV.renL f l) = some vs := h
    rw [SV.denL_ren] at h; exact h
  | fn g n =>
    obtain ⟨h1, h2⟩ := h
    refine ⟨h1, fun i x hx => ?_⟩
    have := h2 i x hx
    rw [SV.den_ren] at this; exact this

/-- A STATE IS A CUT, with what nobody looks at filled in -/
theorem gen_rel {B : Base} {k0 : Nat} (hB : BaseOK k0 B) {s : SS} {C : Cut} {names : List Nat} (h : Gen k0 s C names) {m : Machine} (hM : MRel B s m) : ∃ J, MRel B (C.fill J) m := by
  obtain ⟨β, fr, frs, w, rfl, hFs, hH, hG, hl⟩ := hM.ex
  obtain ⟨hkeep, hnd, hlen, hgf, hgh⟩ := h
  generalize hf : nameOf names s.heap.length = f at hgf hgh
  have hlt : ∀ j, j < names.length → names[j]? = some (f j) := fun j hj => by rw [← hf]; exact nameOf_lt hj
  have hge : ∀ j, names.length ≤ j → f j = s.heap.length + j := fun j hj => by rw [← hf]; exact nameOf_ge hj
  have hid : ∀ j, j < k0 → f j = j := fun j hj => by
    have h1 := hkeep j hj
    have h2 := (List.getElem?_eq_some_iff.1 h1).1
    rw [hlt j h2] at h1; exact Option.some.inj h1
  have hinj : ∀ i j, i < names.length → j < names.length → f i = f j → i = j := fun i j hi hj he => by
    have h1 := hlt i hi
    have h2 := hlt j hj
    rw [he] at h1
    exact (List.getElem?_inj hi hnd).1 (h1.trans h2.symm)
  let J : Junk := ⟨fun i k => (((fr :: frs)[i]?).bind fun g => g.tmps.toList[k]?).getD undef, fun j k => ((β (f j)).bind fun l => match w.heap[l.blk]? with | some (.loop r) => r.tmps.toList[k]? | _ => none).getD undef⟩
  have hent : ∀ j e, (fillHs J.hp C.heap 0)[j]? = some e → ∃ E : HP, C.heap[j]? = some E ∧ e = E.fill (J.hp j) := fun j e he => by
    rw [fillHs_get, Nat.zero_add] at he
    cases hE : C.heap[j]? with
    | none => rw [hE] at he; cases he
    | some E => rw [hE] at he; exact ⟨E, rfl, (Option.some.inj he).symm⟩
  have hjl : ∀ j E, C.heap[j]? = some E → j < names.length := fun j E h => by rw [hlen]; exact (List.getElem?_eq_some_iff.1 h).1
  refine ⟨J, ⟨fun n => β (f n), fr, frs, w, rfl, ?_, ⟨⟨?_, ?_, ?_, hH.keep⟩, ?_⟩, ⟨?_, ?_⟩, hl⟩⟩
  · refine framesRel_fill rfl hFs hgf fun i g hi k x hk => ?_
    show (((fr :: frs)[0 + i]?).bind fun g => g.tmps.toList[k]?).getD undef = x
    rw [Nat.zero_add, hi]
    show (g.tmps.toList[k]?).getD undef = x
    rw [hk]; rfl
  · intro j e he
    obtain ⟨E, hE, rfl⟩ := hent j e he
    have hg := hgh j E hE
    have hold := hH.entries (f j)
    cases E with
    | ent E =>
      cases E with
      | own c wh el =>
        obtain ⟨c0, h1, hi⟩ := hg
        obtain ⟨l, vs, rest, lo, hi2, hl2, h0, hc, hh, hz, hw, hcap⟩ := hold _ h1
        exact ⟨l, vs, rest, lo, hi2, hl2, h0, Cells.den_ren f (hi _ _ hc), hh, hz, hw, hcap⟩
      | row c =>
        obtain ⟨c0, h1, hi⟩ := hg
        obtain ⟨l, vs, hl2, hc, hx⟩ := hold _ h1
        exact ⟨l, vs, hl2, Cells.den_ren f (hi _ _ hc), hx⟩
      | loop => exact hg.elim
      | deferred ds =>
        obtain ⟨l, ds', hl2, hd, hh⟩ := hold _ hg
        refine ⟨l, ds', hl2, ?_, hh⟩
        cases ds with
        | none => exact hd
        | some ds =>
          have hd : (SD.denL β (ds.map (SD.ren f))).map some = some ds' := hd
          rw [SD.denL_ren] at hd; exact hd
      | gone => trivial
      | obj o =>
        obtain ⟨o0, h1, hi⟩ := hg
        obtain ⟨l, x, hl2, h0, hd, hh⟩ := hold _ h1
        refine ⟨l, x, hl2, h0, ?_, hh⟩
        rw [← SObj.den_ren]
        exact hi _ _ hd
    | loop st p g T ps a b d =>
      obtain ⟨T0, h1, hT⟩ := hg
      obtain ⟨l, ld, Ts, hl2, hd, hTs, hh⟩ := hold _ h1
      refine ⟨l, ld, Ts, hl2, hd, ?_, hh⟩
      refine fillT_den rfl hTs hT fun k x hk => ?_
      show ((β (f j)).bind fun l => _).getD undef = x
      rw [hl2]
      simp only [Option.bind_some, hh, Nat.zero_add, hk]
      rfl
  · intro i j e e' l l' hi hj ho ho' hij hl1 hl2
    obtain ⟨E, hE, rfl⟩ := hent i e hi
    obtain ⟨E', hE', rfl⟩ := hent j e' hj
    obtain ⟨e0, h1, h2⟩ := HP.owned_fill (hgh i E hE) ho
    obtain ⟨e1, h3, h4⟩ := HP.owned_fill (hgh j E' hE') ho'
    exact hH.sep (f i) (f j) e0 e1 l l' h1 h3 h2 h4 (fun he => hij (hinj i j (hjl i E hE) (hjl j E' hE') he)) hl1 hl2
  · intro j e l he ho hl1
    obtain ⟨E, hE, rfl⟩ := hent j e he
    obtain ⟨e0, h1, h2⟩ := HP.owned_fill (hgh j E hE) ho
    exact hH.fresh (f j) e0 l h1 h2 hl1
  · intro n hn
    have hn : (fillHs J.hp C.heap 0).length ≤ n := hn
    rw [fillHs_length, ← hlen] at hn
    show β (f n) = none
    rw [hge n hn]
    exact hH.bound _ (Nat.le_add_right _ _)
  · intro g nm hg
    obtain ⟨l, h1, h2⟩ := hG.glob g nm hg
    exact ⟨l, by show β (f nm) = some l; rw [hid nm (hB.glob g nm hg)]; exact h1, h2⟩
  · intro n l hn
    show β (f n) = some l
    by_cases hk : n < k0
    · rw [hid n hk]; exact hG.fix n l hn
    · rw [hB.fix n (by omega)] at hn; cases hn

/- The rule. -/
/-- the state is the beginning of a round -/
def Turns {A : Type} (k0 : Nat) (C : A → Cut) (Q : A → Prop) (s : SS) : Prop := ∀ B m, BaseOK k0 B → MRel B s m → ∃ a J, Q a ∧ MRel B ((C a).fill J) m
theorem turns_of {A : Type} {k0 : Nat} {C : A → Cut} {Q : A → Prop} {s : SS} (a : A) (hq : Q a) (names : List Nat) (h : Gen k0 s (C a) names) : Turns k0 C Q s :=
  fun _ _ hB hM => let ⟨J, hJ⟩ := gen_rel hB h hM; ⟨a, J, hq, hJ⟩
/-- the same, with another place to stop -/
def Cfg.at (c : Cfg) (st : Option (Nat × Nat)) : Cfg := { P := c.P, glob := c.glob, sums := c.sums, stopAt := st }
theorem CfgOK.at {c : Cfg} (hc : CfgOK c) (st : Option (Nat × Nat)) : CfgOK (c.at st) := ⟨hc.prog, hc.sums⟩
theorem loop_ends {c : Cfg} (hc : CfgOK c) {B : Base} {k0 : Nat} (hB : BaseOK k0 B) (hP : B.P = c.P) (hgl : B.glob = c.glob) {A : Type} (C : A → Cut) (OK : A → Prop) (μ : A → Nat) {D : SV → List SO → Prop}
    (hs : ∀ a, OK a → ∀ J, ∃ st n, (sim1 (c.at st) n ((C a).fill J)).Ob D (Turns k0 C fun a' => OK a' ∧ μ a' < μ a)) :
    ∀ (k : Nat) (a : A) (J : Junk) (m : Machine), μ a < k → OK a → MRel B ((C a).fill J) m → ∃ m' v H, Steps B.P m m' ∧ D v H ∧ DoneRel B v H m' := by
  intro k
  induction k with
  | zero => intro a J m h; omega
  | succ k ih =>
    intro a J m hk ha hM
    obtain ⟨st, n, hs'⟩ := hs a ha J
    obtain ⟨m1, hst, ⟨v, H, hD, hdone⟩ | ⟨s, hS, hM1⟩⟩ := sim1_sound (B := B) (hc.at st) hP hgl hM hs'
    · exact ⟨m1, v, H, hst, hD, hdone⟩
    · obtain ⟨a', J', ⟨ha', hμ⟩, hM2⟩ := hS B m1 hB hM1
      obtain ⟨m2, v, H, hst2, hD, hdone⟩ := ih a' J' m1 (by omega) ha' hM2
      exact ⟨m2, v, H, hst.trans hst2, hD, hdone⟩

/-- a function comes to its end, with such a value and such entries -/
def Runs (c : Cfg) (f : FuncId) (args : List SV) (H : List SO) (D : SV → List SO → Prop) : Prop :=
  (∃ fn, c.P.funcs[f]? = some fn ∧ fn.body.isSome = true) ∧ ∀ (O : Nat → Prop) (w0 w : World) (β : Val) (vs : List Value), HeapRel c.P O w0 β H w → GlobRel c.glob β → SV.denL β args = some vs → Calls c.P f vs.toArray w (Came c.P O w0 β D)
/-- A FUNCTION WITH A LOOP -/
theorem runs_loop {c : Cfg} (hc : CfgOK c) {A : Type} (C : A → Cut) (OK : A → Prop) (μ : A → Nat) {D : SV → List SO → Prop} {f : FuncId} {args : List SV} {H : List SO} (hgl : ∀ g nm, c.glob g = some nm → nm < H.length)
    (h0 : ∃ st n, (callSim (c.at st) n f args H).Ob D (Turns H.length C OK))
    (hs : ∀ a, OK a → ∀ J, ∃ st n, (sim1 (c.at st) n ((C a).fill J)).Ob D (Turns H.length C fun a' => OK a' ∧ μ a' < μ a)) : Runs c f args H D := by
  obtain ⟨st0, n0, h0⟩ := h0
  unfold callSim at h0
  cases hg : enterF (c.at st0).P f args with
  | none => rw [hg] at h0; exact h0.elim
  | some g =>
    rw [hg] at h0
    refine ⟨enterF_body hg, fun O w0 w β vs hH hG ha cs => ?_⟩
    have hB : BaseOK H.length ⟨c.P, c.glob, O, w0, cs, f, β⟩ := ⟨hH.bound, hgl⟩
    have hend : ∀ m v H', Steps c.P (lone (Frame.enter c.P f vs.toArray .normal) cs w) m → D v H' → DoneRel ⟨c.P, c.glob, O, w0, cs, f, β⟩ v H' m →
        ∃ e w' b, Came c.P O w0 β D e w' ∧ Comes c.P (lone (Frame.enter c.P f vs.toArray .normal) cs w) (lone b cs w') e ∧ b.fn = f ∧ b.leaving c.P w' e := by
      intro m v H' hst hD hdone
      obtain ⟨β', fr, x, w', rfl, hfn, hleave, hv, hH', hG'⟩ := hdone.ex
      exact ⟨.returned x, w', fr, ⟨v, H', x, β', rfl, hD, hG'.fix, hv, hH'⟩, hst, hfn, hleave⟩
    obtain ⟨m1, hst, ⟨v, H', hD, hdone⟩ | ⟨s, hS, hM1⟩⟩ := sim_sound (B := ⟨c.P, c.glob, O, w0, cs, f, β⟩) (hc.at st0) rfl rfl n0 _ _ (enter_mrel (c := c) hH hG ha hg cs) h0
    · exact hend m1 v H' hst hD hdone
    · obtain ⟨a, J, ha', hM2⟩ := hS _ _ hB hM1
      obtain ⟨m2, v, H', hst2, hD, hdone⟩ := loop_ends hc hB rfl rfl C OK μ hs (μ a + 1) a J m1 (Nat.lt_succ_self _) ha' hM2
      exact hend m2 v H' (hst.trans hst2) hD hdone

end Go.Sim


/-
  The symbolic simulator, thirty-third part: what a round comes to, told by a closed term.
-/
namespace Go.Sim
variable {α : Type}

/- What is seen of a state: the temporaries and the entries that a cut names. -/
noncomputable def seeT (vs : List SV) : List (Option SV) → List (Option SV) :=
  List.rec (motive := fun _ => List (Option SV) → List (Option SV)) (fun _ => []) (fun v _ ih T => List.rec (motive := fun _ => List (Option SV)) (some v :: ih []) (fun o r _ => optC o none (fun _ => some v) :: ih r) T) vs
noncomputable def seeF (s : SF) (p : SP) : SP := ⟨s.fn, seeT s.tmps p.tmps, s.todo, s.defers, s.roundOf⟩
noncomputable def seeFs (ss : List SF) : List SP → List SP :=
  List.rec (motive := fun _ => List SP → List SP) (fun _ => []) (fun s _ ih ps => List.rec (motive := fun _ => List SP) (⟨s.fn, seeT s.tmps [], s.todo, s.defers, s.roundOf⟩ :: ih []) (fun p r _ => seeF s p :: ih r) ps) ss
noncomputable def seeL (e : SO) (T : List (Option SV)) : HP := SO.rec (motive := fun _ => HP) (fun c w el => .ent (.own c w el)) (fun c => .ent (.row c)) (fun s p f T0 ps a b d => .loop s p f (seeT T0 T) ps a b d) (fun ds => .ent (.deferred ds)) (.ent .gone) (fun o => .ent (.obj o)) e
noncomputable def goneB (e : SO) : Bool := SO.rec (motive := fun _ => Bool) (fun _ _ _ => false) (fun _ => false) (fun _ _ _ _ _ _ _ _ => false) (fun _ => false) true (fun _ => false) e
noncomputable def seeE (e : Option SO) (E : HP) : Option HP := HP.rec (motive := fun _ => Option HP) (fun E0 => boolC (goneB E0) (some (.ent .gone)) (optC e none fun e => some (.ent e))) (fun _ _ _ T _ _ _ _ => optC e none fun e => some (seeL e T)) E
noncomputable def seeHs (H : List SO) (names : List Nat) : List HP → List (Option HP) :=
  List.rec (motive := fun _ => List HP → List (Option HP)) (fun _ => []) (fun n _ ih Es => List.rec (motive := fun _ => List (Option HP)) [] (fun E r _ => seeE (nth H n) E :: ih r) Es) names
abbrev Seen := List SP × Nat × List (Option HP)
noncomputable def viewS (M : Cut) (names : List Nat) (s : SS) : Seen := (seeFs s.frames M.frames, lenN s.heap, seeHs s.heap names M.heap)

/- A cut under other names. -/
noncomputable def renT (f : Nat → Nat) (T : List (Option SV)) : List (Option SV) := mapN (fun o => optC o none fun v => some (v.ren f)) T
noncomputable def SP.ren (f : Nat → Nat) (p : SP) : SP := ⟨p.fn, renT f p.tmps, mapN (SItem.ren f) p.todo, mapN (SD.ren f) p.defers, optC p.roundOf none fun n => some (f n)⟩
noncomputable def HP.ren (f : Nat → Nat) (E : HP) : HP :=
  HP.rec (motive := fun _ => HP) (fun e => SO.rec (motive := fun _ => HP) (fun c w el => .ent (.own (c.ren f) w el)) (fun c => .ent (.row (c.ren f))) (fun s p g T ps a b d => .ent (.loop s p g T ps a b d)) (fun ds => .ent (.deferred (optC ds none fun l => some (mapN (SD.ren f) l)))) (.ent .gone) (fun o => .ent (.obj (o.ren f))) e)
    (fun s p g T ps a b d => .loop s p g (renT f T) ps a b (f d)) E
noncomputable def seenC (names : List Nat) (N : Nat) (C : Cut) : Seen := (mapN (SP.ren (nameOf names N)) C.frames, N, mapN (fun E => some (E.ren (nameOf names N))) C.heap)

/- What is seen bears what the cut says. -/
def ImpT (f : Nat → Nat) : List (Option SV) → List (Option SV) → Prop
  | some v :: vs, some u :: us => v.Imp (u.ren f) ∧ ImpT f vs us
  | none :: vs, none :: us => ImpT f vs us
  | [], [] => True
  | _, _ => False
structure ImpF (f : Nat → Nat) (s p : SP) : Prop where
  fn : s.fn = p.fn
  tmps : ImpT f s.tmps p.tmps
  todo : s.todo = p.todo.map (SItem.ren f)
  defers : s.defers = p.defers.map (SD.ren f)
  roundOf : s.roundOf = p.roundOf.map f
def ImpFs (f : Nat → Nat) : List SP → List SP → Prop
  | s :: ss, p :: ps => ImpF f s p ∧ ImpFs f ss ps
  | [], [] => True
  | _, _ => False
def ImpE (f : Nat → Nat) (e : Option HP) (E : HP) : Prop :=
  match E with
  | .ent (.own c w el) => ∃ c0, e = some (.ent (.own c0 w el)) ∧ c0.Imp (c.ren f)
  | .ent (.row c) => ∃ c0, e = some (.ent (.row c0)) ∧ c0.Imp (c.ren f)
  | .ent (.deferred ds) => e = some (.ent (.deferred (ds.map (List.map (SD.ren f)))))
  | .ent (.obj o) => ∃ o0, e = some (.ent (.obj o0)) ∧ o0.Imp (o.ren f)
  | .ent .gone => True
  | .ent (.loop ..) => False
  | .loop s p g T ps a b d => ∃ T0, e = some (.loop s p g T0 ps a b (f d)) ∧ ImpT f T0 T
def ImpEs (f : Nat → Nat) : List (Option HP) → List HP → Prop
  | e :: es, E :: Es => ImpE f e E ∧ ImpEs f es Es
  | [], [] => True
  | _, _ => False
theorem seeT_gen {f : Nat → Nat} : ∀ {vs : List SV} {Tm T : List (Option SV)}, ImpT f (seeT vs Tm) T → GenT f vs T
  | [], _, [], _ => trivial
  | [], _, _ :: _, h => by cases h
  | v :: vs, [], T, h => by
    have h : ImpT f (some v :: seeT vs []) T := h
    cases T with
    | nil => exact h.elim
    | cons u us => cases u with
      | none => exact h.elim
      | some u => exact ⟨h.1, seeT_gen h.2⟩
  | v :: vs, o :: Tm, T, h => by
    have h : ImpT f (optC o none (fun _ => some v) :: seeT vs Tm) T := h
    cases T with
    | nil => cases o <;> exact h.elim
    | cons u us =>
      cases o with
      | none => cases u with
        | none => exact seeT_gen (Tm := Tm) (T := us) h
        | some u => exact h.elim
      | some o => cases u with
        | none => exact h.elim
        | some u => exact ⟨h.1, seeT_gen (Tm := Tm) (T := us) h.2⟩
theorem seeFs_gen {f : Nat → Nat} : ∀ {ss : List SF} {pm ps : List SP}, ImpFs f (seeFs ss pm) ps → GenFs f ss ps
  | [], _, [], _ => trivial
  | [], _, _ :: _, h => by cases h
  | s :: ss, [], ps, h => by
    have h : ImpFs f (⟨s.fn, seeT s.tmps [], s.todo, s.defers, s.roundOf⟩ :: seeFs ss []) ps := h
    cases ps with
    | nil => exact h.elim
    | cons p ps =>
      obtain ⟨⟨h1, h2, h3, h4, h5⟩, hr⟩ := h
      exact ⟨⟨h1, seeT_gen h2, h3, h4, h5⟩, seeFs_gen hr⟩
  | s :: ss, q :: pm, ps, h => by
    have h : ImpFs f (seeF s q :: seeFs ss pm) ps := h
    cases ps with
    | nil => exact h.elim
    | cons p ps =>
      obtain ⟨⟨h1, h2, h3, h4, h5⟩, hr⟩ := h
      exact ⟨⟨h1, seeT_gen h2, h3, h4, h5⟩, seeFs_gen hr⟩
theorem seeE_gen {f : Nat → Nat} {e : Option SO} {Em E : HP} (h : ImpE f (seeE e Em) E) : GenE f e E := by
  have hent : ∀ {e : Option SO} {e0 : SO}, e0 ≠ .gone → (∀ s p g T ps a b d, e0 ≠ .loop s p g T ps a b d) → seeE e Em = some (.ent e0) → e = some e0 := by
    intro e e0 hng hnl h
    cases Em with
    | ent Em =>
      have h : boolC (goneB Em) (some (.ent .gone)) (optC e none fun e => some (HP.ent e)) = some (.ent e0) := h
      cases hb : goneB Em with
      | true => rw [hb] at h; exact absurd (HP.ent.inj (Option.some.inj h)).symm hng
      | false =>
        rw [hb] at h
        cases e with
        | none => cases h
        | some e => rw [(HP.ent.inj (Option.some.inj h))]
    | loop s p g T ps a b d =>
      cases e with
      | none => cases h
      | some e =>
        have h : some (seeL e T) = some (HP.ent e0) := h
        have h := Option.some.inj h
        cases e with
        | loop => cases h
        | gone => exact absurd (HP.ent.inj h).symm hng
        | own => rw [← HP.ent.inj h]
        | row => rw [← HP.ent.inj h]
        | deferred => rw [← HP.ent.inj h]
        | obj => rw [← HP.ent.inj h]
  cases E with
  | ent E =>
    cases E with
    | own c w el => obtain ⟨c0, h1, h2⟩ := h; exact ⟨c0, hent (by simp) (by simp) h1, h2⟩
    | row c => obtain ⟨c0, h1, h2⟩ := h; exact ⟨c0, hent (by simp) (by simp) h1, h2⟩
    | deferred ds => exact hent (by simp) (by simp) h
    | obj o => obtain ⟨o0, h1, h2⟩ := h; exact ⟨o0, hent (by simp) (by simp) h1, h2⟩
    | gone => trivial
    | loop => exact h.elim
  | loop s p g T ps a b d =>
    obtain ⟨T0, h1, h2⟩ := h
    cases Em with
    | ent Em =>
      have h : boolC (goneB Em) (some (.ent .gone)) (optC e none fun e => some (HP.ent e)) = some (.loop s p g T0 ps a b (f d)) := h1
      cases hb : goneB Em with
      | true => rw [hb] at h; cases h
      | false => rw [hb] at h; cases e <;> cases h
    | loop s' p' g' Tm ps' a' b' d' =>
      cases e with
      | none => cases h1
      | some e =>
        have h1 : some (seeL e Tm) = some (HP.loop s p g T0 ps a b (f d)) := h1
        have h1 := Option.some.inj h1
        cases e with
        | loop s1 p1 g1 T1 ps1 a1 b1 d1 =>
          have h1 : HP.loop s1 p1 g1 (seeT T1 Tm) ps1 a1 b1 d1 = .loop s p g T0 ps a b (f d) := h1
          injection h1 with e1 e2 e3 e4 e5 e6 e7 e8
          subst e1 e2 e3 e4 e5 e6 e7 e8
          exact ⟨T1, rfl, seeT_gen h2⟩
        | own => cases h1
        | row => cases h1
        | deferred => cases h1
        | gone => cases h1
        | obj => cases h1
theorem seeHs_gen {f : Nat → Nat} {H : List SO} : ∀ {names : List Nat} {Em Es : List HP}, ImpEs f (seeHs H names Em) Es → Em.length = names.length → ∀ (j : Nat) (E : HP) (n : Nat), Es[j]? = some E → names[j]? = some n → GenE f H[n]? E
  | [], _, [], _, _, _, _, _, h, _ => by simp at h
  | [], _, _ :: _, h, _, _, _, _, _, _ => h.elim
  | n :: names, [], _, _, hl, _, _, _, _, _ => by simp at hl
  | n :: names, Em :: Ems, Es, h, hl, j, E, m, hE, hm => by
    have h : ImpEs f (seeE (nth H n) Em :: seeHs H names Ems) Es := h
    cases Es with
    | nil => exact h.elim
    | cons E0 Es =>
      cases j with
      | zero =>
        simp at hE hm
        subst hE hm
        have := seeE_gen h.1
        rwa [nth_eq] at this
      | succ j => exact seeHs_gen h.2 (by simpa using hl) j E m (by simpa using hE) (by simpa using hm)
/- The same under other names. -/
theorem impT_ren (f : Nat → Nat) : ∀ T : List (Option SV), ImpT f (renT f T) T
  | [] => trivial
  | some _ :: T => ⟨.refl _, impT_ren f T⟩
  | none :: T => impT_ren f T
theorem impFs_ren (f : Nat → Nat) : ∀ ps : List SP, ImpFs f (mapN (SP.ren f) ps) ps
  | [] => trivial
  | p :: ps => ⟨⟨rfl, impT_ren f _, by show mapN _ _ = _; rw [mapN_eq], by show mapN _ _ = _; rw [mapN_eq], by show optC p.roundOf none _ = _; cases p.roundOf <;> rfl⟩, impFs_ren f ps⟩
theorem impE_ren (f : Nat → Nat) (E : HP) (h : ∀ s p g T ps a b d, E ≠ .ent (.loop s p g T ps a b d)) : ImpE f (some (E.ren f)) E := by
  cases E with
  | ent e =>
    cases e with
    | own c w el => exact ⟨_, rfl, .refl _⟩
    | row c => exact ⟨_, rfl, .refl _⟩
    | deferred ds =>
      show some (HP.ent (.deferred (optC ds none fun l => some (mapN (SD.ren f) l)))) = _
      cases ds with
      | none => rfl
      | some l => rw [optC_some, mapN_eq]; rfl
    | gone => trivial
    | obj o => exact ⟨_, rfl, fun _ _ h => h⟩
    | loop => exact absurd rfl (h _ _ _ _ _ _ _ _)
  | loop s p g T ps a b d => exact ⟨_, rfl, impT_ren f T⟩
noncomputable def noLoopE (E : HP) : Bool := HP.rec (motive := fun _ => Bool) (fun e => SO.rec (motive := fun _ => Bool) (fun _ _ _ => true) (fun _ => true) (fun _ _ _ _ _ _ _ _ => false) (fun _ => true) true (fun _ => true) e) (fun _ _ _ _ _ _ _ _ => true) E
theorem impEs_ren (f : Nat → Nat) : ∀ Es : List HP, allN noLoopE Es = true → ImpEs f (mapN (fun E => some (E.ren f)) Es) Es
  | [], _ => trivial
  | E :: Es, h => by
    have h' := allN_spec _ _ h
    refine ⟨impE_ren f E fun s p g T ps a b d he => ?_, impEs_ren f Es ?_⟩
    · have := h' E List.mem_cons_self
      rw [he] at this; cases this
    · have h : boolC (noLoopE E) (allN noLoopE Es) false = true := h
      cases hb : noLoopE E with
      | true => rw [hb] at h; exact h
      | false => rw [hb] at h; cases h
/-- the names: those ahead of k0 az they were, none twice -/
noncomputable def nodupN (l : List Nat) : Bool := List.rec (motive := fun _ => Bool) true (fun a r ih => boolC (memN a r) false ih) l
noncomputable def keepN (l : List Nat) : Nat → Nat → Bool := List.rec (motive := fun _ => Nat → Nat → Bool) (fun k i => Nat.ble k i) (fun a _ ih k i => boolC (Nat.ble k i) true (boolC (Nat.beq a i) (ih k (Nat.succ i)) false)) l
noncomputable def namesOK (k0 : Nat) (names : List Nat) (M C : Cut) : Bool := boolC (nodupN names) (boolC (keepN names k0 0) (boolC (Nat.beq (lenN names) (lenN C.heap)) (Nat.beq (lenN names) (lenN M.heap)) false) false) false
theorem nodupN_spec : ∀ l : List Nat, nodupN l = true → l.Nodup
  | [], _ => by simp
  | a :: r, h => by
    have h : boolC (memN a r) false (nodupN r) = true := h
    cases hm : memN a r with
    | true => rw [hm] at h; cases h
    | false =>
      rw [hm] at h
      refine List.nodup_cons.2 ⟨fun hin => ?_, nodupN_spec r h⟩
      rw [memN_iff.2 hin] at hm; cases hm
theorem keepN_spec : ∀ (l : List Nat) (k i : Nat), keepN l k i = true → ∀ j, i + j < k → l[j]? = some (i + j)
  | [], k, i, h, j, hj => by
    have := Nat.le_of_ble_eq_true (show Nat.ble k i = true from h)
    omega
  | a :: r, k, i, h, j, hj => by
    have h : boolC (Nat.ble k i) true (boolC (Nat.beq a i) (keepN r k (i + 1)) false) = true := h
    cases hk : Nat.ble k i with
    | true => have := Nat.le_of_ble_eq_true hk; omega
    | false =>
      rw [hk, boolC_false] at h
      cases ha : Nat.beq a i with
      | false => rw [ha] at h; cases h
      | true =>
        rw [ha] at h
        have := Nat.eq_of_beq_eq_true ha
        subst this
        cases j with
        | zero => rfl
        | succ j =>
          have := keepN_spec r k (a + 1) h j (by omega)
          rw [List.getElem?_cons_succ, this]
          congr 1; omega
theorem boolC3 {b : Bool} {t : Bool} (h : boolC b t false = true) : b = true ∧ t = true := by cases b <;> first | exact ⟨rfl, h⟩ | cases h
theorem gen_view {k0 : Nat} {s : SS} {C M : Cut} {names : List Nat} {F : List SP} {N : Nat} {es : List (Option HP)} (hv : viewS M names s = (F, N, es)) (hn : namesOK k0 names M C = true) (hF : ImpFs (nameOf names N) F C.frames) (hE : ImpEs (nameOf names N) es C.heap) : Gen k0 s C names := by
  obtain ⟨h1, h2⟩ := Prod.mk.inj (show (_, _, _) = (F, N, es) from hv)
  obtain ⟨h2, h3⟩ := Prod.mk.inj h2
  rw [lenN_eq] at h2
  obtain ⟨n1, n2⟩ := boolC3 hn
  obtain ⟨n2, n3⟩ := boolC3 n2
  obtain ⟨n3, n4⟩ := boolC3 n3
  have l1 := Nat.eq_of_beq_eq_true n3
  have l2 := Nat.eq_of_beq_eq_true n4
  rw [lenN_eq, lenN_eq] at l1 l2
  subst h2
  refine ⟨fun j hj => ?_, nodupN_spec _ n1, l1, ?_, fun j E hj => ?_⟩
  · have := keepN_spec names k0 0 n2 j (by omega)
    rwa [Nat.zero_add] at this
  · rw [← h1] at hF; exact seeFs_gen hF
  · rw [← h3] at hE
    have hlt : j < names.length := by rw [l1]; exact (List.getElem?_eq_some_iff.1 hj).1
    exact seeHs_gen hE l2.symm j E _ hj (nameOf_lt hlt)
theorem gen_same {k0 : Nat} {s : SS} {C M : Cut} {names : List Nat} {N : Nat} (hv : viewS M names s = seenC names N C) (hn : boolC (namesOK k0 names M C) (allN noLoopE C.heap) false = true) : Gen k0 s C names :=
  gen_view hv (boolC3 hn).1 (impFs_ren _ _) (impEs_ren _ _ (boolC3 hn).2)

/-- what is seen, but for an entry -/
noncomputable def setSeen (i : Nat) (E : HP) (V : Seen) : Seen := (V.1, V.2.1, setN V.2.2 i (some E))
theorem impEs_set {f : Nat → Nat} : ∀ {es : List (Option HP)} {Es : List HP} (i : Nat) {E : HP}, ImpEs f es Es → (∀ E0, Es[i]? = some E0 → ImpE f (some E) E0) → ImpEs f (setN es i (some E)) Es
  | [], [], _, _, _, _ => trivial
  | e :: es, E0 :: Es, 0, E, h, h0 => ⟨h0 E0 rfl, h.2⟩
  | e :: es, E0 :: Es, i + 1, E, h, h0 => ⟨h.1, impEs_set i h.2 fun E1 h1 => h0 E1 (by simpa using h1)⟩
  | [], _ :: _, _, _, h, _ => h.elim
  | _ :: _, [], _, _, h, _ => h.elim
theorem gen_set {k0 : Nat} {s : SS} {C M : Cut} {names : List Nat} {N i : Nat} {E : HP} (hv : viewS M names s = setSeen i E (seenC names N C)) (hn : boolC (namesOK k0 names M C) (allN noLoopE C.heap) false = true) (hE : ∀ E0, C.heap[i]? = some E0 → ImpE (nameOf names N) (some E) E0) : Gen k0 s C names :=
  gen_view hv (boolC3 hn).1 (impFs_ren _ _) (impEs_set i (impEs_ren _ _ (boolC3 hn).2) hE)

/-- what is seen, but for some temporaries and entries -/
noncomputable def setF (p : SP) (j : Nat) (v : SV) : SP := ⟨p.fn, setN p.tmps j (some v), p.todo, p.defers, p.roundOf⟩
noncomputable def setTmp (i j : Nat) (v : SV) (V : Seen) : Seen := (optC (nth V.1 i) V.1 fun p => setN V.1 i (setF p j v), V.2.1, V.2.2)
noncomputable def modSeen (ms : List (Nat × Nat × SV)) (es : List (Nat × HP)) (V : Seen) : Seen :=
  List.rec (motive := fun _ => Seen) (List.rec (motive := fun _ => Seen) V (fun m _ ih => setTmp m.1 m.2.1 m.2.2 ih) ms) (fun e _ ih => setSeen e.1 e.2 ih) es
theorem impT_set {f : Nat → Nat} : ∀ {vs us : List (Option SV)} (j : Nat) {v : SV}, ImpT f vs us → (∀ u, us[j]? = some u → ∃ w, u = some w ∧ v.Imp (w.ren f)) → ImpT f (setN vs j (some v)) us
  | some _ :: vs, some u :: us, 0, v, h, h0 => let ⟨w, e, hw⟩ := h0 _ rfl; ⟨by cases e; exact hw, h.2⟩
  | none :: vs, none :: us, 0, v, h, h0 => let ⟨_, e, _⟩ := h0 _ rfl; by cases e
  | some _ :: vs, some u :: us, j + 1, v, h, h0 => ⟨h.1, impT_set j h.2 fun w hw => h0 w (by simpa using hw)⟩
  | none :: vs, none :: us, j + 1, v, h, h0 => impT_set (vs := vs) (us := us) j h fun w hw => h0 w (by simpa using hw)
  | [], [], _, _, _, _ => trivial
  | some _ :: _, none :: _, _, _, h, _ => h.elim
  | none :: _, some _ :: _, _, _, h, _ => h.elim
  | [], _ :: _, _, _, h, _ => h.elim
  | some _ :: _, [], _, _, h, _ => False.elim h
  | none :: _, [], _, _, h, _ => False.elim h
theorem impFs_set {f : Nat → Nat} : ∀ {ss ps : List SP} (i j : Nat) {v : SV} {s : SP}, ImpFs f ss ps → ss[i]? = some s → (∀ p u, ps[i]? = some p → p.tmps[j]? = some u → ∃ w, u = some w ∧ v.Imp (w.ren f)) → ImpFs f (setN ss i (setF s j v)) ps
  | s0 :: ss, p :: ps, 0, j, v, s, h, hs, h0 => by
    simp at hs; subst hs
    obtain ⟨⟨h1, h2, h3, h4, h5⟩, hr⟩ := h
    exact ⟨⟨h1, impT_set j h2 fun u hu => h0 p u rfl hu, h3, h4, h5⟩, hr⟩
  | s0 :: ss, p :: ps, i + 1, j, v, s, h, hs, h0 => ⟨h.1, impFs_set i j h.2 (by simpa using hs) fun q u hq hu => h0 q u (by simpa using hq) hu⟩
  | [], _, _, _, _, _, _, hs, _ => by simp at hs
  | _ :: _, [], _, _, _, _, h, _, _ => h.elim
theorem gen_mod {k0 : Nat} {s : SS} {C M : Cut} {names : List Nat} {N : Nat} (ms : List (Nat × Nat × SV)) (es : List (Nat × HP)) (hv : viewS M names s = modSeen ms es (seenC names N C)) (hn : boolC (namesOK k0 names M C) (allN noLoopE C.heap) false = true)
    (hT : ∀ m ∈ ms, ∀ p u, C.frames[m.1]? = some p → p.tmps[m.2.1]? = some u → ∃ w, u = some w ∧ m.2.2.Imp (w.ren (nameOf names N))) (hE : ∀ e ∈ es, ∀ E0, C.heap[e.1]? = some E0 → ImpE (nameOf names N) (some e.2) E0) : Gen k0 s C names := by
  have key : ∀ ms : List (Nat × Nat × SV), (∀ m ∈ ms, ∀ p u, C.frames[m.1]? = some p → p.tmps[m.2.1]? = some u → ∃ w, u = some w ∧ m.2.2.Imp (w.ren (nameOf names N))) →
      ImpFs (nameOf names N) (List.rec (motive := fun _ => Seen) (seenC names N C) (fun m _ ih => setTmp m.1 m.2.1 m.2.2 ih) ms : Seen).1 C.frames ∧ (List.rec (motive := fun _ => Seen) (seenC names N C) (fun m _ ih => setTmp m.1 m.2.1 m.2.2 ih) ms : Seen).2 = (seenC names N C).2 := by
    intro ms
    induction ms with
    | nil => intro _; exact ⟨impFs_ren _ _, rfl⟩
    | cons m ms ih =>
      intro h
      obtain ⟨h1, h2⟩ := ih fun x hx => h x (List.mem_cons_of_mem _ hx)
      generalize hV : (List.rec (motive := fun _ => Seen) (seenC names N C) (fun m _ ih => setTmp m.1 m.2.1 m.2.2 ih) ms : Seen) = V at h1 h2
      show ImpFs _ (setTmp m.1 m.2.1 m.2.2 (List.rec (motive := fun _ => Seen) (seenC names N C) (fun m _ ih => setTmp m.1 m.2.1 m.2.2 ih) ms : Seen)).1 _ ∧ (setTmp m.1 m.2.1 m.2.2 (List.rec (motive := fun _ => Seen) (seenC names N C) (fun m _ ih => setTmp m.1 m.2.1 m.2.2 ih) ms : Seen)).2 = _
      rw [hV]
      refine ⟨?_, h2⟩
      show ImpFs _ (optC (nth V.1 m.1) V.1 fun p => setN V.1 m.1 (setF p m.2.1 m.2.2)) _
      cases hp : nth V.1 m.1 with
      | none => exact h1
      | some p =>
        rw [nth_eq] at hp
        exact impFs_set m.1 m.2.1 h1 hp fun q u hq hu => h m List.mem_cons_self q u hq hu
  obtain ⟨k1, k2⟩ := key ms hT
  have key2 : ∀ es : List (Nat × HP), (∀ e ∈ es, ∀ E0, C.heap[e.1]? = some E0 → ImpE (nameOf names N) (some e.2) E0) → ∀ V : Seen, V.2 = (seenC names N C).2 →
      (List.rec (motive := fun _ => Seen) V (fun e _ ih => setSeen e.1 e.2 ih) es : Seen).1 = V.1 ∧ (List.rec (motive := fun _ => Seen) V (fun e _ ih => setSeen e.1 e.2 ih) es : Seen).2.1 = N ∧ ImpEs (nameOf names N) (List.rec (motive := fun _ => Seen) V (fun e _ ih => setSeen e.1 e.2 ih) es : Seen).2.2 C.heap := by
    intro es
    induction es with
    | nil =>
      intro _ V hV
      refine ⟨rfl, ?_, ?_⟩
      · show V.2.1 = N; rw [hV]; rfl
      · show ImpEs _ V.2.2 _; rw [hV]; exact impEs_ren _ _ (boolC3 hn).2
    | cons e es ih =>
      intro h V hV
      obtain ⟨h1, h2, h3⟩ := ih (fun x hx => h x (List.mem_cons_of_mem _ hx)) V hV
      exact ⟨h1, h2, impEs_set e.1 h3 (h e List.mem_cons_self)⟩
  obtain ⟨j1, j2, j3⟩ := key2 es hE _ k2
  unfold modSeen at hv
  generalize (List.rec (motive := fun _ => Seen) (List.rec (motive := fun _ => Seen) (seenC names N C) (fun m _ ih => setTmp m.1 m.2.1 m.2.2 ih) ms) (fun e _ ih => setSeen e.1 e.2 ih) es : Seen) = V at hv j1 j2 j3
  obtain ⟨F, N', es'⟩ := V
  have j2 : N' = N := j2
  subst j2
  exact gen_view hv (boolC3 hn).1 (by rw [show F = _ from j1]; exact k1) j3
/- A run's outcome: it ends, or a round begins. -/
abbrev OutL := List Prop × Option ((SV × List (Option SO)) ⊕ Seen)
noncomputable def outL (js : List Nat) (M : Cut) (names : List Nat) (t : Tree) : List Bool → (Nat → Nat → Nat) → OutL :=
  Tree.rec (motive := fun _ => List Bool → (Nat → Nat → Nat) → OutL) (fun v H _ _ => ([], some (.inl (v, mapN (fun j => nth H j) js)))) (fun s _ _ => ([], some (.inr (viewS M names s)))) (fun p _ ih ds z => (p :: (ih ds z).1, (ih ds z).2))
    (fun b _ _ iht ihf ds z => List.rec (motive := fun _ => OutL) ([], none) (fun d r _ => ((b = d) :: (boolC d (iht r z) (ihf r z)).1, (boolC d (iht r z) (ihf r z)).2)) ds) (fun _ _ _ => ([], none)) (fun _ ih ds z => ih (z 0) ds fun i => z (i + 1)) t
theorem outL_ob {js : List Nat} {M : Cut} {names : List Nat} {t : Tree} {ds : List Bool} {ps : (Nat → Nat → Nat) → List Prop} {r : (Nat → Nat → Nat) → (SV × List (Option SO)) ⊕ Seen} (h : ∀ z, outL js M names t ds z = (ps z, some (r z))) (hp : ∀ z, ∀ p ∈ ps z, p) {D : SV → List SO → Prop} {S : SS → Prop}
    (hD : ∀ z v es, r z = .inl (v, es) → ∀ H : List SO, js.map (fun j => H[j]?) = es → D v H) (hS : ∀ z V, r z = .inr V → ∀ s, viewS M names s = V → S s) : t.Ob D S := by
  have z0 : Nat → Nat → Nat := fun _ _ => 0
  induction t generalizing ps r ds with
  | done v' H =>
    have h' : ([], some (.inl (v', mapN (fun j => nth H j) js))) = (ps z0, some (r z0)) := h z0
    have h1 := Option.some.inj (Prod.mk.inj h').2
    refine hD z0 v' _ h1.symm H ?_
    rw [mapN_eq]
    exact List.map_congr_left fun j _ => (nth_eq H j).symm
  | stop s =>
    have h' : ([], some (.inr (viewS M names s))) = (ps z0, some (r z0)) := h z0
    have h1 := Option.some.inj (Prod.mk.inj h').2
    exact hS z0 _ h1.symm s rfl
  | need p t ih =>
    have h' : ∀ z, (p :: (outL js M names t ds z).1, (outL js M names t ds z).2) = (ps z, some (r z)) := h
    refine ⟨?_, ih (ds := ds) (ps := fun z => (outL js M names t ds z).1) (r := r) (fun z => by rw [← (Prod.mk.inj (h' z)).2]) (fun z q hq => hp z q ?_) hD hS⟩
    · have := (Prod.mk.inj (h' z0)).1
      exact hp z0 p (by rw [← this]; exact List.mem_cons_self)
    · rw [← (Prod.mk.inj (h' z)).1]; exact List.mem_cons_of_mem _ hq
  | fork b t f iht ihf =>
    cases ds with
    | nil => cases (Prod.mk.inj (show ([], none) = (ps z0, some (r z0)) from h z0)).2
    | cons d rs =>
      have h' : ∀ z, ((b = d) :: (boolC d (outL js M names t rs z) (outL js M names f rs z)).1, (boolC d (outL js M names t rs z) (outL js M names f rs z)).2) = (ps z, some (r z)) := h
      have hb : b = d := hp z0 _ (by rw [← (Prod.mk.inj (h' z0)).1]; exact List.mem_cons_self)
      have hq : ∀ z, ∀ q ∈ (boolC d (outL js M names t rs z) (outL js M names f rs z)).1, q := fun z q hq => hp z q (by rw [← (Prod.mk.inj (h' z)).1]; exact List.mem_cons_of_mem _ hq)
      cases d with
      | true => exact ⟨fun _ => iht (ds := rs) (ps := fun z => (outL js M names t rs z).1) (r := r) (fun z => by rw [← (Prod.mk.inj (h' z)).2]; rfl) hq hD hS, fun hf => by rw [hf] at hb; cases hb⟩
      | false => exact ⟨fun ht => (by rw [ht] at hb; cases hb), fun _ => ihf (ds := rs) (ps := fun z => (outL js M names f rs z).1) (r := r) (fun z => by rw [← (Prod.mk.inj (h' z)).2]; rfl) hq hD hS⟩
  | stuck => cases (Prod.mk.inj (show ([], none) = (ps z0, some (r z0)) from h z0)).2
  | any k ih =>
    have h' : ∀ z, outL js M names (k (z 0)) ds (fun i => z (i + 1)) = (ps z, some (r z)) := h
    intro y
    let c : (Nat → Nat → Nat) → Nat → Nat → Nat := fun z i => Nat.rec (motive := fun _ => Nat → Nat) y (fun j _ => z j) i
    exact ih y (ds := ds) (ps := fun z => ps (c z)) (r := fun z => r (c z)) (fun z => h' (c z)) (fun z => hp (c z)) (fun z => hD (c z)) (fun z => hS (c z))
/-- a round that ends in the beginning of another -/
theorem outL_turn {A : Type} {k0 : Nat} {C : A → Cut} {Q : A → Prop} {js : List Nat} {M : Cut} {names : List Nat} {t : Tree} {ds : List Bool} {ps : List Prop} {N : Nat} {D : SV → List SO → Prop} (a : A) (hq : Q a)
    (h : ∀ z, outL js M names t ds z = (ps, some (.inr (seenC names N (C a))))) (hn : boolC (namesOK k0 names M (C a)) (allN noLoopE (C a).heap) false = true) (hp : ∀ p ∈ ps, p) : t.Ob D (Turns k0 C Q) :=
  outL_ob h (fun _ => hp) (fun _ v es h => by cases h) fun _ V h s hv => turns_of a hq names (gen_same (N := N) (by cases h; exact hv) hn)
/-- the same, where an entry is another's way of speaking -/
theorem outL_turnE {A : Type} {k0 : Nat} {C : A → Cut} {Q : A → Prop} {js : List Nat} {M : Cut} {names : List Nat} {t : Tree} {ds : List Bool} {ps : List Prop} {N i : Nat} {E : HP} {D : SV → List SO → Prop} (a : A) (hq : Q a)
    (h : ∀ z, outL js M names t ds z = (ps, some (.inr (setSeen i E (seenC names N (C a)))))) (hn : boolC (namesOK k0 names M (C a)) (allN noLoopE (C a).heap) false = true) (hE : ∀ E0, (C a).heap[i]? = some E0 → ImpE (nameOf names N) (some E) E0) (hp : ∀ p ∈ ps, p) : t.Ob D (Turns k0 C Q) :=
  outL_ob h (fun _ => hp) (fun _ v es h => by cases h) fun _ V h s hv => turns_of a hq names (gen_set (N := N) (by cases h; exact hv) hn hE)
theorem outL_turnM {A : Type} {k0 : Nat} {C : A → Cut} {Q : A → Prop} {js : List Nat} {M : Cut} {names : List Nat} {t : Tree} {ds : List Bool} {ps : List Prop} {N : Nat} {ms : List (Nat × Nat × SV)} {es : List (Nat × HP)} {D : SV → List SO → Prop} (a : A) (hq : Q a)
    (h : ∀ z, outL js M names t ds z = (ps, some (.inr (modSeen ms es (seenC names N (C a)))))) (hn : boolC (namesOK k0 names M (C a)) (allN noLoopE (C a).heap) false = true)
    (hT : ∀ m ∈ ms, ∀ p u, (C a).frames[m.1]? = some p → p.tmps[m.2.1]? = some u → ∃ w, u = some w ∧ m.2.2.Imp (w.ren (nameOf names N))) (hE : ∀ e ∈ es, ∀ E0, (C a).heap[e.1]? = some E0 → ImpE (nameOf names N) (some e.2) E0) (hp : ∀ p ∈ ps, p) : t.Ob D (Turns k0 C Q) :=
  outL_ob h (fun _ => hp) (fun _ v es h => by cases h) fun _ V h s hv => turns_of a hq names (gen_mod (N := N) ms es (by cases h; exact hv) hn hT hE)
/-- a round that ends the run -/
theorem outL_end {js : List Nat} {M : Cut} {names : List Nat} {t : Tree} {ds : List Bool} {ps : List Prop} {v : SV} {es : List (Option SO)} {D : SV → List SO → Prop} {S : SS → Prop}
    (h : ∀ z, outL js M names t ds z = (ps, some (.inl (v, es)))) (hp : ∀ p ∈ ps, p) (hD : ∀ H : List SO, js.map (fun j => H[j]?) = es → D v H) : t.Ob D S :=
  outL_ob h (fun _ => hp) (fun _ v' es' h => by cases h; exact hD) fun _ V h => by cases h

/- The same for a loop's rule, each from closed terms. -/
def TurnsTo {A : Type} (c : Cfg) (k0 : Nat) (C : A → Cut) (Q : A → Prop) (D : SV → List SO → Prop) (s : SS) : Prop := ∃ st n, (sim1 (c.at st) n s).Ob D (Turns k0 C Q)
theorem to_turn {A : Type} {c : Cfg} {k0 : Nat} {C : A → Cut} {Q : A → Prop} {D : SV → List SO → Prop} {s : SS} (st : Option (Nat × Nat)) (n : Nat) {M : Cut} {names : List Nat} {ds : List Bool} {ps : List Prop} {N : Nat} (a : A) (hq : Q a)
    (h : ∀ z, outL [] M names (sim1 (c.at st) n s) ds z = (ps, some (.inr (seenC names N (C a))))) (hn : boolC (namesOK k0 names M (C a)) (allN noLoopE (C a).heap) false = true) (hp : ∀ p ∈ ps, p) : TurnsTo c k0 C Q D s := ⟨st, n, outL_turn a hq h hn hp⟩
theorem to_end {A : Type} {c : Cfg} {k0 : Nat} {C : A → Cut} {Q : A → Prop} {D : SV → List SO → Prop} {s : SS} (st : Option (Nat × Nat)) (n : Nat) {M : Cut} {names js : List Nat} {ds : List Bool} {ps : List Prop} {v : SV} {es : List (Option SO)}
    (h : ∀ z, outL js M names (sim1 (c.at st) n s) ds z = (ps, some (.inl (v, es)))) (hp : ∀ p ∈ ps, p) (hD : ∀ H : List SO, js.map (fun j => H[j]?) = es → D v H) : TurnsTo c k0 C Q D s := ⟨st, n, outL_end h hp hD⟩
theorem to_turnM {A : Type} {c : Cfg} {k0 : Nat} {C : A → Cut} {Q : A → Prop} {D : SV → List SO → Prop} {s : SS} (st : Option (Nat × Nat)) (n : Nat) {M : Cut} {names : List Nat} {ds : List Bool} {ps : List Prop} {N : Nat} {ms : List (Nat × Nat × SV)} {es : List (Nat × HP)} (a : A) (hq : Q a)
    (h : ∀ z, outL [] M names (sim1 (c.at st) n s) ds z = (ps, some (.inr (modSeen ms es (seenC names N (C a)))))) (hn : boolC (namesOK k0 names M (C a)) (allN noLoopE (C a).heap) false = true)
    (hT : ∀ m ∈ ms, ∀ p u, (C a).frames[m.1]? = some p → p.tmps[m.2.1]? = some u → ∃ w, u = some w ∧ m.2.2.Imp (w.ren (nameOf names N))) (hE : ∀ e ∈ es, ∀ E0, (C a).heap[e.1]? = some E0 → ImpE (nameOf names N) (some e.2) E0) (hp : ∀ p ∈ ps, p) : TurnsTo c k0 C Q D s := ⟨st, n, outL_turnM a hq h hn hT hE hp⟩
def Starts {A : Type} (c : Cfg) (k0 : Nat) (C : A → Cut) (Q : A → Prop) (D : SV → List SO → Prop) (f : FuncId) (args : List SV) (H : List SO) : Prop := ∃ st n, (callSim (c.at st) n f args H).Ob D (Turns k0 C Q)
theorem to_start {A : Type} {c : Cfg} {k0 : Nat} {C : A → Cut} {Q : A → Prop} {D : SV → List SO → Prop} {f : FuncId} {args : List SV} {H : List SO} (st : Option (Nat × Nat)) (n : Nat) {M : Cut} {names : List Nat} {ds : List Bool} {ps : List Prop} {N : Nat} (a : A) (hq : Q a)
    (h : ∀ z, outL [] M names (callSim (c.at st) n f args H) ds z = (ps, some (.inr (seenC names N (C a))))) (hn : boolC (namesOK k0 names M (C a)) (allN noLoopE (C a).heap) false = true) (hp : ∀ p ∈ ps, p) : Starts c k0 C Q D f args H := ⟨st, n, outL_turn a hq h hn hp⟩
theorem to_startE {A : Type} {c : Cfg} {k0 : Nat} {C : A → Cut} {Q : A → Prop} {D : SV → List SO → Prop} {f : FuncId} {args : List SV} {H : List SO} (st : Option (Nat × Nat)) (n : Nat) {M : Cut} {names : List Nat} {ds : List Bool} {ps : List Prop} {N i : Nat} {E : HP} (a : A) (hq : Q a)
    (h : ∀ z, outL [] M names (callSim (c.at st) n f args H) ds z = (ps, some (.inr (setSeen i E (seenC names N (C a)))))) (hn : boolC (namesOK k0 names M (C a)) (allN noLoopE (C a).heap) false = true) (hE : ∀ E0, (C a).heap[i]? = some E0 → ImpE (nameOf names N) (some E) E0) (hp : ∀ p ∈ ps, p) : Starts c k0 C Q D f args H := ⟨st, n, outL_turnE a hq h hn hE hp⟩
theorem to_startM {A : Type} {c : Cfg} {k0 : Nat} {C : A → Cut} {Q : A → Prop} {D : SV → List SO → Prop} {f : FuncId} {args : List SV} {H : List SO} (st : Option (Nat × Nat)) (n : Nat) {M : Cut} {names : List Nat} {ds : List Bool} {ps : List Prop} {N : Nat} {ms : List (Nat × Nat × SV)} {es : List (Nat × HP)} (a : A) (hq : Q a)
    (h : ∀ z, outL [] M names (callSim (c.at st) n f args H) ds z = (ps, some (.inr (modSeen ms es (seenC names N (C a)))))) (hn : boolC (namesOK k0 names M (C a)) (allN noLoopE (C a).heap) false = true)
    (hT : ∀ m ∈ ms, ∀ p u, (C a).frames[m.1]? = some p → p.tmps[m.2.1]? = some u → ∃ w, u = some w ∧ m.2.2.Imp (w.ren (nameOf names N))) (hE : ∀ e ∈ es, ∀ E0, (C a).heap[e.1]? = some E0 → ImpE (nameOf names N) (some e.2) E0) (hp : ∀ p ∈ ps, p) : Starts c k0 C Q D f args H := ⟨st, n, outL_turnM a hq h hn hT hE hp⟩
theorem start_end {A : Type} {c : Cfg} {k0 : Nat} {C : A → Cut} {Q : A → Prop} {D : SV → List SO → Prop} {f : FuncId} {args : List SV} {H : List SO} (st : Option (Nat × Nat)) (n : Nat) {M : Cut} {names js : List Nat} {ds : List Bool} {ps : List Prop} {v : SV} {es : List (Option SO)}
    (h : ∀ z, outL js M names (callSim (c.at st) n f args H) ds z = (ps, some (.inl (v, es)))) (hp : ∀ p ∈ ps, p) (hD : ∀ H : List SO, js.map (fun j => H[j]?) = es → D v H) : Starts c k0 C Q D f args H := ⟨st, n, outL_end h hp hD⟩
/-- A FUNCTION WITH A LOOP -/
theorem runs_by {c : Cfg} (hc : CfgOK c) {A : Type} (C : A → Cut) (OK : A → Prop) (μ : A → Nat) {D : SV → List SO → Prop} {f : FuncId} {args : List SV} {H : List SO} (hgl : ∀ g nm, c.glob g = some nm → nm < H.length)
    (h0 : Starts c H.length C OK D f args H) (hs : ∀ a, OK a → ∀ J, TurnsTo c H.length C (fun a' => OK a' ∧ μ a' < μ a) D ((C a).fill J)) : Runs c f args H D := runs_loop hc C OK μ hgl h0 hs

/- The skeleton of a cut: the state at which a run stops. -/
noncomputable def stopOf (t : Tree) : List Bool → SS :=
  Tree.rec (motive := fun _ => List Bool → SS) (fun _ _ _ => ⟨[], []⟩) (fun s _ => s) (fun _ _ ih ds => ih ds) (fun _ _ _ iht ihf ds => List.rec (motive := fun _ => SS) ⟨[], []⟩ (fun d r _ => boolC d (iht r) (ihf r)) ds) (fun _ _ => ⟨[], []⟩) (fun _ ih ds => ih (fun _ => 0) ds) t
/-- so many unknown temporaries, of which some are told -/
noncomputable def putsT (T : List (Option SV)) (l : List (Nat × SV)) : List (Option SV) := List.rec (motive := fun _ => List (Option SV) → List (Option SV)) (fun T => T) (fun a _ ih T => ih (setN T a.1 (some a.2))) l T
noncomputable def bareF (s : SF) (l : List (Nat × SV)) : SP := ⟨s.fn, putsT (repN none (lenN s.tmps)) l, s.todo, s.defers, s.roundOf⟩
noncomputable def bareFs (ss : List SF) : List (List (Nat × SV)) → List SP := List.rec (motive := fun _ => List (List (Nat × SV)) → List SP) (fun _ => []) (fun s _ ih ls => List.rec (motive := fun _ => List SP) (bareF s [] :: ih []) (fun l r _ => bareF s l :: ih r) ls) ss
/-- the loop's record az it stands at the stop, of which some temporaries are told -/
noncomputable def bareL (e : Option SO) (l : List (Nat × SV)) : HP := optC e (.ent .gone) fun e => SO.rec (motive := fun _ => HP) (fun c w el => .ent (.own c w el)) (fun c => .ent (.row c)) (fun s p f T ps a b d => .loop s p f (putsT (repN none (lenN T)) l) ps a b d) (fun ds => .ent (.deferred ds)) (.ent .gone) (fun o => .ent (.obj o)) e

/- A summary, a law. -/
theorem sum_runs {c : Cfg} {O : Nat → Prop} {w0 w : World} {β : Val} {H : List SO} {base : Nat} {f : FuncId} {vs : List Value} (hH : HeapRel0 c.P O w0 β H w)
    (I : Ifc) (hgl : ∀ g j, c.glob g = some j → I.known j = true ∧ ∃ l, β (I.big j) = some l ∧ l.blk = g ∧ l.off = 0) (ha : SV.denL β (SV.renL I.big I.args) = some vs) (hI : I.Fits H) {r : SumRes} (keep : List Nat) (hk : ∀ j ∈ keep, I.names.length ≤ j) (hkn : keep.Nodup)
    (hr : Runs c f I.args I.ents (I.Ends base keep r)) : SumSem c.P H β w base f vs r := by
  refine sum_smallC hH I hgl ha hI (ownsOf I.ents 0) keep (fun j c w el h => (ownsOf_spec _ _ _).2 ⟨j, c, w, el, by omega, h⟩) (fun j hj => ?_) hk hkn (ownsOf_nodup _ _) hr.1 fun hH' hG ha' => (hr.2 _ _ _ _ _ hH' hG ha').mono fun e w' hcame => ?_
  · obtain ⟨i, c, w, el, h, h'⟩ := (ownsOf_spec _ _ _).1 hj
    exact ⟨c, w, el, by rw [h, Nat.zero_add]; exact h'⟩
  · obtain ⟨v, H', x, β', he, h, hle, hv, hH2⟩ := hcame
    exact ⟨v, H', x, β', he, ⟨h.val, h.uv, h.sets.length, h.sets.get, h.news.length, h.news.get⟩, hle, hv, hH2⟩

end Go.Sim


/-
  The hash function: the tables az rows at the first names, words, and what the rounds come to.
-/
namespace Go.Proofs.YtflafdhmmcknhaaGreatDoor.Aes
open Go.Sim
open Go.Proofs
variable {α : Type}

/- Package-level variables: sha.start, sha.constants; two names more are kept for the reference's. -/
noncomputable def globP : Nat → Option Nat := fun g => boolC (Nat.beq g 0) (some 0) (boolC (Nat.beq g 1) (some 1) none)
def startL : List Nat := [0x6a09e667, 0xbb67ae85, 0x3c6ef372, 0xa54ff53a, 0x510e527f, 0x9b05688c, 0x1f83d9ab, 0x5be0cd19]
def constL : List Nat := [
  0x428a2f98, 0x71374491, 0xb5c0fbcf, 0xe9b5dba5, 0x3956c25b, 0x59f111f1, 0x923f82a4, 0xab1c5ed5,
  0xd807aa98, 0x12835b01, 0x243185be, 0x550c7dc3, 0x72be5d74, 0x80deb1fe, 0x9bdc06a7, 0xc19bf174,
  0xe49b69c1, 0xefbe4786, 0x0fc19dc6, 0x240ca1cc, 0x2de92c6f, 0x4a7484aa, 0x5cb0a9dc, 0x76f988da,
  0x983e5152, 0xa831c66d, 0xb00327c8, 0xbf597fc7, 0xc6e00bf3, 0xd5a79147, 0x06ca6351, 0x14292967,
  0x27b70a85, 0x2e1b2138, 0x4d2c6dfc, 0x53380d13, 0x650a7354, 0x766a0abb, 0x81c2c92e, 0x92722c85,
  0xa2bfe8a1, 0xa81a664b, 0xc24b8b70, 0xc76c51a3, 0xd192e819, 0xd6990624, 0xf40e3585, 0x106aa070,
  0x19a4c116, 0x1e376c08, 0x2748774c, 0x34b0bcb5, 0x391c0cb3, 0x4ed8aa4a, 0x5b9cca4f, 0x682e6ff3,
  0x748f82ee, 0x78a5636f, 0x84c87814, 0x8cc70208, 0x90befffa, 0xa4506ceb, 0xbef9a3f7, 0xc67178f2]
abbrev W32 := BitVec 32
def wd (n : Nat) : W32 := BitVec.ofNat 32 n
def wi (n : Nat) : W32 := BitVec.ofInt 32 (Int.ofNat n)
noncomputable def wx (l : List W32) : List SV := mapN (fun x => .int .u32 (.b32 x)) l
/-- known numbers of a kind -/
noncomputable def kx (k : IntKind) (l : List Nat) : List SV := mapN (fun n => .int k (.lit (Int.ofNat n))) l
noncomputable def startV : List W32 := mapN wi startL
noncomputable def constV' : List W32 := mapN wi constL
noncomputable def startR : SO := .row (.lst (kx .u32 startL))
noncomputable def constR : SO := .row (.lst (kx .u32 constL))
/-- a row of which nothing is known -/
noncomputable def anyR : SO := .row (.lst [])
noncomputable def shaHP (l : List SO) : List SO := startR :: constR :: anyR :: anyR :: l
theorem taken_any {f : Nat → Nat} {e : Option SO} (h : placedE e = true) : ∃ e', e = some e' ∧ Taken f anyR e' := by
  cases e with
  | none => cases h
  | some e =>
    have hf : ∀ c : Cells, c.Front ((Cells.lst []).ren f) := fun c β vs _ => ⟨0, by rw [List.take_zero]; rfl⟩
    cases e with
    | own c w el => exact ⟨_, rfl, taken_row (.inr ⟨_, _, rfl⟩) (hf c)⟩
    | row c => exact ⟨_, rfl, taken_row (.inl rfl) (hf c)⟩
    | loop => cases h
    | deferred => cases h
    | gone => cases h
    | obj => cases h
theorem kx_ren (k : IntKind) (f : Nat → Nat) : ∀ xs, SV.renL f (kx k xs) = kx k xs
  | [] => rfl
  | x :: xs => by show _ :: SV.renL f (kx k xs) = _; rw [kx_ren k f xs]; rfl
theorem kx_uses (k : IntKind) (p : Nat → Bool) : ∀ xs, SV.usesL p (kx k xs) = true
  | [] => rfl
  | x :: xs => by show (true && SV.usesL p (kx k xs)) = true; rw [kx_uses k p xs]; rfl
theorem wx_ren (f : Nat → Nat) : ∀ xs, SV.renL f (wx xs) = wx xs
  | [] => rfl
  | x :: xs => by show _ :: SV.renL f (wx xs) = _; rw [wx_ren f xs]; rfl
theorem wx_uses (p : Nat → Bool) : ∀ xs, SV.usesL p (wx xs) = true
  | [] => rfl
  | x :: xs => by show (true && SV.usesL p (wx xs)) = true; rw [wx_uses p xs]; rfl
/- The rows are looked at. -/
noncomputable def litK (k : IntKind) (v : SV) : Option Nat := v.asInt none fun k' n => boolC (eqK k' k) (n.asLit none fun n => intC n some fun _ => none) none
theorem litK_spec {k : IntKind} {v : SV} {n : Nat} (h : litK k v = some n) : v = .int k (.lit (.ofNat n)) := by
  unfold litK at h
  rcases asInt_cases v with ⟨k', m, rfl⟩ | hv
  · obtain ⟨hk, h⟩ := boolC_opt (show boolC (eqK k' k) (m.asLit none fun n => intC n some fun _ => none) none = some n from h)
    rw [eqK_spec hk]
    cases m with
    | lit m => cases m with
      | ofNat m => cases h; rfl
      | negSucc m => cases h
    | sym => cases h
    | b8 => cases h
    | b32 => cases h
    | b64 => cases h
  · rw [hv] at h; cases h
noncomputable def isK (k : IntKind) (L : List Nat) : List SV → Bool :=
  List.rec (motive := fun _ => List SV → Bool) (fun l => nilN l) (fun t _ ih l => List.rec (motive := fun _ => Bool) false (fun v r _ => optC (litK k v) false fun x => boolC (Nat.beq x t) (ih r) false) l) L
theorem isK_spec {k : IntKind} : ∀ {L : List Nat} {l : List SV}, isK k L l = true → l = kx k L
  | [], [], _ => rfl
  | [], _ :: _, h => by cases h
  | t :: L, [], h => by cases h
  | t :: L, v :: l, h => by
    have h : (optC (litK k v) false fun x => boolC (Nat.beq x t) (isK k L l) false) = true := h
    cases hx : litK k v with
    | none => rw [hx] at h; cases h
    | some x =>
      rw [hx] at h
      have h : boolC (Nat.beq x t) (isK k L l) false = true := h
      cases he : Nat.beq x t with
      | false => rw [he] at h; cases h
      | true =>
        rw [he] at h
        rw [litK_spec hx, beq_spec he, isK_spec (L := L) (l := l) h]; rfl
noncomputable def rowK (k : IntKind) (L : List Nat) (e : Option SO) : Bool := optC (cellsE e) false fun l => isK k L l
theorem rowK_spec {k : IntKind} {L : List Nat} {e : Option SO} (h : rowK k L e = true) (g : Nat → Nat) : ∃ e', e = some e' ∧ Taken g (.row (.lst (kx k L))) e' := by
  unfold rowK at h
  cases hc : cellsE e with
  | none => rw [hc] at h; cases h
  | some l =>
    rw [hc] at h
    rw [isK_spec h] at hc
    exact taken_cells hc (by rw [kx_ren]; exact .refl _)
noncomputable def isSl1 (v : SV) (nm n : Nat) : Bool := v.asSlice false fun a l c => boolC (Nat.beq a.nm nm) (a.off.asLit false fun o => boolC (Nat.beq o 0) (l.asLit false fun m => boolC (Nat.beq m n) (SC.rec (motive := fun _ => Bool) (fun k => Nat.beq k n) (fun _ => false) (fun _ _ => false) c) false) false) false
theorem asSlice_cases (v : SV) : (∃ a l c, v = .slice a l c) ∨ ∀ {γ : Type} (d : γ) (f : SA → SN → SC → γ), v.asSlice d f = d := by
  cases v <;> first | exact .inl ⟨_, _, _, rfl⟩ | exact .inr fun _ _ => rfl
theorem boolC_tt {b c : Bool} (h : boolC b c false = true) : b = true ∧ c = true := by cases b <;> first | exact ⟨rfl, h⟩ | cases h
theorem isSl1_spec {v : SV} {nm n : Nat} (h : isSl1 v nm n = true) : v = .slice ⟨nm, .lit 0⟩ (.lit n) (.lit n) := by
  unfold isSl1 at h
  rcases asSlice_cases v with ⟨⟨q, o⟩, l, c, rfl⟩ | hv
  · obtain ⟨h1, h⟩ := boolC_tt h
    cases o <;> first | (cases h; done) | skip
    obtain ⟨h2, h⟩ := boolC_tt h
    cases l <;> first | (cases h; done) | skip
    obtain ⟨h3, h⟩ := boolC_tt h
    cases c <;> first | (cases h; done) | skip
    have h1 := beq_spec h1
    have h2 := beq_spec h2
    have h3 := beq_spec h3
    have h4 := beq_spec h
    subst h1 h2 h3 h4; rfl
  · rw [hv] at h; cases h
/-- the rows lie at the first names -/
noncomputable def shaTP (H : List SO) (r : R α) : R α := boolC (rowK .u32 startL (nth H 0)) (boolC (rowK .u32 constL (nth H 1)) (boolC (placedE (nth H 2)) (boolC (placedE (nth H 3)) r (.stuck 730)) (.stuck 731)) (.stuck 732)) (.stuck 733)
structure ShaTP (H : List SO) : Prop where
  s0 : ∀ g, ∃ e', H[0]? = some e' ∧ Taken g startR e'
  s1 : ∀ g, ∃ e', H[1]? = some e' ∧ Taken g constR e'
  s2 : ∀ g, ∃ e', H[2]? = some e' ∧ Taken g anyR e'
  s3 : ∀ g, ∃ e', H[3]? = some e' ∧ Taken g anyR e'
theorem shaTP_sat {H : List SO} {r : R α} {φ : α → Prop} (h : ShaTP H → r.Sat φ) : (shaTP H r).Sat φ := by
  refine boolC_only fun h0 => boolC_only fun h1 => boolC_only fun h2 => boolC_only fun h3 => h ⟨fun g => ?_, fun g => ?_, fun g => ?_, fun g => ?_⟩
  · rw [← nth_eq]; exact rowK_spec h0 g
  · rw [← nth_eq]; exact rowK_spec h1 g
  · rw [← nth_eq]; exact taken_any h2
  · rw [← nth_eq]; exact taken_any h3
/-- a function's names: the rows', and others -/
noncomputable def shaIP (names : List Nat) (ents : List SO) (args : List SV) : Ifc := ⟨0 :: 1 :: 2 :: 3 :: names, shaHP ents, args⟩
theorem shaIP_ents {H : List SO} (hT : ShaTP H) {names : List Nat} {ents : List SO} {args : List SV} (h : EntsOK (shaIP names ents args).big (shaIP names ents args).known H names ents) : EntsOK (shaIP names ents args).big (shaIP names ents args).known H (shaIP names ents args).names (shaIP names ents args).ents :=
  ⟨⟨hT.s0 _, kx_uses _ _ _⟩, ⟨hT.s1 _, kx_uses _ _ _⟩, ⟨hT.s2 _, rfl⟩, ⟨hT.s3 _, rfl⟩, h⟩
theorem shaIP_glob {β : Val} {names : List Nat} {ents : List SO} {args : List SV} (hG : GlobRel globP β) : ∀ g j, globP g = some j → (shaIP names ents args).known j = true ∧ ∃ l, β ((shaIP names ents args).big j) = some l ∧ l.blk = g ∧ l.off = 0 := by
  intro g j hg
  have hj : j = 0 ∨ j = 1 := by
    rcases boolC_some (show boolC (Nat.beq g 0) (some 0) _ = some j from hg) with ⟨_, h⟩ | h
    · cases h; exact .inl rfl
    obtain ⟨_, h⟩ := boolC_opt h
    cases h; exact .inr rfl
  rcases hj with rfl | rfl
  · exact ⟨rfl, hG g 0 hg⟩
  · exact ⟨rfl, hG g 1 hg⟩

/- Rotations. -/
noncomputable def rrt (x : W32) (n : Nat) : W32 := x <<< (32 - n) ||| x >>> n
noncomputable def tur2 (x : W32) (a b : Nat) : W32 := BitVec.ofInt 32 0 ^^^ rrt x a ^^^ rrt x b
noncomputable def tur3 (x : W32) (a b c : Nat) : W32 := BitVec.ofInt 32 0 ^^^ rrt x a ^^^ rrt x b ^^^ rrt x c
noncomputable def un32 (v : SV) : Option W32 := v.asInt none fun k n => boolC (eqK k .u32) (SI.rec (motive := fun _ => Option W32) (fun _ => none) (fun _ => none) (fun _ => none) (fun x => some x) (fun _ => none) n) none
theorem un32_spec {v : SV} {x : W32} (h : un32 v = some x) : v = .int .u32 (.b32 x) := by
  unfold un32 at h
  rcases asInt_cases v with ⟨k, n, rfl⟩ | hv
  · obtain ⟨hk, h⟩ := boolC_opt (show boolC (eqK k .u32) (SI.rec (motive := fun _ => Option W32) (fun _ => none) (fun _ => none) (fun _ => none) (fun x => some x) (fun _ => none) n) none = some x from h)
    rw [eqK_spec hk]
    cases n <;> first | (cases h; rfl) | cases h
  · rw [hv] at h; cases h
noncomputable def unL (l : List SV) : Option (List Nat) := List.rec (motive := fun _ => Option (List Nat)) (some []) (fun v _ ih => optC (litI v) none fun x => optC ih none fun xs => some (x :: xs)) l
noncomputable def ix (l : List Nat) : List SV := mapN (fun n => .int .i64 (.lit (Int.ofNat n))) l
theorem unL_spec : ∀ {l : List SV} {xs : List Nat}, unL l = some xs → l = ix xs
  | [], xs, h => by cases h; rfl
  | v :: l, xs, h => by
    obtain ⟨x, hx, h⟩ := optC_opt (show (optC (litI v) none fun x => optC (unL l) none fun xs => some (x :: xs)) = some xs from h)
    obtain ⟨ys, hy, h⟩ := optC_opt h
    cases h
    rw [litI_spec hx, unL_spec hy]; rfl
noncomputable def sameL (a : List Nat) : List Nat → Bool := List.rec (motive := fun _ => List Nat → Bool) (fun b => nilN b) (fun x _ ih b => List.rec (motive := fun _ => Bool) false (fun y r _ => boolC (Nat.beq x y) (ih r) false) b) a
theorem sameL_spec : ∀ {a b : List Nat}, sameL a b = true → a = b
  | [], [], _ => rfl
  | [], _ :: _, h => by cases h
  | x :: a, [], h => by cases h
  | x :: a, y :: b, h => by
    have h : boolC (Nat.beq x y) (sameL a b) false = true := h
    cases hx : Nat.beq x y with
    | false => rw [hx] at h; cases h
    | true =>
      rw [hx] at h
      rw [beq_spec hx, sameL_spec h]
theorem turned_run2 (x : W32) (a b : Nat) (h : (a = 17 ∧ b = 19) ∨ (a = 7 ∧ b = 18)) : outP [] (callSim cfg0 2000 97 [.int .u32 (.b32 x), .slice ⟨0, .lit 0⟩ (.lit 2) (.lit 2)] [.row (.lst (ix [a, b]))]) = ([], some (.int .u32 (.b32 (tur2 x a b)), [])) := by
  rcases h with ⟨rfl, rfl⟩ | ⟨rfl, rfl⟩ <;> kernel_rfl
theorem turned_run3 (x : W32) (a b c : Nat) (h : (a = 6 ∧ b = 11 ∧ c = 25) ∨ (a = 2 ∧ b = 13 ∧ c = 22)) : outP [] (callSim cfg0 2000 97 [.int .u32 (.b32 x), .slice ⟨0, .lit 0⟩ (.lit 3) (.lit 3)] [.row (.lst (ix [a, b, c]))]) = ([], some (.int .u32 (.b32 (tur3 x a b c)), [])) := by
  rcases h with ⟨rfl, rfl, rfl⟩ | ⟨rfl, rfl, rfl⟩ <;> kernel_rfl
noncomputable def w32R (x : W32) : R SumRes := .ok ⟨.int .u32 (.b32 x), [], []⟩
noncomputable def isSl (v : SV) (n : Nat) (f : Nat → R α) : R α := v.asSlice (.stuck 720) fun a l c => a.off.asLit (.stuck 720) fun o => boolC (Nat.beq o 0) (l.asLit (.stuck 720) fun m => boolC (Nat.beq m n) (SC.rec (motive := fun _ => R α) (fun k => boolC (Nat.beq k n) (f a.nm) (.stuck 720)) (fun _ => .stuck 720) (fun _ _ => .stuck 720) c) (.stuck 720)) (.stuck 720)
theorem isSl_sat {v : SV} {n : Nat} {f : Nat → R α} {φ : α → Prop} (h : ∀ nm, v = .slice ⟨nm, .lit 0⟩ (.lit n) (.lit n) → (f nm).Sat φ) : (isSl v n f).Sat φ := by
  unfold isSl
  rcases asSlice_cases v with ⟨⟨nm, o⟩, l, c, rfl⟩ | hv
  · cases o with
    | lit o =>
      refine boolC_only fun ho => ?_
      cases l with
      | lit m =>
        refine boolC_only fun hm => ?_
        cases c with
        | lit k =>
          refine boolC_only fun hk => h nm ?_
          rw [beq_spec ho, beq_spec hm, beq_spec hk]
        | sym => trivial
        | rest => trivial
      | sym => trivial
      | byt => trivial
    | sym => trivial
    | byt => trivial
  · rw [hv]; trivial
noncomputable def turS : Summ := fun args H _ => args2 args fun v sl => optC (un32 v) (.stuck 721) fun x =>
  sl.asSlice (.stuck 722) fun _ l _ => l.asLit (.stuck 722) fun n => boolC (Nat.beq n 2)
    (isSl sl 2 fun nm => optC (cellsE (nth H nm)) (.stuck 723) fun cs => optC (unL cs) (.stuck 723) fun ns => boolC (sameL ns [17, 19]) (w32R (tur2 x 17 19)) (boolC (sameL ns [7, 18]) (w32R (tur2 x 7 18)) (.stuck 723)))
    (isSl sl 3 fun nm => optC (cellsE (nth H nm)) (.stuck 723) fun cs => optC (unL cs) (.stuck 723) fun ns => boolC (sameL ns [6, 11, 25]) (w32R (tur3 x 6 11 25)) (boolC (sameL ns [2, 13, 22]) (w32R (tur3 x 2 13 22)) (.stuck 723)))
theorem ix_ren (f : Nat → Nat) : ∀ xs, SV.renL f (ix xs) = ix xs
  | [] => rfl
  | x :: xs => by show _ :: SV.renL f (ix xs) = _; rw [ix_ren f xs]; rfl
theorem ix_uses (p : Nat → Bool) : ∀ xs, SV.usesL p (ix xs) = true
  | [] => rfl
  | x :: xs => by show (true && SV.usesL p (ix xs)) = true; rw [ix_uses p xs]; rfl
theorem turOK : SumOK Tryz.prog 97 turS := by
  intro glob O w0 β H w base args vs hH hG ha
  refine args2_sat fun v sl hv => optC_only fun x hx => ?_
  have key : ∀ (nm n : Nat) (cs : List SV) (ns : List Nat) (y : W32), sl = .slice ⟨nm, .lit 0⟩ (.lit n) (.lit n) → cellsE (nth H nm) = some cs → unL cs = some ns →
      outP [] (callSim cfg0 2000 97 [.int .u32 (.b32 x), .slice ⟨0, .lit 0⟩ (.lit n) (.lit n)] [.row (.lst (ix ns))]) = ([], some (.int .u32 (.b32 y), [])) → (w32R y).Sat (SumSem Tryz.prog H β w base 97 vs) := by
    intro nm n cs ns y hs hc hn hrun
    rw [hv, un32_spec hx, hs] at ha
    rw [nth_eq] at hc
    have ht : ∀ g, ∃ e', H[nm]? = some e' ∧ Taken g (.row (.lst (ix ns))) e' := fun g => taken_cells hc (by rw [ix_ren, unL_spec hn]; exact .refl _)
    exact sum_out cfg0OK rfl 2000 hH ⟨[nm], [.row (.lst (ix ns))], [.int .u32 (.b32 x), .slice ⟨0, .lit 0⟩ (.lit n) (.lit n)]⟩ ha
      (Ifc.fits (by simp) rfl ⟨⟨ht _, ix_uses _ _⟩, trivial⟩) [] (by simp) (by simp) hrun all_nil fun _ _ => ends0 rfl rfl rfl
  rcases asSlice_cases sl with ⟨a, l, c, hsl⟩ | hno
  · rw [hsl]
    show R.Sat (l.asLit _ _) _
    refine SN.asLit_sat (fun n _ => ?_) fun _ => trivial
    rw [← hsl]
    refine boolC_sat (fun _ => isSl_sat fun nm hs => optC_only fun cs hcs => optC_only fun ns hns => ?_) fun _ => isSl_sat fun nm hs => optC_only fun cs hcs => optC_only fun ns hns => ?_
    · refine boolC_sat (fun h1 => ?_) fun _ => boolC_only fun h1 => ?_
      · have := sameL_spec h1; subst this
        exact key nm 2 cs _ _ hs hcs hns (turned_run2 x 17 19 (.inl ⟨rfl, rfl⟩))
      · have := sameL_spec h1; subst this
        exact key nm 2 cs _ _ hs hcs hns (turned_run2 x 7 18 (.inr ⟨rfl, rfl⟩))
    · refine boolC_sat (fun h1 => ?_) fun _ => boolC_only fun h1 => ?_
      · have := sameL_spec h1; subst this
        exact key nm 3 cs _ _ hs hcs hns (turned_run3 x 6 11 25 (.inl ⟨rfl, rfl, rfl⟩))
      · have := sameL_spec h1; subst this
        exact key nm 3 cs _ _ hs hcs hns (turned_run3 x 2 13 22 (.inr ⟨rfl, rfl, rfl⟩))
  · rw [hno]; trivial
/- Functions of three words. -/
noncomputable def pure3S (F : W32 → W32 → W32 → W32) : Summ := fun args _ _ => args3 args fun a b c => optC (un32 a) (.stuck 724) fun x => optC (un32 b) (.stuck 724) fun y => optC (un32 c) (.stuck 724) fun z => w32R (F x y z)
theorem pure3OK {f : FuncId} {F : W32 → W32 → W32 → W32} (hrun : ∀ x y z : W32, outP [] (callSim cfg0 200 f [.int .u32 (.b32 x), .int .u32 (.b32 y), .int .u32 (.b32 z)] []) = ([], some (.int .u32 (.b32 (F x y z)), []))) : SumOK Tryz.prog f (pure3S F) := by
  intro glob O w0 β H w base args vs hH hG ha
  refine args3_sat fun a b c hv => optC_only fun x hx => optC_only fun y hy => optC_only fun z hz => ?_
  rw [hv, un32_spec hx, un32_spec hy, un32_spec hz] at ha
  exact sum_out cfg0OK rfl 200 hH ⟨[], [], [.int .u32 (.b32 x), .int .u32 (.b32 y), .int .u32 (.b32 z)]⟩ ha (fits0 rfl) [] (by simp) (by simp) (hrun x y z) all_nil fun _ _ => ends0 rfl rfl rfl
noncomputable def choiceW (x y z : W32) : W32 := x &&& y ^^^ ((BitVec.ofInt 32 4294967295 ^^^ x) &&& z)
noncomputable def majW (x y z : W32) : W32 := x &&& y ^^^ x &&& z ^^^ y &&& z
theorem choiceOK : SumOK Tryz.prog 98 (pure3S choiceW) := pure3OK fun x y z => by kernel_rfl
theorem majOK : SumOK Tryz.prog 99 (pure3S majW) := pure3OK fun x y z => by kernel_rfl
noncomputable def cfgH1 : Cfg := cfgG globP (sumsOf [(97, turS), (98, pure3S choiceW), (99, pure3S majW)])
theorem allS {glob : Nat → Option Nat} {x : FuncId × Summ} {l : List (FuncId × Summ)} (h : SumAt Tryz.prog glob x.1 x.2) (h' : ∀ y ∈ l, SumAt Tryz.prog glob y.1 y.2) : ∀ y ∈ x :: l, SumAt Tryz.prog glob y.1 y.2 := by
  intro y hy
  rcases List.mem_cons.1 hy with rfl | hy
  · exact h
  · exact h' y hy
theorem cfgH1OK : CfgOK cfgH1 := sumsG_ok (allS (turOK _) (allS (choiceOK _) (allS (majOK _) (by simp))))
end Go.Proofs.YtflafdhmmcknhaaGreatDoor.Aes

