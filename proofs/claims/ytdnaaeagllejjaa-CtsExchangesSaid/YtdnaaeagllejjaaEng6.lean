/-
  The symbolic simulator, sixth part: what each operation does is what the model does (memory and values).
-/
import Derived.Test.YtdnaaeagllejjaaEng5
namespace Go.Sim
variable {α : Type}

def nextVal : Next → Option Value
  | .value v => some v
  | .skip => some undef
  | _ => none
/-- the names of what is new are free -/
def Free (β : Val) (base : Nat) (news : List SO) : Prop := ∀ i, i < news.length → β (base + i) = none
theorem Free.hd {β : Val} {base : Nat} {e : SO} {r : List SO} (h : Free β base (e :: r)) : β base = none := h 0 (Nat.zero_lt_succ _)
def OpSem (P : Program) (H : List SO) (β : Val) (w : World) (base : Nat) (res : Result Next) : OpRes → Prop
  | .val v sets news => Free β base news → ∃ nx v' w' β', res = .ok nx w' ∧ nextVal nx = some v' ∧ v.den β' = some v' ∧ Eff P β w base sets news β' w' ∧ ∀ n e, (n, e) ∈ sets → ∃ e0, H[n]? = some e0 ∧ e0.owned = true
  | .enter f args => ∃ vs, SV.denL β args = some vs ∧ res = (callFunc f vs.toArray).run P w
  | .touch v nm => ∃ nx v' w' e, res = .ok nx w' ∧ nextVal nx = some v' ∧ v.den β = some v' ∧ H[nm]? = some e ∧ e.owned = true ∧ Eff P β w base [(nm, e)] [] β w'
  | .round nm args => ∃ l vs, β nm = some l ∧ SV.denL β args = some vs ∧ res = (Instr.yield l.blk vs.toArray).run P w
  | _ => True

theorem Eff.none {P : Program} {β : Val} {w w' : World} {base : Nat} (hh : w'.heap = w.heap) (ho : w'.os = w.os) (ht : w'.tape = w.tape) (hu : w'.output = w.output) : Eff P β w base [] [] β w' where
  le := Val.le_refl β
  os := ho
  tape := ht
  output := hu
  size := by rw [hh]; exact Nat.le_refl _
  dom := fun _ _ => rfl
  frame := fun b _ _ => by rw [hh]
  one := by simp
  turned := by simp
  made := by simp
  apart := by simp
theorem Eff.refl (P : Program) (β : Val) (w : World) (base : Nat) : Eff P β w base [] [] β w := Eff.none rfl rfl rfl rfl
def Val.upd (β : Val) (n : Nat) (l : Loc) : Val := fun m => if m = n then some l else β m
theorem Val.upd_le {β : Val} {n : Nat} {l : Loc} (h : β n = Option.none) : β.le (β.upd n l) := by
  intro m x hm
  unfold Val.upd
  split
  · rename_i e; rw [e, h] at hm; cases hm
  · exact hm
theorem Val.upd_same (β : Val) (n : Nat) (l : Loc) : β.upd n l n = some l := by simp [Val.upd]
/-- one new block -/
theorem Eff.alloc {P : Program} {β : Val} {w w' : World} {base : Nat} {c : Cells} {whole : Bool} {elem : TypeId} {vs rest : List Value} {lo hi cap : Nat} (hb : β base = Option.none)
    (hh : w'.heap = w.heap.push (.cells (vs ++ rest).toArray elem (lo, hi))) (ho : w'.os = w.os) (ht : w'.tape = w.tape) (hu : w'.output = w.output)
    (hc : CellsRel β c vs) (hfz : Unfz lo hi (vs ++ rest).length) (hw : whole = true → rest = []) (hcap : ∀ i, P.info? elem = some i → cap * i.size ≤ (vs ++ rest).length) :
    Eff P β w base [] [.own c whole elem] (β.upd base ⟨w.heap.size, 0, cap⟩) w' where
  le := Val.upd_le hb
  os := ho
  tape := ht
  output := hu
  size := by rw [hh]; simp
  dom := fun n hn => by
    unfold Val.upd
    rw [if_neg]; simp at hn; omega
  frame := fun b hb _ => by rw [hh, Array.getElem?_push, if_neg (by omega)]
  one := by simp
  turned := by simp
  made := fun i e he => by
    cases i with
    | zero =>
      simp at he; subst he
      refine ⟨rfl, ⟨⟨w.heap.size, 0, cap⟩, vs, rest, lo, hi, Val.upd_same _ _ _, rfl, hc.mono (Val.upd_le hb), ?_, hfz, hw, hcap⟩, _, Val.upd_same _ _ _, .inl (Nat.le_refl _)⟩
      rw [hh]; simp
    | succ i => simp at he
  apart := fun i j l l' hij hi hj => by simp at hi hj; omega
/-- one block of the run's own turns -/
theorem Eff.turn {P : Program} {β : Val} {w : World} {base n : Nat} {l : Loc} {o : Obj} {e : SO} (hl : β n = some l)
    (hr : OwnRel P β { w with heap := w.heap.setIfInBounds l.blk o } n e) : Eff P β w base [(n, e)] [] β { w with heap := w.heap.setIfInBounds l.blk o } where
  le := Val.le_refl β
  os := rfl
  tape := rfl
  output := rfl
  size := by simp
  dom := fun _ _ => rfl
  frame := fun b _ hn => by
    have := hn n e l (by simp) hl
    simp [this]
  one := fun m a b ha hb => by simp at ha hb; rw [ha.2, hb.2]
  turned := fun m a ha => by simp at ha; rw [ha.1, ha.2]; exact hr
  made := by simp
  apart := by simp

/- Cells read. -/
theorem addr_add (b o i : Nat) : (Addr.mk b o none).add i = ⟨b, o + i, none⟩ := by
  unfold Addr.add
  split
  · rename_i h; subst h; rfl
  · rfl
theorem cell?_of {w : World} {b o : Nat} {c : Array Value} {e : TypeId} {fz : Nat × Nat} (h : w.heap[b]? = some (.cells c e fz)) : w.cell? ⟨b, o, none⟩ = c[o]? := by
  simp [World.cell?, h]
theorem cell?_same {w w' : World} {b o : Nat} (h : w'.heap[b]? = w.heap[b]?) : w'.cell? ⟨b, o, none⟩ = w.cell? ⟨b, o, none⟩ := by
  simp [World.cell?, h]
/-- an entry whose cells can be read -/
def SO.cells? : SO → Option Cells
  | .own c _ _ => some c
  | .row c => some c
  | _ => none
theorem entry_cells {P : Program} {O : Nat → Prop} {w0 : World} {β : Val} {H : List SO} {w : World} (h : HeapRel0 P O w0 β H w) {n : Nat} {e : SO} {c : Cells} (he : H[n]? = some e) (hc : e.cells? = some c) :
    ∃ l vs, β n = some l ∧ CellsRel β c vs ∧ ∀ (i : Nat) (x : Value), vs[i]? = some x → w.cell? ⟨l.blk, l.off + i, none⟩ = some x := by
  have h0 := h.entries n e he
  cases e with
  | own c' wh el =>
    simp [SO.cells?] at hc; subst hc
    obtain ⟨l, vs, rest, lo, hi, hl, h0', hcr, hh, _⟩ := h0
    refine ⟨l, vs, hl, hcr, fun i x hx => ?_⟩
    rw [cell?_of hh, h0', Nat.zero_add]
    simp [List.getElem?_append_left (List.getElem?_eq_some_iff.1 hx).1, hx]
  | row c' =>
    simp [SO.cells?] at hc; subst hc
    obtain ⟨l, vs, hl, hcr, hh⟩ := h0
    refine ⟨l, vs, hl, hcr, fun i x hx => ?_⟩
    obtain ⟨h1, h2, h3⟩ := hh i x hx
    rw [cell?_same (h.keep.block _ h1 h2)]; exact h3
  | loop => simp [SO.cells?] at hc
  | deferred => simp [SO.cells?] at hc
  | gone => simp [SO.cells?] at hc
theorem rdCells_sat {β : Val} {c : Cells} {vs : List Value} (hc : CellsRel β c vs) {i : SN} {k : Nat} {f : List SV → R α} {φ : α → Prop}
    (hf : ∀ l xs, SV.denL β l = some xs → xs.length = k → (∀ (j : Nat) (x : Value), xs[j]? = some x → vs[i.den + j]? = some x) → (f l).Sat φ) : (rdCells c i k f).Sat φ := by
  cases c with
  | lst l =>
    refine SN.asLit_sat (fun n hn => ?_) (fun _ => trivial)
    subst hn
    refine R.Sat.boolC (fun hb => ?_) (fun _ => trivial)
    have hle : n + k ≤ l.length := by rw [← lenN_eq]; exact Nat.le_of_ble_eq_true hb
    rw [takeN_eq, dropN_eq]
    have hlen := denL_length hc
    refine hf _ _ (denL_take (denL_drop hc n) k) (by simp; omega) (fun j x hx => ?_)
    rw [List.getElem?_take] at hx
    split at hx
    · rw [List.getElem?_drop] at hx; exact hx
    · cases hx
  | fn g n =>
    intro hle
    obtain ⟨hlen, hg⟩ := hc
    rw [mapN_eq, fromN_eq]
    refine hf _ ((vs.drop i.den).take k) (denL_mk (by simp; omega) ?_) (by simp; omega) (fun j x hx => ?_)
    · intro j v hv
      simp only [List.getElem?_map, Option.map_eq_some_iff] at hv
      obtain ⟨a, ha, rfl⟩ := hv
      have hj : j < k := by
        have := (List.getElem?_eq_some_iff.1 ha).1
        simpa using this
      rw [List.getElem?_range' hj] at ha
      simp at ha; subst ha
      have hlt : i.den + j < vs.length := by omega
      refine ⟨vs[i.den + j], ?_, ?_⟩
      · rw [List.getElem?_take, if_pos hj, List.getElem?_drop, List.getElem?_eq_getElem hlt]
      · exact hg (i.den + j) _ (List.getElem?_eq_getElem hlt)
    · rw [List.getElem?_take] at hx
      split at hx
      · rw [List.getElem?_drop] at hx; exact hx
      · cases hx
theorem si8_spec {n : SI} {x : BitVec 8} (h : si8 n = some x) : n.den = (x.toNat : Int) := by
  cases n with
  | lit n =>
    have h : lit8 n = some x := h
    cases n with
    | ofNat m =>
      have h : boolC (Nat.blt m 256) (some (BitVec.ofNat 8 m)) none = some x := h
      cases hm : Nat.blt m 256 with
      | false => rw [hm] at h; cases h
      | true =>
        rw [hm] at h
        have hm : m < 256 := Nat.le_of_ble_eq_true hm
        cases h
        show (m : Int) = _
        rw [BitVec.toNat_ofNat, Nat.mod_eq_of_lt (by omega)]
    | negSucc m => cases h
  | b8 y => cases h; rfl
  | sym => cases h
  | b32 => cases h
  | b64 => cases h
theorem unb1_den {β : Val} {v : SV} {x : BitVec 8} {y : Value} (h : unb1 v = some x) (hv : v.den β = some y) : y = .int .u8 (x.toNat : Int) := by
  cases v <;> first | (cases h; done) | skip
  rename_i k n
  have h : boolC (eqK k .u8) (si8 n) none = some x := h
  cases hk : eqK k .u8 with
  | false => rw [hk] at h; cases h
  | true =>
    rw [hk] at h
    have := idxK_inj hk
    subst this
    cases hv
    rw [si8_spec h]
theorem unb_get {β : Val} : ∀ {l : List SV} {xs : List (BitVec 8)} {vs : List Value}, unb l = some xs → SV.denL β l = some vs → vs.length = xs.length ∧ ∀ i, i < xs.length → vs[i]? = some (.int .u8 ((byteAt xs i).toNat : Int))
  | [], xs, vs, h, hv => by
    cases h
    rw [denL_nil] at hv; subst hv
    exact ⟨rfl, fun i hi => by simp at hi⟩
  | v :: l, xs, vs, h, hv => by
    have h : (optC (unb1 v) none fun x => optC (unb l) none fun xs => some (x :: xs)) = some xs := h
    obtain ⟨y, ys, hy, hys, rfl⟩ := denL_cons.1 hv
    cases h1 : unb1 v with
    | none => rw [h1] at h; cases h
    | some x =>
      rw [h1] at h
      have h : (optC (unb l) none fun xs => some (x :: xs)) = some xs := h
      cases h2 : unb l with
      | none => rw [h2] at h; cases h
      | some us =>
        rw [h2] at h; cases h
        obtain ⟨h3, h4⟩ := unb_get h2 hys
        refine ⟨by simp [h3], fun i hi => ?_⟩
        cases i with
        | zero => rw [unb1_den h1 hy]; rfl
        | succ i =>
          have := h4 i (by simpa using hi)
          exact this
/-- n bytes from a place on -/
theorem viewC_sat {β : Val} {c : Cells} {vs : List Value} (hc : CellsRel β c vs) {off n : Nat} {f : (Nat → BitVec 8) → R α} {φ : α → Prop}
    (hf : ∀ X : Nat → BitVec 8, off + n ≤ vs.length → (∀ j, j < n → vs[off + j]? = some (.int .u8 ((X j).toNat : Int))) → (f X).Sat φ) : (viewC c off n f).Sat φ := by
  cases c with
  | lst l =>
    show R.Sat (optC (unb l) (R.stuck 770) fun xs => R.need (off + n ≤ lenN xs) (f fun i => byteAt xs (off + i))) φ
    cases hx : unb l with
    | none => trivial
    | some xs =>
      intro hn
      rw [lenN_eq] at hn
      obtain ⟨h1, h2⟩ := unb_get hx hc
      exact hf _ (by omega) fun j hj => h2 _ (by omega)
  | fn g m =>
    rintro ⟨hn, hB⟩
    obtain ⟨h1, h2⟩ := hc
    refine hf _ (by omega) fun j hj => ?_
    have hlt : off + j < vs.length := by omega
    obtain ⟨x, hx⟩ := hB (off + j)
    have := h2 (off + j) _ (List.getElem?_eq_getElem hlt)
    rw [hx] at this
    show vs[off + j]? = some (.int .u8 ((byteOf (g (off + j))).toNat : Int))
    rw [hx, List.getElem?_eq_getElem hlt, ← this]; rfl
theorem rdCell_sat {β : Val} {c : Cells} {vs : List Value} (hc : CellsRel β c vs) {i : SN} {f : SV → R α} {φ : α → Prop}
    (hf : ∀ v x, v.den β = some x → vs[i.den]? = some x → (f v).Sat φ) : (rdCell c i f).Sat φ := by
  cases c with
  | lst l =>
    cases i with
    | lit n =>
      refine R.Sat.opt fun v hv => ?_
      rw [nth_eq] at hv
      obtain ⟨x, hx, hd⟩ := denL_get hc hv
      exact hf v x hd hx
    | sym n =>
      show R.Sat (optC (unb l) (R.stuck 203) fun xs => R.need (n < lenN xs) (f (.int .u8 (.b8 (byteAt xs n))))) φ
      cases hx : unb l with
      | none => trivial
      | some xs =>
        intro hn
        rw [lenN_eq] at hn
        exact hf _ _ rfl ((unb_get hx hc).2 n hn)
    | byt o y =>
      show R.Sat (optC (unb l) (R.stuck 203) fun xs => boolC (Nat.ble (o + 256) (lenN xs)) (f (.int .u8 (.b8 (byteAt xs (o + y.toNat))))) (R.need (o + y.toNat < lenN xs) (f (.int .u8 (.b8 (byteAt xs (o + y.toNat))))))) φ
      cases hx : unb l with
      | none => trivial
      | some xs =>
        have key : o + y.toNat < lenN xs → (f (.int .u8 (.b8 (byteAt xs (o + y.toNat))))).Sat φ := fun hn => by
          rw [lenN_eq] at hn
          exact hf _ _ rfl ((unb_get hx hc).2 _ hn)
        refine R.Sat.boolC (fun hb => key ?_) fun _ => key
        have hb : o + 256 ≤ lenN xs := Nat.le_of_ble_eq_true hb
        have := y.isLt
        omega
  | fn g n =>
    obtain ⟨hlen, hg⟩ := hc
    have key : ∀ j, i.den = j → j < n → (f (g j)).Sat φ := by
      intro j hj hlt
      have hlt' : j < vs.length := by omega
      exact hf _ _ (hg j _ (List.getElem?_eq_getElem hlt')) (by rw [hj]; exact List.getElem?_eq_getElem hlt')
    cases i with
    | lit j => exact fun hlt => key j rfl hlt
    | sym j => exact fun hlt => key j rfl hlt
    | byt o x => exact fun hlt => key _ rfl hlt
/-- what a symbolic address stands for -/
theorem SA.den_some {β : Val} {a : SA} {A : Addr} (h : a.den β = some A) : ∃ l, β a.nm = some l ∧ A = ⟨l.blk, l.off + a.off.den, none⟩ := by
  unfold SA.den at h
  cases hb : β a.nm with
  | none => rw [hb] at h; cases h
  | some l => rw [hb] at h; cases h; exact ⟨l, rfl, rfl⟩
theorem SA.plus_den {β : Val} {a : SA} {A : Addr} (h : a.den β = some A) (n : SN) : (a.plus n).den β = some (A.add n.den) := by
  obtain ⟨l, hl, rfl⟩ := SA.den_some h
  simp [SA.plus, SA.den, hl, SN.add_den, addr_add, Nat.add_assoc]
theorem entry_sat {H : List SO} {a : SA} {f : SO → R α} {φ : α → Prop} (h : ∀ e, H[a.nm]? = some e → (f e).Sat φ) : (entry H a f).Sat φ := by
  refine R.Sat.opt fun e he => ?_
  rw [nth_eq] at he; exact h e he
section
variable {P : Program} {O : Nat → Prop} {w0 : World} {β : Val} {H : List SO} {w : World} (hr : HeapRel0 P O w0 β H w)
include hr
theorem loadN_sat {a : SA} {A : Addr} (ha : a.den β = some A) {k : Nat} {f : List SV → R α} {φ : α → Prop}
    (hf : ∀ l xs, SV.denL β l = some xs → xs.length = k → (∀ (j : Nat) (x : Value), xs[j]? = some x → w.cell? (A.add j) = some x) → (f l).Sat φ) : (loadN H a k f).Sat φ := by
  refine entry_sat fun e he => ?_
  have key : ∀ c, e.cells? = some c → (rdCells c a.off k f).Sat φ := by
    intro c hc
    obtain ⟨l, vs, hl, hcr, hcell⟩ := entry_cells hr he hc
    obtain ⟨l', hl', rfl⟩ := SA.den_some ha
    rw [hl] at hl'; cases hl'
    refine rdCells_sat hcr fun ll xs h1 h2 h3 => hf ll xs h1 h2 fun j x hx => ?_
    rw [addr_add, Nat.add_assoc]
    exact hcell _ _ (h3 j x hx)
  cases e with
  | own c wh el => exact key c rfl
  | row c => exact key c rfl
  | loop => trivial
  | deferred => trivial
  | gone => trivial
theorem load1_sat {a : SA} {A : Addr} (ha : a.den β = some A) {f : SV → R α} {φ : α → Prop}
    (hf : ∀ v x, v.den β = some x → w.cell? A = some x → (f v).Sat φ) : (load1 H a f).Sat φ := by
  refine entry_sat fun e he => ?_
  have key : ∀ c, e.cells? = some c → (rdCell c a.off f).Sat φ := by
    intro c hc
    obtain ⟨l, vs, hl, hcr, hcell⟩ := entry_cells hr he hc
    obtain ⟨l', hl', rfl⟩ := SA.den_some ha
    rw [hl] at hl'; cases hl'
    exact rdCell_sat hcr fun v x h1 h2 => hf v x h1 (hcell _ _ h2)
  cases e with
  | own c wh el => exact key c rfl
  | row c => exact key c rfl
  | loop => trivial
  | deferred => trivial
  | gone => trivial
end
theorem run_loadCellsFrom (P : Program) (w : World) (A : Addr) : ∀ (xs : List Value) (i : Nat) (acc : Array Value),
    (∀ (j : Nat) (x : Value), xs[j]? = some x → w.cell? (A.add (i + j)) = some x) → (loadCellsFrom A i xs.length acc).run P w = .ok (acc ++ xs.toArray) w := by
  intro xs
  induction xs with
  | nil => intro i acc _; simp [loadCellsFrom]
  | cons x xs ih =>
    intro i acc h
    have h0 := h 0 x rfl
    simp only [List.length_cons, loadCellsFrom, Sem.run_bind, run_load]
    rw [show A.add i = A.add (i + 0) from rfl, h0]
    simp only [Result.andThen_ok]
    rw [ih (i + 1) (acc.push x) (fun j y hy => by rw [show i + 1 + j = i + (j + 1) from by omega]; exact h (j + 1) y hy)]
    simp
theorem run_loadCells {P : Program} {w : World} {A : Addr} {xs : List Value} {k : Nat} (hk : xs.length = k) (h : ∀ (j : Nat) (x : Value), xs[j]? = some x → w.cell? (A.add j) = some x) :
    (loadCells A k).run P w = .ok xs.toArray w := by
  subst hk
  unfold loadCells
  rw [run_loadCellsFrom P w A xs 0 #[] (fun j x hx => by rw [Nat.zero_add]; exact h j x hx)]
  simp
theorem isAggD_eq (d : TypeDesc) : isAggD d = (match d with | .struct _ => true | .array _ _ => true | _ => false) := by cases d <;> rfl
theorem run_underlying {P : Program} {w : World} {t : TypeId} {d : TypeDesc} (h : P.underlying t = some d) : (underlying t).run P w = .ok d w := by
  simp [underlying, h]
theorem run_typeInfo {P : Program} {w : World} {t : TypeId} {i : TypeInfo} (h : P.info? t = some i) : (typeInfo t).run P w = .ok i w := by
  simp [typeInfo, h]
theorem run_sizeOf {P : Program} {w : World} {t : TypeId} {i : TypeInfo} (h : P.info? t = some i) : (sizeOf t).run P w = .ok i.size w := by
  simp [sizeOf, run_typeInfo h]
theorem run_isAgg {P : Program} {w : World} {t : TypeId} {d : TypeDesc} (h : P.underlying t = some d) : (isAgg t).run P w = .ok (isAggD d) w := by
  cases d <;> simp [isAgg, run_underlying h, isAggD]
section
variable {P : Program} {O : Nat → Prop} {w0 : World} {β : Val} {H : List SO} {w : World} (hr : HeapRel0 P O w0 β H w)
include hr
theorem loadT_sat {t : TypeId} {a : SA} {A : Addr} (ha : a.den β = some A) {f : SV → R α} {φ : α → Prop}
    (hf : ∀ v x, v.den β = some x → (loadVar t A).run P w = .ok x w → (f v).Sat φ) : (loadT P H t a f).Sat φ := by
  refine R.Sat.opt fun d hd => ?_
  have hagg := run_isAgg (w := w) hd
  refine R.Sat.boolC (fun hb => ?_) (fun hb => ?_)
  · refine R.Sat.opt fun i hi => loadN_sat hr ha fun l xs h1 h2 h3 => hf _ (.agg xs.toArray) (by simp [SV.den, h1]) ?_
    simp [loadVar, hagg, hb, run_sizeOf hi, run_loadCells h2 h3]
  · refine load1_sat hr ha fun v x h1 h2 => hf _ x h1 ?_
    simp [loadVar, hagg, hb, h2]
end

/- Cells written. -/
theorem scalar_one {β : Val} {v : SV} {x : Value} (hs : scalar v = true) (hv : v.den β = some x) : x.oneCell' = true := by
  cases v <;> simp only [SV.den, Option.map_eq_some_iff, Option.bind_eq_some_iff, Option.some.injEq] at hv
  case int => subst hv; rfl
  case bool => subst hv; rfl
  case str => subst hv; rfl
  case ptr => obtain ⟨_, _, rfl⟩ := hv; rfl
  case nilPtr => subst hv; rfl
  case slice => obtain ⟨_, _, _, _, h⟩ := hv; rw [sliceV_eq] at h; obtain ⟨_, rfl⟩ := h; rfl
  case nilSlice => subst hv; rfl
  case map => obtain ⟨_, _, rfl⟩ := hv; rfl
  case nilMap => subst hv; rfl
  case func => obtain ⟨_, _, _, _, _, _, rfl⟩ := hv; rfl
  case nilFunc => subst hv; rfl
  case iface => obtain ⟨_, _, rfl⟩ := hv; rfl
  case nilIface => subst hv; rfl
  case agg => cases hs
  case tuple => cases hs
  case val => cases hs
  case tail =>
    obtain ⟨_, _, _, _, h⟩ := hv; rw [tailV_eq] at h; obtain ⟨_, rfl⟩ := h; rfl
theorem denL_one {β : Val} {l : List SV} {xs : List Value} (h : SV.denL β l = some xs) (hs : allN scalar l = true) : ∀ x ∈ xs, x.oneCell' = true := by
  intro x hx
  obtain ⟨i, hi⟩ := List.getElem?_of_mem hx
  have hlt := (List.getElem?_eq_some_iff.1 hi).1
  rw [denL_length h] at hlt
  obtain ⟨y, hy, hd⟩ := denL_get h (List.getElem?_eq_getElem hlt)
  rw [hi] at hy; cases hy
  exact scalar_one (allN_spec _ _ hs _ (List.getElem_mem hlt)) hd
/-- the cells v laid over the cells c from place i on -/
def overC (c : List Value) (i : Nat) (v : List Value) : List Value := c.take i ++ v ++ c.drop (i + v.length)
theorem overC_length {c : List Value} {i : Nat} {v : List Value} (h : i + v.length ≤ c.length) : (overC c i v).length = c.length := by
  simp [overC]; omega
theorem overC_nil (c : List Value) (i : Nat) : overC c i [] = c := by simp [overC]
theorem overC_cons {c : List Value} {i : Nat} {x : Value} {v : List Value} (h : i + (x :: v).length ≤ c.length) : overC (c.set i x) (i + 1) v = overC c i (x :: v) := by
  simp only [overC, List.length_cons] at *
  rw [List.set_eq_take_append_cons_drop, if_pos (by omega)]
  have hl : (c.take i).length = i := by simp; omega
  have e1 : (c.take i ++ x :: c.drop (i + 1)).take (i + 1) = c.take i ++ [x] := by
    rw [List.take_append, hl, List.take_of_length_le (by omega)]
    simp
  have e2 : (c.take i ++ x :: c.drop (i + 1)).drop (i + 1 + v.length) = c.drop (i + (v.length + 1)) := by
    rw [List.drop_append, hl, List.drop_of_length_le (by omega), show i + 1 + v.length - i = v.length + 1 from by omega]
    simp [List.drop_drop]
    congr 1; omega
  rw [e1, e2]; simp
theorem run_storeCells {P : Program} {b : Nat} {e : TypeId} {lo hi : Nat} : ∀ (v c : List Value) (o i : Nat) (w : World), w.heap[b]? = some (.cells c.toArray e (lo, hi)) → (∀ x ∈ v, x.oneCell' = true) →
    (∀ j, j < c.length → ¬ (lo ≤ j ∧ j < hi)) → o + i + v.length ≤ c.length →
    (storeCells ⟨b, o, none⟩ v i).run P w = .ok () { w with heap := w.heap.setIfInBounds b (.cells (overC c (o + i) v).toArray e (lo, hi)) } := by
  intro v
  induction v with
  | nil =>
    intro c o i w hb _ _ _
    have : w.heap.setIfInBounds b (.cells c.toArray e (lo, hi)) = w.heap := by
      apply Array.ext_getElem?
      intro j
      rw [Array.getElem?_setIfInBounds]
      split
      · rename_i h; subst h
        have hlt := (Array.getElem?_eq_some_iff.1 hb).1
        rw [if_pos hlt, hb]
      · rfl
    rw [overC_nil, this]; rfl
  | cons x v ih =>
    intro c o i w hb h1 hfz hle
    simp only [List.length_cons] at hle
    have hlt : b < w.heap.size := (Array.getElem?_eq_some_iff.1 hb).1
    have hcell : w.cell? (Addr.add ⟨b, o, none⟩ i) = some (c[o + i]'(by omega)) := by
      rw [addr_add, cell?_of hb]; simp
    have hfr : w.frozen? (Addr.add ⟨b, o, none⟩ i) = false := by
      rw [addr_add]
      have := hfz (o + i) (by omega)
      simp only [World.frozen?, hb]
      simp; omega
    have hset : w.setCell (Addr.add ⟨b, o, none⟩ i) x = { w with heap := w.heap.setIfInBounds b (.cells (c.set (o + i) x).toArray e (lo, hi)) } := by
      rw [addr_add]
      simp only [World.setCell]
      congr 1
      apply Array.ext_getElem?
      intro j
      rw [Array.getElem?_modify, Array.getElem?_setIfInBounds]
      split
      · rename_i h; subst h
        simp only [hb, Option.map_some]
        simp
      · rfl
    have hst : (storeCells ⟨b, o, none⟩ (x :: v) i).run P w = (storeCells ⟨b, o, none⟩ v (i + 1)).run P (w.setCell (Addr.add ⟨b, o, none⟩ i) x) := by
      simp only [storeCells, Sem.run_bind]
      have : (store (Addr.add ⟨b, o, none⟩ i) x).run P w = .ok () (w.setCell (Addr.add ⟨b, o, none⟩ i) x) := by
        have ho := h1 x (by simp)
        cases x <;> first | (cases ho; done) | simp [store, Sem.run, hcell, hfr]
      rw [this]; rfl
    rw [hst, hset]
    have hb' : ({ w with heap := w.heap.setIfInBounds b (.cells (c.set (o + i) x).toArray e (lo, hi)) } : World).heap[b]? = some (.cells (c.set (o + i) x).toArray e (lo, hi)) := by
      simp [hlt]
    rw [ih (c.set (o + i) x) o (i + 1) _ hb' (fun y hy => h1 y (List.mem_cons_of_mem _ hy)) (fun j hj => hfz j (by simpa using hj)) (by simp; omega)]
    rw [show o + (i + 1) = o + i + 1 from by omega, overC_cons (by simp; omega)]
    simp
theorem overC_append {a b : List Value} {i : Nat} {v : List Value} (h : i + v.length ≤ a.length) : overC (a ++ b) i v = overC a i v ++ b := by
  simp only [overC]
  rw [List.take_append_of_le_length (by omega), List.drop_append_of_le_length (by omega)]
  simp
theorem denL_bytes {β : Val} : ∀ ys : List (BitVec 8), SV.denL β (mapN (fun x => SV.int .u8 (.b8 x)) ys) = some (ys.map fun x => Value.int .u8 (x.toNat : Int))
  | [] => rfl
  | _ :: ys => denL_cons.2 ⟨_, _, rfl, denL_bytes ys, rfl⟩
theorem putB_get (o n : Nat) (Y : Nat → BitVec 8) : ∀ (xs : List (BitVec 8)) (k i : Nat), (putB o n Y xs k)[i]? = (xs[i]?).map fun x => if o ≤ k + i ∧ k + i < o + n then Y (k + i - o) else x
  | [], k, i => by simp [putB]
  | x :: xs, k, 0 => by
    show ((if o ≤ k ∧ k < o + n then Y (k - o) else x) :: putB o n Y xs (k + 1))[0]? = _
    simp
  | x :: xs, k, i + 1 => by
    show ((if o ≤ k ∧ k < o + n then Y (k - o) else x) :: putB o n Y xs (k + 1))[i + 1]? = _
    rw [List.getElem?_cons_succ, putB_get o n Y xs (k + 1) i, List.getElem?_cons_succ, show k + 1 + i = k + (i + 1) from by omega]
theorem overC_get {vs xs : List Value} {o : Nat} (h : o + xs.length ≤ vs.length) (i : Nat) : (overC vs o xs)[i]? = if o ≤ i ∧ i < o + xs.length then xs[i - o]? else vs[i]? := by
  unfold overC
  rw [List.append_assoc, List.getElem?_append, List.getElem?_append, List.length_take, Nat.min_eq_left (by omega), List.getElem?_take, List.getElem?_drop]
  by_cases h1 : i < o
  · rw [if_pos h1, if_pos h1, if_neg (by omega)]
  · rw [if_neg h1]
    by_cases h2 : i < o + xs.length
    · rw [if_pos (by omega), if_pos (by omega)]
    · rw [if_neg (by omega), if_neg (by omega), show o + xs.length + (i - o - xs.length) = i from by omega]
theorem putC_sat {β : Val} {c : Cells} {vs : List Value} (hc : CellsRel β c vs) {o n : Nat} {Y : Nat → BitVec 8} {xs : List Value} (hl : xs.length = n) (hY : ∀ j, j < n → xs[j]? = some (.int .u8 ((Y j).toNat : Int))) {f : Cells → R α} {φ : α → Prop}
    (hf : ∀ c', CellsRel β c' (overC vs o xs) → o + xs.length ≤ vs.length → (f c').Sat φ) : (putC c o n Y f).Sat φ := by
  cases c with
  | lst l =>
    show R.Sat (optC (unb l) (R.stuck 774) fun us => R.need (o + n ≤ lenN us) (f (.lst (mapN (fun x => .int .u8 (.b8 x)) (putB o n Y us 0))))) φ
    cases hx : unb l with
    | none => trivial
    | some us =>
      intro hn
      rw [lenN_eq] at hn
      obtain ⟨h1, h2⟩ := unb_get hx hc
      refine hf _ ?_ (by omega)
      show SV.denL β _ = some _
      rw [denL_bytes]
      congr 1
      apply List.ext_getElem?
      intro i
      rw [List.getElem?_map, putB_get, overC_get (by omega), Nat.zero_add, hl]
      by_cases hi : i < us.length
      · rw [List.getElem?_eq_getElem hi]
        by_cases hin : o ≤ i ∧ i < o + n
        · rw [if_pos hin, hY (i - o) (by omega)]
          simp [hin]
        · rw [if_neg hin, h2 i hi]
          simp only [Option.map_some, if_neg hin, byteAt, List.getElem?_eq_getElem hi, Option.getD_some]
      · rw [List.getElem?_eq_none (by omega), if_neg (by omega), List.getElem?_eq_none (by omega)]; rfl
  | fn g m =>
    rintro ⟨hn, hB⟩
    obtain ⟨h1, h2⟩ := hc
    refine hf _ ⟨by rw [overC_length (by omega)]; exact h1, fun i y hy => ?_⟩ (by omega)
    rw [overC_get (by omega), hl] at hy
    by_cases hin : o ≤ i ∧ i < o + n
    · rw [if_pos hin, hY (i - o) (by omega)] at hy
      show some (Value.int .u8 (((if o ≤ i ∧ i < o + n then Y (i - o) else byteOf (g i)).toNat : Nat) : Int)) = _
      rw [if_pos hin]; exact hy
    · rw [if_neg hin] at hy
      obtain ⟨x, hx⟩ := hB i
      have := h2 i y hy
      rw [hx] at this
      show some (Value.int .u8 (((if o ≤ i ∧ i < o + n then Y (i - o) else byteOf (g i)).toNat : Nat) : Int)) = _
      rw [if_neg hin, hx]; exact this
theorem wrCells_sat {β : Val} {c : Cells} {vs : List Value} (hc : CellsRel β c vs) {i : SN} {v : List SV} {xs : List Value} (hv : SV.denL β v = some xs) {f : Cells → R α} {φ : α → Prop}
    (hf : ∀ c', CellsRel β c' (overC vs i.den xs) → i.den + xs.length ≤ vs.length → (f c').Sat φ) : (wrCells c i v f).Sat φ := by
  have hvl := denL_length hv
  cases c with
  | lst l =>
    refine SN.asLit_sat (fun n hn => ?_) (fun _ => ?hsym)
    case hsym =>
      cases v with
      | nil => trivial
      | cons x r =>
        cases r with
        | cons => trivial
        | nil =>
          show R.Sat (optC (unb1 x) (R.stuck 205) fun b => putC (.lst l) i.den 1 (fun _ => b) f) φ
          cases hb : unb1 x with
          | none => trivial
          | some b =>
            obtain ⟨y, ys, hy, hys, rfl⟩ := denL_cons.1 hv
            rw [denL_nil] at hys; subst hys
            have hyb := unb1_den hb hy
            exact putC_sat (n := 1) (xs := [y]) hc rfl (fun j hj => by rw [show j = 0 from by omega, hyb]; rfl) hf
    subst hn
    refine R.Sat.boolC (fun hb => ?_) (fun _ => trivial)
    have hle : n + v.length ≤ l.length := by
      have := Nat.le_of_ble_eq_true hb
      rw [lenN_eq, lenN_eq] at this; exact this
    have hlen := denL_length hc
    refine hf _ ?_ (by simp only [SN.den]; omega)
    rw [overN_eq _ _ _ hle]
    simp only [CellsRel, overC, SN.den, hvl]
    exact denL_append (denL_append (denL_take hc n) hv) (denL_drop hc _)
  | fn g n =>
    obtain ⟨hlen, hg⟩ := hc
    have key : ∀ g' : Nat → SV, (∀ j, g' j = if i.den ≤ j ∧ j < i.den + v.length then (v[j - i.den]?).getD (g j) else g j) → i.den + v.length ≤ n → (f (.fn g' n)).Sat φ := by
      intro g' hg' hle
      refine hf _ ⟨?_, fun j x hx => ?_⟩ (by omega)
      · rw [overC_length (by omega)]; exact hlen
      · rw [hg' j]
        simp only [overC, List.append_assoc, List.getElem?_append, List.length_take, List.getElem?_take, List.getElem?_drop] at hx
        have hmin : min i.den vs.length = i.den := by omega
        rw [hmin] at hx
        by_cases h1 : j < i.den
        · rw [if_pos h1, if_pos h1] at hx
          rw [if_neg (by omega)]
          exact hg j x hx
        · rw [if_neg h1] at hx
          by_cases h2 : j < i.den + v.length
          · rw [if_pos (by omega)] at hx
            rw [if_pos ⟨by omega, h2⟩]
            have hjv : j - i.den < v.length := by omega
            obtain ⟨y, hy, hd⟩ := denL_get hv (List.getElem?_eq_getElem hjv)
            rw [hx] at hy; cases hy
            rw [List.getElem?_eq_getElem hjv]; exact hd
          · rw [if_neg (by omega)] at hx
            rw [if_neg (by omega)]
            refine hg j x ?_
            rw [← hx]; congr 1; omega
    show (wrFn g n i v f).Sat φ
    unfold wrFn
    split
    · rename_i x
      intro hlt
      refine key _ (fun j => ?_) (by simp; omega)
      by_cases h : j = i.den
      · subst h; simp
      · rw [if_neg h, if_neg (by simp; omega)]
    · intro hle
      rw [lenN_eq] at hle
      refine key _ (fun j => ?_) hle
      by_cases h : i.den ≤ j
      · rw [if_pos h, nth_eq]
        by_cases h2 : j < i.den + v.length
        · rw [if_pos ⟨h, h2⟩]
        · rw [if_neg (by omega), List.getElem?_eq_none (by omega)]; rfl
      · rw [if_neg h, if_neg (by omega)]

end Go.Sim
