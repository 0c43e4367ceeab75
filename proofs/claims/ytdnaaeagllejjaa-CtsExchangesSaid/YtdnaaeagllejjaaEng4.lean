/-
  The symbolic simulator, fourth part: what symbolic values, entries and heaps stand for; the laws of its lists and numbers.
-/
import Derived.Test.YtdnaaeagllejjaaEng3
namespace Go.Sim
variable {α : Type}

/- Lists. -/
theorem nth_eq (l : List α) (n : Nat) : nth l n = l[n]? := by
  induction l generalizing n with
  | nil => rfl
  | cons a t ih => cases n with
    | zero => rfl
    | succ n => exact ih n
theorem setN_eq (l : List α) (n : Nat) (v : α) : setN l n v = l.set n v := by
  induction l generalizing n with
  | nil => rfl
  | cons a t ih => cases n with
    | zero => rfl
    | succ n => exact congrArg (a :: ·) (ih n)
theorem app_eq (l r : List α) : app l r = l ++ r := by
  induction l with
  | nil => rfl
  | cons a t ih => exact congrArg (a :: ·) ih
theorem takeN_eq (l : List α) (n : Nat) : takeN l n = l.take n := by
  induction l generalizing n with
  | nil => simp [takeN]
  | cons a t ih => cases n with
    | zero => rfl
    | succ n => exact congrArg (a :: ·) (ih n)
theorem dropN_eq (l : List α) (n : Nat) : dropN l n = l.drop n := by
  induction l generalizing n with
  | nil => simp [dropN]
  | cons a t ih => cases n with
    | zero => rfl
    | succ n => exact ih n
theorem mapN_eq {β : Type} (f : α → β) (l : List α) : mapN f l = l.map f := by
  induction l with
  | nil => rfl
  | cons a t ih => exact congrArg (f a :: ·) ih
theorem lenN_eq (l : List α) : lenN l = l.length := by
  induction l with
  | nil => rfl
  | cons a t ih => exact congrArg Nat.succ ih
theorem repN_eq (a : α) (n : Nat) : repN a n = List.replicate n a := by
  induction n with
  | zero => rfl
  | succ n ih => exact congrArg (a :: ·) ih
theorem fromN_eq (n k : Nat) : fromN n k = List.range' k n := by
  induction n generalizing k with
  | zero => rfl
  | succ n ih => exact congrArg (k :: ·) (ih (k + 1))
theorem overN_zero (l v : List α) : overN l 0 v = v.take l.length ++ l.drop v.length := by
  induction l generalizing v with
  | nil => simp [overN]
  | cons a t ih => cases v with
    | nil => rfl
    | cons x v => exact congrArg (x :: ·) (ih v)
theorem overN_eq (l : List α) (i : Nat) (v : List α) (h : i + v.length ≤ l.length) : overN l i v = l.take i ++ v ++ l.drop (i + v.length) := by
  induction l generalizing i with
  | nil => simp at h; obtain ⟨rfl, rfl⟩ := h; simp [overN]
  | cons a t ih => cases i with
    | zero => rw [overN_zero, List.take_of_length_le (by simpa using h)]; simp
    | succ i =>
      have := ih i (by simp at h; omega)
      show a :: overN t i v = _
      rw [this, show i + 1 + v.length = i + v.length + 1 from by omega]; rfl
theorem overN_length (l : List α) (i : Nat) (v : List α) : (overN l i v).length = l.length := by
  induction l generalizing i v with
  | nil => rfl
  | cons a t ih => cases i with
    | zero => cases v with
      | nil => rfl
      | cons x v => exact congrArg (· + 1) (ih 0 v)
    | succ i => exact congrArg (· + 1) (ih i v)
theorem allN_spec (f : α → Bool) (l : List α) (h : allN f l = true) : ∀ x ∈ l, f x = true := by
  induction l with
  | nil => simp
  | cons a t ih =>
    have h' : boolC (f a) (allN f t) false = true := h
    cases hf : f a with
    | true => rw [hf] at h'; intro x hx; cases hx with
      | head => exact hf
      | tail _ hx => exact ih h' x hx
    | false => rw [hf] at h'; cases h'

/- Values under a greater valuation. -/
def Val.le (β β' : Val) : Prop := ∀ n l, β n = some l → β' n = some l
theorem Val.le_refl (β : Val) : β.le β := fun _ _ h => h
theorem Val.le_trans {a b c : Val} (h : a.le b) (k : b.le c) : a.le c := fun n l e => k n l (h n l e)
theorem SA.den_mono {β β' : Val} (hl : β.le β') {a : SA} {x : Addr} (h : a.den β = some x) : a.den β' = some x := by
  unfold SA.den at *
  cases hb : β a.nm with
  | none => simp [hb] at h
  | some l => rw [hb] at h; rw [hl _ _ hb]; exact h
theorem SC.den_mono {β β' : Val} (hl : β.le β') {a : SC} {x : Nat} (h : a.den β = some x) : a.den β' = some x := by
  cases a with
  | lit n => exact h
  | sym n => exact h
  | rest nm k =>
    simp only [SC.den] at *
    cases hb : β nm with
    | none => simp [hb] at h
    | some l => rw [hb] at h; rw [hl _ _ hb]; exact h
theorem SFn.den_mono {β β' : Val} (hl : β.le β') {a : SFn} {x : Fn} (h : a.den β = some x) : a.den β' = some x := by
  cases a with
  | fn n => exact h
  | yield nm =>
    simp only [SFn.den] at *
    cases hb : β nm with
    | none => simp [hb] at h
    | some l => rw [hb] at h; rw [hl _ _ hb]; exact h
theorem sliceV_eq {x : Addr} {l c : Nat} {v : Value} : sliceV x l c = some v ↔ l ≤ c ∧ .slice (some x) l c = v := by
  unfold sliceV
  split
  · rename_i h; simp [h]
  · rename_i h; simp [h]
theorem den_slice {β : Val} {a : SA} {l : SN} {c : SC} {v : Value} : (SV.slice a l c).den β = some v ↔ ∃ A C, a.den β = some A ∧ c.den β = some C ∧ l.den ≤ C ∧ .slice (some A) l.den C = v := by
  simp only [SV.den, Option.bind_eq_some_iff, sliceV_eq]
  constructor
  · rintro ⟨A, hA, C, hC, hle, rfl⟩; exact ⟨A, C, hA, hC, hle, rfl⟩
  · rintro ⟨A, C, hA, hC, hle, rfl⟩; exact ⟨A, hA, C, hC, hle, rfl⟩
theorem tailV_eq {x : Addr} {n l c : Nat} {v : Value} : tailV x n l c = some v ↔ l ≤ c ∧ .slice (some (if c = 0 then x else x.add n)) l c = v := by
  unfold tailV
  split
  · rename_i h; simp [h]
  · rename_i h; simp [h]
theorem den_tail {β : Val} {a : SA} {n l : SN} {c : SC} {v : Value} : (SV.tail a n l c).den β = some v ↔ ∃ A C, a.den β = some A ∧ c.den β = some C ∧ l.den ≤ C ∧ .slice (some (if C = 0 then A else A.add n.den)) l.den C = v := by
  simp only [SV.den, Option.bind_eq_some_iff, tailV_eq]
  constructor
  · rintro ⟨A, hA, C, hC, hle, rfl⟩; exact ⟨A, C, hA, hC, hle, rfl⟩
  · rintro ⟨A, C, hA, hC, hle, rfl⟩; exact ⟨A, hA, C, hC, hle, rfl⟩
mutual
theorem SV.den_mono {β β' : Val} (hl : β.le β') : (v : SV) → {x : Value} → v.den β = some x → v.den β' = some x
  | .int _ _, _, h => h
  | .bool _, _, h => h
  | .str _, _, h => h
  | .ptr a, x, h => by
    simp only [SV.den, Option.map_eq_some_iff] at *
    obtain ⟨y, hy, rfl⟩ := h
    exact ⟨y, SA.den_mono hl hy, rfl⟩
  | .nilPtr, _, h => h
  | .slice a n c, x, h => by
    rw [den_slice] at *
    obtain ⟨y, z, hy, hz, hle, rfl⟩ := h
    exact ⟨y, z, SA.den_mono hl hy, SC.den_mono hl hz, hle, rfl⟩
  | .nilSlice, _, h => h
  | .map nm, x, h => by
    simp only [SV.den, Option.map_eq_some_iff] at *
    obtain ⟨y, hy, rfl⟩ := h
    exact ⟨y, hl _ _ hy, rfl⟩
  | .nilMap, _, h => h
  | .func f xs ys, x, h => by
    simp only [SV.den, Option.bind_eq_some_iff, Option.map_eq_some_iff] at *
    obtain ⟨g, hg, as, has, bs, hbs, rfl⟩ := h
    exact ⟨g, SFn.den_mono hl hg, as, SV.denL_mono hl xs has, bs, SV.denL_mono hl ys hbs, rfl⟩
  | .nilFunc, _, h => h
  | .iface t v, x, h => by
    simp only [SV.den, Option.map_eq_some_iff] at *
    obtain ⟨y, hy, rfl⟩ := h
    exact ⟨y, SV.den_mono hl v hy, rfl⟩
  | .nilIface, _, h => h
  | .agg l, x, h => by
    simp only [SV.den, Option.map_eq_some_iff] at *
    obtain ⟨y, hy, rfl⟩ := h
    exact ⟨y, SV.denL_mono hl l hy, rfl⟩
  | .tuple l, x, h => by
    simp only [SV.den, Option.map_eq_some_iff] at *
    obtain ⟨y, hy, rfl⟩ := h
    exact ⟨y, SV.denL_mono hl l hy, rfl⟩
  | .val _, _, h => h
  | .tail a n l c, x, h => by
    rw [den_tail] at *
    obtain ⟨y, z, hy, hz, hle, rfl⟩ := h
    exact ⟨y, z, SA.den_mono hl hy, SC.den_mono hl hz, hle, rfl⟩
theorem SV.denL_mono {β β' : Val} (hl : β.le β') : (l : List SV) → {x : List Value} → SV.denL β l = some x → SV.denL β' l = some x
  | [], _, h => h
  | v :: l, x, h => by
    simp only [SV.denL, Option.bind_eq_some_iff, Option.map_eq_some_iff] at *
    obtain ⟨y, hy, z, hz, rfl⟩ := h
    exact ⟨y, SV.den_mono hl v hy, z, SV.denL_mono hl l hz, rfl⟩
end

/- Lists of values: elementwise. -/
theorem denL_nil {β : Val} {xs : List Value} : SV.denL β [] = some xs ↔ xs = [] := by simp [SV.denL, eq_comm]
theorem denL_cons {β : Val} {v : SV} {l : List SV} {xs : List Value} : SV.denL β (v :: l) = some xs ↔ ∃ y ys, v.den β = some y ∧ SV.denL β l = some ys ∧ xs = y :: ys := by
  simp only [SV.denL, Option.bind_eq_some_iff, Option.map_eq_some_iff]
  constructor
  · rintro ⟨y, hy, ys, hys, rfl⟩; exact ⟨y, ys, hy, hys, rfl⟩
  · rintro ⟨y, ys, hy, hys, rfl⟩; exact ⟨y, hy, ys, hys, rfl⟩
theorem denL_length {β : Val} {l : List SV} {xs : List Value} (h : SV.denL β l = some xs) : xs.length = l.length := by
  induction l generalizing xs with
  | nil => rw [denL_nil] at h; subst h; rfl
  | cons v l ih => obtain ⟨y, ys, _, hl, rfl⟩ := denL_cons.1 h; simp [ih hl]
theorem denL_get {β : Val} {l : List SV} {xs : List Value} (h : SV.denL β l = some xs) {n : Nat} {v : SV} (hv : l[n]? = some v) : ∃ x, xs[n]? = some x ∧ v.den β = some x := by
  induction l generalizing xs n with
  | nil => simp at hv
  | cons a l ih =>
    obtain ⟨y, ys, hy, hl, rfl⟩ := denL_cons.1 h
    cases n with
    | zero => simp at hv; subst hv; exact ⟨y, rfl, hy⟩
    | succ n => simp at hv; obtain ⟨x, hx, hd⟩ := ih hl hv; exact ⟨x, by simpa using hx, hd⟩
theorem denL_set {β : Val} {l : List SV} {xs : List Value} (h : SV.denL β l = some xs) {n : Nat} {v : SV} {x : Value} (hv : v.den β = some x) : SV.denL β (l.set n v) = some (xs.set n x) := by
  induction l generalizing xs n with
  | nil => rw [denL_nil] at h; subst h; rfl
  | cons a l ih =>
    obtain ⟨y, ys, hy, hl, rfl⟩ := denL_cons.1 h
    cases n with
    | zero => exact denL_cons.2 ⟨x, ys, hv, hl, rfl⟩
    | succ n => exact denL_cons.2 ⟨y, ys.set n x, hy, ih hl, rfl⟩
theorem denL_append {β : Val} {l r : List SV} {xs ys : List Value} (h : SV.denL β l = some xs) (k : SV.denL β r = some ys) : SV.denL β (l ++ r) = some (xs ++ ys) := by
  induction l generalizing xs with
  | nil => rw [denL_nil] at h; subst h; exact k
  | cons a l ih =>
    obtain ⟨y, zs, hy, hl, rfl⟩ := denL_cons.1 h
    exact denL_cons.2 ⟨y, zs ++ ys, hy, ih hl, rfl⟩
theorem denL_take {β : Val} {l : List SV} {xs : List Value} (h : SV.denL β l = some xs) (n : Nat) : SV.denL β (l.take n) = some (xs.take n) := by
  induction l generalizing xs n with
  | nil => rw [denL_nil] at h; subst h; simp [SV.denL]
  | cons a l ih =>
    obtain ⟨y, zs, hy, hl, rfl⟩ := denL_cons.1 h
    cases n with
    | zero => simp [SV.denL]
    | succ n => exact denL_cons.2 ⟨y, _, hy, ih hl n, rfl⟩
theorem denL_drop {β : Val} {l : List SV} {xs : List Value} (h : SV.denL β l = some xs) (n : Nat) : SV.denL β (l.drop n) = some (xs.drop n) := by
  induction l generalizing xs n with
  | nil => rw [denL_nil] at h; subst h; simp [SV.denL]
  | cons a l ih =>
    obtain ⟨y, zs, hy, hl, rfl⟩ := denL_cons.1 h
    cases n with
    | zero => exact h
    | succ n => exact ih hl n
theorem denL_split {β : Val} {l r : List SV} {zs : List Value} (h : SV.denL β (l ++ r) = some zs) : ∃ xs ys, SV.denL β l = some xs ∧ SV.denL β r = some ys ∧ zs = xs ++ ys := by
  refine ⟨zs.take l.length, zs.drop l.length, ?_, ?_, (List.take_append_drop _ _).symm⟩
  · have := denL_take h l.length; rwa [List.take_left] at this
  · have := denL_drop h l.length; rwa [List.drop_left] at this
theorem denL_mk {β : Val} {l : List SV} {xs : List Value} (hn : xs.length = l.length) (h : ∀ (i : Nat) (v : SV), l[i]? = some v → ∃ x, xs[i]? = some x ∧ v.den β = some x) : SV.denL β l = some xs := by
  induction l generalizing xs with
  | nil => simp at hn; subst hn; rfl
  | cons a l ih =>
    cases xs with
    | nil => simp at hn
    | cons y ys =>
      obtain ⟨x, hx, hd⟩ := h 0 a rfl
      simp at hx; subst hx
      exact denL_cons.2 ⟨y, ys, hd, ih (by simpa using hn) (fun i v hv => h (i + 1) v hv), rfl⟩
theorem denL_replicate {β : Val} {v : SV} {x : Value} (h : v.den β = some x) (n : Nat) : SV.denL β (List.replicate n v) = some (List.replicate n x) := by
  induction n with
  | zero => rfl
  | succ n ih => exact denL_cons.2 ⟨x, _, h, ih, rfl⟩

/- Entries. -/
def CellsRel (β : Val) : Cells → List Value → Prop
  | .lst l, vs => SV.denL β l = some vs
  | .fn f n, vs => vs.length = n ∧ ∀ i x, vs[i]? = some x → (f i).den β = some x
theorem CellsRel.mono {β β' : Val} (hl : β.le β') {c : Cells} {vs : List Value} (h : CellsRel β c vs) : CellsRel β' c vs := by
  cases c with
  | lst l => exact SV.denL_mono hl l h
  | fn f n => exact ⟨h.1, fun i x hx => SV.den_mono hl _ (h.2 i x hx)⟩
def SD.den (β : Val) : SD → Option Deferred
  | .coll nm => (β nm).map fun l => { target := .collected l.blk, args := #[] }
  | .call f xs ys => (f.den β).bind fun f => (SV.denL β xs).bind fun xs => (SV.denL β ys).map fun ys => { target := .fn f ys.toArray, args := xs.toArray }
def SD.denL (β : Val) : List SD → Option (List Deferred)
  | [] => some []
  | d :: r => (d.den β).bind fun d => (SD.denL β r).map fun r => d :: r
theorem SD.den_mono {β β' : Val} (hl : β.le β') {d : SD} {x : Deferred} (h : d.den β = some x) : d.den β' = some x := by
  cases d with
  | coll nm =>
    simp only [SD.den, Option.map_eq_some_iff] at *
    obtain ⟨y, hy, rfl⟩ := h
    exact ⟨y, hl _ _ hy, rfl⟩
  | call f xs ys =>
    simp only [SD.den, Option.bind_eq_some_iff, Option.map_eq_some_iff] at *
    obtain ⟨g, hg, as, has, bs, hbs, rfl⟩ := h
    exact ⟨g, SFn.den_mono hl hg, as, SV.denL_mono hl xs has, bs, SV.denL_mono hl ys hbs, rfl⟩
theorem SD.denL_mono {β β' : Val} (hl : β.le β') {l : List SD} {x : List Deferred} (h : SD.denL β l = some x) : SD.denL β' l = some x := by
  induction l generalizing x with
  | nil => exact h
  | cons d l ih =>
    simp only [SD.denL, Option.bind_eq_some_iff, Option.map_eq_some_iff] at *
    obtain ⟨y, hy, z, hz, rfl⟩ := h
    exact ⟨y, SD.den_mono hl hy, z, ih hz, rfl⟩
def SD.denO (β : Val) : Option (List SD) → Option (Option (List Deferred))
  | none => some none
  | some l => (SD.denL β l).map some
/-- no cell of a block is frozen -/
def Unfz (lo hi n : Nat) : Prop := lo = hi ∨ n ≤ lo
theorem Unfz.at {lo hi n : Nat} (h : Unfz lo hi n) : ∀ i, i < n → ¬ (lo ≤ i ∧ i < hi) := by
  intro i hi'
  rcases h with h | h <;> omega
@[simp] theorem unfz_zero (n : Nat) : Unfz 0 0 n := .inl rfl
/-- a block of the run's own -/
def OwnRel (P : Program) (β : Val) (w : World) (n : Nat) : SO → Prop
  | .own c whole elem => ∃ l vs rest lo hi, β n = some l ∧ l.off = 0 ∧ CellsRel β c vs ∧ w.heap[l.blk]? = some (.cells (vs ++ rest).toArray elem (lo, hi)) ∧
      Unfz lo hi (vs ++ rest).length ∧ (whole = true → rest = []) ∧ (∀ i, P.info? elem = some i → l.cap * i.size ≤ (vs ++ rest).length)
  | .row _ => False
  | .loop s p f T ps a b d => ∃ l ld Ts, β n = some l ∧ β d = some ld ∧ SV.denL β T = some Ts ∧
      w.heap[l.blk]? = some (.loop { state := s, pending := p, fn := f, tmps := Ts.toArray, params := ps, assign := a, body := b, defers := ld.blk })
  | .deferred ds => ∃ l ds', β n = some l ∧ SD.denO β ds = some ds' ∧ w.heap[l.blk]? = some (.deferred ds')
  | .gone => True
def SO.owned : SO → Bool
  | .row _ => false
  | .gone => false
  | _ => true
def RowRel (O : Nat → Prop) (w0 : World) (β : Val) (n : Nat) (c : Cells) : Prop :=
  ∃ l vs, β n = some l ∧ CellsRel β c vs ∧ ∀ i x, vs[i]? = some x → l.blk < w0.heap.size ∧ ¬ O l.blk ∧ w0.cell? ⟨l.blk, l.off + i, none⟩ = some x
def EntryRel (P : Program) (O : Nat → Prop) (w0 : World) (β : Val) (w : World) (n : Nat) (e : SO) : Prop :=
  match e with
  | .row c => RowRel O w0 β n c
  | e => OwnRel P β w n e
theorem EntryRel.toOwn {P : Program} {O : Nat → Prop} {w0 : World} {β : Val} {w : World} {n : Nat} {e : SO} (h : EntryRel P O w0 β w n e) (ho : e.owned = true) : OwnRel P β w n e := by
  cases e with
  | row c => cases ho
  | own => exact h
  | loop => exact h
  | deferred => exact h
  | gone => exact h
structure Keep (O : Nat → Prop) (w w' : World) : Prop where
  os : w'.os = w.os
  tape : w'.tape = w.tape
  output : w'.output = w.output
  size : w.heap.size ≤ w'.heap.size
  block : ∀ k, k < w.heap.size → ¬ O k → w'.heap[k]? = w.heap[k]?
structure HeapRel0 (P : Program) (O : Nat → Prop) (w0 : World) (β : Val) (H : List SO) (w : World) : Prop where
  entries : ∀ n e, H[n]? = some e → EntryRel P O w0 β w n e
  sep : ∀ n m e e' l l', H[n]? = some e → H[m]? = some e' → e.owned = true → e'.owned = true → n ≠ m → β n = some l → β m = some l' → l.blk ≠ l'.blk
  fresh : ∀ n e l, H[n]? = some e → e.owned = true → β n = some l → w0.heap.size ≤ l.blk ∨ O l.blk
  keep : Keep O w0 w
/-- the same, and no name beyond the heap stands for anything -/
structure HeapRel (P : Program) (O : Nat → Prop) (w0 : World) (β : Val) (H : List SO) (w : World) : Prop extends HeapRel0 P O w0 β H w where
  bound : ∀ n, H.length ≤ n → β n = none

theorem OwnRel.lt {P : Program} {β : Val} {w : World} {n : Nat} {e : SO} {l : Loc} (h : OwnRel P β w n e) (ho : e.owned = true) (hl : β n = some l) : l.blk < w.heap.size := by
  cases e with
  | own c wh el =>
    obtain ⟨l', vs, rest, lo, hi, hb, _, _, hh, _⟩ := h
    rw [hl] at hb; cases hb
    exact (Array.getElem?_eq_some_iff.1 hh).1
  | row c => cases ho
  | loop =>
    obtain ⟨l', ld, Ts, hb, _, _, hh⟩ := h
    rw [hl] at hb; cases hb
    exact (Array.getElem?_eq_some_iff.1 hh).1
  | deferred ds =>
    obtain ⟨l', ds', hb, _, hh⟩ := h
    rw [hl] at hb; cases hb
    exact (Array.getElem?_eq_some_iff.1 hh).1
  | gone => cases ho
theorem OwnRel.kept {P : Program} {β β' : Val} {w w' : World} {n : Nat} {e : SO} (h : OwnRel P β w n e) (hle : β.le β')
    (hb : e.owned = true → ∀ l, β n = some l → w'.heap[l.blk]? = w.heap[l.blk]?) : OwnRel P β' w' n e := by
  cases e with
  | own c wh el =>
    obtain ⟨l, vs, rest, lo, hi, hl, h0, hc, hh, hfz, hw, hcap⟩ := h
    exact ⟨l, vs, rest, lo, hi, hle _ _ hl, h0, hc.mono hle, (hb rfl l hl).trans hh, hfz, hw, hcap⟩
  | row c => exact h
  | loop =>
    obtain ⟨l, ld, Ts, hl, hd, hT, hh⟩ := h
    exact ⟨l, ld, Ts, hle _ _ hl, hle _ _ hd, SV.denL_mono hle _ hT, (hb rfl l hl).trans hh⟩
  | deferred ds =>
    obtain ⟨l, ds', hl, hd, hh⟩ := h
    refine ⟨l, ds', hle _ _ hl, ?_, (hb rfl l hl).trans hh⟩
    cases ds with
    | none => exact hd
    | some x =>
      simp only [SD.denO, Option.map_eq_some_iff] at *
      obtain ⟨y, hy, rfl⟩ := hd
      exact ⟨y, SD.denL_mono hle hy, rfl⟩
  | gone => trivial

/-- WHAT AN OPERATION OR A CALL DOES, in words that name no heap of entries -/
structure Eff (P : Program) (β : Val) (w : World) (base : Nat) (sets : List (Nat × SO)) (news : List SO) (β' : Val) (w' : World) : Prop where
  le : β.le β'
  os : w'.os = w.os
  tape : w'.tape = w.tape
  output : w'.output = w.output
  size : w.heap.size ≤ w'.heap.size
  dom : ∀ n, (n < base ∨ base + news.length ≤ n) → β' n = β n
  frame : ∀ b, b < w.heap.size → (∀ n e l, (n, e) ∈ sets → β n = some l → l.blk ≠ b) → w'.heap[b]? = w.heap[b]?
  one : ∀ n e e', (n, e) ∈ sets → (n, e') ∈ sets → e = e'
  turned : ∀ n e, (n, e) ∈ sets → OwnRel P β' w' n e
  made : ∀ i e, news[i]? = some e → e.owned = true ∧ OwnRel P β' w' (base + i) e ∧
    ∃ l, β' (base + i) = some l ∧ (w.heap.size ≤ l.blk ∨ ∃ n l', (n, SO.gone) ∈ sets ∧ β n = some l' ∧ l'.blk = l.blk)
  apart : ∀ i j l l', i ≠ j → i < news.length → j < news.length → β' (base + i) = some l → β' (base + j) = some l' → l.blk ≠ l'.blk

theorem setsH_cons (H : List SO) (a : Nat × SO) (r : List (Nat × SO)) : setsH H (a :: r) = setsH (H.set a.1 a.2) r := by
  show setsH (setN H a.1 a.2) r = _
  rw [setN_eq]
theorem setsH_length (sets : List (Nat × SO)) : ∀ H : List SO, (setsH H sets).length = H.length := by
  induction sets with
  | nil => intro H; rfl
  | cons a r ih => intro H; rw [setsH_cons, ih]; simp
theorem setsH_other (sets : List (Nat × SO)) : ∀ (H : List SO) (n : Nat), (∀ e, (n, e) ∉ sets) → (setsH H sets)[n]? = H[n]? := by
  induction sets with
  | nil => intro H n _; rfl
  | cons a r ih =>
    intro H n h
    rw [setsH_cons, ih _ _ (fun e he => h e (List.mem_cons_of_mem _ he)), List.getElem?_set_ne]
    intro e; exact h a.2 (by rw [← e]; exact List.mem_cons_self)
theorem setsH_in (sets : List (Nat × SO)) : ∀ (H : List SO) (n : Nat) (e : SO), (setsH H sets)[n]? = some e → H[n]? = some e ∧ (∀ e, (n, e) ∉ sets) ∨ (n, e) ∈ sets := by
  induction sets with
  | nil => intro H n e h; exact .inl ⟨h, by simp⟩
  | cons a r ih =>
    intro H n e h
    rw [setsH_cons] at h
    rcases ih _ n e h with ⟨h', hn⟩ | h'
    · by_cases ha : a.1 = n
      · subst ha
        right
        have : e = a.2 := by
          rw [List.getElem?_set] at h'
          simp at h'; exact h'.2.symm
        rw [this]; exact List.mem_cons_self
      · left
        rw [List.getElem?_set_ne ha] at h'
        refine ⟨h', fun e' he' => ?_⟩
        cases he' with
        | head => exact ha rfl
        | tail _ hm => exact hn e' hm
    · exact .inr (List.mem_cons_of_mem _ h')
theorem applyH_eq (H : List SO) (sets : List (Nat × SO)) (news : List SO) : applyH H sets news = setsH H sets ++ news := by
  cases news with
  | nil => simp; rfl
  | cons x r => exact app_eq _ _

theorem setsH_same {H : List SO} {n : Nat} {e : SO} (h : H[n]? = some e) : setsH H [(n, e)] = H := by
  rw [setsH_cons]
  show H.set n e = H
  obtain ⟨hn, rfl⟩ := List.getElem?_eq_some_iff.1 h
  exact List.set_getElem_self hn
/-- what lays nothing new lays it from any name on -/
theorem Eff.rebase {P : Program} {β β' : Val} {w w' : World} {base b : Nat} {sets : List (Nat × SO)} (hE : Eff P β w base sets [] β' w') : Eff P β w b sets [] β' w' :=
  ⟨hE.le, hE.os, hE.tape, hE.output, hE.size, fun n _ => hE.dom n (by simp; omega), hE.frame, hE.one, hE.turned, (by intro i e h; simp at h), (by intro i j l l' _ h; simp at h)⟩
/-- the heap behind an effect -/
theorem HeapRel.apply {P : Program} {O : Nat → Prop} {w0 : World} {β : Val} {H : List SO} {w : World} (h : HeapRel P O w0 β H w)
    {sets : List (Nat × SO)} {news : List SO} {β' : Val} {w' : World} (hE : Eff P β w H.length sets news β' w')
    (hs : ∀ n e, (n, e) ∈ sets → ∃ e0, H[n]? = some e0 ∧ e0.owned = true) : HeapRel P O w0 β' (applyH H sets news) w' := by
  rw [applyH_eq]
  have hlen : (setsH H sets).length = H.length := setsH_length _ _
  have hold : ∀ n, n < H.length → β' n = β n := fun n hn => hE.dom n (.inl hn)
  -- the place of an old owned name
  have hlt : ∀ n e l, H[n]? = some e → e.owned = true → β n = some l → l.blk < w.heap.size := by
    intro n e l he ho hl
    exact ((h.entries n e he).toOwn ho).lt ho hl
  -- an entry of the result: old and untouched, turned, or new
  have hcase : ∀ n e, (setsH H sets ++ news)[n]? = some e → (n < H.length ∧ H[n]? = some e ∧ ∀ e, (n, e) ∉ sets) ∨ (n < H.length ∧ (n, e) ∈ sets) ∨ (∃ i, n = H.length + i ∧ news[i]? = some e) := by
    intro n e he
    rcases Nat.lt_or_ge n H.length with hn | hn
    · rw [List.getElem?_append_left (by omega)] at he
      rcases setsH_in _ _ _ _ he with ⟨a, b⟩ | a
      · exact .inl ⟨hn, a, b⟩
      · exact .inr (.inl ⟨hn, a⟩)
    · rw [List.getElem?_append_right (by omega), hlen] at he
      exact .inr (.inr ⟨n - H.length, by omega, he⟩)
  -- the old place of any old owned name of the result
  have hplace : ∀ n e l, n < H.length → ((H[n]? = some e ∧ ∀ e, (n, e) ∉ sets) ∨ (n, e) ∈ sets) → e.owned = true → β' n = some l → ∃ e0, H[n]? = some e0 ∧ e0.owned = true ∧ β n = some l := by
    intro n e l hn hc ho hl
    rw [hold n hn] at hl
    rcases hc with ⟨a, _⟩ | a
    · exact ⟨e, a, ho, hl⟩
    · obtain ⟨e0, h0, h1⟩ := hs n e a; exact ⟨e0, h0, h1, hl⟩
  refine ⟨⟨?_, ?_, ?_, ?_⟩, ?_⟩
  · intro n e he
    rcases hcase n e he with ⟨hn, ho, hns⟩ | ⟨hn, hin⟩ | ⟨i, rfl, hi⟩
    · have h0 := h.entries n e ho
      cases e with
      | row c =>
        obtain ⟨l, vs, hl, hc, hx⟩ := h0
        exact ⟨l, vs, hE.le _ _ hl, hc.mono hE.le, hx⟩
      | own c wh el =>
        refine OwnRel.kept (P := P) (e := .own c wh el) h0 hE.le fun hw l hl => hE.frame _ (hlt n _ l ho hw hl) fun m e' l' hm hl' => ?_
        obtain ⟨e0, h1, h2⟩ := hs m e' hm
        exact h.sep m n e0 _ l' l h1 ho h2 hw (fun hmn => hns e' (hmn ▸ hm)) hl' hl
      | loop s p f T ps a b d =>
        refine OwnRel.kept (P := P) (e := .loop s p f T ps a b d) h0 hE.le fun hw l hl => hE.frame _ (hlt n _ l ho hw hl) fun m e' l' hm hl' => ?_
        obtain ⟨e0, h1, h2⟩ := hs m e' hm
        exact h.sep m n e0 _ l' l h1 ho h2 hw (fun hmn => hns e' (hmn ▸ hm)) hl' hl
      | deferred ds =>
        refine OwnRel.kept (P := P) (e := .deferred ds) h0 hE.le fun hw l hl => hE.frame _ (hlt n _ l ho hw hl) fun m e' l' hm hl' => ?_
        obtain ⟨e0, h1, h2⟩ := hs m e' hm
        exact h.sep m n e0 _ l' l h1 ho h2 hw (fun hmn => hns e' (hmn ▸ hm)) hl' hl
      | gone => trivial
    · have := hE.turned n e hin
      cases e <;> first | exact this | exact this.elim
    · obtain ⟨hw, hr, _⟩ := hE.made i e hi
      cases e <;> first | exact hr | (cases hw; done)
  · have hsep : ∀ n m e e' l l', n < H.length → ((H[n]? = some e ∧ ∀ e, (n, e) ∉ sets) ∨ (n, e) ∈ sets) → e.owned = true → β' n = some l → (∃ i, m = H.length + i ∧ news[i]? = some e') → β' m = some l' → l.blk ≠ l'.blk := by
      intro n m e e' l l' hn hc ho hl ⟨i, hm, hi⟩ hl' heq
      subst hm
      obtain ⟨e0, h0, h1, h2⟩ := hplace n e l hn hc ho hl
      obtain ⟨_, _, l2, hl2, hor⟩ := hE.made i e' hi
      rw [hl'] at hl2; cases hl2
      rcases hor with hge | ⟨k, lk, hk, hlk, hbk⟩
      · have := hlt n e0 l h0 h1 h2; omega
      · obtain ⟨e1, h3, h4⟩ := hs k .gone hk
        by_cases hkn : k = n
        · subst hkn
          rcases hc with ⟨_, hno⟩ | hin
          · exact hno _ hk
          · have := hE.one _ _ _ hin hk
            subst this; cases ho
        · exact h.sep k n e1 e0 lk l h3 h0 h4 h1 hkn hlk h2 (hbk.trans heq.symm)
    intro n m e e' l l' he he' hw hw' hnm hl hl'
    have hN : ∀ n e, (setsH H sets ++ news)[n]? = some e → (n < H.length ∧ ((H[n]? = some e ∧ ∀ e, (n, e) ∉ sets) ∨ (n, e) ∈ sets)) ∨ (∃ i, n = H.length + i ∧ news[i]? = some e) := by
      intro n e he
      rcases hcase n e he with ⟨a, b, c⟩ | ⟨a, b⟩ | c
      · exact .inl ⟨a, .inl ⟨b, c⟩⟩
      · exact .inl ⟨a, .inr b⟩
      · exact .inr c
    rcases hN n e he with ⟨hn, hc⟩ | hn
    · rcases hN m e' he' with ⟨hm, hc'⟩ | hm
      · obtain ⟨e0, h0, h1, h2⟩ := hplace n e l hn hc hw hl
        obtain ⟨e1, h3, h4, h5⟩ := hplace m e' l' hm hc' hw' hl'
        exact h.sep n m e0 e1 l l' h0 h3 h1 h4 hnm h2 h5
      · exact hsep n m e e' l l' hn hc hw hl hm hl'
    · rcases hN m e' he' with ⟨hm, hc'⟩ | hm
      · exact (hsep m n e' e l' l hm hc' hw' hl' hn hl).symm
      · obtain ⟨i, rfl, hi⟩ := hn
        obtain ⟨j, rfl, hj⟩ := hm
        exact hE.apart i j l l' (by omega) (List.getElem?_eq_some_iff.1 hi).1 (List.getElem?_eq_some_iff.1 hj).1 hl hl'
  · intro n e l he hw hl
    rcases hcase n e he with ⟨hn, ho, hns⟩ | ⟨hn, hin⟩ | ⟨i, rfl, hi⟩
    · obtain ⟨e0, h0, h1, h2⟩ := hplace n e l hn (.inl ⟨ho, hns⟩) hw hl
      exact h.fresh n e0 l h0 h1 h2
    · obtain ⟨e0, h0, h1, h2⟩ := hplace n e l hn (.inr hin) hw hl
      exact h.fresh n e0 l h0 h1 h2
    · obtain ⟨_, _, l2, hl2, hor⟩ := hE.made i e hi
      rw [hl] at hl2; cases hl2
      rcases hor with hge | ⟨k, lk, hk, hlk, hbk⟩
      · left; have := h.keep.size; omega
      · obtain ⟨e1, h3, h4⟩ := hs k .gone hk
        have := h.fresh k e1 lk h3 h4 hlk
        rwa [hbk] at this
  · refine ⟨hE.os.trans h.keep.os, hE.tape.trans h.keep.tape, hE.output.trans h.keep.output, Nat.le_trans h.keep.size hE.size, fun k hk hO => ?_⟩
    rw [hE.frame k (Nat.lt_of_lt_of_le hk h.keep.size) ?_, h.keep.block k hk hO]
    intro n e l hn hl hb
    obtain ⟨e0, h0, h1⟩ := hs n e hn
    rcases h.fresh n e0 l h0 h1 hl with h2 | h2
    · omega
    · exact hO (hb ▸ h2)
  · intro n hn
    rw [List.length_append, hlen] at hn
    rw [hE.dom n (.inr hn)]
    exact h.bound n (by omega)

end Go.Sim
