/-
  The symbolic simulator, fifth part: the laws of its numbers.
-/
import Derived.Test.YtdnaaeagllejjaaEng4
import Derived.Laws.Sem
namespace Go.Sim
variable {α β : Type}

/-- whatever outcome the conditions let through -/
def R.Sat (r : R α) (φ : α → Prop) : Prop :=
  match r with
  | .ok a => φ a
  | .need p r => p → r.Sat φ
  | .fork b t f => (b = true → t.Sat φ) ∧ (b = false → f.Sat φ)
  | .stuck _ => True
  | .any k => ∃ z, (k z).Sat φ
theorem R.Sat.mono {r : R α} {φ ψ : α → Prop} (h : r.Sat φ) (hi : ∀ a, φ a → ψ a) : r.Sat ψ := by
  induction r with
  | ok a => exact hi a h
  | need p r ih => exact fun hp => ih (h hp)
  | fork b t f iht ihf => exact ⟨fun hb => iht (h.1 hb), fun hb => ihf (h.2 hb)⟩
  | stuck n => trivial
  | any k ih => obtain ⟨z, h⟩ := h; exact ⟨z, ih z h⟩
theorem R.Sat.bind {r : R α} {f : α → R β} {φ : α → Prop} {ψ : β → Prop} (h : r.Sat φ) (hf : ∀ a, φ a → (f a).Sat ψ) : (r.bind f).Sat ψ := by
  induction r with
  | ok a => exact hf a h
  | need p r ih => exact fun hp => ih (h hp)
  | fork b t f iht ihf => exact ⟨fun hb => iht (h.1 hb), fun hb => ihf (h.2 hb)⟩
  | stuck n => trivial
  | any k ih => obtain ⟨z, h⟩ := h; exact ⟨z, ih z h⟩
theorem R.Sat.opt {n : Nat} {o : Option α} {f : α → R β} {ψ : β → Prop} (h : ∀ a, o = some a → (f a).Sat ψ) : (R.opt n o f).Sat ψ := by
  cases o with
  | none => trivial
  | some a => exact h a rfl
@[simp] theorem boolC_true (t f : α) : boolC true t f = t := rfl
@[simp] theorem boolC_false (t f : α) : boolC false t f = f := rfl
@[simp] theorem optC_none (d : β) (f : α → β) : optC none d f = d := rfl
@[simp] theorem optC_some (a : α) (d : β) (f : α → β) : optC (some a) d f = f a := rfl
theorem R.Sat.boolC {b : Bool} {t f : R α} {φ : α → Prop} (ht : b = true → t.Sat φ) (hf : b = false → f.Sat φ) : (boolC b t f).Sat φ := by
  cases b with
  | true => exact ht rfl
  | false => exact hf rfl
theorem R.Sat.stuck {n : Nat} {φ : α → Prop} : (R.stuck n : R α).Sat φ := trivial

/- Integers. -/
theorem pow_bits (k : IntKind) : (2 ^ k.bits : Int) = ((2 ^ k.bits : Nat) : Int) := by simp
theorem maxN_lt (k : IntKind) (m : Nat) (h : m ≤ maxN k) : k.wrap (m : Int) = (m : Int) := by
  cases k <;> simp only [maxN, IntKind.wrap, IntKind.bits, IntKind.signed] at * <;> simp <;> omega
theorem wrapF_eq (k : IntKind) (n : Int) : wrapF k n = k.wrap n := by
  cases n with
  | negSucc m => rfl
  | ofNat m =>
    show (Bool.rec (motive := fun _ => Int) (k.wrap (.ofNat m)) (.ofNat m) (Nat.ble m (maxN k)) : Int) = _
    cases h : Nat.ble m (maxN k) with
    | false => rfl
    | true => exact (maxN_lt k m (Nat.le_of_ble_eq_true h)).symm
theorem idxK_inj {a b : IntKind} (h : eqK a b = true) : a = b := by
  have := Nat.eq_of_beq_eq_true h
  cases a <;> cases b <;> first | rfl | (exact absurd this (by decide))
theorem eqI_eq (x y : Int) : eqI x y = (x == y) := by
  cases x <;> cases y <;> simp only [eqI, intC]
  · rw [Bool.eq_iff_iff]; simp [Int.ofNat_inj]
  · rfl
  · rfl
  · rw [Bool.eq_iff_iff]; simp
theorem ltI_eq (x y : Int) : ltI x y = decide (x < y) := by
  cases x <;> cases y <;> simp only [ltI, intC]
  · rw [Bool.eq_iff_iff]; simp [Nat.blt]; omega
  · rw [Bool.eq_iff_iff]; simp; omega
  · rw [Bool.eq_iff_iff]; simp; omega
  · rw [Bool.eq_iff_iff]; simp [Nat.blt]; omega
theorem addI_eq (x y : Int) : addI x y = x + y := by
  cases x <;> cases y <;> rfl
theorem wrap_u8 (m : Int) : IntKind.u8.wrap m = ((BitVec.ofInt 8 m).toNat : Int) := by
  simp [IntKind.wrap, IntKind.bits, IntKind.signed, BitVec.toNat_ofInt]; omega
theorem wrap_u32 (m : Int) : IntKind.u32.wrap m = ((BitVec.ofInt 32 m).toNat : Int) := by
  simp [IntKind.wrap, IntKind.bits, IntKind.signed, BitVec.toNat_ofInt]; omega
theorem wrap_u64 (m : Int) : IntKind.u64.wrap m = ((BitVec.ofInt 64 m).toNat : Int) := by
  simp [IntKind.wrap, IntKind.bits, IntKind.signed, BitVec.toNat_ofInt]; omega
theorem wrap_i64 {m : Int} (h : inI64 m) : IntKind.i64.wrap m = m := by
  unfold inI64 at h
  simp [IntKind.wrap, IntKind.bits, IntKind.signed]; omega
theorem ofInt_toNat {w : Nat} (x : BitVec w) : BitVec.ofInt w (x.toNat : Int) = x := by
  apply BitVec.eq_of_toNat_eq
  rw [BitVec.toNat_ofInt]
  have := x.isLt
  rw [← Int.natCast_emod, Int.toNat_natCast, Nat.mod_eq_of_lt this]
theorem i8_spec {x : SI} {a : BitVec 8} (h : i8 x = some a) : BitVec.ofInt 8 x.den = a := by
  cases x <;> simp [i8] at h <;> subst h <;> first | rfl | exact ofInt_toNat _
theorem i32_spec {x : SI} {a : BitVec 32} (h : i32 x = some a) : BitVec.ofInt 32 x.den = a := by
  cases x <;> simp [i32] at h <;> subst h <;> first | rfl | exact ofInt_toNat _
theorem i64_spec {x : SI} {a : BitVec 64} (h : i64 x = some a) : BitVec.ofInt 64 x.den = a := by
  cases x <;> simp [i64] at h <;> subst h <;> first | rfl | exact ofInt_toNat _
/-- what the model makes of '+ - * & | ^ &^' -/
def arM (op : BinOp) (k : IntKind) (x y : Int) : Option Int :=
  match op with
  | .add => some (k.wrap (x + y))
  | .sub => some (k.wrap (x - y))
  | .mul => some (k.wrap (x * y))
  | .and | .or | .xor | .andNot => some (bitsI op k x y)
  | _ => none
theorem arithI_eq (op : BinOp) (k : IntKind) (x y : Int) : arithI op k x y = arM op k x y := by
  cases op <;> simp [arithI, arM, arAdd, arSub, arMul, arAnd, arOr, arXor, arAndNot, arNone, wrapF_eq, addI_eq] <;> rfl
theorem ofInt_sub' (w : Nat) (a b : Int) : BitVec.ofInt w (a - b) = BitVec.ofInt w a - BitVec.ofInt w b := by
  rw [Int.sub_eq_add_neg, BitVec.ofInt_add, BitVec.ofInt_neg, BitVec.sub_eq_add_neg]
theorem bvOp_u8 {op : BinOp} {x y : Int} {a b z : BitVec 8} (ha : BitVec.ofInt 8 x = a) (hb : BitVec.ofInt 8 y = b) (h : bvOp op 8 a b = some z) : arM op .u8 x y = some (z.toNat : Int) := by
  cases op <;> simp only [bvOp, bvAdd, bvSub, bvMul, bvAnd, bvOr, bvXor, bvAndNot, bvNone, Option.some.injEq, reduceCtorEq] at h <;> subst h <;> subst ha <;> subst hb <;>
    simp only [arM, bitsI, wrap_u8, IntKind.bits, ofInt_toNat, BitVec.ofInt_add, BitVec.ofInt_mul, ofInt_sub'] <;> rfl
theorem bvOp_u32 {op : BinOp} {x y : Int} {a b z : BitVec 32} (ha : BitVec.ofInt 32 x = a) (hb : BitVec.ofInt 32 y = b) (h : bvOp op 32 a b = some z) : arM op .u32 x y = some (z.toNat : Int) := by
  cases op <;> simp only [bvOp, bvAdd, bvSub, bvMul, bvAnd, bvOr, bvXor, bvAndNot, bvNone, Option.some.injEq, reduceCtorEq] at h <;> subst h <;> subst ha <;> subst hb <;>
    simp only [arM, bitsI, wrap_u32, IntKind.bits, ofInt_toNat, BitVec.ofInt_add, BitVec.ofInt_mul, ofInt_sub'] <;> rfl
theorem bvOp_u64 {op : BinOp} {x y : Int} {a b z : BitVec 64} (ha : BitVec.ofInt 64 x = a) (hb : BitVec.ofInt 64 y = b) (h : bvOp op 64 a b = some z) : arM op .u64 x y = some (z.toNat : Int) := by
  cases op <;> simp only [bvOp, bvAdd, bvSub, bvMul, bvAnd, bvOr, bvXor, bvAndNot, bvNone, Option.some.injEq, reduceCtorEq] at h <;> subst h <;> subst ha <;> subst hb <;>
    simp only [arM, bitsI, wrap_u64, IntKind.bits, ofInt_toNat, BitVec.ofInt_add, BitVec.ofInt_mul, ofInt_sub'] <;> rfl
theorem arSym_sat (op : BinOp) (k : IntKind) (x y : SI) : (arSym op k x y).Sat fun z => arM op k x.den y.den = some z.den := by
  refine R.Sat.opt fun n hn => ?_
  rw [arithI_eq] at hn; exact hn
theorem ar8_sat (op : BinOp) (x y : SI) : (ar8 op x y).Sat fun z => arM op .u8 x.den y.den = some z.den := by
  unfold ar8
  cases hx : i8 x with
  | none => exact arSym_sat op .u8 x y
  | some a =>
    show (ar8b a op x y).Sat _
    unfold ar8b
    cases hy : i8 y with
    | none => exact arSym_sat op .u8 x y
    | some b => exact R.Sat.opt fun n hn => bvOp_u8 (i8_spec hx) (i8_spec hy) hn
theorem ar32_sat (op : BinOp) (x y : SI) : (ar32 op x y).Sat fun z => arM op .u32 x.den y.den = some z.den := by
  unfold ar32
  cases hx : i32 x with
  | none => exact arSym_sat op .u32 x y
  | some a =>
    show (ar32b a op x y).Sat _
    unfold ar32b
    cases hy : i32 y with
    | none => exact arSym_sat op .u32 x y
    | some b => exact R.Sat.opt fun n hn => bvOp_u32 (i32_spec hx) (i32_spec hy) hn
theorem ar64_sat (op : BinOp) (x y : SI) : (ar64 op x y).Sat fun z => arM op .u64 x.den y.den = some z.den := by
  unfold ar64
  cases hx : i64 x with
  | none => exact arSym_sat op .u64 x y
  | some a =>
    show (ar64b a op x y).Sat _
    unfold ar64b
    cases hy : i64 y with
    | none => exact arSym_sat op .u64 x y
    | some b => exact R.Sat.opt fun n hn => bvOp_u64 (i64_spec hx) (i64_spec hy) hn
theorem arInt_sat (op : BinOp) (x y : SI) : (arInt op x y).Sat fun z => arM op .i64 x.den y.den = some z.den := by
  unfold arInt
  cases hp : plainI op x.den y.den with
  | none => exact arSym_sat op .i64 x y
  | some n =>
    intro hin
    show arM op .i64 x.den y.den = some n
    cases op <;> simp only [plainI, plAdd, plSub, plNone, Option.some.injEq, reduceCtorEq] at hp <;> subst hp <;> simp only [arM, wrap_i64 hin]
theorem arK_sat (k : IntKind) (op : BinOp) (x y : SI) : (arK k op x y).Sat fun z => arM op k x.den y.den = some z.den := by
  cases k
  · exact arSym_sat op _ x y
  · exact arSym_sat op _ x y
  · exact arSym_sat op _ x y
  · exact arInt_sat op x y
  · exact ar8_sat op x y
  · exact arSym_sat op _ x y
  · exact ar32_sat op x y
  · exact ar64_sat op x y
theorem arithS_sat (op : BinOp) (k : IntKind) (x y : SI) : (arithS op k x y).Sat fun z => arM op k x.den y.den = some z.den := by
  cases x with
  | lit a => cases y with
    | lit b =>
      refine R.Sat.opt fun n hn => ?_
      rw [arithI_eq] at hn; exact hn
    | _ => exact arK_sat k op _ _
  | _ => exact arK_sat k op _ _
/-- what the model makes of '/ %' -/
def dvM (op : BinOp) (k : IntKind) (x y : Int) : Int :=
  match op with
  | .quo => k.wrap (x.tdiv y)
  | _ => x.tmod y
theorem dvSym_sat (op : BinOp) (k : IntKind) (x y : SI) : (dvSym op k x y).Sat fun z => dvM op k x.den y.den = z.den := by
  cases op <;> rfl
theorem divS_sat (op : BinOp) (k : IntKind) (x y : SI) : (divS op k x y).Sat fun z => y.den ≠ 0 ∧ dvM op k x.den y.den = z.den := by
  have hs : ∀ y : SI, (R.need (y.den ≠ 0) (dvSym op k x y)).Sat fun z => y.den ≠ 0 ∧ dvM op k x.den y.den = z.den := fun y h0 => (dvSym_sat op k x y).mono fun _ h => ⟨h0, h⟩
  cases y with
  | lit b =>
    refine R.Sat.boolC (fun _ => trivial) (fun h0 => ?_)
    have hb : b ≠ 0 := by
      rw [eqI_eq] at h0; simpa using h0
    cases x with
    | lit a =>
      show (dvLL a b op k).Sat _
      cases op <;> first | exact ⟨hb, rfl⟩ | (exact ⟨hb, (wrapF_eq k _).symm⟩)
    | _ => exact (dvSym_sat op k _ _).mono fun _ h => ⟨hb, h⟩
  | _ => exact hs _
/-- what the model makes of '<< >>' -/
def shM (op : BinOp) (k : IntKind) (x y : Int) : Int :=
  match op with
  | .shl => k.wrap (x * 2 ^ (min y.toNat k.bits))
  | _ => x.fdiv (2 ^ (min y.toNat k.bits))
theorem bitsN_eq (k : IntKind) : bitsN k = k.bits := by cases k <;> rfl
theorem shl_bv {w : Nat} (a : BitVec w) (n : Nat) : BitVec.ofInt w ((a.toNat : Int) * 2 ^ n) = a <<< n := by
  rw [BitVec.ofInt_mul, ofInt_toNat]
  apply BitVec.eq_of_toNat_eq
  rw [BitVec.toNat_mul, BitVec.toNat_shiftLeft, BitVec.toNat_ofInt, Nat.shiftLeft_eq]
  have : ((2 ^ n : Int) % (2 ^ w : Nat)).toNat = 2 ^ n % 2 ^ w := by
    rw [show (2 ^ n : Int) = ((2 ^ n : Nat) : Int) from by simp, ← Int.natCast_emod, Int.toNat_natCast]
  rw [this, Nat.mul_mod_mod]
theorem shr_bv {w : Nat} (a : BitVec w) (n : Nat) : Int.fdiv (a.toNat : Int) (2 ^ n) = ((a >>> n).toNat : Int) := by
  rw [Int.fdiv_eq_ediv_of_nonneg _ (Int.pow_nonneg (by decide)), BitVec.toNat_ushiftRight, Nat.shiftRight_eq_div_pow]
  simp
theorem shX_sat (x : SI) (n : Nat) (k : IntKind) (op : BinOp) (hop : op = .shl ∨ op = .shr) : (shX x n k op).Sat fun z => (match op with
    | .shl => k.wrap (x.den * 2 ^ n)
    | _ => x.den.fdiv (2 ^ n)) = z.den := by
  have hp : Int.ofNat (2 ^ n) = 2 ^ n := by simp
  rcases hop with rfl | rfl
  · cases x with
    | lit a => show k.wrap (a * 2 ^ n) = wrapF k (a * Int.ofNat (2 ^ n)); rw [wrapF_eq, hp]
    | sym a => rfl
    | b8 a => cases k <;> first | trivial | (show IntKind.u8.wrap _ = _; rw [wrap_u8]; simp only [SI.den]; rw [shl_bv])
    | b32 a => cases k <;> first | trivial | (show IntKind.u32.wrap _ = _; rw [wrap_u32]; simp only [SI.den]; rw [shl_bv])
    | b64 a => cases k <;> first | trivial | (show IntKind.u64.wrap _ = _; rw [wrap_u64]; simp only [SI.den]; rw [shl_bv])
  · cases x with
    | lit a => show a.fdiv (2 ^ n) = a.fdiv (Int.ofNat (2 ^ n)); rw [hp]
    | sym a => rfl
    | b8 a => cases k <;> first | trivial | exact shr_bv a n
    | b32 a => cases k <;> first | trivial | exact shr_bv a n
    | b64 a => cases k <;> first | trivial | exact shr_bv a n
theorem shiftS_sat (op : BinOp) (k : IntKind) (x y : SI) (hop : op = .shl ∨ op = .shr) : (shiftS op k x y).Sat fun z => 0 ≤ y.den ∧ shM op k x.den y.den = z.den := by
  have hs : ∀ y : SI, (shSymY op k x y).Sat fun z => 0 ≤ y.den ∧ shM op k x.den y.den = z.den := by
    intro y h0
    rcases hop with rfl | rfl <;> exact ⟨h0, rfl⟩
  cases y with
  | lit b => cases b with
    | negSucc n => trivial
    | ofNat n =>
      have key : ∀ m, min n k.bits = m → (shX x m k op).Sat fun z => 0 ≤ (SI.lit (.ofNat n)).den ∧ shM op k x.den (SI.lit (.ofNat n)).den = z.den := by
        intro m hm
        refine (shX_sat x m k op hop).mono fun z hz => ⟨Int.natCast_nonneg n, ?_⟩
        subst hm
        rcases hop with rfl | rfl <;> exact hz
      refine R.Sat.boolC (fun h => key n ?_) (fun h => key _ ?_)
      · rw [bitsN_eq] at h
        exact Nat.min_eq_left (Nat.le_of_ble_eq_true h)
      · rw [bitsN_eq] at *
        refine Nat.min_eq_right ?_
        rcases Nat.lt_or_ge k.bits n with h' | h'
        · omega
        · rw [Nat.ble_eq_true_of_le h'] at h; cases h
  | _ => exact hs _
theorem cmpL_eq (op : BinOp) (x y : Int) : cmpL op x y = cmpI op x y := by
  cases op <;> simp only [cmpL, cmpI, cmEql, cmNeq, cmLss, cmLeq, cmGtr, cmGeq, cmNone, eqI_eq, ltI_eq]
  · rfl
  · congr 1; rw [Bool.eq_iff_iff]; simp
  · congr 1; rw [Bool.eq_iff_iff]; simp
theorem cmpS_sat (op : BinOp) (x y : SI) : (cmpS op x y).Sat fun b => cmpI op x.den y.den = some b.den := by
  have hs : ∀ x y : SI, (cmSym op x y).Sat fun b => cmpI op x.den y.den = some b.den := fun x y => R.Sat.opt fun b hb => hb
  cases x with
  | lit a => cases y with
    | lit b => exact R.Sat.opt fun c hc => by rw [cmpL_eq] at hc; exact hc
    | _ => exact hs _ _
  | _ => exact hs _ _
theorem setW {w v : Nat} (a : BitVec w) : BitVec.ofInt v (a.toNat : Int) = a.setWidth v := by
  apply BitVec.eq_of_toNat_eq
  rw [BitVec.toNat_ofInt, BitVec.toNat_setWidth, ← Int.natCast_emod, Int.toNat_natCast]
theorem convI_den (k : IntKind) (x : SI) : (convI k x).den = k.wrap x.den := by
  cases x with
  | lit n => exact wrapF_eq k n
  | sym n =>
    cases k <;> first
      | rfl
      | exact (wrap_u8 n).symm
      | exact (wrap_u32 n).symm
      | exact (wrap_u64 n).symm
  | b8 a =>
    have := a.isLt
    cases k <;> first
      | rfl
      | (show (a.toNat : Int) = IntKind.u8.wrap (a.toNat : Int); rw [wrap_u8, ofInt_toNat])
      | (show ((a.setWidth 32).toNat : Int) = IntKind.u32.wrap (a.toNat : Int); rw [wrap_u32, setW])
      | (show ((a.setWidth 64).toNat : Int) = IntKind.u64.wrap (a.toNat : Int); rw [wrap_u64, setW])
      | (show (a.toNat : Int) = IntKind.i64.wrap (a.toNat : Int); rw [wrap_i64 ⟨by omega, by omega⟩])
  | b32 a =>
    have := a.isLt
    cases k <;> first
      | rfl
      | (show ((a.setWidth 8).toNat : Int) = IntKind.u8.wrap (a.toNat : Int); rw [wrap_u8, setW])
      | (show (a.toNat : Int) = IntKind.u32.wrap (a.toNat : Int); rw [wrap_u32, ofInt_toNat])
      | (show ((a.setWidth 64).toNat : Int) = IntKind.u64.wrap (a.toNat : Int); rw [wrap_u64, setW])
      | (show (a.toNat : Int) = IntKind.i64.wrap (a.toNat : Int); rw [wrap_i64 ⟨by omega, by omega⟩])
  | b64 a =>
    cases k <;> first
      | rfl
      | (show ((a.setWidth 8).toNat : Int) = IntKind.u8.wrap (a.toNat : Int); rw [wrap_u8, setW])
      | (show ((a.setWidth 32).toNat : Int) = IntKind.u32.wrap (a.toNat : Int); rw [wrap_u32, setW])
      | (show (a.toNat : Int) = IntKind.u64.wrap (a.toNat : Int); rw [wrap_u64, ofInt_toNat])
theorem toN_den (x : SI) : x.toN.den = x.den.toNat := by
  cases x with
  | lit n => cases n <;> rfl
  | b8 x => show 0 + x.toNat = (x.toNat : Int).toNat; omega
  | _ => rfl
theorem toI_den (x : SN) : x.toI.den = (x.den : Int) := by cases x <;> rfl
theorem SN.add_den (x y : SN) : (x.add y).den = x.den + y.den := by
  cases x <;> cases y <;> first
    | rfl
    | (rename_i a o x; show a + o + x.toNat = a + (o + x.toNat); omega)
    | (rename_i o x b; show o + b + x.toNat = o + x.toNat + b; omega)
theorem SN.sub_den (x y : SN) : (x.sub y).den = x.den - y.den := by cases x <;> cases y <;> rfl
theorem SN.mul_den (x : SN) (b : Nat) : (x.mul b).den = x.den * b := by
  cases x with
  | byt o a =>
    show (Sim.boolC (Nat.beq b 1) (SN.byt o a) (.sym ((o + a.toNat) * b))).den = (o + a.toNat) * b
    cases h : Nat.beq b 1 with
    | false => rfl
    | true => rw [Nat.eq_of_beq_eq_true h, Nat.mul_one]; rfl
  | _ => rfl
theorem idxS_sat {i : SI} {n : SN} {k : SN → R α} {φ : α → Prop} (h : ∀ j : SN, 0 ≤ i.den → i.den < (n.den : Int) → j.den = i.den.toNat → (k j).Sat φ) : (idxS i n k).Sat φ := by
  have hs : ∀ i' : SI, i' = i → (idxAny i' n k).Sat φ := by
    rintro i' rfl ⟨h0, h1⟩
    exact h _ h0 h1 (toN_den _)
  cases i with
  | lit a => cases a with
    | negSucc a => trivial
    | ofNat a =>
      show (idxLit a n k).Sat φ
      cases n with
      | lit n =>
        refine R.Sat.boolC (fun hb => ?_) (fun _ => trivial)
        have hlt : a < n := Nat.le_of_ble_eq_true hb
        exact h (.lit a) (Int.natCast_nonneg a) (by simp [SI.den, SN.den]; exact hlt) rfl
      | sym n => exact fun hlt => h (.lit a) (Int.natCast_nonneg a) (by simp [SI.den, SN.den]; exact hlt) rfl
      | byt o x => exact fun hlt => h (.lit a) (Int.natCast_nonneg a) (by simp only [SI.den, SN.den]; have : a < o + x.toNat := hlt; show (a : Int) < _; omega) rfl
  | b8 x =>
    show (idxByte x n k).Sat φ
    unfold idxByte
    cases n with
    | lit m =>
      refine R.Sat.boolC (fun hb => ?_) (fun _ => hs _ rfl)
      have hb : 256 ≤ m := Nat.le_of_ble_eq_true hb
      have hx := x.isLt
      exact h (.byt 0 x) (by simp only [SI.den]; omega) (by simp only [SI.den, SN.den]; omega) (by simp only [SI.den, SN.den]; omega)
    | sym m => exact hs _ rfl
    | byt o y => exact hs _ rfl
  | _ => exact hs _ rfl
theorem bndS_sat {i : SI} {n : SN} {k : SN → R α} {φ : α → Prop} (h : ∀ j : SN, 0 ≤ i.den → i.den ≤ (n.den : Int) → j.den = i.den.toNat → (k j).Sat φ) : (bndS i n k).Sat φ := by
  have hs : ∀ i' : SI, i' = i → (bndSym i' n k).Sat φ := by
    rintro i' rfl ⟨h0, h1⟩
    exact h _ h0 h1 (toN_den _)
  cases i with
  | lit a => cases a with
    | negSucc a => trivial
    | ofNat a =>
      show (bndLit a n k).Sat φ
      cases n with
      | lit n =>
        refine R.Sat.boolC (fun hb => ?_) (fun _ => trivial)
        have hlt : a ≤ n := Nat.le_of_ble_eq_true hb
        exact h (.lit a) (Int.natCast_nonneg a) (by simp [SI.den, SN.den]; exact hlt) rfl
      | sym n => exact fun hlt => h (.lit a) (Int.natCast_nonneg a) (by simp [SI.den, SN.den]; exact hlt) rfl
      | byt o x => exact fun hlt => h (.lit a) (Int.natCast_nonneg a) (by simp only [SI.den, SN.den]; have : a ≤ o + x.toNat := hlt; show (a : Int) ≤ _; omega) rfl
  | _ => exact hs _ rfl
theorem SN.asLit_sat {x : SN} {d : R α} {f : Nat → R α} {φ : α → Prop} (h : ∀ n, x = .lit n → (f n).Sat φ) (hd : (∀ n, x ≠ .lit n) → d.Sat φ) : (x.asLit d f).Sat φ := by
  cases x with
  | lit n => exact h n rfl
  | sym n => exact hd (by intro _ e; cases e)
  | byt o y => exact hd (by intro _ e; cases e)

end Go.Sim
