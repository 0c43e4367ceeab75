/-
  Texts behind one another: the symbolic simulator and what it is told of the program.
-/
import Derived.Test.YtflafdhmmcknhaaGreatDoorPzRfh2
import Derived.Test.YtflafdhmmcknhaaGreatDoorPp5

/-
  The reference's hash, third part: a block is the program's block.
-/
namespace Go.Proofs.YtflafdhmmcknhaaGreatDoor.Aes
open Go.Sim
open Go.Proofs
variable {α : Type}

/- The words. -/
theorem words_rec16 (x0 x1 x2 x3 x4 x5 x6 x7 x8 x9 x10 x11 x12 x13 x14 x15 : W32) :
    mapN (fun t => atW (words64 [x0, x1, x2, x3, x4, x5, x6, x7, x8, x9, x10, x11, x12, x13, x14, x15]) t) (fromN 48 16) = mapN (fun t => nextW (atW (words64 [x0, x1, x2, x3, x4, x5, x6, x7, x8, x9, x10, x11, x12, x13, x14, x15]) (Nat.sub t 2)) (atW (words64 [x0, x1, x2, x3, x4, x5, x6, x7, x8, x9, x10, x11, x12, x13, x14, x15]) (Nat.sub t 7)) (atW (words64 [x0, x1, x2, x3, x4, x5, x6, x7, x8, x9, x10, x11, x12, x13, x14, x15]) (Nat.sub t 15)) (atW (words64 [x0, x1, x2, x3, x4, x5, x6, x7, x8, x9, x10, x11, x12, x13, x14, x15]) (Nat.sub t 16))) (fromN 48 16) := by kernel_rfl
theorem words_rec {l : List W32} (h : l.length = 16) {t : Nat} (h1 : 16 ≤ t) (h2 : t < 64) : atW (words64 l) t = nextW (atW (words64 l) (t - 2)) (atW (words64 l) (t - 7)) (atW (words64 l) (t - 15)) (atW (words64 l) (t - 16)) := by
  match l, h with
  | [x0, x1, x2, x3, x4, x5, x6, x7, x8, x9, x10, x11, x12, x13, x14, x15], _ =>
    have := words_rec16 x0 x1 x2 x3 x4 x5 x6 x7 x8 x9 x10 x11 x12 x13 x14 x15
    rw [mapN_eq, mapN_eq, fromN_eq] at this
    exact List.map_inj_left.1 this t (List.mem_range'.2 ⟨t - 16, by omega, by omega⟩)
theorem genW_length : ∀ (n : Nat) (win : List W32), (genW n win).length = n
  | 0, _ => rfl
  | n + 1, _ => congrArg (· + 1) (genW_length n _)
theorem words16_length (X : Nat → BitVec 8) (o : Nat) : (words16 X o).length = 16 := by
  unfold words16
  rw [mapN_eq, List.length_map, fromN_eq, List.length_range']
theorem words64_length {l : List W32} (h : l.length = 16) : (words64 l).length = 64 := by
  unfold words64
  rw [app_eq, List.length_append, genW_length, h]
theorem words64_lt {l : List W32} {j : Nat} (h : j < l.length) : atW (words64 l) j = atW l j := by
  unfold words64 atW
  rw [app_eq, nth_eq, nth_eq, List.getElem?_append_left h]
theorem words16_at (X : Nat → BitVec 8) (o : Nat) {j : Nat} (h : j < 16) : atW (words16 X o) j = word4 X (o + 4 * j) := by
  unfold atW words16
  rw [nth_eq, mapN_eq, List.getElem?_map, fromN_eq, List.getElem?_range' h]
  simp
/- Sums of words. -/
theorem ofInt2 (a b : W32) : BitVec.ofInt 32 ((a.toNat : Int) + (b.toNat : Int)) = a + b := by
  rw [BitVec.ofInt_add, ofInt_toNat, ofInt_toNat]
theorem ofInt3 (a b c : W32) : BitVec.ofInt 32 ((a.toNat : Int) + (b.toNat : Int) + (c.toNat : Int)) = a + b + c := by
  rw [BitVec.ofInt_add, ofInt2, ofInt_toNat]
theorem ofInt4 (a b c d : W32) : BitVec.ofInt 32 ((a.toNat : Int) + (b.toNat : Int) + (c.toNat : Int) + (d.toNat : Int)) = a + b + c + d := by
  rw [BitVec.ofInt_add, ofInt3, ofInt_toNat]
theorem ofInt5 (a b c d e : W32) : BitVec.ofInt 32 ((a.toNat : Int) + (b.toNat : Int) + (c.toNat : Int) + (d.toNat : Int) + (e.toNat : Int)) = a + b + c + d + e := by
  rw [BitVec.ofInt_add, ofInt4, ofInt_toNat]
theorem zero_xor32 (x : W32) : BitVec.ofInt 32 0 ^^^ x = x := by
  rw [show (BitVec.ofInt 32 0 : BitVec 32) = 0#32 from rfl, BitVec.zero_xor]
theorem tur2_eq (x : W32) (a b : Nat) : tur2 x a b = rrt x a ^^^ rrt x b := by unfold tur2; rw [zero_xor32]
theorem tur3_eq (x : W32) (a b c : Nat) : tur3 x a b c = rrt x a ^^^ rrt x b ^^^ rrt x c := by unfold tur3; rw [zero_xor32]
theorem nextI_eq {A : BlkA} : BitVec.ofInt 32 (nextI A) = nextW (atI A.W (A.t - 2)) (atI A.W (A.t - 7)) (atI A.W (A.t - 15)) (atI A.W (A.t - 16)) := by
  unfold nextI nextW
  rw [ofInt4, tur2_eq, tur2_eq]; rfl
theorem nextI_le (A : BlkA) : 0 ≤ nextI A ∧ nextI A ≤ 17179869184 := by
  unfold nextI
  have h1 := (sg1 (atI A.W (A.t - 2))).isLt
  have h2 := (atI A.W (A.t - 7)).isLt
  have h3 := (rsg0 (atI A.W (A.t - 15))).isLt
  have h4 := (atI A.W (A.t - 16)).isLt
  omega
/- The rounds. -/
noncomputable def stN (L ws : List W32) (t : Nat) : List W32 := Nat.rec L (fun t s => rndW s (atW constV' t) (atW ws t)) t
theorem rnds_st (L ws : List W32) (hw : ws.length = 64) : ∀ (k t : Nat), t + k = 64 → rnds (constV'.drop t) (ws.drop t) (stN L ws t) = stN L ws 64 := by
  have hc : constV'.length = 64 := rfl
  intro k
  induction k with
  | zero =>
    intro t ht
    have : t = 64 := by omega
    subst this
    rw [List.drop_of_length_le (by omega)]
    rfl
  | succ k ih =>
    intro t ht
    have h1 : constV'.drop t = atW constV' t :: constV'.drop (t + 1) := by
      rw [List.drop_eq_getElem_cons (by omega)]
      unfold atW
      rw [nth_eq, List.getElem?_eq_getElem (by omega)]; rfl
    have h2 : ws.drop t = atW ws t :: ws.drop (t + 1) := by
      rw [List.drop_eq_getElem_cons (by omega)]
      unfold atW
      rw [nth_eq, List.getElem?_eq_getElem (by omega)]; rfl
    rw [h1, h2]
    exact ih (t + 1) (by omega)
theorem stN_length {L ws : List W32} (h : L.length = 8) : ∀ t, (stN L ws t).length = 8
  | 0 => h
  | _ + 1 => rfl
theorem newV_eq {B : BlkB} {t : Nat} (ht : B.t = t) (h : t < 64) {ws : List W32} (hW : ∀ j, j < 64 → B.W j = atW ws j) : newV B = rndW B.V (atW constV' t) (atW ws t) := by
  have e1 : atI B.W B.t = atW ws t := by unfold atI; rw [ht, hW _ (by omega)]; congr 1; omega
  have e2 : atI kW B.t = atW constV' t := by unfold atI kW; rw [ht]; congr 1; omega
  have h4 : BitVec.ofInt 32 (tI4 B) = atW B.V 7 + tur3 (atW B.V 4) 6 11 25 + choiceW (atW B.V 4) (atW B.V 5) (atW B.V 6) + atW constV' t + atW ws t := by
    unfold tI4 tI3 tI2 tI1
    rw [ofInt5, tur3_eq, e1, e2]; rfl
  have h5 : BitVec.ofInt 32 (tI5 B) = tur3 (atW B.V 0) 2 13 22 + majW (atW B.V 0) (atW B.V 1) (atW B.V 2) := by
    unfold tI5
    rw [ofInt2, tur3_eq]; rfl
  unfold newV tA tE rndW
  rw [BitVec.ofInt_add, BitVec.ofInt_add, h4, h5, ofInt_toNat]
theorem tI_le (B : BlkB) : 0 ≤ tI1 B ∧ tI1 B ≤ 2 ^ 33 ∧ 0 ≤ tI2 B ∧ tI2 B ≤ 2 ^ 34 ∧ 0 ≤ tI3 B ∧ tI3 B ≤ 2 ^ 35 ∧ 0 ≤ tI4 B ∧ tI4 B ≤ 2 ^ 36 ∧ 0 ≤ tI5 B ∧ tI5 B ≤ 2 ^ 33 ∧ 0 ≤ tA B ∧ tA B ≤ 2 ^ 37 ∧ 0 ≤ tE B ∧ tE B ≤ 2 ^ 37 := by
  unfold tA tE tI4 tI3 tI2 tI1 tI5
  have h1 := (atW B.V 7).isLt
  have h2 := (s1V B.V).isLt
  have h3 := (choiceW (atW B.V 4) (atW B.V 5) (atW B.V 6)).isLt
  have h4 := (atI kW B.t).isLt
  have h5 := (atI B.W B.t).isLt
  have h6 := (s0V B.V).isLt
  have h7 := (majW (atW B.V 0) (atW B.V 1) (atW B.V 2)).isLt
  have h8 := (atW B.V 3).isLt
  omega
theorem addW_eq {L V : List W32} (h : L.length = 8) (h' : V.length = 8) : addW L V = mapN (fun i => atW L i + atW V i) (fromN 8 0) := by
  match L, V, h, h' with
  | [a1, a2, a3, a4, a5, a6, a7, a8], [b1, b2, b3, b4, b5, b6, b7, b8], _, _ => rfl
theorem endV_eq {L ws : List W32} (h : L.length = 8) (hw : ws.length = 64) : endV L (stN L ws 64) = addW L (rnds constV' ws L) := by
  have hr := rnds_st L ws hw 64 0 rfl
  simp only [List.drop_zero] at hr
  rw [show rnds constV' ws L = stN L ws 64 from hr, addW_eq h (stN_length h 64)]
  unfold endV sumI
  rw [mapN_eq, mapN_eq]
  exact List.map_congr_left fun i _ => ofInt2 _ _
/- The first words. -/
theorem eI_le (X : Nat → BitVec 8) (i : Nat) : eI X i 0 = ((X i).toNat : Int) ∧ eI X i 1 = 256 * ((X i).toNat : Int) + ((X (i + 1)).toNat : Int) ∧ eI X i 2 = 65536 * ((X i).toNat : Int) + 256 * ((X (i + 1)).toNat : Int) + ((X (i + 2)).toNat : Int) ∧
    eI X i 3 = 16777216 * ((X i).toNat : Int) + 65536 * ((X (i + 1)).toNat : Int) + 256 * ((X (i + 2)).toNat : Int) + ((X (i + 3)).toNat : Int) := by
  have b0 := (X i).isLt
  have b1 := (X (i + 1)).isLt
  have b2 := (X (i + 2)).isLt
  have h0 : eI X i 0 = ((X i).toNat : Int) := by show 0 + ((X i).toNat : Int) = _; omega
  have h1 : eI X i 1 = 256 * ((X i).toNat : Int) + ((X (i + 1)).toNat : Int) := by
    show wrapF .i64 (256 * eI X i 0) + ((X (i + 1)).toNat : Int) = _
    rw [h0, wrapF_eq, wrap_i64 ⟨by omega, by omega⟩]
  have h2 : eI X i 2 = 65536 * ((X i).toNat : Int) + 256 * ((X (i + 1)).toNat : Int) + ((X (i + 2)).toNat : Int) := by
    show wrapF .i64 (256 * eI X i 1) + ((X (i + 2)).toNat : Int) = _
    rw [h1, wrapF_eq, wrap_i64 ⟨by omega, by omega⟩]
    omega
  refine ⟨h0, h1, h2, ?_⟩
  show wrapF .i64 (256 * eI X i 2) + ((X (i + 3)).toNat : Int) = _
  rw [h2, wrapF_eq, wrap_i64 ⟨by omega, by omega⟩]
  omega
theorem or_add {a b k : Nat} (h : b < 2 ^ k) : a * 2 ^ k ||| b = a * 2 ^ k + b := by
  rw [Nat.mul_comm, Nat.two_pow_add_eq_or_of_lt h]
theorem word4_toNat (X : Nat → BitVec 8) (i : Nat) : ((word4 X i).toNat : Int) = eI X i 3 := by
  rw [(eI_le X i).2.2.2]
  have b0 := (X i).isLt
  have b1 := (X (i + 1)).isLt
  have b2 := (X (i + 2)).isLt
  have b3 := (X (i + 3)).isLt
  have hs : ∀ (b : BitVec 8) (k : Nat), k ≤ 24 → ((b.setWidth 32 : W32) <<< k).toNat = b.toNat * 2 ^ k := by
    intro b k hk
    have hb := b.isLt
    rw [BitVec.toNat_shiftLeft, BitVec.toNat_setWidth, Nat.shiftLeft_eq, Nat.mod_eq_of_lt (show b.toNat < 2 ^ 32 by omega), Nat.mod_eq_of_lt]
    have : 2 ^ k ≤ 2 ^ 24 := Nat.pow_le_pow_right (by omega) hk
    calc b.toNat * 2 ^ k ≤ 255 * 2 ^ 24 := Nat.mul_le_mul (by omega) this
      _ < 2 ^ 32 := by decide
  have h3 : ((X (i + 3)).setWidth 32 : W32).toNat = (X (i + 3)).toNat := by
    rw [BitVec.toNat_setWidth, Nat.mod_eq_of_lt (by omega)]
  unfold word4
  rw [BitVec.toNat_or, BitVec.toNat_or, BitVec.toNat_or, hs _ 24 (by omega), hs _ 16 (by omega), hs _ 8 (by omega), h3]
  have e1 : (X i).toNat * 2 ^ 24 ||| (X (i + 1)).toNat * 2 ^ 16 = ((X i).toNat * 2 ^ 8 + (X (i + 1)).toNat) * 2 ^ 16 := by
    rw [or_add (by omega)]; omega
  have e2 : ((X i).toNat * 2 ^ 8 + (X (i + 1)).toNat) * 2 ^ 16 ||| (X (i + 2)).toNat * 2 ^ 8 = (((X i).toNat * 2 ^ 8 + (X (i + 1)).toNat) * 2 ^ 8 + (X (i + 2)).toNat) * 2 ^ 8 := by
    rw [or_add (by omega)]; omega
  rw [e1, e2, or_add (by omega)]
  omega
end Go.Proofs.YtflafdhmmcknhaaGreatDoor.Aes


/-
  The reference's hash, fourth part: what a block comes to.
-/
namespace Go.Proofs.YtflafdhmmcknhaaGreatDoor.Aes
open Go.Sim
open Go.Proofs
variable {α : Type}

theorem imp_fn {l : List SV} {g : Nat → SV} {n : Nat} (hl : l.length = n) (h : ∀ (i : Nat) (v : SV), l[i]? = some v → v.Imp (g i)) : (Cells.lst l).Imp (.fn g n) := by
  intro γ vs hv
  have hlen := denL_length hv
  refine ⟨by omega, fun i x hx => ?_⟩
  have hi : i < l.length := by
    have := (List.getElem?_eq_some_iff.1 hx).1
    omega
  obtain ⟨y, hy, hd⟩ := denL_get hv (List.getElem?_eq_getElem hi)
  rw [hx] at hy; cases hy
  exact h i _ (List.getElem?_eq_getElem hi) γ x hd
theorem fn_imp {f g : Nat → SV} {n : Nat} (h : ∀ i, (f i).Imp (g i)) : (Cells.fn f n).Imp (.fn g n) := fun γ _ hv => ⟨hv.1, fun i x hx => h i γ x (hv.2 i x hx)⟩
/-- the words at first -/
noncomputable def W0 (X : Nat → BitVec 8) (o : Nat) : Nat → W32 := fun j => if j < 16 then word4 X (o + 4 * j) else wd 0
theorem wL0_length (X : Nat → BitVec 8) (o : Nat) : (wL0 X o).length = 64 := by
  unfold wL0
  rw [app_eq, mapN_eq, repN_eq, List.length_append, List.length_map, fromN_eq, List.length_range', List.length_replicate]
theorem wL0_imp (X : Nat → BitVec 8) (o : Nat) : (Cells.lst (wL0 X o)).Imp (.fn (fun j => iw (W0 X o j)) 64) := by
  refine imp_fn (wL0_length X o) fun i v hv => ?_
  unfold wL0 at hv
  rw [app_eq, mapN_eq, repN_eq] at hv
  by_cases hi : i < 16
  · rw [List.getElem?_append_left (by rw [List.length_map, fromN_eq, List.length_range']; exact hi), List.getElem?_map, fromN_eq, List.getElem?_range' hi] at hv
    simp only [Option.map_some, Option.some.injEq] at hv
    subst hv
    refine int_imp ?_
    show eI X (o + 4 * (0 + 1 * i)) 3 = ((W0 X o i).toNat : Int)
    unfold W0
    rw [if_pos hi, word4_toNat]
    congr 1; omega
  · have hlt : i < 64 := by
      have := (List.getElem?_eq_some_iff.1 hv).1
      rw [List.length_append, List.length_map, fromN_eq, List.length_range', List.length_replicate] at this
      exact this
    rw [List.getElem?_append_right (by rw [List.length_map, fromN_eq, List.length_range']; omega), List.getElem?_replicate, List.length_map, fromN_eq, List.length_range', if_pos (by omega)] at hv
    cases hv
    refine int_imp ?_
    show (0 : Int) = ((W0 X o i).toNat : Int)
    unfold W0
    rw [if_neg hi]; rfl
theorem cBlk_all {X : Nat → BitVec 8} {N o : Nat} (h : o + 64 ≤ N) : ∀ p ∈ cBlk X N o, p := by
  have key : ∀ (k j : Nat), j + k = 16 → ∀ p ∈ (List.rec (motive := fun _ => List Prop) [] (fun t _ ih => (o + (4 * t + 0) < N) :: inI64 (eI X (o + 4 * t) 0) :: (o + (4 * t + 1) < N) :: inI64 (eI X (o + 4 * t) 1) :: (o + (4 * t + 2) < N) :: inI64 (eI X (o + 4 * t) 2) :: (o + (4 * t + 3) < N) :: inI64 (eI X (o + 4 * t) 3) :: ih) (fromN k j) : List Prop), p := by
    intro k
    induction k with
    | zero => intro j _ p hp; cases hp
    | succ k ih =>
      intro j hj p hp
      obtain ⟨e0, e1, e2, e3⟩ := eI_le X (o + 4 * j)
      have b0 := (X (o + 4 * j)).isLt
      have b1 := (X (o + 4 * j + 1)).isLt
      have b2 := (X (o + 4 * j + 2)).isLt
      have b3 := (X (o + 4 * j + 3)).isLt
      have hp : p ∈ (o + (4 * j + 0) < N) :: inI64 (eI X (o + 4 * j) 0) :: (o + (4 * j + 1) < N) :: inI64 (eI X (o + 4 * j) 1) :: (o + (4 * j + 2) < N) :: inI64 (eI X (o + 4 * j) 2) :: (o + (4 * j + 3) < N) :: inI64 (eI X (o + 4 * j) 3) :: (List.rec (motive := fun _ => List Prop) [] (fun t _ ih => (o + (4 * t + 0) < N) :: inI64 (eI X (o + 4 * t) 0) :: (o + (4 * t + 1) < N) :: inI64 (eI X (o + 4 * t) 1) :: (o + (4 * t + 2) < N) :: inI64 (eI X (o + 4 * t) 2) :: (o + (4 * t + 3) < N) :: inI64 (eI X (o + 4 * t) 3) :: ih) (fromN k (j + 1)) : List Prop) := hp
      rw [e0, e1, e2, e3] at hp
      simp only [List.mem_cons] at hp
      rcases hp with rfl | rfl | rfl | rfl | rfl | rfl | rfl | rfl | hp
      · omega
      · exact ⟨by omega, by omega⟩
      · omega
      · exact ⟨by omega, by omega⟩
      · omega
      · exact ⟨by omega, by omega⟩
      · omega
      · exact ⟨by omega, by omega⟩
      · exact ih (j + 1) (by omega) p hp
  exact key 16 0 rfl

section
variable {X : Nat → BitVec 8} {N o m : Nat} {L : List W32}
structure OkA (X : Nat → BitVec 8) (o : Nat) (A : BlkA) (t : Nat) : Prop where
  at_ : A.t = t
  lo : 16 ≤ t
  hi : t ≤ 64
  W : ∀ j, j < t → A.W j = atW (words64 (words16 X o)) j
structure OkB (X : Nat → BitVec 8) (o : Nat) (L : List W32) (B : BlkB) (t : Nat) : Prop where
  at_ : B.t = t
  hi : t ≤ 64
  W : ∀ j, j < 64 → B.W j = atW (words64 (words16 X o)) j
  V : B.V = stN L (words64 (words16 X o)) t
def OkS (X : Nat → BitVec 8) (o : Nat) (L : List W32) : BlkS → Prop
  | .a A => ∃ t, OkA X o A t
  | .b B => ∃ t, OkB X o L B t
def muS : BlkS → Nat
  | .a A => 200 - A.t.toNat
  | .b B => 100 - B.t.toNat
theorem rdC_all {A : BlkA} {k : Int} {r : List Prop} (h1 : 0 ≤ A.t - k) (h2 : A.t - k < 64) (hr : ∀ p ∈ r, p) : ∀ p ∈ rrdC A k r, p :=
  all_cons ⟨by omega, by omega⟩ (all_cons ⟨h1, h2⟩ (all_cons (by omega) hr))
theorem c2_all {A : BlkA} {t : Nat} (h : A.t = t) (h1 : 16 ≤ t) (h2 : t < 64) : ∀ p ∈ c2 A, p := by
  have hn := nextI_le A
  have a1 := (sg1 (atI A.W (A.t - 2))).isLt
  have a2 := (atI A.W (A.t - 7)).isLt
  have a3 := (rsg0 (atI A.W (A.t - 15))).isLt
  exact all_cons (decide_eq_true (by omega)) (rdC_all (by omega) (by omega) (rdC_all (by omega) (by omega) (rdC_all (by omega) (by omega) (all_cons ⟨by omega, by omega⟩ (all_cons ⟨by omega, by omega⟩ (rdC_all (by omega) (by omega) (all_cons ⟨by omega, by omega⟩ (all_cons hn.1 (all_cons ⟨by omega, by omega⟩ (all_cons (by omega) (all_cons ⟨by omega, by omega⟩ all_nil)))))))))))
theorem ixC_all {t : Int} {r : List Prop} (h1 : 0 ≤ t) (h2 : t < 64) (hr : ∀ p ∈ r, p) : ∀ p ∈ ixC t r, p := all_cons ⟨h1, h2⟩ (all_cons (by omega) hr)
theorem c3_all {B : BlkB} {t : Nat} (h : B.t = t) (h2 : t < 64) : ∀ p ∈ c3 B, p := by
  have := tI_le B
  exact all_cons (decide_eq_true (by omega)) (all_cons ⟨by omega, by omega⟩ (all_cons ⟨by omega, by omega⟩ (ixC_all (by omega) (by omega) (all_cons ⟨by omega, by omega⟩ (ixC_all (by omega) (by omega) (all_cons ⟨by omega, by omega⟩ (all_cons ⟨by omega, by omega⟩ (all_cons ⟨by omega, by omega⟩ (all_cons (by omega) (all_cons ⟨by omega, by omega⟩ (all_cons (by omega) (all_cons ⟨by omega, by omega⟩ all_nil))))))))))))
theorem c4_key {V : List W32} : ∀ l : List Nat, ∀ p ∈ (List.rec (motive := fun _ => List Prop) [] (fun i _ ih => inI64 (sumI L V i) :: (0 ≤ sumI L V i) :: ih) l : List Prop), p := by
  intro l
  induction l with
  | nil => intro p hp; cases hp
  | cons i l ih =>
    have a1 := (atW L i).isLt
    have a2 := (atW V i).isLt
    exact all_cons ⟨by unfold sumI; omega, by unfold sumI; omega⟩ (all_cons (by unfold sumI; omega) ih)
theorem c4_all {B : BlkB} {t : Nat} (h : B.t = t) (h2 : 64 ≤ t) : ∀ p ∈ c4 L B, p := by
  refine all_cons (decide_eq_false (by omega)) ?_
  exact c4_key (fromN 8 0)
theorem tmp_imp {C : Cut} {i j : Nat} {v : SV} (h : ((C.frames[i]?).bind fun p => p.tmps[j]?) = some (some v)) {p : SP} {u : Option SV} (hp : C.frames[i]? = some p) (hu : p.tmps[j]? = some u) {w : SV} {f : Nat → Nat} (hi : w.Imp (v.ren f)) : ∃ x, u = some x ∧ w.Imp (x.ren f) := by
  rw [hp] at h
  simp only [Option.bind_some, hu, Option.some.injEq] at h
  exact ⟨v, h, hi⟩
theorem if_imp {c : Prop} [Decidable c] {a b : W32} : (if c then iw a else iw b).Imp (iw (if c then a else b)) := by
  split <;> exact .refl _
theorem blk_runs (hL : L.length = 8) (hN : o + 64 ≤ N) : Runs cfgR1 82 (blkArgs o m L) (blkEnts X N) fun v _ => v = .agg (ux (cmpW L (words16 X o))) := by
  have hw64 := words64_length (words16_length X o)
  refine runs_by cfgR1OK (blkX X N o m L) (OkS X o L) muS (fun g nm hg => Nat.lt_of_lt_of_le (globS_lt hg) (by show 3 ≤ 5; omega)) ?_ fun S hS J => ?_
  · refine to_startM none 1888 (.a ⟨16, W0 X o⟩) ⟨16, rfl, Nat.le_refl _, by omega, fun j hj => ?_⟩ (blk_init X N o m L (W0 X o)) (blk_namesA X N o m L _ _) ?_ ?_ (cBlk_all hN)
    · show W0 X o j = _
      rw [words64_lt (by rw [words16_length]; exact hj), words16_at X o hj]
      unfold W0
      rw [if_pos hj]
    · intro e he p u hp hu
      rw [List.mem_singleton] at he; subst he
      exact tmp_imp (blk_tmpA X N o m L _) hp hu (int_imp rfl)
    · intro e he E0 hE
      rw [List.mem_singleton] at he; subst he
      cases hE
      exact ⟨_, rfl, wL0_imp X o⟩
  · cases S with
    | a A =>
      obtain ⟨t, hA⟩ := hS
      have hlo := hA.lo
      have hat := hA.at_
      by_cases ht : t < 64
      · refine to_turnM (some (1, 3)) 4000 (.a ⟨A.t + 1, newW A⟩) ⟨⟨t + 1, by show A.t + 1 = _; omega, by omega, by omega, fun j hj => ?_⟩, ?_⟩ (blk_turn2 X N o m L A J) (blk_namesA X N o m L _ _) (by simp) ?_ (c2_all hA.at_ hA.lo ht)
        · have hi : ∀ k : Nat, k ≤ 16 → 1 ≤ k → atI A.W (A.t - (k : Int)) = atW (words64 (words16 X o)) (t - k) := by
            intro k hk hk1
            unfold atI
            rw [show 0 + (A.t - (k : Int)).toNat * 1 = t - k from by omega]
            exact hA.W _ (by omega)
          show newW A j = _
          unfold newW
          by_cases hjt : j = t
          · rw [if_pos (by omega), nextI_eq, hjt, words_rec (words16_length X o) hlo ht]
            rw [show atI A.W (A.t - 2) = _ from hi 2 (by omega) (by omega), show atI A.W (A.t - 7) = _ from hi 7 (by omega) (by omega), show atI A.W (A.t - 15) = _ from hi 15 (by omega) (by omega), show atI A.W (A.t - 16) = _ from hi 16 (by omega) (by omega)]
          · rw [if_neg (by omega)]
            exact hA.W j (by omega)
        · show 200 - (A.t + 1).toNat < 200 - A.t.toNat
          omega
        · intro e he E0 hE
          rw [List.mem_singleton] at he; subst he
          cases hE
          exact ⟨_, rfl, fn_imp fun j => if_imp⟩
      · have h64 : t = 64 := by have := hA.hi; omega
        refine to_turnM (some (1, 3)) 4000 (.b ⟨0, A.W, L⟩) ⟨⟨0, rfl, by omega, fun j hj => hA.W j (by omega), rfl⟩, ?_⟩ (blk_exit2 X N o m L A 0 J) (blk_namesB X N o m L _ _) ?_ (by simp) (all_cons (decide_eq_false (by omega)) all_nil)
        · show 100 - 0 < 200 - A.t.toNat
          omega
        · intro e he p u hp hu
          rw [List.mem_singleton] at he; subst he
          exact tmp_imp (blk_tmpB X N o m L _) hp hu (int_imp rfl)
    | b B =>
      obtain ⟨t, hB⟩ := hS
      have hat := hB.at_
      by_cases ht : t < 64
      · refine to_turn (some (1, 3)) 4000 (.b ⟨B.t + 1, B.W, newV B⟩) ⟨⟨t + 1, by show B.t + 1 = _; omega, by omega, hB.W, ?_⟩, ?_⟩ (blk_turn3 X N o m L B J) (blk_namesB X N o m L _ _) (c3_all hB.at_ ht)
        · show newV B = rndW (stN L _ t) _ _
          rw [newV_eq hB.at_ ht hB.W, hB.V]
        · show 100 - (B.t + 1).toNat < 100 - B.t.toNat
          omega
      · refine to_end none 4000 (blk_end3 X N o m L B J) (c4_all hB.at_ (by omega)) fun H _ => ?_
        have h64 : t = 64 := by have := hB.hi; omega
        show SV.agg (ux (endV L B.V)) = _
        rw [hB.V, h64, endV_eq hL hw64]; rfl
end
end Go.Proofs.YtflafdhmmcknhaaGreatDoor.Aes


/-
  The reference's hash: the padded string, its loop's runs.
-/
namespace Go.Proofs.YtflafdhmmcknhaaGreatDoor.Aes
open Go.Sim
open Go.Proofs
variable {α : Type}

section
variable (X : Nat → BitVec 8) (N o n m : Nat)
noncomputable def padArgs : List SV := [.slice ⟨0, .sym o⟩ (.sym n) (.sym m)]
noncomputable def padS0 : SS := stopOf (callSim (cfg0.at (some (1, 0))) 4000 81 (padArgs o n m) [rowF X N]) [false]
structure PadA where
  len : Nat
  Y : Nat → BitVec 8
noncomputable def padC (A : PadA) : Cut :=
  ⟨bareFs (padS0 X N o n m).frames [[(0, .slice ⟨0, .sym o⟩ (.sym n) (.sym m)), (3, .slice ⟨1, .lit 0⟩ (.sym A.len) (.rest 1 0))]], [.ent (rowF X N), .ent (.own (.fn (byteF A.Y) A.len) false 5)]⟩
noncomputable def appB (Y : Nat → BitVec 8) (len : Nat) (b : BitVec 8) : Nat → BitVec 8 := catB (fun i => Sim.byteOf (byteF Y (0 + i))) len (fun i => byteAt [b] (0 + i))
noncomputable def cApp (Y : Nat → BitVec 8) (len : Nat) (r : List Prop) : List Prop := (1 ≤ 1) :: (0 + len ≤ len ∧ IsB (byteF Y)) :: (roomy (len + 1) 1 ∧ 1 = 1) :: r
theorem pad_turn (A : PadA) (J : Junk) (z : Nat → Nat → Nat) : outL [] (padC X N o n m A) [0, 3] (sim1 (cfg0.at (some (1, 3))) 4000 ((padC X N o n m A).fill J)) [true] z =
    ((((A.len : Int).tmod 64 != 56) = true) :: cApp A.Y A.len [], some (.inr (seenC [0, 3] 4 (padC X N o n m ⟨A.len + 1, appB A.Y A.len (BitVec.ofNat 8 0)⟩)))) := by kernel_rfl
noncomputable def nB (n i : Nat) : BitVec 8 := BitVec.ofInt 8 (((wrapF .i64 (Int.mul 8 (n : Int))).fdiv (2 ^ (8 * i))).tmod 256)
noncomputable def pad8 (n : Nat) (Y : Nat → BitVec 8) (len : Nat) : Nat → BitVec 8 :=
  appB (appB (appB (appB (appB (appB (appB (appB Y len (nB n 7)) (len + 1) (nB n 6)) (len + 1 + 1) (nB n 5)) (len + 1 + 1 + 1) (nB n 4)) (len + 1 + 1 + 1 + 1) (nB n 3)) (len + 1 + 1 + 1 + 1 + 1) (nB n 2)) (len + 1 + 1 + 1 + 1 + 1 + 1) (nB n 1)) (len + 1 + 1 + 1 + 1 + 1 + 1 + 1) (nB n 0)
noncomputable def cPad8 (Y : Nat → BitVec 8) (len : Nat) : List Prop :=
  cApp Y len (cApp (appB Y len (nB n 7)) (len + 1) (cApp (appB (appB Y len (nB n 7)) (len + 1) (nB n 6)) (len + 1 + 1) (cApp (appB (appB (appB Y len (nB n 7)) (len + 1) (nB n 6)) (len + 1 + 1) (nB n 5)) (len + 1 + 1 + 1)
    (cApp (appB (appB (appB (appB Y len (nB n 7)) (len + 1) (nB n 6)) (len + 1 + 1) (nB n 5)) (len + 1 + 1 + 1) (nB n 4)) (len + 1 + 1 + 1 + 1)
    (cApp (appB (appB (appB (appB (appB Y len (nB n 7)) (len + 1) (nB n 6)) (len + 1 + 1) (nB n 5)) (len + 1 + 1 + 1) (nB n 4)) (len + 1 + 1 + 1 + 1) (nB n 3)) (len + 1 + 1 + 1 + 1 + 1)
    (cApp (appB (appB (appB (appB (appB (appB Y len (nB n 7)) (len + 1) (nB n 6)) (len + 1 + 1) (nB n 5)) (len + 1 + 1 + 1) (nB n 4)) (len + 1 + 1 + 1 + 1) (nB n 3)) (len + 1 + 1 + 1 + 1 + 1) (nB n 2)) (len + 1 + 1 + 1 + 1 + 1 + 1)
    (cApp (appB (appB (appB (appB (appB (appB (appB Y len (nB n 7)) (len + 1) (nB n 6)) (len + 1 + 1) (nB n 5)) (len + 1 + 1 + 1) (nB n 4)) (len + 1 + 1 + 1 + 1) (nB n 3)) (len + 1 + 1 + 1 + 1 + 1) (nB n 2)) (len + 1 + 1 + 1 + 1 + 1 + 1) (nB n 1)) (len + 1 + 1 + 1 + 1 + 1 + 1 + 1) [])))))))
theorem pad_end (A : PadA) (J : Junk) (z : Nat → Nat → Nat) : outL [17] (padC X N o n m A) [0, 1] (sim1 (cfg0.at none) 4000 ((padC X N o n m A).fill J)) [false] z =
    ((((A.len : Int).tmod 64 != 56) = false) :: cPad8 n A.Y A.len, some (.inl (.slice ⟨17, .lit 0⟩ (.sym (A.len + 1 + 1 + 1 + 1 + 1 + 1 + 1 + 1)) (.rest 17 0), [some (.own (.fn (byteF (pad8 n A.Y A.len)) (A.len + 1 + 1 + 1 + 1 + 1 + 1 + 1 + 1)) false 5)]))) := by kernel_rfl
theorem pad_names (A A' : PadA) : boolC (namesOK 1 [0, 3] (padC X N o n m A) (padC X N o n m A')) (allN noLoopE (padC X N o n m A').heap) false = true := by kernel_rfl
theorem pad_names4 (A A' : PadA) : boolC (namesOK 1 [0, 4] (padC X N o n m A) (padC X N o n m A')) (allN noLoopE (padC X N o n m A').heap) false = true := by kernel_rfl
noncomputable def pad1 : Nat → BitVec 8 := catB (fun i => Sim.byteOf (byteF X (o + (0 + i)))) n (fun i => byteAt [BitVec.ofNat 8 128] (0 + i))
theorem pad_init (A0 : PadA) (z : Nat → Nat → Nat) : outL [] (padC X N o n m A0) [0, 4] (callSim (cfg0.at (some (1, 3))) 4000 81 (padArgs o n m) [rowF X N]) [false] z =
    ((o + n ≤ N) :: (decide (n = 0) = false) :: (roomy n 1 ∧ 1 = 1) :: (1 ≤ 1) :: (0 + n ≤ n ∧ IsB (fun i => byteF X (o + i))) :: (roomy (n + 1) 1 ∧ 1 = 1) :: [], some (.inr (seenC [0, 4] 5 (padC X N o n m ⟨n + 1, pad1 X o n⟩)))) := by kernel_rfl
end
/-- nothing -/
noncomputable def padL0 : List Nat := 128 :: repN 0 63
theorem pad_nil : outO [128] (callSim cfg0 12000 81 [.nilSlice] []) [] = ([], some (.slice ⟨128, .lit 0⟩ (.lit 64) (.rest 128 0), [some (.own (.lst (kx .u8 padL0)) false 5)])) := by kernel_rfl
theorem pad_zero (X : Nat → BitVec 8) (N o m : Nat) : outO [129] (callSim cfg0 12000 81 [.slice ⟨0, .sym o⟩ (.lit 0) (.sym m)] [rowF X N]) [] = ([o + 0 ≤ N], some (.slice ⟨129, .lit 0⟩ (.lit 64) (.rest 129 0), [some (.own (.lst (kx .u8 padL0)) false 5)])) := by kernel_rfl
end Go.Proofs.YtflafdhmmcknhaaGreatDoor.Aes


/-
  The reference's hash: what the padded string is.
-/
namespace Go.Proofs.YtflafdhmmcknhaaGreatDoor.Aes
open Go.Sim
open Go.Proofs
variable {α : Type}

theorem appB_lt (Y : Nat → BitVec 8) (len : Nat) (b : BitVec 8) {i : Nat} (h : i < len) : appB Y len b i = Y i := by
  unfold appB catB
  rw [if_pos h]
  show Y (0 + i) = Y i
  rw [Nat.zero_add]
theorem appB_eq (Y : Nat → BitVec 8) (len : Nat) (b : BitVec 8) : appB Y len b len = b := by
  unfold appB catB
  rw [if_neg (Nat.lt_irrefl _), Nat.sub_self]; rfl
theorem nB_eq {n i : Nat} (h : n ≤ 1152921504606846975) : nB n i = lenByte n i := by
  have h8 : wrapF .i64 (Int.mul 8 (n : Int)) = ((8 * n : Nat) : Int) := by
    show wrapF .i64 (8 * (n : Int)) = _
    rw [wrapF_eq, wrap_i64 ⟨by omega, by omega⟩]; simp
  unfold nB lenByte
  rw [h8]
  have h1 : (((8 * n : Nat) : Int).fdiv (2 ^ (8 * i))).tmod 256 = ((8 * n / 2 ^ (8 * i) % 256 : Nat) : Int) := by
    have e : (2 : Int) ^ (8 * i) = ((2 ^ (8 * i) : Nat) : Int) := by simp
    rw [e, Int.fdiv_eq_ediv_of_nonneg _ (Int.natCast_nonneg _), ← Int.natCast_ediv, show (256 : Int) = ((256 : Nat) : Int) from rfl, Int.tmod_eq_emod_of_nonneg (Int.natCast_nonneg _), ← Int.natCast_emod]
  rw [h1]
  apply BitVec.eq_of_toNat_eq
  rw [BitVec.toNat_ofInt, BitVec.toNat_setWidth, BitVec.toNat_ushiftRight, BitVec.toNat_mul, BitVec.toNat_ofInt, BitVec.toNat_ofInt, Nat.shiftRight_eq_div_pow]
  have e1 : ((n : Int) % ((2 ^ 64 : Nat) : Int)).toNat = n := by omega
  have e2 : ((8 : Int) % ((2 ^ 64 : Nat) : Int)).toNat = 8 := by decide
  rw [e1, e2, Nat.mod_eq_of_lt (show n * 8 < 2 ^ 64 by omega), Nat.mul_comm n 8]
  generalize 8 * n / 2 ^ (8 * i) = q
  omega
theorem lenP_bounds (n : Nat) : n + 9 ≤ lenP n ∧ lenP n ≤ n + 72 ∧ lenP n % 64 = 0 := by
  unfold lenP; omega
section
variable {X : Nat → BitVec 8} {N o n m : Nat}
structure PadQ (X : Nat → BitVec 8) (o n : Nat) (A : PadA) : Prop where
  lo : n + 1 ≤ A.len
  hi : A.len + 8 ≤ lenP n
  Y : ∀ i, i < A.len → A.Y i = if i < n then X (o + i) else if i = n then BitVec.ofNat 8 128 else BitVec.ofNat 8 0
theorem pad1_at {i : Nat} (hi : i < n + 1) : pad1 X o n i = if i < n then X (o + i) else if i = n then BitVec.ofNat 8 128 else BitVec.ofNat 8 0 := by
  unfold pad1 catB
  by_cases h : i < n
  · rw [if_pos h, if_pos h]
    show X (o + (0 + i)) = _
    rw [Nat.zero_add]
  · have : i = n := by omega
    subst this
    rw [if_neg h, if_neg h, if_pos rfl, Nat.sub_self]; rfl
theorem pad8_at {A : PadA} (h : PadQ X o n A) (hn : n ≤ 1152921504606846975) (he : A.len + 8 = lenP n) {i : Nat} (hi : i < lenP n) : pad8 n A.Y A.len i = padF (fun i => X (o + i)) n n i := by
  have hlo := h.lo
  have hb := lenP_bounds n
  unfold padF
  by_cases h1 : i < A.len
  · unfold pad8
    rw [appB_lt _ _ _ (by omega), appB_lt _ _ _ (by omega), appB_lt _ _ _ (by omega), appB_lt _ _ _ (by omega), appB_lt _ _ _ (by omega), appB_lt _ _ _ (by omega), appB_lt _ _ _ (by omega), appB_lt _ _ _ h1, h.Y i h1]
    by_cases h2 : i < n
    · rw [if_pos h2, if_pos h2]
    · rw [if_neg h2, if_neg h2]
      by_cases h3 : i = n
      · rw [if_pos h3, if_pos h3]
      · rw [if_neg h3, if_neg h3, if_neg (by omega)]
  · rw [if_neg (by omega), if_neg (by omega), if_pos (by omega)]
    unfold pad8
    obtain ⟨k, rfl⟩ : ∃ k, i = A.len + k := ⟨i - A.len, by omega⟩
    have hk : k < 8 := by omega
    have hj : lenP n - 1 - (A.len + k) = 7 - k := by omega
    rw [hj]
    match k, hk with
    | 0, _ => rw [appB_lt _ _ _ (by omega), appB_lt _ _ _ (by omega), appB_lt _ _ _ (by omega), appB_lt _ _ _ (by omega), appB_lt _ _ _ (by omega), appB_lt _ _ _ (by omega), appB_lt _ _ _ (by omega), Nat.add_zero, appB_eq, nB_eq hn]
    | 1, _ => rw [appB_lt _ _ _ (by omega), appB_lt _ _ _ (by omega), appB_lt _ _ _ (by omega), appB_lt _ _ _ (by omega), appB_lt _ _ _ (by omega), appB_lt _ _ _ (by omega), appB_eq, nB_eq hn]
    | 2, _ => rw [appB_lt _ _ _ (by omega), appB_lt _ _ _ (by omega), appB_lt _ _ _ (by omega), appB_lt _ _ _ (by omega), appB_lt _ _ _ (by omega), show A.len + 2 = A.len + 1 + 1 from rfl, appB_eq, nB_eq hn]
    | 3, _ => rw [appB_lt _ _ _ (by omega), appB_lt _ _ _ (by omega), appB_lt _ _ _ (by omega), appB_lt _ _ _ (by omega), show A.len + 3 = A.len + 1 + 1 + 1 from rfl, appB_eq, nB_eq hn]
    | 4, _ => rw [appB_lt _ _ _ (by omega), appB_lt _ _ _ (by omega), appB_lt _ _ _ (by omega), show A.len + 4 = A.len + 1 + 1 + 1 + 1 from rfl, appB_eq, nB_eq hn]
    | 5, _ => rw [appB_lt _ _ _ (by omega), appB_lt _ _ _ (by omega), show A.len + 5 = A.len + 1 + 1 + 1 + 1 + 1 from rfl, appB_eq, nB_eq hn]
    | 6, _ => rw [appB_lt _ _ _ (by omega), show A.len + 6 = A.len + 1 + 1 + 1 + 1 + 1 + 1 from rfl, appB_eq, nB_eq hn]
    | 7, _ => rw [show A.len + 7 = A.len + 1 + 1 + 1 + 1 + 1 + 1 + 1 from rfl, appB_eq, nB_eq hn]
theorem cApp_all {Y : Nat → BitVec 8} {len : Nat} {r : List Prop} (hl : len + 1 < 140737488355328) (hr : ∀ p ∈ r, p) : ∀ p ∈ cApp Y len r, p :=
  all_cons (Nat.le_refl _) (all_cons ⟨by omega, byteF_isB Y⟩ (all_cons ⟨⟨by omega, by omega⟩, rfl⟩ hr))
theorem pad_runs (hN : o + n ≤ N) (hn0 : n ≠ 0) (hn : n ≤ 1099511627776) : Runs cfg0 81 (padArgs o n m) [rowF X N] fun v H => ∃ Y, v = .slice ⟨17, .lit 0⟩ (.sym (lenP n)) (.rest 17 0) ∧ H[17]? = some (.own (.fn (byteF Y) (lenP n)) false 5) ∧ ∀ i, i < lenP n → Y i = padF (fun i => X (o + i)) n n i := by
  have hb := lenP_bounds n
  refine runs_by cfg0OK (padC X N o n m) (PadQ X o n) (fun A => lenP n - A.len) (fun g nm hg => by cases hg) ?_ fun A hA J => ?_
  · refine to_start (some (1, 3)) 4000 ⟨n + 1, pad1 X o n⟩ ⟨Nat.le_refl _, by show n + 1 + 8 ≤ _; omega, fun i hi => pad1_at hi⟩ (pad_init X N o n m ⟨0, X⟩) (pad_names4 X N o n m _ _) ?_
    exact all_cons hN (all_cons (decide_eq_false hn0) (all_cons ⟨⟨by omega, by omega⟩, rfl⟩ (all_cons (Nat.le_refl _) (all_cons ⟨by omega, fun i => ⟨X (o + i), rfl⟩⟩ (all_cons ⟨⟨by omega, by omega⟩, rfl⟩ all_nil)))))
  · have hlo := hA.lo
    have hhi := hA.hi
    have hmod : (A.len : Int).tmod 64 = ((A.len % 64 : Nat) : Int) := by rw [Int.tmod_eq_emod_of_nonneg (by omega)]; omega
    by_cases hc : A.len % 64 = 56
    · have hlen : A.len + 8 = lenP n := by omega
      refine to_end none 4000 (pad_end X N o n m A J) (all_cons ?_ ?_) fun H hH => ⟨pad8 n A.Y A.len, ?_, ?_, fun i hi => pad8_at hA (by omega) hlen hi⟩
      · rw [hmod, hc]; rfl
      · exact cApp_all (by omega) (cApp_all (by omega) (cApp_all (by omega) (cApp_all (by omega) (cApp_all (by omega) (cApp_all (by omega) (cApp_all (by omega) (cApp_all (by omega) all_nil)))))))
      · rw [← hlen]
      · rw [← hlen]; exact (List.cons.inj hH).1
    · refine to_turn (some (1, 3)) 4000 ⟨A.len + 1, appB A.Y A.len (BitVec.ofNat 8 0)⟩ ⟨⟨by show n + 1 ≤ A.len + 1; omega, by show A.len + 1 + 8 ≤ _; omega, fun i hi => ?_⟩, by show lenP n - (A.len + 1) < lenP n - A.len; omega⟩ (pad_turn X N o n m A J) (pad_names X N o n m _ _) (all_cons ?_ (cApp_all (by omega) all_nil))
      · have hi : i < A.len + 1 := hi
        show appB A.Y A.len _ i = _
        by_cases h1 : i < A.len
        · rw [appB_lt _ _ _ h1, hA.Y i h1]
        · have : i = A.len := by omega
          subst this
          rw [appB_eq, if_neg (by omega), if_neg (by omega)]
      · rw [hmod]
        rw [bne_iff_ne]
        omega
end
end Go.Proofs.YtflafdhmmcknhaaGreatDoor.Aes


/-
  The reference's hash: the summaries of Padded and of a block.
-/
namespace Go.Proofs.YtflafdhmmcknhaaGreatDoor.Aes
open Go.Sim
open Go.Proofs
variable {α : Type}

theorem fn_imp_lt {f g : Nat → SV} {n : Nat} (h : ∀ i, i < n → (f i).Imp (g i)) : (Cells.fn f n).Imp (.fn g n) := fun γ vs hv => ⟨hv.1, fun i x hx => h i (by have := (List.getElem?_eq_some_iff.1 hx).1; have := hv.1; omega) γ x (hv.2 i x hx)⟩
noncomputable def padR (base : Nat) (X : Nat → BitVec 8) (n : Nat) : SumRes := ⟨.slice ⟨base, .lit 0⟩ (.sym (lenP n)) (.rest base 0), [], [.own (.fn (byteF (padF X n n)) (lenP n)) false 5]⟩
noncomputable def padS : Summ := fun args H base => args1 args fun v => sliceR v (.ok (padR base (fun _ => 0#8) 0)) fun a l => bytesE (nth H a.nm) fun X N => .need (a.off.den + l.den ≤ N ∧ l.den ≤ 1099511627776) (.ok (padR base (fun i => X (a.off.den + i)) l.den))
theorem given_bytesF {p : Nat → Bool} {g : Nat → Nat} {E : Option SO} {Y Z : Nat → BitVec 8} {n : Nat} {w : Bool} {el : TypeId} (hE : E = some (.own (.fn (byteF Y) n) w el)) (h : ∀ i, i < n → Y i = Z i) : Given p g E (.own (.fn (byteF Z) n) w el) :=
  ⟨_, w, el, _, hE, fun _ => rfl, fn_imp_lt fun i hi => by show (SV.int .u8 (.b8 (Y i))).Imp (.int .u8 (.b8 (Z i))); rw [h i hi]; exact .refl _, rfl⟩
theorem padL0_imp (X : Nat → BitVec 8) : (Cells.lst (kx .u8 padL0)).Imp (.fn (byteF (padF X 0 0)) 64) := by
  have hl : (kx .u8 padL0).length = 64 := by
    unfold kx padL0
    rw [mapN_eq, List.length_map, List.length_cons, repN_eq, List.length_replicate]
  refine imp_fn hl fun i v hv => ?_
  unfold kx padL0 at hv
  rw [mapN_eq, repN_eq] at hv
  have hi : i < 64 := by
    have := (List.getElem?_eq_some_iff.1 hv).1
    simpa using this
  show v.Imp (.int .u8 (.b8 (padF X 0 0 i)))
  unfold padF
  rw [if_neg (by omega)]
  cases i with
  | zero => simp at hv; subst hv; exact int_imp rfl
  | succ i =>
    rw [List.map_cons, List.getElem?_cons_succ, List.map_replicate, List.getElem?_replicate, if_pos (by omega)] at hv
    cases hv
    rw [if_neg (by omega)]
    split
    · refine int_imp ?_
      show (0 : Int) = ((lenByte 0 _).toNat : Int)
      unfold lenByte
      simp
    · exact int_imp rfl
theorem given_pad0 {p : Nat → Bool} {g : Nat → Nat} {E : Option SO} (X : Nat → BitVec 8) {el : TypeId} (hE : E = some (.own (.lst (kx .u8 padL0)) false el)) : Given p g E (.own (.fn (byteF (padF X 0 0)) 64) false el) :=
  ⟨_, false, el, _, hE, kx_uses _ _ _, by show (Cells.lst (SV.renL g (kx .u8 padL0))).Imp _; rw [kx_ren]; exact padL0_imp X, rfl⟩
theorem slice_imp {nm : Nat} {l l' : SN} (h : l.den = l'.den) : (SV.slice ⟨nm, .lit 0⟩ l (.rest nm 0)).Imp (.slice ⟨nm, .lit 0⟩ l' (.rest nm 0)) := by
  intro γ x hx
  rw [den_slice] at hx ⊢
  rw [← h]; exact hx
theorem padOK : SumOK Tryz.prog 81 padS := by
  intro glob O w0 β H w base args vs hH hG ha
  refine args1_sat fun v hv => sliceR_sat (fun hn => ?_) fun a l c hs => bytesE_sat fun X N ht => fun hle => ?_
  · rw [hv, hn] at ha
    exact sum_outO cfg0OK rfl 12000 hH ⟨[], [], [.nilSlice]⟩ ha (fits0 rfl) [128] (by simp) (by simp) pad_nil all_nil fun H2 hH2 => ⟨slice_imp rfl, rfl, trivial, ⟨given_pad0 _ (List.cons.inj hH2).1, trivial⟩⟩
  · rw [hv, hs] at ha
    rw [nth_eq] at ht
    obtain ⟨x, ys, hx, hys, rfl⟩ := denL_cons.1 ha
    obtain ⟨m, hm, hd, hd', _⟩ := slice_den hx
    have hfit : ∀ args : List SV, SV.usesL (Ifc.known ⟨[a.nm], [rowF X N], args⟩) args = true → Ifc.Fits ⟨[a.nm], [rowF X N], args⟩ H := fun args hu => Ifc.fits (by simp) hu ⟨⟨ht _, rowF_uses _ _ _⟩, trivial⟩
    by_cases h0 : l.den = 0
    · rw [h0]
      rw [h0] at hd
      exact sum_outO cfg0OK rfl 12000 hH ⟨[a.nm], [rowF X N], [.slice ⟨0, .sym a.off.den⟩ (.lit 0) (.sym m)]⟩ (denL_cons.2 ⟨_, _, hd, hys, rfl⟩) (hfit _ rfl) [129] (by simp) (by simp) (pad_zero X N a.off.den m) (all_cons (by omega) all_nil) fun H2 hH2 => ⟨slice_imp rfl, rfl, trivial, ⟨given_pad0 _ (List.cons.inj hH2).1, trivial⟩⟩
    · exact Go.Sim.sum_runs (c := cfg0) hH ⟨[a.nm], [rowF X N], padArgs a.off.den l.den m⟩ (fun g j h => by cases h) (denL_cons.2 ⟨_, _, hd, hys, rfl⟩) (hfit _ rfl) [17] (by simp) (by simp)
        (runs_mono (pad_runs hle.1 h0 hle.2) fun v H2 ⟨Y, h1, h2, h3⟩ => ⟨by rw [h1]; exact slice_imp rfl, by rw [h1]; rfl, trivial, ⟨given_bytesF h2 h3, trivial⟩⟩)

/- A block. -/
noncomputable def uni1 (v : SV) : Option W32 := v.asInt none fun k n => boolC (eqK k .i64) (si32 n) none
noncomputable def unI (l : List SV) : Option (List W32) := List.rec (motive := fun _ => Option (List W32)) (some []) (fun v _ ih => optC (uni1 v) none fun x => optC ih none fun xs => some (x :: xs)) l
theorem uni1_imp {v : SV} {x : W32} (h : uni1 v = some x) : v.Imp (iw x) := by
  unfold uni1 at h
  rcases asInt_cases v with ⟨k, n, rfl⟩ | hv
  · obtain ⟨hk, h⟩ := boolC_opt (show boolC (eqK k .i64) (si32 n) none = some x from h)
    rw [eqK_spec hk]
    cases n with
    | lit n =>
      cases n with
      | negSucc m => cases h
      | ofNat m =>
        obtain ⟨hm, h⟩ := boolC_opt (show boolC (Nat.blt m 4294967296) (some (wi m)) none = some x from h)
        cases h
        exact int_imp (wi_toNat (blt_spec hm)).symm
    | sym => cases h
    | b8 => cases h
    | b32 y => cases h; exact .refl _
    | b64 => cases h
  · rw [hv] at h; cases h
theorem unI_imp : ∀ {l : List SV} {xs : List W32}, unI l = some xs → SV.ImpL l (ux xs)
  | [], xs, h => by cases h; exact .refl _
  | v :: l, xs, h => by
    obtain ⟨x, hx, h⟩ := optC_opt (show (optC (uni1 v) none fun x => optC (unI l) none fun xs => some (x :: xs)) = some xs from h)
    obtain ⟨ys, hy, h⟩ := optC_opt h
    cases h
    exact impL_cons (uni1_imp hx) (unI_imp hy)
theorem ux_ren (f : Nat → Nat) : ∀ xs, SV.renL f (ux xs) = ux xs
  | [] => rfl
  | x :: xs => by show _ :: SV.renL f (ux xs) = _; rw [ux_ren f xs]; rfl
theorem ux_uses (p : Nat → Bool) : ∀ xs, SV.usesL p (ux xs) = true
  | [] => rfl
  | x :: xs => by show (true && SV.usesL p (ux xs)) = true; rw [ux_uses p xs]; rfl
/-- a slice, or the tail of one that is not empty: name, place, length -/
noncomputable def sliceW (v : SV) (nil : R α) (f : Nat → Nat → SN → R α) : R α :=
  SV.rec (motive_1 := fun _ => R α) (motive_2 := fun _ => Unit) (fun _ _ => .stuck 713) (fun _ => .stuck 713) (fun _ => .stuck 713) (fun _ => .stuck 713) (.stuck 713) (fun a l _ => f a.nm a.off.den l) nil (fun _ => .stuck 713) (.stuck 713) (fun _ _ _ _ _ => .stuck 713) (.stuck 713) (fun _ _ _ => .stuck 713) (.stuck 713) (fun _ _ => .stuck 713) (fun _ _ => .stuck 713) (fun _ => .stuck 713)
    (fun a n l _ => .need (0 < l.den) (f a.nm (a.off.den + n.den) l)) () (fun _ _ _ _ => ()) v
theorem sliceW_sat {v : SV} {nil : R α} {f : Nat → Nat → SN → R α} {φ : α → Prop} (h0 : v = .nilSlice → nil.Sat φ)
    (h : ∀ nm o l, (∀ γ x, v.den γ = some x → ∃ m, l.den ≤ m ∧ (SV.slice ⟨nm, .sym o⟩ (.sym l.den) (.sym m)).den γ = some x) → (f nm o l).Sat φ) : (sliceW v nil f).Sat φ := by
  cases v <;> first | trivial | exact h0 rfl | skip
  · rename_i a l c
    exact h a.nm a.off.den l fun γ x hx => by
      obtain ⟨m, h1, h2, _, _⟩ := slice_den hx
      exact ⟨m, h1, h2⟩
  · rename_i a n l c
    intro hl
    refine h a.nm (a.off.den + n.den) l fun γ x hx => ?_
    rw [den_tail] at hx
    obtain ⟨A, C, hA, hC, hle, rfl⟩ := hx
    rw [if_neg (by omega)]
    refine ⟨C, hle, ?_⟩
    rw [den_slice]
    obtain ⟨ll, hl2, rfl⟩ := SA.den_some hA
    exact ⟨_, C, by simp only [SA.den, hl2, Option.map_some, SN.den]; rfl, rfl, hle, by rw [addr_add, Nat.add_assoc]; rfl⟩
noncomputable def blockS : Summ := fun args H _ => args2 args fun h v => h.asAgg (.stuck 762) fun l => optC (unI l) (.stuck 762) fun ws => boolC (Nat.beq (lenN ws) 8) (shaT H (sliceW v (.stuck 763) fun nm o len => boolC (newOne nm) (lenIs len 64 (bytesE (nth H nm) fun X N => .need (o + 64 ≤ N) (.ok ⟨.agg (ux (eight (cmpW ws (words16 X o)))), [], []⟩)) (.stuck 763)) (.stuck 763))) (.stuck 762)
theorem rconF_taken {H : List SO} (hT : ShaT H) (g : Nat → Nat) : ∃ e', H[3]? = some e' ∧ Taken g rconF e' := by
  obtain ⟨e', he, c0, hc, hf⟩ := hT.s3 g
  refine ⟨e', he, c0, hc, ?_⟩
  intro γ vs hv
  obtain ⟨k, hk⟩ := hf γ vs hv
  refine ⟨k, ?_⟩
  have hk : CellsRel γ (.lst (SV.renL g (kx .i64 constL))) (vs.take k) := hk
  rw [kx_ren] at hk
  have hi : (Cells.lst (kx .i64 constL)).Imp (.fn (fun i => iw (kW i)) 64) := by
    refine imp_fn rfl fun i v hv => ?_
    unfold kx at hv
    rw [mapN_eq, List.getElem?_map] at hv
    cases hc : constL[i]? with
    | none => rw [hc] at hv; cases hv
    | some t =>
      rw [hc] at hv
      cases hv
      refine int_imp ?_
      show (t : Int) = ((kW i).toNat : Int)
      have hlt : t < 4294967296 := by
        have hall : ∀ t ∈ constL, t < 4294967296 := by decide
        exact hall t (List.mem_of_getElem? hc)
      unfold kW atW constV'
      rw [nth_eq, mapN_eq, List.getElem?_map, hc]
      exact (wi_toNat hlt).symm
  exact hi _ _ hk
theorem blockOK : SumAt Tryz.prog globS 82 blockS := by
  intro O w0 β H w base args vs hH hG ha
  refine args2_sat fun h v hv => ?_
  rcases asAgg_cases h with ⟨l, rfl⟩ | hno
  · refine optC_only fun ws hws => boolC_only fun h8 => shaT_sat fun hT => sliceW_sat (fun _ => trivial) fun nm o len hsl => boolC_only fun hn => lenIs_sat (fun hl => bytesE_sat fun X N ht => fun hle => ?_) fun _ => trivial
    rw [hv] at ha
    rw [nth_eq] at ht
    obtain ⟨x, ys, hx, hys, rfl⟩ := denL_cons.1 ha
    obtain ⟨y, zs, hy, hz, rfl⟩ := denL_cons.1 hys
    obtain ⟨m, hm, hd⟩ := hsl _ _ hy
    rw [hl] at hd
    have h8 := beq_spec h8
    rw [lenN_eq] at h8
    have hx' : (SV.agg (ux (eight ws))).den β = some x := by
      rw [eight_eq h8]
      simp only [SV.den, Option.map_eq_some_iff] at hx ⊢
      obtain ⟨us, hus, rfl⟩ := hx
      exact ⟨us, unI_imp hws _ _ hus, rfl⟩
    have hd' : (SV.slice ⟨nm, .sym o⟩ (.lit 64) (.sym m)).den β = some y := by
      rw [den_slice] at hd ⊢
      exact hd
    rw [eight_eq (cmpW_length h8)]
    refine Go.Sim.sum_runs (c := cfgR1) hH ⟨[0, 1, 2, 3, nm], blkEnts X N, blkArgs o m ws⟩ (shaI_glob (names := [nm]) (ents := [rowF X N]) (args := blkArgs o m ws) hG) (denL_cons.2 ⟨_, _, ?_, denL_cons.2 ⟨_, _, hd', hz, rfl⟩, rfl⟩) (Ifc.fits (nd5 hn) ?_ ⟨⟨hT.s0 _, kx_uses _ _ _⟩, ⟨hT.s1 _, kx_uses _ _ _⟩, ⟨hT.s2 _ rfl, rfl⟩, ⟨rconF_taken hT _, fun _ => rfl⟩, ⟨ht _, rowF_uses _ _ _⟩, trivial⟩) [] (by simp) (by simp) (runs_mono (blk_runs h8 hle) fun v H2 h => ?_)
    · show (SV.agg (SV.renL _ (ux (eight ws)))).den β = _
      rw [ux_ren]; exact hx'
    · show (SV.usesL _ (ux (eight ws)) && true) = true
      rw [ux_uses]; rfl
    · subst h
      refine ends0 rfl ?_ (ux_uses _ _)
      show SV.agg (ux _) = .agg (SV.renL _ (ux _))
      rw [ux_ren]
  · rw [hno]; trivial
noncomputable def cfgR2 : Cfg := cfgG globS (sumsOf [(81, padS), (82, blockS)])
theorem cfgR2OK : CfgOK cfgR2 := sumsG_ok (allS (padOK _) (allS blockOK (by simp)))
end Go.Proofs.YtflafdhmmcknhaaGreatDoor.Aes


/-
  The reference's hash: Sum.
-/
namespace Go.Proofs.YtflafdhmmcknhaaGreatDoor.Aes
open Go.Sim
open Go.Proofs
variable {α : Type}

section
variable (X : Nat → BitVec 8) (N o n m : Nat)
noncomputable def rsmArgs : List SV := [.slice ⟨4, .sym o⟩ (.sym n) (.sym m)]
noncomputable def rsmEnts (X : Nat → BitVec 8) (N : Nat) : List SO := shaH [rowF X N]
noncomputable def rsmS0 : SS := stopOf (callSim (cfgR2.at (some (1, 3))) 4000 66 (rsmArgs o n m) (rsmEnts X N)) []
structure RsmA where
  i : Int
  V : List W32
noncomputable def padX (X : Nat → BitVec 8) (o n : Nat) : Nat → BitVec 8 := padF (fun i => X (o + i)) n n
noncomputable def rsmC (A : RsmA) : Cut :=
  ⟨bareFs (rsmS0 X N o n m).frames [[(2, .ptr ⟨5, .lit 0⟩), (3, .ptr ⟨6, .lit 0⟩), (4, .slice ⟨7, .lit 0⟩ (.sym (lenP n)) (.rest 7 0)), (5, .int .i64 (.sym A.i))]],
   [.ent startR, .ent constR, .ent rconV, .ent rconR, .ent (rowF X N), entN (rsmS0 X N o n m).heap 5, .ent (.own (.lst (ux (eight A.V))) true 126), .ent (.own (.fn (byteF (padX X o n)) (lenP n)) false 5)]⟩
noncomputable def rsmNs : List Nat := fromN 8 0
theorem rsm_init (z : Nat → Nat → Nat) : outL [] (rsmC X N o n m ⟨0, startV⟩) rsmNs (callSim (cfgR2.at (some (1, 3))) 4000 66 (rsmArgs o n m) (rsmEnts X N)) [] z =
    ([IsB (byteF X), o + n ≤ N ∧ n ≤ 1099511627776], some (.inr (modSeen [(0, 5, .int .i64 (.lit 0))] [(6, .ent (.own (.lst (kx .i64 startL)) true 126))] (seenC rsmNs 8 (rsmC X N o n m ⟨0, startV⟩))))) := by kernel_rfl
theorem rsm_names (A B : RsmA) : boolC (namesOK 5 rsmNs (rsmC X N o n m A) (rsmC X N o n m B)) (allN noLoopE (rsmC X N o n m B).heap) false = true := by kernel_rfl
theorem rsm_tmp (A : RsmA) : (((rsmC X N o n m A).frames[0]?).bind fun p => p.tmps[5]?) = some (some (.int .i64 (.sym A.i))) := by kernel_rfl
theorem rsm_end (A : RsmA) (J : Junk) (z : Nat → Nat → Nat) : outL [] (rsmC X N o n m A) rsmNs (sim1 (cfgR2.at none) 8000 ((rsmC X N o n m A).fill J)) [false] z =
    ([decide (A.i < (lenP n : Int)) = false], some (.inl (.agg (bx (hashB A.V)), []))) := by kernel_rfl
noncomputable def cRsm (L : Nat) (i : Int) (P : Nat → BitVec 8) : List Prop :=
  [decide (i < (L : Int)) = true, inI64 (i + 64), 0 ≤ i + 64 ∧ i + 64 ≤ (L : Int), 0 ≤ i ∧ i ≤ ((i + 64).toNat : Int), 0 < (i + 64).toNat - i.toNat, decide ((i + 64).toNat - i.toNat = 64) = true, IsB (byteF P), 0 + i.toNat * 1 + 64 ≤ L, inI64 (i + 64)]
theorem rsm_turn (A : RsmA) (J : Junk) (z : Nat → Nat → Nat) : outL [] (rsmC X N o n m A) rsmNs (sim1 (cfgR2.at (some (1, 3))) 4000 ((rsmC X N o n m A).fill J)) [true, true] z =
    (cRsm (lenP n) A.i (padX X o n), some (.inr (seenC rsmNs 8 (rsmC X N o n m ⟨A.i + 64, cmpW (eight A.V) (words16 (padX X o n) (0 + A.i.toNat * 1))⟩)))) := by kernel_rfl
end
theorem rsm_nil : outO [] (callSim cfgR2 8000 66 [.nilSlice] (shaH [])) [true, false] =
    ([decide ((0 : Int) < (lenP 0 : Int)) = true, 64 ≤ lenP 0, IsB (byteF (padF (fun _ => 0#8) 0 0)), 0 + 64 ≤ lenP 0, decide ((64 : Int) < (lenP 0 : Int)) = false], some (.agg (bx (hashB (cmpW (eight startV) (words16 (padF (fun _ => 0#8) 0 0) 0)))), [])) := by kernel_rfl
section
variable {X : Nat → BitVec 8} {N o n m : Nat}
structure RsmQ (X : Nat → BitVec 8) (o n : Nat) (A : RsmA) (k : Nat) : Prop where
  i : A.i = ((64 * k : Nat) : Int)
  le : k ≤ (n + 72) / 64
  V : A.V = iterW startV (padX X o n) k
theorem startI_imp {f : Nat → Nat} : ImpE f (some (.ent (.own (.lst (kx .i64 startL)) true 126))) (.ent (.own (.lst (ux (eight startV))) true 126)) := by
  refine ⟨_, rfl, ?_⟩
  show SV.ImpL _ (SV.renL f (ux (eight startV)))
  rw [ux_ren]
  exact unI_imp (by kernel_rfl)
theorem rsm_runs (hN : o + n ≤ N) (hn : n ≤ 1099511627776) : Runs cfgR2 66 (rsmArgs o n m) (rsmEnts X N) fun v _ => v = .agg (bx (shaF (fun i => X (o + i)) n)) := by
  have hb := lenP_bounds n
  have hL : lenP n = 64 * ((n + 72) / 64) := rfl
  refine runs_by cfgR2OK (rsmC X N o n m) (fun A => ∃ k, RsmQ X o n A k) (fun A => lenP n - A.i.toNat) (fun g nm hg => Nat.lt_of_lt_of_le (globS_lt hg) (by show 3 ≤ 5; omega)) ?_ fun A ⟨k, hA⟩ J => ?_
  · refine to_startM (some (1, 3)) 4000 ⟨0, startV⟩ ⟨0, rfl, Nat.zero_le _, rfl⟩ (rsm_init X N o n m) (rsm_names X N o n m _ _) ?_ ?_ (all_cons (byteF_isB X) (all_cons ⟨hN, hn⟩ all_nil))
    · intro e he p u hp hu
      rw [List.mem_singleton] at he; subst he
      exact tmp_imp (rsm_tmp X N o n m _) hp hu (int_imp rfl)
    · intro e he E0 hE
      rw [List.mem_singleton] at he; subst he
      cases hE
      exact startI_imp
  · obtain ⟨h1, h2, h3⟩ := hA
    by_cases hk : k < (n + 72) / 64
    · refine to_turn (some (1, 3)) 4000 ⟨A.i + 64, cmpW (eight A.V) (words16 (padX X o n) (0 + A.i.toNat * 1))⟩ ⟨⟨k + 1, by show A.i + 64 = _; omega, by omega, ?_⟩, ?_⟩ (rsm_turn X N o n m A J) (rsm_names X N o n m _ _) ?_
      · show cmpW (eight A.V) (words16 (padX X o n) (0 + A.i.toNat * 1)) = iterW startV (padX X o n) (k + 1)
        rw [iterW_succ, show 0 + A.i.toNat * 1 = 64 * k from by omega, h3]
      · show lenP n - (A.i + 64).toNat < lenP n - A.i.toNat
        omega
      · exact all_cons (decide_eq_true (by omega)) (all_cons ⟨by omega, by omega⟩ (all_cons ⟨by omega, by omega⟩ (all_cons ⟨by omega, by omega⟩ (all_cons (by omega) (all_cons (decide_eq_true (by omega)) (all_cons (byteF_isB _) (all_cons (by omega) (all_cons ⟨by omega, by omega⟩ all_nil))))))))
    · refine to_end none 8000 (rsm_end X N o n m A J) (all_cons (decide_eq_false (by omega)) all_nil) fun H _ => ?_
      show SV.agg (bx (hashB A.V)) = _
      rw [h3, show k = (n + 72) / 64 from by omega]; rfl
end
/-- what is hashed, of so many bytes at most -/
noncomputable def hashM (F : (Nat → BitVec 8) → Nat → List (BitVec 8)) (mx : Nat) : Summ := fun args H _ => args1 args fun v => shaT H (sliceR v (.ok ⟨.agg (bx (F (fun _ => 0#8) 0)), [], []⟩) fun a l => boolC (newOne a.nm) (bytesE (nth H a.nm) fun X N => .need (a.off.den + l.den ≤ N ∧ l.den ≤ mx) (.ok ⟨.agg (bx (F (fun i => X (a.off.den + i)) l.den)), [], []⟩)) (.stuck 740))
theorem rsmOK : SumAt Tryz.prog globS 66 (hashM shaF 1099511627776) := by
  intro O w0 β H w base args vs hH hG ha
  refine args1_sat fun v hv => shaT_sat fun hT => sliceR_sat (fun hn => ?_) fun a l c hs => boolC_only fun hn => bytesE_sat fun X N ht => fun hle => ?_
  · rw [hv, hn] at ha
    refine sum_outOG cfgR2OK 8000 hH (shaI [] [] [.nilSlice]) (shaI_glob hG) ha (Ifc.fits (by simp [shaI]) rfl (shaI_ents hT trivial)) [] (by simp) (by simp) rsm_nil ?_ fun _ _ => endsV rfl ?_
    · exact all_cons (by decide) (all_cons (by decide) (all_cons (byteF_isB _) (all_cons (by decide) (all_cons (by decide) all_nil))))
    · unfold shaF
      rw [show (0 + 72) / 64 = 0 + 1 from rfl, iterW_succ]; rfl
  · rw [hv, hs] at ha
    rw [nth_eq] at ht
    obtain ⟨x, ys, hx, hys, rfl⟩ := denL_cons.1 ha
    obtain ⟨m, hm, hd, _, _⟩ := slice_den hx
    exact Go.Sim.sum_runs (c := cfgR2) hH (shaI [a.nm] [rowF X N] (rsmArgs a.off.den l.den m)) (shaI_glob hG) (denL_cons.2 ⟨_, _, hd, hys, rfl⟩) (Ifc.fits (nd5 hn) rfl (shaI_ents hT ⟨⟨ht _, rowF_uses _ _ _⟩, trivial⟩)) [] (by simp) (by simp)
      (runs_mono (rsm_runs hle.1 hle.2) fun v H h => endsV rfl h)
end Go.Proofs.YtflafdhmmcknhaaGreatDoor.Aes


/-
  The symbolic simulator, thirty-fourth part: a summary that is a run of the function itself, where all is known.
-/
namespace Go.Sim
variable {α : Type}

noncomputable def usesEs (p : Nat → Bool) (es : List (SV × SV × Nat)) : Bool := List.rec (motive := fun _ => Bool) true (fun e _ ih => boolC (e.1.uses p) (boolC (e.2.1.uses p) ih false) false) es
noncomputable def SObj.uses (p : Nat → Bool) (o : SObj) : Bool := SObj.rec (motive := fun _ => Bool) (fun es _ => usesEs p es) (fun m _ _ _ => optC m true p) (fun _ _ => true) o
theorem entsDen_uses {p : Nat → Bool} {β β' : Val} (hp : ∀ n, p n = true → β n = β' n) : (es : List (SV × SV × Nat)) → usesEs p es = true → entsDen β es = entsDen β' es
  | [], _ => rfl
  | e :: r, h => by
    obtain ⟨h1, h2⟩ := boolC_and (show boolC (e.1.uses p) (boolC (e.2.1.uses p) (usesEs p r) false) false = true from h)
    obtain ⟨h2, h3⟩ := boolC_and h2
    simp only [entsDen, SV.den_uses hp _ h1, SV.den_uses hp _ h2, entsDen_uses hp r h3]
theorem SObj.den_uses {p : Nat → Bool} {β β' : Val} (hp : ∀ n, p n = true → β n = β' n) {o : SObj} (h : o.uses p = true) : o.den β = o.den β' := by
  cases o with
  | map es c =>
    show (entsDen β es).map _ = (entsDen β' es).map _
    rw [entsDen_uses hp es h]
  | iter m since seen last =>
    cases m with
    | none => rfl
    | some m =>
      have h : p m = true := h
      show (β m).map _ = (β' m).map _
      rw [hp m h]
  | str s pos => rfl

/-- the heap az the function is to see it -/
noncomputable def maskH (M : List Nat) (H : List SO) : Nat → List SO := List.rec (motive := fun _ => Nat → List SO) (fun _ => []) (fun e _ ih i => boolC (memN i M) e .gone :: ih (Nat.succ i)) H



/- All ends of a run, told by a closed term. -/
end Go.Sim

