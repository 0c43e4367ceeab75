/-
  Decrypting inverts encrypting and the other way round, on bytes: the plain law.
-/
import Derived.Test.YtdnaaeagllejjaaAes4
namespace Go.Proofs.Ytdnaaeagllejjaa.Aes
open Go.Sim
open Go.Proofs

theorem xx (a b : BitVec 8) : a ^^^ (a ^^^ b) = b := by rw [← BitVec.xor_assoc, BitVec.xor_self, BitVec.zero_xor]
theorem xlc (a b c : BitVec 8) : a ^^^ (b ^^^ c) = b ^^^ (a ^^^ c) := by rw [← BitVec.xor_assoc, BitVec.xor_comm a b, BitVec.xor_assoc]
theorem dbl_xor (a b : BitVec 8) : dbl (a ^^^ b) = dbl a ^^^ dbl b := by
  have h : ∀ a : BitVec 8, dbl a = (a <<< 1) ^^^ (if a.msb then 27#8 else 0#8) := by
    intro a
    unfold dbl
    have hm : a.msb = decide (128 ≤ a.toNat) := by rw [BitVec.msb_eq_decide]
    by_cases hc : 128 ≤ a.toNat
    · rw [if_pos hc, hm, decide_eq_true hc, if_pos rfl]
    · rw [if_neg hc, hm, decide_eq_false hc]; simp
  rw [h, h, h, BitVec.msb_xor, BitVec.shiftLeft_xor_distrib]
  have x27 : ∀ a : BitVec 8, a = 27#8 ^^^ (a ^^^ 27#8) := fun a => by rw [BitVec.xor_comm a, xx]
  cases a.msb <;> cases b.msb <;> simp [BitVec.xor_assoc]
  · first | exact BitVec.xor_comm _ _ | exact xlc _ _ _
  · exact x27 _
theorem tab_inv : (List.range 256).all (fun n => Nat.beq ((tabN[256 + (tabN[n]?).getD 0]?).getD 0) n && Nat.beq ((tabN[(tabN[256 + n]?).getD 0]?).getD 0) n) = true := by kernel_rfl
theorem tab_inv' (x : BitVec 8) : (tabN[256 + (tabN[x.toNat]?).getD 0]?).getD 0 = x.toNat ∧ (tabN[(tabN[256 + x.toNat]?).getD 0]?).getD 0 = x.toNat := by
  have h := List.all_eq_true.1 tab_inv x.toNat (List.mem_range.2 x.isLt)
  rw [Bool.and_eq_true] at h
  exact ⟨beq_spec h.1, beq_spec h.2⟩
theorem tabB_nat (i : Nat) : (tabB i).toNat = (tabN[i]?).getD 0 := by
  unfold tabB
  have : (tabN[i]?).getD 0 < 256 := by
    cases h : tabN[i]? with
    | none => simp
    | some n => exact tab_small n (List.mem_of_getElem? h)
  rw [BitVec.toNat_ofNat, Nat.mod_eq_of_lt (by omega)]
theorem rec_sub (x : BitVec 8) : recB (subB x) = x := by
  apply BitVec.eq_of_toNat_eq
  unfold recB subB
  rw [tabB_nat, tabB_nat, (tab_inv' x).1]
theorem sub_rec (x : BitVec 8) : subB (recB x) = x := by
  apply BitVec.eq_of_toNat_eq
  unfold recB subB
  rw [tabB_nat, tabB_nat, (tab_inv' x).2]
def L16 (xs : List (BitVec 8)) : Prop := xs.length = 16
theorem L16.ex {xs : List (BitVec 8)} (h : L16 xs) : ∃ x0 x1 x2 x3 x4 x5 x6 x7 x8 x9 xa xb xc xd xe xf, xs = [x0, x1, x2, x3, x4, x5, x6, x7, x8, x9, xa, xb, xc, xd, xe, xf] := by
  refine sixteen ?_
  rw [lenN_eq, h]; rfl
theorem map_map {F G : BitVec 8 → BitVec 8} (h : ∀ x, F (G x) = x) {xs : List (BitVec 8)} (hx : L16 xs) : mapL F (mapL G xs) = xs := by
  obtain ⟨x0, x1, x2, x3, x4, x5, x6, x7, x8, x9, xa, xb, xc, xd, xe, xf, rfl⟩ := hx.ex
  show [F (G x0), F (G x1), F (G x2), F (G x3), F (G x4), F (G x5), F (G x6), F (G x7), F (G x8), F (G x9), F (G xa), F (G xb), F (G xc), F (G xd), F (G xe), F (G xf)] = _
  simp only [h]
theorem unshift_shift {xs : List (BitVec 8)} (hx : L16 xs) : unshiftL (shiftL xs) = xs := by
  obtain ⟨x0, x1, x2, x3, x4, x5, x6, x7, x8, x9, xa, xb, xc, xd, xe, xf, rfl⟩ := hx.ex
  rfl
theorem shift_unshift {xs : List (BitVec 8)} (hx : L16 xs) : shiftL (unshiftL xs) = xs := by
  obtain ⟨x0, x1, x2, x3, x4, x5, x6, x7, x8, x9, xa, xb, xc, xd, xe, xf, rfl⟩ := hx.ex
  rfl
theorem xxr (a b : BitVec 8) : a ^^^ b ^^^ b = a := by rw [BitVec.xor_assoc, BitVec.xor_self, BitVec.xor_zero]
theorem add_add {xs ks : List (BitVec 8)} (hx : L16 xs) : addL (addL xs ks) ks = xs := by
  obtain ⟨x0, x1, x2, x3, x4, x5, x6, x7, x8, x9, xa, xb, xc, xd, xe, xf, rfl⟩ := hx.ex
  generalize byteAt ks = k
  show [x0 ^^^ byteAt ks 0 ^^^ byteAt ks 0, x1 ^^^ byteAt ks 1 ^^^ byteAt ks 1, x2 ^^^ byteAt ks 2 ^^^ byteAt ks 2, x3 ^^^ byteAt ks 3 ^^^ byteAt ks 3, x4 ^^^ byteAt ks 4 ^^^ byteAt ks 4, x5 ^^^ byteAt ks 5 ^^^ byteAt ks 5, x6 ^^^ byteAt ks 6 ^^^ byteAt ks 6, x7 ^^^ byteAt ks 7 ^^^ byteAt ks 7,
    x8 ^^^ byteAt ks 8 ^^^ byteAt ks 8, x9 ^^^ byteAt ks 9 ^^^ byteAt ks 9, xa ^^^ byteAt ks 10 ^^^ byteAt ks 10, xb ^^^ byteAt ks 11 ^^^ byteAt ks 11, xc ^^^ byteAt ks 12 ^^^ byteAt ks 12, xd ^^^ byteAt ks 13 ^^^ byteAt ks 13, xe ^^^ byteAt ks 14 ^^^ byteAt ks 14, xf ^^^ byteAt ks 15 ^^^ byteAt ks 15] = _
  simp only [xxr]
/-- a column mixed, and mixed back -/
theorem unmix_mix (a b c d : BitVec 8) : mixW false (mixW true a b c d) (mixW true b c d a) (mixW true c d a b) (mixW true d a b c) = a := by
  simp only [mixW, m3, m9, m11, m13, m14, dbl_xor, if_true, Bool.false_eq_true, if_false]
  generalize dbl (dbl (dbl (dbl a))) = a4; generalize dbl (dbl (dbl a)) = a3; generalize dbl (dbl a) = a2; generalize dbl a = a1
  generalize dbl (dbl (dbl (dbl b))) = b4; generalize dbl (dbl (dbl b)) = b3; generalize dbl (dbl b) = b2; generalize dbl b = b1
  generalize dbl (dbl (dbl (dbl c))) = c4; generalize dbl (dbl (dbl c)) = c3; generalize dbl (dbl c) = c2; generalize dbl c = c1
  generalize dbl (dbl (dbl (dbl d))) = d4; generalize dbl (dbl (dbl d)) = d3; generalize dbl (dbl d) = d2; generalize dbl d = d1
  simp only [BitVec.xor_assoc, BitVec.xor_comm, xlc, xx, BitVec.xor_self, BitVec.xor_zero]
theorem mix_unmix (a b c d : BitVec 8) : mixW true (mixW false a b c d) (mixW false b c d a) (mixW false c d a b) (mixW false d a b c) = a := by
  simp only [mixW, m3, m9, m11, m13, m14, dbl_xor, if_true, Bool.false_eq_true, if_false]
  generalize dbl (dbl (dbl (dbl a))) = a4; generalize dbl (dbl (dbl a)) = a3; generalize dbl (dbl a) = a2; generalize dbl a = a1
  generalize dbl (dbl (dbl (dbl b))) = b4; generalize dbl (dbl (dbl b)) = b3; generalize dbl (dbl b) = b2; generalize dbl b = b1
  generalize dbl (dbl (dbl (dbl c))) = c4; generalize dbl (dbl (dbl c)) = c3; generalize dbl (dbl c) = c2; generalize dbl c = c1
  generalize dbl (dbl (dbl (dbl d))) = d4; generalize dbl (dbl (dbl d)) = d3; generalize dbl (dbl d) = d2; generalize dbl d = d1
  simp only [BitVec.xor_assoc, BitVec.xor_comm, xlc, xx, BitVec.xor_self, BitVec.xor_zero]
theorem mix_mix {k : Bool} {xs : List (BitVec 8)} (hx : L16 xs) (h : ∀ a b c d, mixW (!k) (mixW k a b c d) (mixW k b c d a) (mixW k c d a b) (mixW k d a b c) = a) : mixL (!k) (mixL k xs) = xs := by
  obtain ⟨x0, x1, x2, x3, x4, x5, x6, x7, x8, x9, xa, xb, xc, xd, xe, xf, rfl⟩ := hx.ex
  show [mixW (!k) (mixW k x0 x1 x2 x3) (mixW k x1 x2 x3 x0) (mixW k x2 x3 x0 x1) (mixW k x3 x0 x1 x2), mixW (!k) (mixW k x1 x2 x3 x0) (mixW k x2 x3 x0 x1) (mixW k x3 x0 x1 x2) (mixW k x0 x1 x2 x3), mixW (!k) (mixW k x2 x3 x0 x1) (mixW k x3 x0 x1 x2) (mixW k x0 x1 x2 x3) (mixW k x1 x2 x3 x0), mixW (!k) (mixW k x3 x0 x1 x2) (mixW k x0 x1 x2 x3) (mixW k x1 x2 x3 x0) (mixW k x2 x3 x0 x1),
    mixW (!k) (mixW k x4 x5 x6 x7) (mixW k x5 x6 x7 x4) (mixW k x6 x7 x4 x5) (mixW k x7 x4 x5 x6), mixW (!k) (mixW k x5 x6 x7 x4) (mixW k x6 x7 x4 x5) (mixW k x7 x4 x5 x6) (mixW k x4 x5 x6 x7), mixW (!k) (mixW k x6 x7 x4 x5) (mixW k x7 x4 x5 x6) (mixW k x4 x5 x6 x7) (mixW k x5 x6 x7 x4), mixW (!k) (mixW k x7 x4 x5 x6) (mixW k x4 x5 x6 x7) (mixW k x5 x6 x7 x4) (mixW k x6 x7 x4 x5),
    mixW (!k) (mixW k x8 x9 xa xb) (mixW k x9 xa xb x8) (mixW k xa xb x8 x9) (mixW k xb x8 x9 xa), mixW (!k) (mixW k x9 xa xb x8) (mixW k xa xb x8 x9) (mixW k xb x8 x9 xa) (mixW k x8 x9 xa xb), mixW (!k) (mixW k xa xb x8 x9) (mixW k xb x8 x9 xa) (mixW k x8 x9 xa xb) (mixW k x9 xa xb x8), mixW (!k) (mixW k xb x8 x9 xa) (mixW k x8 x9 xa xb) (mixW k x9 xa xb x8) (mixW k xa xb x8 x9),
    mixW (!k) (mixW k xc xd xe xf) (mixW k xd xe xf xc) (mixW k xe xf xc xd) (mixW k xf xc xd xe), mixW (!k) (mixW k xd xe xf xc) (mixW k xe xf xc xd) (mixW k xf xc xd xe) (mixW k xc xd xe xf), mixW (!k) (mixW k xe xf xc xd) (mixW k xf xc xd xe) (mixW k xc xd xe xf) (mixW k xd xe xf xc), mixW (!k) (mixW k xf xc xd xe) (mixW k xc xd xe xf) (mixW k xd xe xf xc) (mixW k xe xf xc xd)] = _
  simp only [h]
theorem mix_tf {xs : List (BitVec 8)} (hx : L16 xs) : mixL false (mixL true xs) = xs := mix_mix (k := true) hx unmix_mix
theorem mix_ft {xs : List (BitVec 8)} (hx : L16 xs) : mixL true (mixL false xs) = xs := mix_mix (k := false) hx mix_unmix
theorem l_add (xs ks : List (BitVec 8)) : L16 (addL xs ks) := rfl
theorem l_mix (k : Bool) (xs : List (BitVec 8)) : L16 (mixL k xs) := rfl
theorem l_shift (xs : List (BitVec 8)) : L16 (shiftL xs) := rfl
theorem l_unshift (xs : List (BitVec 8)) : L16 (unshiftL xs) := rfl
theorem l_map (F : BitVec 8 → BitVec 8) (xs : List (BitVec 8)) : L16 (mapL F xs) := rfl
theorem l_enc (K : Nat → BitVec 8) (r : Nat) (xs : List (BitVec 8)) : L16 (encR K r xs) := rfl
theorem l_dec (K : Nat → BitVec 8) (r : Nat) (xs : List (BitVec 8)) : L16 (decR K r xs) := rfl
theorem dec_encR (K : Nat → BitVec 8) (r : Nat) {xs : List (BitVec 8)} (hx : L16 xs) : decR K r (encR K r xs) = xs := by
  unfold decR encR
  rw [add_add (l_mix _ _), mix_tf (l_shift _), unshift_shift (l_map _ _), map_map rec_sub hx]
theorem enc_decR (K : Nat → BitVec 8) (r : Nat) {xs : List (BitVec 8)} (hx : L16 xs) : encR K r (decR K r xs) = xs := by
  unfold decR encR
  rw [map_map sub_rec (l_unshift _), shift_unshift (l_mix _ _), mix_ft (l_add _ _), add_add hx]
theorem dec_enc (K : Nat → BitVec 8) {xs : List (BitVec 8)} (hx : L16 xs) : decL K (encL K xs) = xs := by
  unfold decL encL
  rw [add_add (l_shift _), unshift_shift (l_map _ _), map_map rec_sub (l_enc _ _ _)]
  rw [dec_encR K 9 (l_enc _ _ _), dec_encR K 8 (l_enc _ _ _), dec_encR K 7 (l_enc _ _ _), dec_encR K 6 (l_enc _ _ _), dec_encR K 5 (l_enc _ _ _), dec_encR K 4 (l_enc _ _ _), dec_encR K 3 (l_enc _ _ _), dec_encR K 2 (l_enc _ _ _), dec_encR K 1 (l_add _ _), add_add hx]
theorem enc_dec (K : Nat → BitVec 8) {xs : List (BitVec 8)} (hx : L16 xs) : encL K (decL K xs) = xs := by
  unfold decL encL
  rw [add_add (l_dec _ _ _)]
  rw [enc_decR K 1 (l_dec _ _ _), enc_decR K 2 (l_dec _ _ _), enc_decR K 3 (l_dec _ _ _), enc_decR K 4 (l_dec _ _ _), enc_decR K 5 (l_dec _ _ _), enc_decR K 6 (l_dec _ _ _), enc_decR K 7 (l_dec _ _ _), enc_decR K 8 (l_dec _ _ _), enc_decR K 9 (l_map _ _), map_map sub_rec (l_unshift _), shift_unshift (l_add _ _), add_add hx]
theorem block16_eq {xs : List (BitVec 8)} (hx : L16 xs) : block16 (byteAt xs) 0 = xs := by
  obtain ⟨x0, x1, x2, x3, x4, x5, x6, x7, x8, x9, xa, xb, xc, xd, xe, xf, rfl⟩ := hx.ex
  rfl

end Go.Proofs.Ytdnaaeagllejjaa.Aes
