/-
  CtsInverts: the law's own runs.
-/
import Derived.Test.YtdnaaeagllejjaaCts6
import Derived.Test.YtdnaaeagllejjaaInv3
namespace Go.Proofs.Ytdnaaeagllejjaa.Aes
open Go.Sim
open Go.Proofs
open Go.RowKit

/-- what a call of Encrypt or Decrypt asks for -/
noncomputable def callC (X Y Z : Nat → BitVec 8) (n n2 n3 l : Nat) (r : List Prop) : List Prop :=
  IsB (byteF Y) :: (0 + 16 ≤ n2) :: IsB (byteF X) :: (0 + 16 ≤ n) :: (decide (l < 16) = false) :: (decide (l < 131073) = true) :: IsB (byteF Z) :: (0 + l ≤ n3 ∧ l ≤ 224) :: r
noncomputable def eX (X Y Z : Nat → BitVec 8) (l : Nat) : Nat → BitVec 8 := byteAt (encF (block16 X 0) (block16 Y 0) (fun j => Z (0 + j)) l)
noncomputable def dX (X Y Z : Nat → BitVec 8) (l : Nat) : Nat → BitVec 8 := byteAt (decF (block16 X 0) (block16 Y 0) (fun j => Z (0 + j)) l)
noncomputable def strC (Z : Nat → BitVec 8) (l n : Nat) (r : List Prop) : List Prop := (0 + l ≤ n ∧ ∀ i, i < n → isByte (byteF Z i)) :: r
noncomputable def kI (l : Nat) : Int := IntKind.i64.wrap (((l : Int) + 15).tdiv 16) - 2
noncomputable def sK (l : Nat) : Int := wrapF .i64 (Int.mul 16 (kI l))
noncomputable def sL (l : Nat) : Nat := (sK l).toNat + (l - (sK l).toNat)
noncomputable def mixF (Z U : Nat → BitVec 8) (l : Nat) : Nat → BitVec 8 := catB (fun i => Z (0 + (0 + i))) (sK l).toNat fun i => U (0 + (sK l).toNat * 1 + i)
noncomputable def invP1 (X Y Z : Nat → BitVec 8) (n n2 n3 l : Nat) (r : List Prop) : List Prop :=
  (decide ((l : Int) < 16) = false) :: (decide ((l : Int) > 200) = false) :: callC X Y Z n n2 n3 l (callC X Y (eX X Y Z l) n n2 l l (callC X Y Z n n2 n3 l (callC X Y (dX X Y Z l) n n2 l l
    ((((l : Int) != (l : Int)) = false) :: (((l : Int) != (l : Int)) = false) :: strC (dX X Y (eX X Y Z l) l) l l (strC Z l n3 (((!decide (strOfFn (byteF (dX X Y (eX X Y Z l) l)) 0 l = strOfFn (byteF Z) 0 l)) = false)
    :: strC (eX X Y (dX X Y Z l) l) l l (strC Z l n3 (((!decide (strOfFn (byteF (eX X Y (dX X Y Z l) l)) 0 l = strOfFn (byteF Z) 0 l)) = false) :: inI64 ((l : Int) + 15) :: inI64 (kI l) :: r))))))))
noncomputable def invP2 (X Y Z U : Nat → BitVec 8) (n n2 n3 n4 l l4 : Nat) : List Prop :=
  (decide (kI l < 1) = false) :: (decide ((l4 : Int) < (l : Int)) = false) :: (0 ≤ sK l ∧ sK l ≤ (l : Int)) :: (0 + (sK l).toNat ≤ n3) :: (decide ((sK l).toNat = 0) = false) :: (roomy (sK l).toNat 1 ∧ 1 = 1)
  :: (0 ≤ (l : Int) ∧ (l : Int) ≤ (l4 : Int)) :: (0 ≤ sK l ∧ sK l ≤ (l : Int)) :: (0 + (sK l).toNat * 1 + (l - (sK l).toNat) ≤ n4 ∧ IsB (byteF U)) :: (0 + (sK l).toNat ≤ (sK l).toNat ∧ IsB (fun i => byteF Z (0 + i))) :: (roomy (sL l) 1 ∧ 1 = 1)
  :: callC X Y (mixF Z U l) n n2 (sL l) (sL l) (((((sL l : Nat) : Int) == (l : Int)) = true) :: (0 ≤ sK l ∧ sK l ≤ ((sL l : Nat) : Int)) :: strC (eX X Y (mixF Z U l) (sL l)) (sK l).toNat (sL l) ((0 ≤ sK l ∧ sK l ≤ (l : Int)) :: strC (eX X Y Z l) (sK l).toNat l
    [decide (strOfFn (byteF (eX X Y (mixF Z U l) (sL l))) 0 (sK l).toNat = strOfFn (byteF (eX X Y Z l)) 0 (sK l).toNat) = true]))
noncomputable def invDs : List Bool := [false, false, false, true, false, true, false, true, false, true, false, false, false, false]
theorem invC_run (X Y Z U : Nat → BitVec 8) (n c n2 c2 n3 c3 n4 c4 l l4 : Nat) : outO [] (callSim cfgC4 20000 5 [.slice ⟨0, .lit 0⟩ (.lit 16) (.sym c), .slice ⟨1, .lit 0⟩ (.lit 16) (.sym c2), .slice ⟨2, .lit 0⟩ (.sym l) (.sym c3), .slice ⟨3, .lit 0⟩ (.sym l4) (.sym c4)] [rowF X n, rowF Y n2, rowF Z n3, rowF U n4]) (app invDs [false, false, false, false, true, true, true]) =
    (invP1 X Y Z n n2 n3 l (invP2 X Y Z U n n2 n3 n4 l l4), some (.bool (.lit true), [])) := by kernel_rfl

theorem invC_k1 (X Y Z : Nat → BitVec 8) (v : Value) (n c n2 c2 n3 c3 l : Nat) : outO [] (callSim cfgC4 20000 5 [.slice ⟨0, .lit 0⟩ (.lit 16) (.sym c), .slice ⟨1, .lit 0⟩ (.lit 16) (.sym c2), .slice ⟨2, .lit 0⟩ (.sym l) (.sym c3), .val v] [rowF X n, rowF Y n2, rowF Z n3]) (app invDs (repN true 6)) =
    (invP1 X Y Z n n2 n3 l (repN (decide (kI l < 1) = true) 6), some (.bool (.lit true), [])) := by kernel_rfl
theorem invC_k2 (X Y Z : Nat → BitVec 8) (p4 : Option Addr) (n c n2 c2 n3 c3 c4 l l4 : Nat) : outO [] (callSim cfgC4 20000 5 [.slice ⟨0, .lit 0⟩ (.lit 16) (.sym c), .slice ⟨1, .lit 0⟩ (.lit 16) (.sym c2), .slice ⟨2, .lit 0⟩ (.sym l) (.sym c3), .val (.slice p4 l4 c4)] [rowF X n, rowF Y n2, rowF Z n3]) (app invDs [false, true]) =
    (invP1 X Y Z n n2 n3 l [decide (kI l < 1) = false, decide ((l4 : Int) < (l : Int)) = true], some (.bool (.lit true), [])) := by kernel_rfl
noncomputable def badA (p p2 p3 : Option Addr) (k c k2 c2 l c3 : Nat) (v : Value) : List SV := [.val (.slice p k c), .val (.slice p2 k2 c2), .val (.slice p3 l c3), .val v]
theorem invC_b1 (p p2 p3 : Option Addr) (k c k2 c2 l c3 : Nat) (v : Value) : outO [] (callSim cfgC4 20000 5 (badA p p2 p3 k c k2 c2 l c3 v) []) [true, true, true, true] = (repN (((k : Int) != 16) = true) 4, some (.bool (.lit true), [])) := by kernel_rfl
theorem invC_b2 (p p2 p3 : Option Addr) (k c k2 c2 l c3 : Nat) (v : Value) : outO [] (callSim cfgC4 20000 5 (badA p p2 p3 k c k2 c2 l c3 v) []) [false, true, true, true, true] = ((((k : Int) != 16) = false) :: repN (((k2 : Int) != 16) = true) 4, some (.bool (.lit true), [])) := by kernel_rfl
theorem invC_b3 (p p2 p3 : Option Addr) (k c k2 c2 l c3 : Nat) (v : Value) : outO [] (callSim cfgC4 20000 5 (badA p p2 p3 k c k2 c2 l c3 v) []) [false, false, true, true, true, true] = ((((k : Int) != 16) = false) :: (((k2 : Int) != 16) = false) :: repN (decide ((l : Int) < 16) = true) 4, some (.bool (.lit true), [])) := by kernel_rfl
theorem invC_b4 (p p2 p3 : Option Addr) (k c k2 c2 l c3 : Nat) (v : Value) : outO [] (callSim cfgC4 20000 5 (badA p p2 p3 k c k2 c2 l c3 v) []) [false, false, false, true] = ([((k : Int) != 16) = false, ((k2 : Int) != 16) = false, decide ((l : Int) < 16) = false, decide ((l : Int) > 200) = true], some (.bool (.lit true), [])) := by kernel_rfl

theorem kI_eq {l : Nat} (h : l ≤ 200) : kI l = (numB l : Int) - 2 := by
  unfold kI numB
  rw [Int.tdiv_eq_ediv_of_nonneg (by omega), IntKind.wrap_i64]
  omega
theorem sK_eq {l m : Nat} (h : l ≤ 200) (hm : 16 * m + 16 < l) (hm2 : l ≤ 16 * m + 32) : sK l = ((16 * m : Nat) : Int) := by
  unfold sK
  rw [kI_eq h, numB_two l hm hm2, wrapF_eq, IntKind.wrap_i64]
  show (Int.mul 16 (((m + 2 : Nat) : Int) - 2) + _) % _ - _ = _
  have : Int.mul 16 (((m + 2 : Nat) : Int) - 2) = 16 * (((m + 2 : Nat) : Int) - 2) := rfl
  rw [this]
  omega
theorem strOf_congr {F G : Nat → BitVec 8} {o o2 l : Nat} (h : ∀ i, i < l → F (o + i) = G (o2 + i)) : strOfFn (byteF F) o l = strOfFn (byteF G) o2 l := by
  unfold strOfFn
  congr 2
  apply List.map_congr_left
  intro i hi
  show UInt8.ofNat (((F (o + i)).toNat : Int)).toNat = UInt8.ofNat (((G (o2 + i)).toNat : Int)).toNat
  rw [h i (by simpa using hi)]
theorem callC_all {X Y Z : Nat → BitVec 8} {n n2 n3 l : Nat} {r : List Prop} (h1 : 16 ≤ n) (h2 : 16 ≤ n2) (h3 : l ≤ n3) (h4 : 16 ≤ l) (h5 : l ≤ 224) (hr : ∀ p ∈ r, p) : ∀ p ∈ callC X Y Z n n2 n3 l r, p :=
  all_cons (byteF_isB Y) (all_cons (by omega) (all_cons (byteF_isB X) (all_cons (by omega) (all_cons (decide_eq_false (by omega)) (all_cons (decide_eq_true (by omega)) (all_cons (byteF_isB Z) (all_cons ⟨by omega, h5⟩ hr)))))))
theorem strC_all {Z : Nat → BitVec 8} {l n : Nat} {r : List Prop} (h : l ≤ n) (hr : ∀ p ∈ r, p) : ∀ p ∈ strC Z l n r, p := all_cons ⟨by omega, fun _ _ => trivial⟩ hr
theorem not_dec {p : Prop} [Decidable p] (h : p) : (!decide p) = false := by simp [h]
theorem repN_all {p : Prop} (h : p) : ∀ n, ∀ q ∈ repN p n, q
  | 0 => all_nil
  | n + 1 => all_cons h (repN_all h n)
theorem dec_enc_str (X Y Z : Nat → BitVec 8) {l : Nat} (h : 16 ≤ l) : strOfFn (byteF (dX X Y (eX X Y Z l) l)) 0 l = strOfFn (byteF Z) 0 l :=
  strOf_congr fun i hi => by
    rw [Nat.zero_add]
    have := dec_enc_at (block16 X 0) (block16 Y 0) (fun j => Z (0 + j)) l (fun j => eX X Y Z l (0 + j)) h (fun p _ => by show eX X Y Z l (0 + p) = _; rw [Nat.zero_add]; rfl) hi
    unfold dX
    rw [this, Nat.zero_add]
theorem enc_dec_str (X Y Z : Nat → BitVec 8) {l : Nat} (h : 16 ≤ l) : strOfFn (byteF (eX X Y (dX X Y Z l) l)) 0 l = strOfFn (byteF Z) 0 l :=
  strOf_congr fun i hi => by
    rw [Nat.zero_add]
    have := enc_dec_at (block16 X 0) (block16 Y 0) (fun j => Z (0 + j)) l (fun j => dX X Y Z l (0 + j)) h (fun p _ => by show dX X Y Z l (0 + p) = _; rw [Nat.zero_add]; rfl) hi
    unfold eX
    rw [this, Nat.zero_add]
theorem invP1_all {X Y Z : Nat → BitVec 8} {n n2 n3 l : Nat} {r : List Prop} (h1 : 16 ≤ n) (h2 : 16 ≤ n2) (h3 : l ≤ n3) (h4 : 16 ≤ l) (h5 : l ≤ 200) (hr : ∀ p ∈ r, p) : ∀ p ∈ invP1 X Y Z n n2 n3 l r, p := by
  have hne : ((l : Int) != (l : Int)) = false := by simp
  have hk := kI_eq h5
  refine all_cons (decide_eq_false (by omega)) (all_cons (decide_eq_false (by omega)) (callC_all h1 h2 h3 h4 (by omega) (callC_all h1 h2 (Nat.le_refl _) h4 (by omega) (callC_all h1 h2 h3 h4 (by omega) (callC_all h1 h2 (Nat.le_refl _) h4 (by omega)
    (all_cons hne (all_cons hne (strC_all (Nat.le_refl _) (strC_all h3 (all_cons (not_dec (dec_enc_str X Y Z h4)) (strC_all (Nat.le_refl _) (strC_all h3 (all_cons (not_dec (enc_dec_str X Y Z h4)) (all_cons ⟨by omega, by omega⟩ (all_cons ⟨?_, ?_⟩ hr)))))))))))))))
  · rw [hk]; unfold numB; omega
  · rw [hk]; unfold numB; omega
theorem inverts_law {w : World} {a0 a1 a2 a3 : Option Addr} {len0 cap0 len1 cap1 len2 cap2 len3 cap3 : Nat} {X Y Z U : Nat → BitVec 8} (h0 : ByteRow w a0 len0 cap0 X) (h1 : ByteRow w a1 len1 cap1 Y) (h2 : ByteRow w a2 len2 cap2 Z) (h3 : ByteRow w a3 len3 cap3 U) :
    Calls Try.prog 5 #[.slice a0 len0 cap0, .slice a1 len1 cap1, .slice a2 len2 cap2, .slice a3 len3 cap3] w fun e w' => e = .returned (.bool true) ∧ Below w.heap.size w w' := by
  have hne : ∀ k : Nat, k ≠ 16 → ((k : Int) != 16) = true := fun k h => by rw [bne_iff_ne]; omega
  have heq : ∀ k : Nat, k = 16 → ((k : Int) != 16) = false := fun k h => by subst h; rfl
  have hbad : ∀ (ds : List Bool) (ps : List Prop), outO [] (callSim cfgC4 20000 5 (badA a0 a1 a2 len0 cap0 len1 cap1 len2 cap2 (.slice a3 len3 cap3)) []) ds = (ps, some (.bool (.lit true), [])) → (∀ p ∈ ps, p) →
      Calls Try.prog 5 #[.slice a0 len0 cap0, .slice a1 len1 cap1, .slice a2 len2 cap2, .slice a3 len3 cap3] w fun e w' => e = .returned (.bool true) ∧ Below w.heap.size w w' := fun ds ps h hp =>
    law_by cfgC4OK 20000 (HeapRel.start _ _ w) (GlobRel.none _) (args := badA a0 a1 a2 len0 cap0 len1 cap1 len2 cap2 (.slice a3 len3 cap3)) rfl ds h hp
  by_cases hk : len0 = 16
  case neg => exact hbad _ _ (invC_b1 a0 a1 a2 len0 cap0 len1 cap1 len2 cap2 _) (repN_all (hne _ hk) 4)
  by_cases hk2 : len1 = 16
  case neg => exact hbad _ _ (invC_b2 a0 a1 a2 len0 cap0 len1 cap1 len2 cap2 _) (all_cons (heq _ hk) (repN_all (hne _ hk2) 4))
  by_cases hl : len2 < 16
  · exact hbad _ _ (invC_b3 a0 a1 a2 len0 cap0 len1 cap1 len2 cap2 _) (all_cons (heq _ hk) (all_cons (heq _ hk2) (repN_all (decide_eq_true (by omega)) 4)))
  by_cases hl2 : len2 > 200
  · exact hbad _ _ (invC_b4 a0 a1 a2 len0 cap0 len1 cap1 len2 cap2 _) (all_cons (heq _ hk) (all_cons (heq _ hk2) (all_cons (decide_eq_false (by omega)) (all_cons (decide_eq_true (by omega)) all_nil))))
  clear hbad
  subst hk; subst hk2
  rcases h0 with ⟨_, h, _⟩ | ⟨x, rfl, hsx, hlx, _, hcx⟩
  · omega
  rcases h1 with ⟨_, h, _⟩ | ⟨y, rfl, hsy, hly, _, hcy⟩
  · omega
  rcases h2 with ⟨_, h, _⟩ | ⟨z, rfl, hsz, hlz, _, hcz⟩
  · omega
  obtain ⟨β, hH, hle, hd⟩ := start_row (P := Try.prog) (HeapRel.start _ _ w) hsx hlx hcx
  obtain ⟨β2, hH2, hle2, hd2⟩ := start_row hH hsy hly hcy
  obtain ⟨β3, hH3, hle3, hd3⟩ := start_row hH2 hsz hlz hcz
  have hd : (SV.slice ⟨0, .lit 0⟩ (.lit 16) (.sym cap0)).den β = some (.slice (some x) 16 cap0) := hd
  have hd2 : (SV.slice ⟨1, .lit 0⟩ (.lit 16) (.sym cap1)).den β2 = some (.slice (some y) 16 cap1) := hd2
  have hd := SV.den_mono hle3 _ (SV.den_mono hle2 _ hd)
  have hd2 := SV.den_mono hle3 _ hd2
  have h16 : 16 ≤ len2 := by omega
  have h200 : len2 ≤ 200 := by omega
  have hkI := kI_eq h200
  by_cases hk1 : len2 ≤ 32
  · refine law_by cfgC4OK 20000 hH3 (GlobRel.none _) (denL_cons.2 ⟨_, _, hd, denL_cons.2 ⟨_, _, hd2, denL_cons.2 ⟨_, _, hd3, denL_cons.2 ⟨.slice a3 len3 cap3, _, rfl, rfl, rfl⟩, rfl⟩, rfl⟩, rfl⟩) _ (invC_k1 X Y Z (.slice a3 len3 cap3) cap0 cap0 cap1 cap1 cap2 cap2 len2) ?_
    exact invP1_all hlx hly hlz h16 h200 (repN_all (decide_eq_true (by rw [hkI]; unfold numB; omega)) 6)
  have hkge : ¬ kI len2 < 1 := by rw [hkI]; unfold numB; omega
  by_cases hlt : len3 < len2
  · refine law_by cfgC4OK 20000 hH3 (GlobRel.none _) (denL_cons.2 ⟨_, _, hd, denL_cons.2 ⟨_, _, hd2, denL_cons.2 ⟨_, _, hd3, denL_cons.2 ⟨.slice a3 len3 cap3, _, rfl, rfl, rfl⟩, rfl⟩, rfl⟩, rfl⟩) _ (invC_k2 X Y Z a3 cap0 cap0 cap1 cap1 cap2 cap2 cap3 len2 len3) ?_
    exact invP1_all hlx hly hlz h16 h200 (all_cons (decide_eq_false hkge) (all_cons (decide_eq_true (by omega)) all_nil))
  rcases h3 with ⟨_, h, _⟩ | ⟨u, rfl, hsu, hlu, _, hcu⟩
  · omega
  obtain ⟨β4, hH4, hle4, hd4⟩ := start_row hH3 hsu hlu hcu
  have hd := SV.den_mono hle4 _ hd
  have hd2 := SV.den_mono hle4 _ hd2
  have hd3 := SV.den_mono hle4 _ hd3
  refine law_by cfgC4OK 20000 hH4 (GlobRel.none _) (denL_cons.2 ⟨_, _, hd, denL_cons.2 ⟨_, _, hd2, denL_cons.2 ⟨_, _, hd3, denL_cons.2 ⟨_, _, hd4, rfl, rfl⟩, rfl⟩, rfl⟩, rfl⟩) _ (invC_run X Y Z U cap0 cap0 cap1 cap1 cap2 cap2 cap3 cap3 len2 len3) ?_
  obtain ⟨m, hm, hm2⟩ := two_of len2 (by omega)
  have hs := sK_eq h200 hm hm2
  have hsn : (sK len2).toNat = 16 * m := by rw [hs]; omega
  have hsL : sL len2 = len2 := by unfold sL; rw [hsn]; omega
  refine invP1_all hlx hly hlz h16 h200 ?_
  unfold invP2
  rw [hsL, hsn, hs]
  refine all_cons (decide_eq_false hkge) (all_cons (decide_eq_false (by omega)) (all_cons ⟨by omega, by omega⟩ (all_cons (by omega) (all_cons (decide_eq_false (by omega)) (all_cons ⟨⟨by omega, by omega⟩, rfl⟩ (all_cons ⟨by omega, by omega⟩ (all_cons ⟨by omega, by omega⟩
    (all_cons ⟨by omega, byteF_isB U⟩ (all_cons ⟨by omega, byteF_isB fun i => Z (0 + i)⟩ (all_cons ⟨⟨by omega, by omega⟩, rfl⟩ (callC_all hlx hly (Nat.le_refl _) h16 (by omega) (all_cons (by simp) (all_cons ⟨by omega, by omega⟩ (strC_all (by omega) (all_cons ⟨by omega, by omega⟩ (strC_all (by omega) (all_cons ?_ all_nil)))))))))))))))))
  refine decide_eq_true (strOf_congr fun i hi => ?_)
  rw [Nat.zero_add]
  unfold eX
  refine (enc_first (block16 X 0) (block16 Y 0) (fun j => Z (0 + j)) len2 (fun j => mixF Z U len2 (0 + j)) hm hm2 (fun p hp => ?_) hi).symm
  show Z (0 + p) = mixF Z U len2 (0 + p)
  unfold mixF catB
  rw [hsn, Nat.zero_add, if_pos hp]
  show Z p = Z (0 + (0 + p))
  rw [Nat.zero_add, Nat.zero_add]

end Go.Proofs.Ytdnaaeagllejjaa.Aes
