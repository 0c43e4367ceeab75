/-
  CtsExchanges: the law.
-/
import Derived.Test.YtdnaaeagllejjaaExc1
namespace Go.Proofs.Ytdnaaeagllejjaa.Aes
open Go.Sim
open Go.Proofs
open Go.RowKit

theorem excB_all {Z : Nat → BitVec 8} {n3 : Nat} {r : List Prop} (hr : ∀ p ∈ r, p) : ∀ (n i : Nat), 16 * (i + n) ≤ n3 → ∀ p ∈ excB Z n3 r n i, p
  | 0, _, _ => hr
  | n + 1, i, h => all_cons (byteF_isB Z) (all_cons ⟨by omega, by omega⟩ (all_cons (by omega) (all_cons (by omega) (excB_all hr n (i + 1) (by omega)))))
theorem chB_str (X Y Z : Nat → BitVec 8) (m : Nat) : strOfFn (byteF (eX X Y Z (16 * m))) 0 (16 * m) = (SStr.bytes (mapN SI.b8 (chB X Y Z m))).den := by
  have hb : encBs (fun j => Z (0 + j)) (16 * m) = fullB Z 0 m := encBs_full Z 0 m
  have h1 : eX X Y Z (16 * m) = byteAt (chB X Y Z m) := by
    unfold eX encF chB
    rw [hb]
  have hl : (chB X Y Z m).length = 16 * m := by
    unfold chB
    rw [joinL_length _ (fun b hb => chainL_16 _ _ _ b (swL_mem _ _ hb)), swL_length, chainL_length, fullB_length]
  rw [h1]
  generalize chB X Y Z m = B at hl ⊢
  show (⟨_⟩ : ByteArray) = bytesOf _
  unfold bytesOf
  congr 2
  rw [mapN_eq, List.map_map]
  apply List.ext_getElem?
  intro i
  rw [List.getElem?_map, List.getElem?_map]
  by_cases hi : i < 16 * m
  · rw [List.getElem?_range hi, List.getElem?_eq_getElem (by omega)]
    simp only [Option.map_some, Nat.zero_add]
    congr 1
    show UInt8.ofNat (((byteAt B i).toNat : Int)).toNat = UInt8.ofNat (((B[i]).toNat : Int)).toNat
    unfold byteAt
    rw [List.getElem?_eq_getElem (by omega)]; rfl
  · rw [List.getElem?_eq_none (by simp; omega), List.getElem?_eq_none (by omega)]; rfl
noncomputable def badE (p p2 p3 : Option Addr) (k c k2 c2 l c3 : Nat) : List SV := [.val (.slice p k c), .val (.slice p2 k2 c2), .val (.slice p3 l c3)]
section
variable (p p2 p3 : Option Addr) (k c k2 c2 l c3 : Nat)
noncomputable def badT : Tree := callSim cfgE 20000 3 (badE p p2 p3 k c k2 c2 l c3) []
theorem exc_b1 : outO [] (badT p p2 p3 k c k2 c2 l c3) [true, true, true, true] = (repN (((k : Int) != 16) = true) 4, some (.bool (.lit true), [])) := by kernel_rfl
theorem exc_b2 : outO [] (badT p p2 p3 k c k2 c2 l c3) [false, true, true, true, true] = ((((k : Int) != 16) = false) :: repN (((k2 : Int) != 16) = true) 4, some (.bool (.lit true), [])) := by kernel_rfl
theorem exc_b3 : outO [] (badT p p2 p3 k c k2 c2 l c3) [false, false, true, true, true, true] = ((((k : Int) != 16) = false) :: (((k2 : Int) != 16) = false) :: repN (decide ((l : Int) < 16) = true) 4, some (.bool (.lit true), [])) := by kernel_rfl
theorem exc_b4 : outO [] (badT p p2 p3 k c k2 c2 l c3) [false, false, false, true] = ([((k : Int) != 16) = false, ((k2 : Int) != 16) = false, decide ((l : Int) < 16) = false, decide ((l : Int) > 160) = true], some (.bool (.lit true), [])) := by kernel_rfl
end
theorem exchanges_law {w : World} {a0 a1 a2 : Option Addr} {len0 cap0 len1 cap1 len2 cap2 : Nat} {X Y Z : Nat → BitVec 8} (h0 : ByteRow w a0 len0 cap0 X) (h1 : ByteRow w a1 len1 cap1 Y) (h2 : ByteRow w a2 len2 cap2 Z) :
    Calls Try.prog 3 #[.slice a0 len0 cap0, .slice a1 len1 cap1, .slice a2 len2 cap2] w fun e w' => e = .returned (.bool true) ∧ Below w.heap.size w w' := by
  have hne : ∀ k : Nat, k ≠ 16 → ((k : Int) != 16) = true := fun k h => by rw [bne_iff_ne]; omega
  have heq : ∀ k : Nat, k = 16 → ((k : Int) != 16) = false := fun k h => by subst h; rfl
  have hbad : ∀ (ds : List Bool) (ps : List Prop), outO [] (badT a0 a1 a2 len0 cap0 len1 cap1 len2 cap2) ds = (ps, some (.bool (.lit true), [])) → (∀ p ∈ ps, p) →
      Calls Try.prog 3 #[.slice a0 len0 cap0, .slice a1 len1 cap1, .slice a2 len2 cap2] w fun e w' => e = .returned (.bool true) ∧ Below w.heap.size w w' := fun ds ps h hp =>
    law_by cfgEOK 20000 (HeapRel.start _ _ w) (GlobRel.none _) (args := badE a0 a1 a2 len0 cap0 len1 cap1 len2 cap2) rfl ds h hp
  by_cases hk : len0 = 16
  case neg => exact hbad _ _ (exc_b1 a0 a1 a2 len0 cap0 len1 cap1 len2 cap2) (repN_all (hne _ hk) 4)
  by_cases hk2 : len1 = 16
  case neg => exact hbad _ _ (exc_b2 a0 a1 a2 len0 cap0 len1 cap1 len2 cap2) (all_cons (heq _ hk) (repN_all (hne _ hk2) 4))
  by_cases hl : len2 < 16
  · exact hbad _ _ (exc_b3 a0 a1 a2 len0 cap0 len1 cap1 len2 cap2) (all_cons (heq _ hk) (all_cons (heq _ hk2) (repN_all (decide_eq_true (by omega)) 4)))
  by_cases hl2 : len2 > 160
  · exact hbad _ _ (exc_b4 a0 a1 a2 len0 cap0 len1 cap1 len2 cap2) (all_cons (heq _ hk) (all_cons (heq _ hk2) (all_cons (decide_eq_false (by omega)) (all_cons (decide_eq_true (by omega)) all_nil))))
  clear hbad
  subst hk; subst hk2
  rcases h0 with ⟨_, h, _⟩ | ⟨x, rfl, hsx, hlx, _, hcx⟩
  · omega
  rcases h1 with ⟨_, h, _⟩ | ⟨y, rfl, hsy, hly, _, hcy⟩
  · omega
  rcases h2 with ⟨_, h, _⟩ | ⟨z, rfl, hsz, hlz, _, hcz⟩
  · omega
  obtain ⟨β, hH, hle, hd⟩ := start_row (P := Try.prog) (HeapRel.start _ _ w) hsx hlx hcx
  obtain ⟨β2, hH2, hle2, hd2⟩ := start_row hH hsy hly hcy
  obtain ⟨β3, hH3, hle3, hd3⟩ := start_row hH2 hsz hlz hcz
  have hd : (SV.slice ⟨0, .lit 0⟩ (.lit 16) (.sym cap0)).den β = some (.slice (some x) 16 cap0) := hd
  have hd2 : (SV.slice ⟨1, .lit 0⟩ (.lit 16) (.sym cap1)).den β2 = some (.slice (some y) 16 cap1) := hd2
  have hd3 : (SV.slice ⟨2, .lit 0⟩ (.lit len2) (.sym cap2)).den β3 = some (.slice (some z) len2 cap2) := hd3
  have hd := SV.den_mono hle3 _ (SV.den_mono hle2 _ hd)
  have hd2 := SV.den_mono hle3 _ hd2
  refine law_by cfgEOK 20000 hH3 (GlobRel.none _) (args := excA cap0 cap1 cap2 len2) (denL_cons.2 ⟨_, _, hd, denL_cons.2 ⟨_, _, hd2, denL_cons.2 ⟨_, _, hd3, rfl, rfl⟩, rfl⟩, rfl⟩) [true] (exc_all X Y Z cap0 cap0 cap1 cap1 cap2 cap2 (by omega) (by omega)) ?_
  have h16 : 16 * (len2 / 16) ≤ cap2 := by omega
  have h224 : 16 * (len2 / 16) ≤ 224 := by omega
  generalize len2 / 16 = m at h16 h224
  exact all_cons (byteF_isB X) (all_cons (by omega) (all_cons (byteF_isB Y) (all_cons (by omega) (excB_all (all_cons (byteF_isB Y) (all_cons (by omega) (all_cons (byteF_isB X) (all_cons (by omega) (all_cons (byteF_isB Z) (all_cons ⟨by omega, h224⟩
    (strC_all (Nat.le_refl _) (all_cons (decide_eq_true (chB_str X Y Z m)) all_nil)))))))) m 0 (by omega)))))

end Go.Proofs.Ytdnaaeagllejjaa.Aes
