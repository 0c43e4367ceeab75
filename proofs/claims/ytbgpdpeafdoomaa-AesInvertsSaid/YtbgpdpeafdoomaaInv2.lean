/-
  AesInverts: decrypting inverts encrypting, and encrypting inverts decrypting: the law's own runs.
-/
import Derived.Test.YtbgpdpeafdoomaaAes8
import Derived.Test.YtbgpdpeafdoomaaInv1
import Derived.Test.YtbgpdpeafdoomaaEng31
namespace Go.Proofs.Ytbgpdpeafdoomaa.Aes
open Go.Sim
open Go.Proofs
open Go.RowKit

noncomputable def keyK (X : Nat → BitVec 8) : Nat → BitVec 8 := byteAt (keysL (block16 X 0))
noncomputable def invL (X Y : Nat → BitVec 8) : List (BitVec 8) := decL (keyK X) (block16 (byteAt (encL (keyK X) (block16 Y 0))) 0)
noncomputable def invR (X Y : Nat → BitVec 8) : List (BitVec 8) := encL (keyK X) (block16 (byteAt (decL (keyK X) (block16 Y 0))) 0)
noncomputable def strB (l : List (BitVec 8)) : ByteArray := bytesOf (mapN (fun x => .b8 x) l)
theorem inv_run (X Y : Nat → BitVec 8) (n m c d : Nat) : outA [] (callSim cfg9 6000 3 [.slice ⟨0, .lit 0⟩ (.lit 16) (.sym c), .slice ⟨1, .lit 0⟩ (.lit 16) (.sym d)] [rowF X n, rowF Y m]) =
    ([IsB (byteF X), 0 + 16 ≤ n, IsB (byteF Y), 0 + 16 ≤ m, 0 + 16 ≤ 16, IsB (byteF Y), 0 + 16 ≤ m, 0 + 16 ≤ 16, 0 + 16 ≤ m ∧ ∀ i, i < m → isByte (byteF Y i), decide (strB (invL X Y) = strOfFn (byteF Y) 0 16) = true,
      0 + 16 ≤ m ∧ ∀ i, i < m → isByte (byteF Y i), decide (strB (invR X Y) = strOfFn (byteF Y) 0 16) = true], some (.bool (.lit true), [])) := by kernel_rfl
theorem str_row (Y : Nat → BitVec 8) : strB (block16 Y 0) = strOfFn (byteF Y) 0 16 := by kernel_rfl
theorem l_block (Y : Nat → BitVec 8) : L16 (block16 Y 0) := rfl
theorem invL_eq (X Y : Nat → BitVec 8) : invL X Y = block16 Y 0 := by
  unfold invL
  rw [block16_eq (show L16 (encL _ _) from rfl), dec_enc _ (l_block Y)]
theorem invR_eq (X Y : Nat → BitVec 8) : invR X Y = block16 Y 0 := by
  unfold invR
  rw [block16_eq (show L16 (decL _ _) from rfl), enc_dec _ (l_block Y)]
theorem inv_nil (v : Value) : outA [] (callSim cfg9 6000 3 [.nilSlice, .val v] []) = ([], some (.bool (.lit true), [])) := by kernel_rfl
theorem inv_len (X : Nat → BitVec 8) (n : Nat) (v : Value) (k c : Nat) : outA [] (callSim cfg9 6000 3 [.slice ⟨0, .lit 0⟩ (.sym k) (.sym c), .val v] [rowF X n]) = ([((k : Int) != 16) = true, ((k : Int) != 16) = true, ((k : Int) != 16) = true, ((k : Int) != 16) = true], some (.bool (.lit true), [])) := by kernel_rfl
theorem inv_nil2 (X : Nat → BitVec 8) (n c : Nat) : outA [] (callSim cfg9 6000 3 [.slice ⟨0, .lit 0⟩ (.lit 16) (.sym c), .nilSlice] [rowF X n]) = ([], some (.bool (.lit true), [])) := by kernel_rfl
theorem inv_len2 (X Y : Nat → BitVec 8) (n m k c d : Nat) : outA [] (callSim cfg9 6000 3 [.slice ⟨0, .lit 0⟩ (.lit 16) (.sym c), .slice ⟨1, .lit 0⟩ (.sym k) (.sym d)] [rowF X n, rowF Y m]) = ([((k : Int) != 16) = true], some (.bool (.lit true), [])) := by kernel_rfl
theorem isByte_row (Y : Nat → BitVec 8) (i : Nat) : isByte (byteF Y i) := trivial
theorem inverts {w : World} {a0 a1 : Option Addr} {len0 cap0 len1 cap1 : Nat} {X Y : Nat → BitVec 8} (h0 : ByteRow w a0 len0 cap0 X) (h1 : ByteRow w a1 len1 cap1 Y) :
    Calls Try.prog 3 #[.slice a0 len0 cap0, .slice a1 len1 cap1] w fun e w' => e = .returned (.bool true) ∧ Below w.heap.size w w' := by
  have hne : ∀ k : Nat, k ≠ 16 → ((k : Int) != 16) = true := fun k h => by
    rw [bne_iff_ne]; omega
  rcases h0 with ⟨rfl, rfl, rfl⟩ | ⟨x, rfl, hsx, hlx, _, hcx⟩
  · exact law_of cfg9OK 6000 (HeapRel.start _ _ w) (GlobRel.none _) (args := [.nilSlice, .val (.slice a1 len1 cap1)]) rfl (inv_nil _) all_nil
  · obtain ⟨β, hH, hle, hd⟩ := start_row (P := Try.prog) (HeapRel.start _ _ w) hsx hlx hcx
    by_cases hk : len0 = 16
    · subst hk
      have hd : (SV.slice ⟨0, .lit 0⟩ (.lit 16) (.sym cap0)).den β = some (.slice (some x) 16 cap0) := hd
      rcases h1 with ⟨rfl, rfl, rfl⟩ | ⟨y, rfl, hsy, hly, _, hcy⟩
      · exact law_of cfg9OK 6000 hH (GlobRel.none _) (denL_cons.2 ⟨_, _, hd, denL_cons.2 ⟨_, _, rfl, rfl, rfl⟩, rfl⟩) (inv_nil2 X cap0 cap0) all_nil
      · obtain ⟨β2, hH2, hle2, hd2⟩ := start_row hH hsy hly hcy
        have hd := SV.den_mono hle2 _ hd
        by_cases hj : len1 = 16
        · subst hj
          have hd2 : (SV.slice ⟨1, .lit 0⟩ (.lit 16) (.sym cap1)).den β2 = some (.slice (some y) 16 cap1) := hd2
          refine law_of cfg9OK 6000 hH2 (GlobRel.none _) (denL_cons.2 ⟨_, _, hd, denL_cons.2 ⟨_, _, hd2, rfl, rfl⟩, rfl⟩) (inv_run X Y cap0 cap1 cap0 cap1) ?_
          have e1 : decide (strB (invL X Y) = strOfFn (byteF Y) 0 16) = true := by rw [invL_eq, str_row]; simp
          have e2 : decide (strB (invR X Y) = strOfFn (byteF Y) 0 16) = true := by rw [invR_eq, str_row]; simp
          have e3 : 0 + 16 ≤ cap1 ∧ ∀ i, i < cap1 → isByte (byteF Y i) := ⟨by omega, fun i _ => isByte_row Y i⟩
          refine all_cons (byteF_isB X) (all_cons (by omega) (all_cons (byteF_isB Y) (all_cons (by omega) (all_cons (by omega) (all_cons (byteF_isB Y) (all_cons (by omega) (all_cons (by omega) (all_cons e3 (all_cons e1 (all_cons e3 (all_cons e2 all_nil)))))))))))
        · exact law_of cfg9OK 6000 hH2 (GlobRel.none _) (denL_cons.2 ⟨_, _, hd, denL_cons.2 ⟨_, _, hd2, rfl, rfl⟩, rfl⟩) (inv_len2 X Y cap0 cap1 len1 cap0 cap1) (all_cons (hne _ hj) all_nil)
    · exact law_of cfg9OK 6000 hH (GlobRel.none _) (denL_cons.2 ⟨_, _, hd, denL_cons.2 ⟨.slice a1 len1 cap1, _, rfl, rfl, rfl⟩, rfl⟩) (inv_len X cap0 _ len0 cap0) (all_cons (hne _ hk) (all_cons (hne _ hk) (all_cons (hne _ hk) (all_cons (hne _ hk) all_nil))))

end Go.Proofs.Ytbgpdpeafdoomaa.Aes
