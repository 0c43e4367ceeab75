/-
  AesBlocks: the law's own runs.
-/
import Derived.Test.YtbgpdpeafdoomaaDoorSub1
namespace Go.Proofs.YtbgpdpeafdoomaaDoor.Aes
open Go.Sim
open Go.Proofs
open Go.RowKit

noncomputable def strB (l : List (BitVec 8)) : ByteArray := bytesOf (mapN (fun x => .b8 x) l)
noncomputable def keyK (X : Nat → BitVec 8) : Nat → BitVec 8 := byteAt (keysL (block16 X 0))
noncomputable def blk (Y : Nat → BitVec 8) : List (BitVec 8) := block16 (byteAt (block16 Y 0)) 0
theorem blk_main (X Y : Nat → BitVec 8) (n m c d : Nat) : outO [] (callSim cfgS 20000 5 [.slice ⟨1, .lit 0⟩ (.lit 16) (.sym c), .slice ⟨2, .lit 0⟩ (.lit 16) (.sym d)] [tabR, rowF X n, rowF Y m]) [false, true, true] =
    ([IsB (byteF X), 0 + 16 ≤ n, 0 + 16 ≤ m, 0 + 16 ≤ 16, 0 + 16 ≤ 16, 0 + 16 ≤ m ∧ ∀ i, i < m → isByte (byteF Y i), (!decide (strB (block16 Y 0) = strOfFn (byteF Y) 0 16)) = false,
      IsB (byteF X), 0 + 16 ≤ n, IsB (byteF Y), 0 + 16 ≤ m ∧ 0 + 176 ≤ 176, decide (strB (encL (keyK X) (blk Y)) = strB (encL (at2 (keyK X) 0) (block16 Y 0))) = true,
      IsB (byteF Y), 0 + 16 ≤ m ∧ 0 + 176 ≤ 176, decide (strB (decL (keyK X) (blk Y)) = strB (decL (at2 (keyK X) 0) (block16 Y 0))) = true], some (.bool (.lit true), [])) := by kernel_rfl
theorem blk_short (X Y : Nat → BitVec 8) (n m c d k : Nat) : outO [] (callSim cfgS 20000 5 [.slice ⟨1, .lit 0⟩ (.lit 16) (.sym c), .slice ⟨2, .lit 0⟩ (.sym k) (.sym d)] [tabR, rowF X n, rowF Y m]) [false, false, false, false, true] =
    ([decide ((k : Int) > 40) = false, IsB (byteF X), 0 + 16 ≤ n, 0 + k ≤ m, roomy k 1 ∧ 1 = 1 ∧ 0 = 0 ∧ 0 = 0, decide (k = 16) = false, decide (k = 16) = false, 0 + k ≤ k ∧ ∀ i, i < k → isByte (byteF Y (0 + i)), 0 + k ≤ m ∧ ∀ i, i < m → isByte (byteF Y i),
      (!decide (strOfFn (fun i => byteF Y (0 + i)) 0 k = strOfFn (byteF Y) 0 k)) = false, ((k : Int) != 16) = true], some (.bool (.lit true), [])) := by kernel_rfl
theorem blk_long (X Y : Nat → BitVec 8) (n m c d k : Nat) : outO [] (callSim cfgS 20000 5 [.slice ⟨1, .lit 0⟩ (.lit 16) (.sym c), .slice ⟨2, .lit 0⟩ (.sym k) (.sym d)] [tabR, rowF X n, rowF Y m]) [true] =
    ([decide ((k : Int) > 40) = true], some (.bool (.lit true), [])) := by kernel_rfl
theorem blk_nil (X : Nat → BitVec 8) (n c : Nat) : outO [] (callSim cfgS 20000 5 [.slice ⟨1, .lit 0⟩ (.lit 16) (.sym c), .nilSlice] [tabR, rowF X n]) [false] =
    ([IsB (byteF X), 0 + 16 ≤ n, (!decide (bytesOf [] = ByteArray.empty)) = false], some (.bool (.lit true), [])) := by kernel_rfl
theorem blk_key (X : Nat → BitVec 8) (n c k : Nat) (v : Value) : outA [] (callSim cfgS 20000 5 [.slice ⟨1, .lit 0⟩ (.sym k) (.sym c), .val v] [tabR, rowF X n]) =
    ([((k : Int) != 16) = true, ((k : Int) != 16) = true, ((k : Int) != 16) = true, ((k : Int) != 16) = true], some (.bool (.lit true), [])) := by kernel_rfl
theorem blk_knil (v : Value) : outA [] (callSim cfgS 20000 5 [.nilSlice, .val v] [tabR]) = ([], some (.bool (.lit true), [])) := by kernel_rfl
theorem at2_zero (W : Nat → BitVec 8) : at2 W 0 = W := by funext i; show W (0 + i) = W i; rw [Nat.zero_add]
theorem blk_eq (Y : Nat → BitVec 8) : blk Y = block16 Y 0 := by rfl
theorem str_row (Y : Nat → BitVec 8) : strB (block16 Y 0) = strOfFn (byteF Y) 0 16 := by kernel_rfl
theorem str_fn (Y : Nat → BitVec 8) (k : Nat) : strOfFn (fun i => byteF Y (0 + i)) 0 k = strOfFn (byteF Y) 0 k := by
  unfold strOfFn
  simp only [Nat.zero_add]
theorem isByte_row (Y : Nat → BitVec 8) (i : Nat) : isByte (byteF Y i) := trivial
theorem start_row1 {w : World} {β : Val} {H : List SO} (h : HeapRel Tryd.prog (fun _ => False) w β H w) (hG : GlobRel globR β) {x : Addr} {len cap : Nat} {X : Nat → BitVec 8} (hs : x.spot = none) (hl : len ≤ cap)
    (hx : ∀ i, i < cap → w.cell? (x.add i) = some (.int .u8 ((X i).toNat : Int))) :
    ∃ β', HeapRel Tryd.prog (fun _ => False) w β' (H ++ [rowF X cap]) w ∧ GlobRel globR β' ∧ β.le β' ∧ (SV.slice ⟨H.length, .lit 0⟩ (.sym len) (.sym cap)).den β' = some (.slice (some x) len cap) := by
  obtain ⟨β', h1, h2, h3⟩ := start_row h hs hl hx
  exact ⟨β', h1, hG.mono h2, h2, h3⟩
theorem blk_law {w : World} {β : Val} (hH : HeapRel Tryd.prog (fun _ => False) w β [tabR] w) (hG : GlobRel globR β) {a0 a1 : Option Addr} {len0 cap0 len1 cap1 : Nat} {X Y : Nat → BitVec 8} (h0 : ByteRow w a0 len0 cap0 X) (h1 : ByteRow w a1 len1 cap1 Y) :
    Calls Tryd.prog 5 #[.slice a0 len0 cap0, .slice a1 len1 cap1] w fun e w' => e = .returned (.bool true) ∧ Below w.heap.size w w' := by
  have hne : ∀ k : Nat, k ≠ 16 → ((k : Int) != 16) = true := fun k h => by
    rw [bne_iff_ne]; omega
  rcases h0 with ⟨rfl, rfl, rfl⟩ | ⟨x, rfl, hsx, hlx, _, hcx⟩
  · exact law_of cfgSOK 20000 hH hG (args := [.nilSlice, .val (.slice a1 len1 cap1)]) rfl (blk_knil _) all_nil
  · obtain ⟨β1, hH1, hG1, hle, hd⟩ := start_row1 hH hG hsx hlx hcx
    by_cases hk : len0 = 16
    · subst hk
      have hd : (SV.slice ⟨1, .lit 0⟩ (.lit 16) (.sym cap0)).den β1 = some (.slice (some x) 16 cap0) := hd
      have hX := byteF_isB X
      have hn : 0 + 16 ≤ cap0 := by omega
      rcases h1 with ⟨rfl, rfl, rfl⟩ | ⟨y, rfl, hsy, hly, _, hcy⟩
      · exact law_by cfgSOK 20000 hH1 hG1 (denL_cons.2 ⟨_, _, hd, denL_cons.2 ⟨_, _, rfl, rfl, rfl⟩, rfl⟩) [false] (blk_nil X cap0 cap0) (all_cons hX (all_cons hn (all_cons (by rfl) all_nil)))
      · obtain ⟨β2, hH2, hG2, hle2, hd2⟩ := start_row1 hH1 hG1 hsy hly hcy
        have hd := SV.den_mono hle2 _ hd
        have hY := byteF_isB Y
        by_cases hj : len1 = 16
        · subst hj
          have hd2 : (SV.slice ⟨2, .lit 0⟩ (.lit 16) (.sym cap1)).den β2 = some (.slice (some y) 16 cap1) := hd2
          have hm : 0 + 16 ≤ cap1 := by omega
          have e1 : (!decide (strB (block16 Y 0) = strOfFn (byteF Y) 0 16)) = false := by rw [str_row]; simp
          have e2 : decide (strB (encL (keyK X) (blk Y)) = strB (encL (at2 (keyK X) 0) (block16 Y 0))) = true := by rw [at2_zero, blk_eq]; simp
          have e3 : decide (strB (decL (keyK X) (blk Y)) = strB (decL (at2 (keyK X) 0) (block16 Y 0))) = true := by rw [at2_zero, blk_eq]; simp
          have e4 : 0 + 16 ≤ cap1 ∧ 0 + 176 ≤ 176 := ⟨hm, by omega⟩
          exact law_by cfgSOK 20000 hH2 hG2 (denL_cons.2 ⟨_, _, hd, denL_cons.2 ⟨_, _, hd2, rfl, rfl⟩, rfl⟩) [false, true, true] (blk_main X Y cap0 cap1 cap0 cap1)
            (all_cons hX (all_cons hn (all_cons hm (all_cons (by omega) (all_cons (by omega) (all_cons ⟨hm, fun i _ => isByte_row Y i⟩ (all_cons e1 (all_cons hX (all_cons hn (all_cons hY (all_cons e4 (all_cons e2 (all_cons hY (all_cons e4 (all_cons e3 all_nil)))))))))))))))
        · by_cases hj4 : (len1 : Int) > 40
          · exact law_by cfgSOK 20000 hH2 hG2 (denL_cons.2 ⟨_, _, hd, denL_cons.2 ⟨_, _, hd2, rfl, rfl⟩, rfl⟩) [true] (blk_long X Y cap0 cap1 cap0 cap1 len1) (all_cons (decide_eq_true hj4) all_nil)
          · have e1 : (!decide (strOfFn (fun i => byteF Y (0 + i)) 0 len1 = strOfFn (byteF Y) 0 len1)) = false := by rw [str_fn]; simp
            have hro : roomy len1 1 ∧ 1 = 1 ∧ 0 = 0 ∧ 0 = 0 := ⟨⟨by omega, by omega⟩, rfl, rfl, rfl⟩
            exact law_by cfgSOK 20000 hH2 hG2 (denL_cons.2 ⟨_, _, hd, denL_cons.2 ⟨_, _, hd2, rfl, rfl⟩, rfl⟩) [false, false, false, false, true] (blk_short X Y cap0 cap1 cap0 cap1 len1)
              (all_cons (decide_eq_false hj4) (all_cons hX (all_cons hn (all_cons (by omega) (all_cons hro (all_cons (decide_eq_false hj) (all_cons (decide_eq_false hj) (all_cons ⟨by omega, fun i _ => isByte_row Y _⟩ (all_cons ⟨by omega, fun i _ => isByte_row Y i⟩ (all_cons e1 (all_cons (hne _ hj) all_nil)))))))))))
    · exact law_of cfgSOK 20000 hH1 hG1 (denL_cons.2 ⟨_, _, hd, denL_cons.2 ⟨.slice a1 len1 cap1, _, rfl, rfl, rfl⟩, rfl⟩) (blk_key X cap0 cap0 len0 _) (all_cons (hne _ hk) (all_cons (hne _ hk) (all_cons (hne _ hk) (all_cons (hne _ hk) all_nil))))

end Go.Proofs.YtbgpdpeafdoomaaDoor.Aes
