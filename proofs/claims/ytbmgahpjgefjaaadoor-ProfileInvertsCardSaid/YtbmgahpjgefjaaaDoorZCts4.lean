/-
  Chained blocks, fourth part: what Encrypt and Decrypt come to, for every number of bytes from 16 to 224.
-/
import Derived.Test.YtbmgahpjgefjaaaDoorZCts3
namespace Go.Proofs.YtbmgahpjgefjaaaDoor.Aes
open Go.Sim
open Go.Proofs
variable {α : Type}

/- The text's blocks, the last one with zeros behind it. -/
noncomputable def cpadF (P : Nat → BitVec 8) (l : Nat) : Nat → BitVec 8 := fun j => if j < l then P j else 0#8
def numB (l : Nat) : Nat := (l + 15) / 16
noncomputable def encBs (P : Nat → BitVec 8) (l : Nat) : List Blk := fullB (cpadF P l) 0 (numB l)
/-- the bytes of the block before the last: those that are known, the others stolen -/
noncomputable def beforeF (ks : Nat → BitVec 8) (P : Nat → BitVec 8) (l k : Nat) : Nat → BitVec 8 := fun j => if j < l - (k + 16) then P (k + 16 + j) else byteAt (decL ks (block16 P k)) j
noncomputable def decBs (ks : Nat → BitVec 8) (P : Nat → BitVec 8) (l : Nat) : List Blk := if l ≤ 16 then fullB P 0 1 else app (fullB P 0 (numB l - 2)) [block16 (beforeF ks P l (16 * (numB l - 2))) 0, block16 P (16 * (numB l - 2))]
noncomputable def encF (K V : Blk) (P : Nat → BitVec 8) (l : Nat) : Blk := joinL (swL (chainL (byteAt (keysL K)) (encBs P l) V))
noncomputable def decF (K V : Blk) (P : Nat → BitVec 8) (l : Nat) : Blk := joinL (unchainL (byteAt (keysL K)) (decBs (byteAt (keysL K)) P l) V)

theorem blk16_eq {X Y : Nat → BitVec 8} {o o2 : Nat} (h : ∀ j, j < 16 → X (o + j) = Y (o2 + j)) : block16 X o = block16 Y o2 := by
  unfold block16
  rw [mapN_eq, mapN_eq, fromN_range]
  apply List.map_congr_left
  intro i hi
  rw [List.mem_range'] at hi
  obtain ⟨j, hj, rfl⟩ := hi
  exact h _ (by omega)
theorem fullB_eq {X Y : Nat → BitVec 8} {o o2 n : Nat} (h : ∀ j, j < 16 * n → X (o + j) = Y (o2 + j)) : fullB X o n = fullB Y o2 n := by
  unfold fullB
  rw [mapN_eq, mapN_eq, fromN_range]
  apply List.map_congr_left
  intro i hi
  rw [List.mem_range'] at hi
  obtain ⟨j, hj, rfl⟩ := hi
  refine blk16_eq fun k hk => ?_
  rw [Nat.add_assoc, Nat.add_assoc]
  exact h _ (by omega)
theorem fullB_succ (X : Nat → BitVec 8) (o n : Nat) : fullB X o (n + 1) = app (fullB X o n) [block16 X (o + 16 * n)] := by
  unfold fullB
  rw [mapN_eq, mapN_eq, fromN_range, fromN_range, app_eq, List.range'_concat, List.map_append, Nat.one_mul, Nat.zero_add]
  rfl
theorem fullB_length (X : Nat → BitVec 8) (o n : Nat) : (fullB X o n).length = n := by
  unfold fullB; rw [mapN_eq, fromN_range]; simp
theorem zeroStr_get (n i : Nat) : ((zeroStr n).data.getD i 0).toBitVec = 0#8 := by
  unfold zeroStr
  rw [Array.getD_eq_getD_getElem?, Array.getElem?_replicate]
  split <;> rfl
theorem padN_eq {l k : Nat} (h : k < l) (h2 : l < k + 16) : padN l k = 16 - (l - k) := by unfold padN; omega
theorem encBs_full (Z : Nat → BitVec 8) (o m : Nat) : encBs (fun j => Z (o + j)) (16 * m) = fullB Z o m := by
  unfold encBs
  rw [show numB (16 * m) = m from by unfold numB; omega]
  refine fullB_eq fun j hj => ?_
  unfold cpadF
  rw [Nat.zero_add, if_pos hj]
theorem encBs_part (Z : Nat → BitVec 8) (o m l : Nat) (h : 16 * m < l) (h2 : l < 16 * m + 16) : encBs (fun j => Z (o + j)) l = app (fullB Z o m) [block16 (lastW Z l o (16 * m)) 0] := by
  unfold encBs
  rw [show numB l = m + 1 from by unfold numB; omega, fullB_succ]
  congr 1
  · refine fullB_eq fun j hj => ?_
    unfold cpadF
    rw [Nat.zero_add, if_pos (by omega)]
  · congr 1
    refine blk16_eq fun j hj => ?_
    unfold cpadF lastW catB
    rw [Nat.zero_add, Nat.zero_add]
    by_cases hlt : 16 * m + j < l
    · rw [if_pos hlt, if_pos (by omega)]
      show Z (o + (16 * m + j)) = Z (o + 16 * m + j)
      rw [Nat.add_assoc]
    · rw [if_neg hlt, if_neg (by omega)]
      exact (zeroStr_get _ _).symm
theorem swL_two (a b : Blk) : ∀ l : List Blk, swL (app l [a, b]) = app l [b, a]
  | [] => rfl
  | [x] => rfl
  | x :: y :: r => by
    have := swL_two a b (y :: r)
    have e : swL (app (x :: y :: r) [a, b]) = x :: swL (app (y :: r) [a, b]) := by
      cases r with
      | nil => rfl
      | cons => rfl
    rw [e, this]; rfl
theorem app_assoc {β : Type} (a b c : List β) : app (app a b) c = app a (app b c) := by simp only [app_eq, List.append_assoc]
theorem decBs_one (ks : Nat → BitVec 8) (Z : Nat → BitVec 8) (o : Nat) : decBs ks (fun j => Z (o + j)) 16 = fullB Z o 1 := by
  unfold decBs
  rw [if_pos (Nat.le_refl _)]
  exact fullB_eq fun j _ => by rw [Nat.zero_add]
theorem decBs_full (ks : Nat → BitVec 8) (Z : Nat → BitVec 8) (o m : Nat) : decBs ks (fun j => Z (o + j)) (16 * m + 32) = swL (fullB Z o (m + 2)) := by
  unfold decBs
  rw [if_neg (by omega), show numB (16 * m + 32) - 2 = m from by unfold numB; omega]
  have e : fullB Z o (m + 2) = app (fullB Z o m) [block16 Z (o + 16 * m), block16 Z (o + 16 * m + 16)] := by
    rw [fullB_succ, fullB_succ, app_assoc]; rfl
  rw [e, swL_two]
  congr 1
  · exact fullB_eq fun j _ => by rw [Nat.zero_add]
  · congr 1
    · refine blk16_eq fun j hj => ?_
      unfold beforeF
      rw [Nat.zero_add, if_pos (by omega)]
      show Z (o + (16 * m + 16 + j)) = Z (o + 16 * m + 16 + j)
      rw [Nat.add_assoc, Nat.add_assoc, Nat.add_assoc]
theorem decBs_part (ks : Nat → BitVec 8) (Z : Nat → BitVec 8) (o m l : Nat) (h : 16 * m + 16 < l) (h2 : l < 16 * m + 32) : decBs ks (fun j => Z (o + j)) l = app (fullB Z o m) [block16 (beforeW ks Z l o (16 * m)) 0, block16 Z (o + 16 * m)] := by
  unfold decBs
  rw [if_neg (by omega), show numB l - 2 = m from by unfold numB; omega]
  congr 1
  · exact fullB_eq fun j _ => by rw [Nat.zero_add]
  · congr 1
    · refine blk16_eq fun j hj => ?_
      have hk : knowN l (16 * m + 16) = l - (16 * m + 16) := by unfold knowN; omega
      unfold beforeF beforeW catB
      rw [Nat.zero_add, hk]
      by_cases hlt : j < l - (16 * m + 16)
      · rw [if_pos hlt, if_pos hlt]
        show Z (o + (16 * m + 16 + j)) = if 0 + j < l - (16 * m + 16) then Z (o + (16 * m + 16) + (0 + j)) else _
        rw [Nat.zero_add, if_pos hlt, Nat.add_assoc o]
      · rw [if_neg hlt, if_neg hlt]
        have e : block16 (fun j => Z (o + j)) (16 * m) = block16 Z (o + 16 * m) := blk16_eq fun j _ => by show Z (o + (16 * m + j)) = Z (o + 16 * m + j); rw [Nat.add_assoc]
        rw [e]
        show byteAt _ j = byteAt _ (0 + (l - (16 * m + 16)) * 1 + (j - (l - (16 * m + 16))))
        congr 1; omega
/- Lengths. -/
theorem joinL_length : ∀ l : List Blk, (∀ b ∈ l, b.length = 16) → (joinL l).length = 16 * l.length
  | [], _ => rfl
  | b :: l, h => by
    show (app b (joinL l)).length = _
    rw [app_eq, List.length_append, joinL_length l (fun x hx => h x (List.mem_cons_of_mem _ hx)), h b List.mem_cons_self, List.length_cons]; omega
theorem swL_mem : ∀ (l : List Blk) (x : Blk), x ∈ swL l → x ∈ l
  | [], x, h => h
  | [a], x, h => h
  | [a, b], x, h => by
    have h : x ∈ [b, a] := h
    simp only [List.mem_cons, List.not_mem_nil, or_false] at h ⊢
    exact h.symm
  | a :: b :: c :: r, x, h => by
    have h : x ∈ a :: swL (b :: c :: r) := h
    rcases List.mem_cons.1 h with rfl | h
    · exact List.mem_cons_self
    · exact List.mem_cons_of_mem _ (swL_mem _ _ h)
theorem swL_length : ∀ l : List Blk, (swL l).length = l.length
  | [] => rfl
  | [_] => rfl
  | [_, _] => rfl
  | a :: b :: c :: r => by
    show (a :: swL (b :: c :: r)).length = _
    rw [List.length_cons, swL_length (b :: c :: r)]; rfl
theorem chainL_length (ks : Nat → BitVec 8) : ∀ (bs : List Blk) (v : Blk), (chainL ks bs v).length = bs.length
  | [], _ => rfl
  | b :: r, v => by
    show (encL ks (addL v b) :: chainL ks r _).length = _
    rw [List.length_cons, chainL_length ks r, List.length_cons]
theorem chainL_16 (ks : Nat → BitVec 8) : ∀ (bs : List Blk) (v : Blk), ∀ b ∈ chainL ks bs v, b.length = 16
  | [], _, b, h => by cases h
  | c :: r, v, b, h => by
    have h : b ∈ encL ks (addL v c) :: chainL ks r (encL ks (addL v c)) := h
    rcases List.mem_cons.1 h with rfl | h
    · rfl
    · exact chainL_16 ks r _ b h
theorem unchainL_length (ks : Nat → BitVec 8) : ∀ (bs : List Blk) (v : Blk), (unchainL ks bs v).length = bs.length
  | [], _ => rfl
  | b :: r, v => by
    show (addL (decL ks b) v :: unchainL ks r b).length = _
    rw [List.length_cons, unchainL_length ks r, List.length_cons]
theorem unchainL_16 (ks : Nat → BitVec 8) : ∀ (bs : List Blk) (v : Blk), ∀ b ∈ unchainL ks bs v, b.length = 16
  | [], _, b, h => by cases h
  | c :: r, v, b, h => by
    have h : b ∈ addL (decL ks c) v :: unchainL ks r c := h
    rcases List.mem_cons.1 h with rfl | h
    · rfl
    · exact unchainL_16 ks r _ b h

/- Conditions. -/
theorem startC_all {X Y : Nat → BitVec 8} {o n o2 n2 : Nat} {r : List Prop} (h1 : o + 16 ≤ n) (h2 : o2 + 16 ≤ n2) (hr : ∀ p ∈ r, p) : ∀ p ∈ startC X Y o n o2 n2 r, p := all_cons (byteF_isB X) (all_cons h1 (all_cons (byteF_isB Y) (all_cons h2 hr)))
theorem blocksC_all {f : Nat → List Prop → List Prop} {r : List Prop} (hr : ∀ p ∈ r, p) : ∀ (m i : Nat), (∀ j s, i ≤ j → j < i + m → (∀ p ∈ s, p) → ∀ p ∈ f j s, p) → ∀ p ∈ blocksC f m i r, p := by
  intro m
  induction m with
  | zero => intro i _; exact hr
  | succ m ih =>
    intro i h
    exact h i _ (Nat.le_refl _) (by omega) (ih (i + 1) fun j s h1 h2 => h j s (by omega) (by omega))
theorem blockC_all {Z : Nat → BitVec 8} {o3 n3 m3 i : Nat} {r : List Prop} (h1 : 16 * i + 16 ≤ m3) (h2 : o3 + 16 * i + 16 ≤ n3) (hr : ∀ p ∈ r, p) : ∀ p ∈ blockC Z o3 n3 m3 i r, p :=
  all_cons h1 (all_cons (byteF_isB Z) (all_cons ⟨Nat.le_refl _, h2⟩ (all_cons (Nat.le_refl _) (all_cons (Nat.le_refl _) hr))))
theorem blockP_all {Z : Nat → BitVec 8} {l o3 n3 m3 i : Nat} {r : List Prop} (h0 : 16 * i + 16 ≤ l) (h1 : l ≤ m3) (h2 : o3 + l ≤ n3) (hr : ∀ p ∈ r, p) : ∀ p ∈ blockP Z l o3 n3 m3 i r, p :=
  all_cons (decide_eq_true (by omega)) (all_cons (decide_eq_false (by omega)) (blockC_all (by omega) (by omega) hr))
theorem cutC_all {Z : Nat → BitVec 8} {l o3 n3 m3 k : Nat} {r : List Prop} (h : k < l) (h' : l < k + 16) (h1 : l ≤ m3) (h2 : o3 + l ≤ n3) (hr : ∀ p ∈ r, p) : ∀ p ∈ cutC Z l o3 n3 m3 k r, p := by
  have hp := padN_eq h h'
  have hz := zeroStr_size (padN l k)
  refine all_cons (decide_eq_true (by omega)) (all_cons (decide_eq_true (by omega)) (all_cons ⟨by omega, by omega⟩ (all_cons ⟨by omega, by omega⟩ (all_cons (by omega) (all_cons (decide_eq_false (by omega)) (all_cons (decide_eq_true (by omega))
    (all_cons ⟨by omega, by omega⟩ (all_cons ⟨by omega, by rw [hp]; omega, by rw [hp]; omega⟩ (all_cons ⟨by omega, byteF_isB Z⟩ (all_cons ⟨by omega, ⟨by omega, by omega⟩, rfl⟩ hr))))))))))
theorem lastC_all {Z : Nat → BitVec 8} {l o3 n3 m3 k : Nat} {r : List Prop} (h : k < l) (h' : l < k + 16) (h1 : l ≤ m3) (h2 : o3 + l ≤ n3) (hr : ∀ p ∈ r, p) : ∀ p ∈ lastC Z l o3 n3 m3 k r, p := by
  have hp := padN_eq h h'
  have hz := zeroStr_size (padN l k)
  have e : l - k + (zeroStr (padN l k)).size = 16 := by omega
  refine cutC_all h h' h1 h2 (all_cons ?_ (all_cons (decide_eq_true e) (all_cons (byteF_isB _) (all_cons ⟨Nat.le_refl _, by omega⟩ (all_cons (Nat.le_refl _) (all_cons (Nat.le_refl _) (all_cons (decide_eq_false (by omega)) hr)))))))
  rw [e]; rfl
theorem encFP_all {m : Nat} {X Y Z : Nat → BitVec 8} {n n2 n3 m3 o o2 o3 : Nat} (h1 : o + 16 ≤ n) (h2 : o2 + 16 ≤ n2) (h3 : o3 + 16 * m ≤ n3) (h4 : 16 * m ≤ m3) : ∀ p ∈ encFP m X Y Z n n2 n3 m3 o o2 o3, p :=
  startC_all h1 h2 (startC_all h1 h2 (blocksC_all (all_cons (Nat.le_refl _) all_nil) m 0 fun j s _ hj hs => blockC_all (by omega) (by omega) hs))
theorem encPP_all {m : Nat} {X Y Z : Nat → BitVec 8} {n n2 n3 m3 l o o2 o3 : Nat} (h1 : o + 16 ≤ n) (h2 : o2 + 16 ≤ n2) (h3 : o3 + l ≤ n3) (h4 : l ≤ m3) (hm : 1 ≤ m) (hm2 : m ≤ 14) (hl : 16 * m < l) (hl2 : l < 16 * m + 16) : ∀ p ∈ encPP m X Y Z n n2 n3 m3 l o o2 o3, p :=
  startC_all h1 h2 (all_cons (decide_eq_false (by omega)) (all_cons (decide_eq_false (by omega)) (startC_all h1 h2 (blocksC_all (lastC_all hl hl2 h4 h3 (all_cons ⟨by omega, by omega⟩ (all_cons (decide_eq_false (by omega)) (all_cons ⟨by omega, by omega, by omega⟩ all_nil)))) m 0 fun j s _ hj hs => blockP_all (by omega) h4 h3 hs))))
theorem seenB_all {Z : Nat → BitVec 8} {o3 n3 k : Nat} {r : List Prop} (h : o3 + k + 16 ≤ n3) (hr : ∀ p ∈ r, p) : ∀ p ∈ seenB Z o3 n3 k r, p := all_cons (byteF_isB Z) (all_cons h hr)
theorem prevB_all {Z : Nat → BitVec 8} {o3 n3 k : Nat} {r : List Prop} (h : o3 + k + 16 ≤ n3) (hr : ∀ p ∈ r, p) : ∀ p ∈ prevB Z o3 n3 k r, p := all_cons (byteF_isB Z) (all_cons ⟨Nat.le_refl _, h⟩ hr)
theorem firstB_all {Z : Nat → BitVec 8} {o3 n3 k : Nat} {r : List Prop} (h : o3 + k + 16 ≤ n3) (hr : ∀ p ∈ r, p) : ∀ p ∈ firstB Z o3 n3 k r, p := seenB_all h (all_cons ⟨Nat.le_refl _, Nat.le_refl _⟩ hr)
theorem nextB_all {Z : Nat → BitVec 8} {o3 n3 k k' : Nat} {r : List Prop} (h : o3 + k + 16 ≤ n3) (h' : o3 + k' + 16 ≤ n3) (hr : ∀ p ∈ r, p) : ∀ p ∈ nextB Z o3 n3 k k' r, p := seenB_all h' (prevB_all h hr)
theorem runB_all {Z : Nat → BitVec 8} {o3 n3 n : Nat} {r : List Prop} (h : o3 + 16 * n ≤ n3) (hr : ∀ p ∈ r, p) : ∀ p ∈ runB Z o3 n3 n r, p := by
  cases n with
  | zero => exact hr
  | succ j =>
    refine firstB_all (by omega) ?_
    have key : ∀ (k i : Nat), i + k ≤ j → ∀ p ∈ (Nat.rec (motive := fun _ => Nat → List Prop) (fun _ => r) (fun _ ih i => nextB Z o3 n3 (16 * i) (16 * Nat.succ i) (ih (Nat.succ i))) k i : List Prop), p := by
      intro k
      induction k with
      | zero => intro i _; exact hr
      | succ k ih => intro i hi; exact nextB_all (by omega) (by show o3 + 16 * (i + 1) + 16 ≤ n3; omega) (ih (i + 1) (by omega))
    exact key j 0 (by omega)
theorem decFP_all {m : Nat} {X Y Z : Nat → BitVec 8} {n n2 n3 m3 o o2 o3 : Nat} (h1 : o + 16 ≤ n) (h2 : o2 + 16 ≤ n2) (h3 : o3 + (16 * m + 32) ≤ n3) (h4 : 16 * m + 32 ≤ m3) : ∀ p ∈ decFP m X Y Z n n2 n3 m3 o o2 o3, p := by
  refine startC_all h1 h2 (blocksC_all (seenB_all (by omega) (runB_all (by omega) ?_)) (m + 2) 0 fun j s _ hj hs => all_cons (by omega) hs)
  have hlast : ∀ p ∈ nextB Z o3 n3 (16 * m + 16) (16 * m) [16 * m + 32 ≤ 16 * m + 32], p := nextB_all (by omega) (by omega) (all_cons (Nat.le_refl _) all_nil)
  cases m with
  | zero => exact firstB_all (by omega) hlast
  | succ j => exact nextB_all (by omega) (by omega) hlast
theorem decPP_all {m : Nat} {X Y Z : Nat → BitVec 8} {n n2 n3 m3 l o o2 o3 : Nat} (h1 : o + 16 ≤ n) (h2 : o2 + 16 ≤ n2) (h3 : o3 + l ≤ n3) (h4 : l ≤ m3) (hm2 : m ≤ 14) (hl : 16 * m + 16 < l) (hl2 : l < 16 * m + 32) : ∀ p ∈ decPP m X Y Z n n2 n3 m3 l o o2 o3, p := by
  have hk : knowN l (16 * m + 16) = l - (16 * m + 16) := by unfold knowN; omega
  have hp := padN_eq hl (by omega)
  have hz := zeroStr_size (padN l (16 * m + 16))
  refine startC_all h1 h2 (all_cons (decide_eq_false (by omega)) (all_cons (decide_eq_false (by omega)) (blocksC_all (cutC_all hl (by omega) h4 h3 ?_) (m + 1) 0 fun j s _ hj hs => all_cons (decide_eq_true (by omega)) (all_cons (decide_eq_false (by omega)) (all_cons (by omega) hs)))))
  refine all_cons (decide_eq_false (by omega)) (all_cons ⟨by omega, by omega⟩ (seenB_all (by omega) (all_cons ⟨by omega, by omega⟩ (all_cons ⟨by omega, by omega⟩ (all_cons ⟨by omega, by omega⟩ (all_cons (by omega) (all_cons ⟨by omega, byteF_isB _⟩ (all_cons ⟨by omega, ⟨by omega, by omega⟩, rfl⟩ (runB_all (by omega)
    (all_cons (decide_eq_true (by omega)) (all_cons (byteF_isB _) (all_cons (by omega) ?_))))))))))))
  have hlast : ∀ p ∈ seenB Z o3 n3 (16 * m) ((decide (knowN l (16 * m + 16) + (16 - knowN l (16 * m + 16)) = 16) = true) :: IsB (byteF (beforeW (byteAt (keysL (block16 X o))) Z l o3 (16 * m)))
          :: (16 ≤ 16 ∧ 0 + 16 ≤ knowN l (16 * m + 16) + (16 - knowN l (16 * m + 16))) :: (0 ≤ (l : Int) ∧ (l : Int) ≤ ((16 * m + 32 : Nat) : Int)) :: (decide (l = 0) = false) :: [0 + l ≤ 16 * m + 32 ∧ roomy l 1]), p :=
    seenB_all (by omega) (all_cons (decide_eq_true (by omega)) (all_cons (byteF_isB _) (all_cons ⟨Nat.le_refl _, by omega⟩ (all_cons ⟨by omega, by omega⟩ (all_cons (decide_eq_false (by omega)) (all_cons ⟨by omega, by omega, by omega⟩ all_nil))))))
  cases m with
  | zero => exact all_cons ⟨Nat.le_refl _, Nat.le_refl _⟩ hlast
  | succ j => exact prevB_all (by omega) hlast

/- A good run. -/
theorem out_new {I : Ifc} {base nm : Nat} (h : I.names.length ≤ nm) : I.out base [nm] nm = base := by
  have hk : I.known nm = false := by
    rw [Bool.eq_false_iff]; intro hk
    have := (I.known_iff nm).1 hk; omega
  unfold Ifc.out
  rw [hk, boolC_false]
  show base + boolC (Nat.beq nm nm) 0 _ = base
  rw [show Nat.beq nm nm = true from Nat.beq_refl nm]; rfl
theorem seen_new {I : Ifc} {nm : Nat} : I.seen [nm] nm = true := by
  unfold Ifc.seen
  cases I.known nm with
  | true => rfl
  | false =>
    show boolC (Nat.beq nm nm) true _ = true
    rw [show Nat.beq nm nm = true from Nat.beq_refl nm]; rfl
theorem pair_ren (f : Nat → Nat) (nm : Nat) (l : SN) : (pairR nm l).ren f = pairR (f nm) l := rfl
theorem pair_imp {nm : Nat} {l l' : SN} (h : l.den = l'.den) : (pairR nm l).Imp (pairR nm l') := by
  intro γ x hx
  unfold pairR at *
  simp only [SV.den, SV.denL] at hx ⊢
  rw [← h]; exact hx
theorem pair_uses {p : Nat → Bool} {nm : Nat} (h : p nm = true) (l : SN) : (pairR nm l).uses p = true := by
  unfold pairR
  simp only [SV.uses, SV.usesL, SC.uses, h, Bool.and_self]
theorem bytes_imp {xs : Blk} {l : Nat} (h : xs.length = l) : (Cells.lst (bx xs)).Imp (.fn (byteF (byteAt xs)) l) := by
  intro γ vs hv
  subst h
  exact bx_rel hv
/-- what a good run leaves -/
def GoodE (xs : Blk) (l : Nat) (E : SO) : Prop := (E = .own (.lst (bx xs)) false 5 ∧ xs.length = l) ∨ E = .own (.fn (fun i => byteF (byteAt xs) (0 + i)) l) false 5
theorem given_good {p : Nat → Bool} {g : Nat → Nat} {e : Option SO} {xs : Blk} {l : Nat} {E : SO} (h : GoodE xs l E) (he : e = some E) : Given p g e (.own (.fn (byteF (byteAt xs)) l) false 5) := by
  rcases h with ⟨rfl, hl⟩ | rfl
  · refine given_imp he (bx_uses _ _) ?_
    show (Cells.lst (SV.renL g (bx xs))).Imp _
    rw [bx_ren]
    exact bytes_imp hl
  · refine given_imp he (fun _ => rfl) ?_
    show (Cells.fn (fun i => byteF (byteAt xs) (0 + i)) l).Imp _
    have e : (fun i => byteF (byteAt xs) (0 + i)) = byteF (byteAt xs) := by funext i; rw [Nat.zero_add]
    rw [e]; exact .refl _
def GoodRun (f : FuncId) (F : Blk → Blk → (Nat → BitVec 8) → Nat → Blk) : Prop := ∀ (X Y Z : Nat → BitVec 8) (n m1 n2 m2 n3 m3 o o2 o3 l : Nat), o + 16 ≤ n → o2 + 16 ≤ n2 → o3 + l ≤ n3 → l ≤ m3 → 16 ≤ l → l ≤ 224 →
  ∃ (nm : Nat) (lS : SN) (ds : List Bool) (ps : List Prop) (E : SO), 3 ≤ nm ∧ lS.den = l ∧ (∀ z, outZ [nm] (callSim cfgC2 20000 f (argsC m1 m2 m3 o o2 o3 lS) (entsC X Y Z n n2 n3)) ds z = (ps, some (pairR nm lS, [some E]))) ∧ (∀ p ∈ ps, p) ∧ GoodE (F (block16 X o) (block16 Y o2) (fun j => Z (o3 + j)) l) l E
theorem encF_all (X Y Z : Nat → BitVec 8) (n m1 n2 m2 n3 m3 o o2 o3 : Nat) (z : Nat → Nat → Nat) : ∀ m, 1 ≤ m → m ≤ 14 → encFL m X Y Z n m1 n2 m2 n3 m3 o o2 o3 z = encFR m X Y Z n n2 n3 m3 o o2 o3
  | 1, _, _ => encF1 X Y Z n m1 n2 m2 n3 m3 o o2 o3 z
  | 2, _, _ => encF2 X Y Z n m1 n2 m2 n3 m3 o o2 o3 z
  | 3, _, _ => encF3 X Y Z n m1 n2 m2 n3 m3 o o2 o3 z
  | 4, _, _ => encF4 X Y Z n m1 n2 m2 n3 m3 o o2 o3 z
  | 5, _, _ => encF5 X Y Z n m1 n2 m2 n3 m3 o o2 o3 z
  | 6, _, _ => encF6 X Y Z n m1 n2 m2 n3 m3 o o2 o3 z
  | 7, _, _ => encF7 X Y Z n m1 n2 m2 n3 m3 o o2 o3 z
  | 8, _, _ => encF8 X Y Z n m1 n2 m2 n3 m3 o o2 o3 z
  | 9, _, _ => encF9 X Y Z n m1 n2 m2 n3 m3 o o2 o3 z
  | 10, _, _ => encF10 X Y Z n m1 n2 m2 n3 m3 o o2 o3 z
  | 11, _, _ => encF11 X Y Z n m1 n2 m2 n3 m3 o o2 o3 z
  | 12, _, _ => encF12 X Y Z n m1 n2 m2 n3 m3 o o2 o3 z
  | 13, _, _ => encF13 X Y Z n m1 n2 m2 n3 m3 o o2 o3 z
  | 14, _, _ => encF14 X Y Z n m1 n2 m2 n3 m3 o o2 o3 z
  | 0, h, _ => absurd h (by omega)
  | m + 15, _, h => absurd h (by omega)
theorem encP_all (X Y Z : Nat → BitVec 8) (n m1 n2 m2 n3 m3 l o o2 o3 : Nat) (z : Nat → Nat → Nat) : ∀ m, 1 ≤ m → m ≤ 13 → encPL m X Y Z n m1 n2 m2 n3 m3 l o o2 o3 z = encPR m X Y Z n n2 n3 m3 l o o2 o3
  | 1, _, _ => encP1 X Y Z n m1 n2 m2 n3 m3 l o o2 o3 z
  | 2, _, _ => encP2 X Y Z n m1 n2 m2 n3 m3 l o o2 o3 z
  | 3, _, _ => encP3 X Y Z n m1 n2 m2 n3 m3 l o o2 o3 z
  | 4, _, _ => encP4 X Y Z n m1 n2 m2 n3 m3 l o o2 o3 z
  | 5, _, _ => encP5 X Y Z n m1 n2 m2 n3 m3 l o o2 o3 z
  | 6, _, _ => encP6 X Y Z n m1 n2 m2 n3 m3 l o o2 o3 z
  | 7, _, _ => encP7 X Y Z n m1 n2 m2 n3 m3 l o o2 o3 z
  | 8, _, _ => encP8 X Y Z n m1 n2 m2 n3 m3 l o o2 o3 z
  | 9, _, _ => encP9 X Y Z n m1 n2 m2 n3 m3 l o o2 o3 z
  | 10, _, _ => encP10 X Y Z n m1 n2 m2 n3 m3 l o o2 o3 z
  | 11, _, _ => encP11 X Y Z n m1 n2 m2 n3 m3 l o o2 o3 z
  | 12, _, _ => encP12 X Y Z n m1 n2 m2 n3 m3 l o o2 o3 z
  | 13, _, _ => encP13 X Y Z n m1 n2 m2 n3 m3 l o o2 o3 z
  | 0, h, _ => absurd h (by omega)
  | m + 14, _, h => absurd h (by omega)
theorem decF_all (X Y Z : Nat → BitVec 8) (n m1 n2 m2 n3 m3 o o2 o3 : Nat) (z : Nat → Nat → Nat) : ∀ m, m ≤ 12 → decFL m X Y Z n m1 n2 m2 n3 m3 o o2 o3 z = decFR m X Y Z n n2 n3 m3 o o2 o3
  | 0, _ => decF0 X Y Z n m1 n2 m2 n3 m3 o o2 o3 z
  | 1, _ => decF1 X Y Z n m1 n2 m2 n3 m3 o o2 o3 z
  | 2, _ => decF2 X Y Z n m1 n2 m2 n3 m3 o o2 o3 z
  | 3, _ => decF3 X Y Z n m1 n2 m2 n3 m3 o o2 o3 z
  | 4, _ => decF4 X Y Z n m1 n2 m2 n3 m3 o o2 o3 z
  | 5, _ => decF5 X Y Z n m1 n2 m2 n3 m3 o o2 o3 z
  | 6, _ => decF6 X Y Z n m1 n2 m2 n3 m3 o o2 o3 z
  | 7, _ => decF7 X Y Z n m1 n2 m2 n3 m3 o o2 o3 z
  | 8, _ => decF8 X Y Z n m1 n2 m2 n3 m3 o o2 o3 z
  | 9, _ => decF9 X Y Z n m1 n2 m2 n3 m3 o o2 o3 z
  | 10, _ => decF10 X Y Z n m1 n2 m2 n3 m3 o o2 o3 z
  | 11, _ => decF11 X Y Z n m1 n2 m2 n3 m3 o o2 o3 z
  | 12, _ => decF12 X Y Z n m1 n2 m2 n3 m3 o o2 o3 z
  | m + 13, h => absurd h (by omega)
theorem decP_all (X Y Z : Nat → BitVec 8) (n m1 n2 m2 n3 m3 l o o2 o3 : Nat) (z : Nat → Nat → Nat) : ∀ m, m ≤ 12 → decPL m X Y Z n m1 n2 m2 n3 m3 l o o2 o3 z = decPR m X Y Z n n2 n3 m3 l o o2 o3
  | 0, _ => decP0 X Y Z n m1 n2 m2 n3 m3 l o o2 o3 z
  | 1, _ => decP1 X Y Z n m1 n2 m2 n3 m3 l o o2 o3 z
  | 2, _ => decP2 X Y Z n m1 n2 m2 n3 m3 l o o2 o3 z
  | 3, _ => decP3 X Y Z n m1 n2 m2 n3 m3 l o o2 o3 z
  | 4, _ => decP4 X Y Z n m1 n2 m2 n3 m3 l o o2 o3 z
  | 5, _ => decP5 X Y Z n m1 n2 m2 n3 m3 l o o2 o3 z
  | 6, _ => decP6 X Y Z n m1 n2 m2 n3 m3 l o o2 o3 z
  | 7, _ => decP7 X Y Z n m1 n2 m2 n3 m3 l o o2 o3 z
  | 8, _ => decP8 X Y Z n m1 n2 m2 n3 m3 l o o2 o3 z
  | 9, _ => decP9 X Y Z n m1 n2 m2 n3 m3 l o o2 o3 z
  | 10, _ => decP10 X Y Z n m1 n2 m2 n3 m3 l o o2 o3 z
  | 11, _ => decP11 X Y Z n m1 n2 m2 n3 m3 l o o2 o3 z
  | 12, _ => decP12 X Y Z n m1 n2 m2 n3 m3 l o o2 o3 z
  | m + 13, h => absurd h (by omega)
theorem enc_good : GoodRun 45 encF := by
  intro X Y Z n m1 n2 m2 n3 m3 o o2 o3 l h1 h2 h3 h4 h5 h6
  by_cases hr : l % 16 = 0
  · obtain ⟨m, rfl⟩ : ∃ m, l = 16 * m := ⟨l / 16, by omega⟩
    have hxs : encF (block16 X o) (block16 Y o2) (fun j => Z (o3 + j)) (16 * m) = encJ X Y o o2 (fullB Z o3 m) := by unfold encF encJ; rw [encBs_full]
    refine ⟨21 + 6 * m, .lit (16 * m), [], _, _, by omega, rfl, fun z => encF_all X Y Z n m1 n2 m2 n3 m3 o o2 o3 z m (by omega) (by omega), encFP_all h1 h2 h3 h4, .inl ⟨by rw [hxs], ?_⟩⟩
    rw [hxs]
    unfold encJ
    rw [joinL_length _ (fun b hb => chainL_16 _ _ _ b (swL_mem _ _ hb)), swL_length, chainL_length, fullB_length]
  · obtain ⟨m, hm, hm2⟩ : ∃ m, 16 * m < l ∧ l < 16 * m + 16 := ⟨l / 16, by omega, by omega⟩
    have hxs : encF (block16 X o) (block16 Y o2) (fun j => Z (o3 + j)) l = encJ X Y o o2 (app (fullB Z o3 m) [block16 (lastW Z l o3 (16 * m)) 0]) := by unfold encF encJ; rw [encBs_part Z o3 m l hm hm2]
    exact ⟨28 + 6 * m, .sym l, _, _, _, by omega, rfl, fun z => encP_all X Y Z n m1 n2 m2 n3 m3 l o o2 o3 z m (by omega) (by omega), encPP_all h1 h2 h3 h4 (by omega) (by omega) hm hm2, .inr (by rw [hxs])⟩
theorem dec_good : GoodRun 46 decF := by
  intro X Y Z n m1 n2 m2 n3 m3 o o2 o3 l h1 h2 h3 h4 h5 h6
  by_cases h16 : l = 16
  · subst h16
    have hxs : decF (block16 X o) (block16 Y o2) (fun j => Z (o3 + j)) 16 = decJ X Y o o2 (fullB Z o3 1) := by unfold decF decJ; rw [decBs_one]
    refine ⟨18, .lit 16, [], _, _, by omega, rfl, fun z => dec1 X Y Z n m1 n2 m2 n3 m3 o o2 o3 z, ?_, .inl ⟨by rw [hxs], ?_⟩⟩
    · exact startC_all h1 h2 (all_cons (by omega) (firstB_all (by omega) (all_cons (Nat.le_refl _) all_nil)))
    · rw [hxs]
      unfold decJ
      rw [joinL_length _ (unchainL_16 _ _ _), unchainL_length, fullB_length]
  by_cases hr : l % 16 = 0
  · obtain ⟨m, rfl⟩ : ∃ m, l = 16 * m + 32 := ⟨l / 16 - 2, by omega⟩
    have hxs : decF (block16 X o) (block16 Y o2) (fun j => Z (o3 + j)) (16 * m + 32) = decJ X Y o o2 (swL (fullB Z o3 (m + 2))) := by unfold decF decJ; rw [decBs_full]
    refine ⟨26 + 6 * m, .lit (16 * m + 32), [], _, _, by omega, rfl, fun z => decF_all X Y Z n m1 n2 m2 n3 m3 o o2 o3 z m (by omega), decFP_all h1 h2 h3 h4, .inl ⟨by rw [hxs], ?_⟩⟩
    rw [hxs]
    unfold decJ
    rw [joinL_length _ (unchainL_16 _ _ _), unchainL_length, swL_length, fullB_length]; omega
  · obtain ⟨m, hm, hm2⟩ : ∃ m, 16 * m + 16 < l ∧ l < 16 * m + 32 := ⟨l / 16 - 1, by omega, by omega⟩
    have hxs : decF (block16 X o) (block16 Y o2) (fun j => Z (o3 + j)) l = decJ X Y o o2 (app (fullB Z o3 m) [block16 (beforeW (byteAt (keysL (block16 X o))) Z l o3 (16 * m)) 0, block16 Z (o3 + 16 * m)]) := by
      unfold decF decJ; rw [decBs_part _ Z o3 m l hm hm2]
    exact ⟨28 + 6 * m, .sym l, _, _, _, by omega, rfl, fun z => decP_all X Y Z n m1 n2 m2 n3 m3 l o o2 o3 z m (by omega), decPP_all h1 h2 h3 h4 (by omega) hm hm2, .inr (by rw [hxs])⟩

end Go.Proofs.YtbmgahpjgefjaaaDoor.Aes

