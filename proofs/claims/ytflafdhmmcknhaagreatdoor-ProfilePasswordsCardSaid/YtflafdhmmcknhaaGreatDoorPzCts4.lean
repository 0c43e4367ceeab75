/-
  Chained blocks, fourth part: what Encrypt and Decrypt come to, for every number of bytes from 16 to 224.
-/
import Derived.Test.YtflafdhmmcknhaaGreatDoorPzCts3
namespace Go.Proofs.YtflafdhmmcknhaaGreatDoor.Aes
open Go.Sim
open Go.Proofs
variable {α : Type}

/- The text's blocks, the last one with zeros behind it. -/
noncomputable def cpadF (P : Nat → BitVec 8) (l : Nat) : Nat → BitVec 8 := fun j => if j < l then P j else 0#8
def numB (l : Nat) : Nat := (l + 15) / 16
noncomputable def encBs (P : Nat → BitVec 8) (l : Nat) : List Blk := fullB (cpadF P l) 0 (numB l)
noncomputable def encF (K V : Blk) (P : Nat → BitVec 8) (l : Nat) : Blk := joinL (swL (chainL (byteAt (keysL K)) (encBs P l) V))

theorem blk16_eq {X Y : Nat → BitVec 8} {o o2 : Nat} (h : ∀ j, j < 16 → X (o + j) = Y (o2 + j)) : block16 X o = block16 Y o2 := by
  unfold block16
  rw [mapN_eq, mapN_eq, fromN_range]
  apply List.map_congr_left
  intro i hi
  rw [List.mem_range'] at hi
  obtain ⟨j, hj, rfl⟩ := hi
  exact h _ (by omega)
theorem fullB_eq {X Y : Nat → BitVec 8} {o o2 n : Nat} (h : ∀ j, j < 16 * n → X (o + j) = Y (o2 + j)) : fullB X o n = fullB Y o2 n := by
  unfold fullB
  rw [mapN_eq, mapN_eq, fromN_range]
  apply List.map_congr_left
  intro i hi
  rw [List.mem_range'] at hi
  obtain ⟨j, hj, rfl⟩ := hi
  refine blk16_eq fun k hk => ?_
  rw [Nat.add_assoc, Nat.add_assoc]
  exact h _ (by omega)
theorem fullB_succ (X : Nat → BitVec 8) (o n : Nat) : fullB X o (n + 1) = app (fullB X o n) [block16 X (o + 16 * n)] := by
  unfold fullB
  rw [mapN_eq, mapN_eq, fromN_range, fromN_range, app_eq, List.range'_concat, List.map_append, Nat.one_mul, Nat.zero_add]
  rfl
theorem fullB_length (X : Nat → BitVec 8) (o n : Nat) : (fullB X o n).length = n := by
  unfold fullB; rw [mapN_eq, fromN_range]; simp
theorem zeroStr_get (n i : Nat) : ((zeroStr n).data.getD i 0).toBitVec = 0#8 := by
  unfold zeroStr
  rw [Array.getD_eq_getD_getElem?, Array.getElem?_replicate]
  split <;> rfl
theorem padN_eq {l k : Nat} (h : k < l) (h2 : l < k + 16) : padN l k = 16 - (l - k) := by unfold padN; omega
theorem encBs_full (Z : Nat → BitVec 8) (o m : Nat) : encBs (fun j => Z (o + j)) (16 * m) = fullB Z o m := by
  unfold encBs
  rw [show numB (16 * m) = m from by unfold numB; omega]
  refine fullB_eq fun j hj => ?_
  unfold cpadF
  rw [Nat.zero_add, if_pos hj]
theorem encBs_part (Z : Nat → BitVec 8) (o m l : Nat) (h : 16 * m < l) (h2 : l < 16 * m + 16) : encBs (fun j => Z (o + j)) l = app (fullB Z o m) [block16 (lastW Z l o (16 * m)) 0] := by
  unfold encBs
  rw [show numB l = m + 1 from by unfold numB; omega, fullB_succ]
  congr 1
  · refine fullB_eq fun j hj => ?_
    unfold cpadF
    rw [Nat.zero_add, if_pos (by omega)]
  · congr 1
    refine blk16_eq fun j hj => ?_
    unfold cpadF lastW catB
    rw [Nat.zero_add, Nat.zero_add]
    by_cases hlt : 16 * m + j < l
    · rw [if_pos hlt, if_pos (by omega)]
      show Z (o + (16 * m + j)) = Z (o + 16 * m + j)
      rw [Nat.add_assoc]
    · rw [if_neg hlt, if_neg (by omega)]
      exact (zeroStr_get _ _).symm
/- Lengths. -/
theorem joinL_length : ∀ l : List Blk, (∀ b ∈ l, b.length = 16) → (joinL l).length = 16 * l.length
  | [], _ => rfl
  | b :: l, h => by
    show (app b (joinL l)).length = _
    rw [app_eq, List.length_append, joinL_length l (fun x hx => h x (List.mem_cons_of_mem _ hx)), h b List.mem_cons_self, List.length_cons]; omega
theorem swL_mem : ∀ (l : List Blk) (x : Blk), x ∈ swL l → x ∈ l
  | [], x, h => h
  | [a], x, h => h
  | [a, b], x, h => by
    have h : x ∈ [b, a] := h
    simp only [List.mem_cons, List.not_mem_nil, or_false] at h ⊢
    exact h.symm
  | a :: b :: c :: r, x, h => by
    have h : x ∈ a :: swL (b :: c :: r) := h
    rcases List.mem_cons.1 h with rfl | h
    · exact List.mem_cons_self
    · exact List.mem_cons_of_mem _ (swL_mem _ _ h)
theorem swL_length : ∀ l : List Blk, (swL l).length = l.length
  | [] => rfl
  | [_] => rfl
  | [_, _] => rfl
  | a :: b :: c :: r => by
    show (a :: swL (b :: c :: r)).length = _
    rw [List.length_cons, swL_length (b :: c :: r)]; rfl
theorem chainL_length (ks : Nat → BitVec 8) : ∀ (bs : List Blk) (v : Blk), (chainL ks bs v).length = bs.length
  | [], _ => rfl
  | b :: r, v => by
    show (encL ks (addL v b) :: chainL ks r _).length = _
    rw [List.length_cons, chainL_length ks r, List.length_cons]
theorem chainL_16 (ks : Nat → BitVec 8) : ∀ (bs : List Blk) (v : Blk), ∀ b ∈ chainL ks bs v, b.length = 16
  | [], _, b, h => by cases h
  | c :: r, v, b, h => by
    have h : b ∈ encL ks (addL v c) :: chainL ks r (encL ks (addL v c)) := h
    rcases List.mem_cons.1 h with rfl | h
    · rfl
    · exact chainL_16 ks r _ b h

/- Conditions. -/
theorem startC_all {X Y : Nat → BitVec 8} {o n o2 n2 : Nat} {r : List Prop} (h1 : o + 16 ≤ n) (h2 : o2 + 16 ≤ n2) (hr : ∀ p ∈ r, p) : ∀ p ∈ startC X Y o n o2 n2 r, p := all_cons (byteF_isB X) (all_cons h1 (all_cons (byteF_isB Y) (all_cons h2 hr)))
theorem blocksC_all {f : Nat → List Prop → List Prop} {r : List Prop} (hr : ∀ p ∈ r, p) : ∀ (m i : Nat), (∀ j s, i ≤ j → j < i + m → (∀ p ∈ s, p) → ∀ p ∈ f j s, p) → ∀ p ∈ blocksC f m i r, p := by
  intro m
  induction m with
  | zero => intro i _; exact hr
  | succ m ih =>
    intro i h
    exact h i _ (Nat.le_refl _) (by omega) (ih (i + 1) fun j s h1 h2 => h j s (by omega) (by omega))
theorem blockC_all {Z : Nat → BitVec 8} {o3 n3 m3 i : Nat} {r : List Prop} (h1 : 16 * i + 16 ≤ m3) (h2 : o3 + 16 * i + 16 ≤ n3) (hr : ∀ p ∈ r, p) : ∀ p ∈ blockC Z o3 n3 m3 i r, p :=
  all_cons h1 (all_cons (byteF_isB Z) (all_cons ⟨Nat.le_refl _, h2⟩ (all_cons (Nat.le_refl _) (all_cons (Nat.le_refl _) hr))))
theorem blockP_all {Z : Nat → BitVec 8} {l o3 n3 m3 i : Nat} {r : List Prop} (h0 : 16 * i + 16 ≤ l) (h1 : l ≤ m3) (h2 : o3 + l ≤ n3) (hr : ∀ p ∈ r, p) : ∀ p ∈ blockP Z l o3 n3 m3 i r, p :=
  all_cons (decide_eq_true (by omega)) (all_cons (decide_eq_false (by omega)) (blockC_all (by omega) (by omega) hr))
theorem cutC_all {Z : Nat → BitVec 8} {l o3 n3 m3 k : Nat} {r : List Prop} (h : k < l) (h' : l < k + 16) (h1 : l ≤ m3) (h2 : o3 + l ≤ n3) (hr : ∀ p ∈ r, p) : ∀ p ∈ cutC Z l o3 n3 m3 k r, p := by
  have hp := padN_eq h h'
  have hz := zeroStr_size (padN l k)
  refine all_cons (decide_eq_true (by omega)) (all_cons (decide_eq_true (by omega)) (all_cons ⟨by omega, by omega⟩ (all_cons ⟨by omega, by omega⟩ (all_cons (by omega) (all_cons (decide_eq_false (by omega)) (all_cons (decide_eq_true (by omega))
    (all_cons ⟨by omega, by omega⟩ (all_cons ⟨by omega, by rw [hp]; omega, by rw [hp]; omega⟩ (all_cons ⟨by omega, byteF_isB Z⟩ (all_cons ⟨by omega, ⟨by omega, by omega⟩, rfl⟩ hr))))))))))
theorem lastC_all {Z : Nat → BitVec 8} {l o3 n3 m3 k : Nat} {r : List Prop} (h : k < l) (h' : l < k + 16) (h1 : l ≤ m3) (h2 : o3 + l ≤ n3) (hr : ∀ p ∈ r, p) : ∀ p ∈ lastC Z l o3 n3 m3 k r, p := by
  have hp := padN_eq h h'
  have hz := zeroStr_size (padN l k)
  have e : l - k + (zeroStr (padN l k)).size = 16 := by omega
  refine cutC_all h h' h1 h2 (all_cons ?_ (all_cons (decide_eq_true e) (all_cons (byteF_isB _) (all_cons ⟨Nat.le_refl _, by omega⟩ (all_cons (Nat.le_refl _) (all_cons (Nat.le_refl _) (all_cons (decide_eq_false (by omega)) hr)))))))
  rw [e]; rfl
theorem encFP_all {m : Nat} {X Y Z : Nat → BitVec 8} {n n2 n3 m3 o o2 o3 : Nat} (h1 : o + 16 ≤ n) (h2 : o2 + 16 ≤ n2) (h3 : o3 + 16 * m ≤ n3) (h4 : 16 * m ≤ m3) : ∀ p ∈ encFP m X Y Z n n2 n3 m3 o o2 o3, p :=
  startC_all h1 h2 (startC_all h1 h2 (blocksC_all (all_cons (Nat.le_refl _) all_nil) m 0 fun j s _ hj hs => blockC_all (by omega) (by omega) hs))
theorem encPP_all {m : Nat} {X Y Z : Nat → BitVec 8} {n n2 n3 m3 l o o2 o3 : Nat} (h1 : o + 16 ≤ n) (h2 : o2 + 16 ≤ n2) (h3 : o3 + l ≤ n3) (h4 : l ≤ m3) (hm : 1 ≤ m) (hm2 : m ≤ 14) (hl : 16 * m < l) (hl2 : l < 16 * m + 16) : ∀ p ∈ encPP m X Y Z n n2 n3 m3 l o o2 o3, p :=
  startC_all h1 h2 (all_cons (decide_eq_false (by omega)) (all_cons (decide_eq_false (by omega)) (startC_all h1 h2 (blocksC_all (lastC_all hl hl2 h4 h3 (all_cons ⟨by omega, by omega⟩ (all_cons (decide_eq_false (by omega)) (all_cons ⟨by omega, by omega, by omega⟩ all_nil)))) m 0 fun j s _ hj hs => blockP_all (by omega) h4 h3 hs))))

/- A good run. -/
theorem out_new {I : Ifc} {base nm : Nat} (h : I.names.length ≤ nm) : I.out base [nm] nm = base := by
  have hk : I.known nm = false := by
    rw [Bool.eq_false_iff]; intro hk
    have := (I.known_iff nm).1 hk; omega
  unfold Ifc.out
  rw [hk, boolC_false]
  show base + boolC (Nat.beq nm nm) 0 _ = base
  rw [show Nat.beq nm nm = true from Nat.beq_refl nm]; rfl
theorem seen_new {I : Ifc} {nm : Nat} : I.seen [nm] nm = true := by
  unfold Ifc.seen
  cases I.known nm with
  | true => rfl
  | false =>
    show boolC (Nat.beq nm nm) true _ = true
    rw [show Nat.beq nm nm = true from Nat.beq_refl nm]; rfl
theorem pair_ren (f : Nat → Nat) (nm : Nat) (l : SN) : (pairR nm l).ren f = pairR (f nm) l := rfl
theorem pair_imp {nm : Nat} {l l' : SN} (h : l.den = l'.den) : (pairR nm l).Imp (pairR nm l') := by
  intro γ x hx
  unfold pairR at *
  simp only [SV.den, SV.denL] at hx ⊢
  rw [← h]; exact hx
theorem pair_uses {p : Nat → Bool} {nm : Nat} (h : p nm = true) (l : SN) : (pairR nm l).uses p = true := by
  unfold pairR
  simp only [SV.uses, SV.usesL, SC.uses, h, Bool.and_self]
theorem bytes_imp {xs : Blk} {l : Nat} (h : xs.length = l) : (Cells.lst (bx xs)).Imp (.fn (byteF (byteAt xs)) l) := by
  intro γ vs hv
  subst h
  exact bx_rel hv
/-- what a good run leaves -/
def GoodE (xs : Blk) (l : Nat) (E : SO) : Prop := (E = .own (.lst (bx xs)) false 5 ∧ xs.length = l) ∨ E = .own (.fn (fun i => byteF (byteAt xs) (0 + i)) l) false 5
theorem given_good {p : Nat → Bool} {g : Nat → Nat} {e : Option SO} {xs : Blk} {l : Nat} {E : SO} (h : GoodE xs l E) (he : e = some E) : Given p g e (.own (.fn (byteF (byteAt xs)) l) false 5) := by
  rcases h with ⟨rfl, hl⟩ | rfl
  · refine given_imp he (bx_uses _ _) ?_
    show (Cells.lst (SV.renL g (bx xs))).Imp _
    rw [bx_ren]
    exact bytes_imp hl
  · refine given_imp he (fun _ => rfl) ?_
    show (Cells.fn (fun i => byteF (byteAt xs) (0 + i)) l).Imp _
    have e : (fun i => byteF (byteAt xs) (0 + i)) = byteF (byteAt xs) := by funext i; rw [Nat.zero_add]
    rw [e]; exact .refl _
def GoodRun (f : FuncId) (F : Blk → Blk → (Nat → BitVec 8) → Nat → Blk) : Prop := ∀ (X Y Z : Nat → BitVec 8) (n m1 n2 m2 n3 m3 o o2 o3 l : Nat), o + 16 ≤ n → o2 + 16 ≤ n2 → o3 + l ≤ n3 → l ≤ m3 → 16 ≤ l → l ≤ 224 →
  ∃ (nm : Nat) (lS : SN) (ds : List Bool) (ps : List Prop) (E : SO), 3 ≤ nm ∧ lS.den = l ∧ (∀ z, outZ [nm] (callSim cfgC2 20000 f (argsC m1 m2 m3 o o2 o3 lS) (entsC X Y Z n n2 n3)) ds z = (ps, some (pairR nm lS, [some E]))) ∧ (∀ p ∈ ps, p) ∧ GoodE (F (block16 X o) (block16 Y o2) (fun j => Z (o3 + j)) l) l E
theorem encF_all (X Y Z : Nat → BitVec 8) (n m1 n2 m2 n3 m3 o o2 o3 : Nat) (z : Nat → Nat → Nat) : ∀ m, 1 ≤ m → m ≤ 14 → encFL m X Y Z n m1 n2 m2 n3 m3 o o2 o3 z = encFR m X Y Z n n2 n3 m3 o o2 o3
  | 1, _, _ => encF1 X Y Z n m1 n2 m2 n3 m3 o o2 o3 z
  | 2, _, _ => encF2 X Y Z n m1 n2 m2 n3 m3 o o2 o3 z
  | 3, _, _ => encF3 X Y Z n m1 n2 m2 n3 m3 o o2 o3 z
  | 4, _, _ => encF4 X Y Z n m1 n2 m2 n3 m3 o o2 o3 z
  | 5, _, _ => encF5 X Y Z n m1 n2 m2 n3 m3 o o2 o3 z
  | 6, _, _ => encF6 X Y Z n m1 n2 m2 n3 m3 o o2 o3 z
  | 7, _, _ => encF7 X Y Z n m1 n2 m2 n3 m3 o o2 o3 z
  | 8, _, _ => encF8 X Y Z n m1 n2 m2 n3 m3 o o2 o3 z
  | 9, _, _ => encF9 X Y Z n m1 n2 m2 n3 m3 o o2 o3 z
  | 10, _, _ => encF10 X Y Z n m1 n2 m2 n3 m3 o o2 o3 z
  | 11, _, _ => encF11 X Y Z n m1 n2 m2 n3 m3 o o2 o3 z
  | 12, _, _ => encF12 X Y Z n m1 n2 m2 n3 m3 o o2 o3 z
  | 13, _, _ => encF13 X Y Z n m1 n2 m2 n3 m3 o o2 o3 z
  | 14, _, _ => encF14 X Y Z n m1 n2 m2 n3 m3 o o2 o3 z
  | 0, h, _ => absurd h (by omega)
  | m + 15, _, h => absurd h (by omega)
theorem encP_all (X Y Z : Nat → BitVec 8) (n m1 n2 m2 n3 m3 l o o2 o3 : Nat) (z : Nat → Nat → Nat) : ∀ m, 1 ≤ m → m ≤ 13 → encPL m X Y Z n m1 n2 m2 n3 m3 l o o2 o3 z = encPR m X Y Z n n2 n3 m3 l o o2 o3
  | 1, _, _ => encP1 X Y Z n m1 n2 m2 n3 m3 l o o2 o3 z
  | 2, _, _ => encP2 X Y Z n m1 n2 m2 n3 m3 l o o2 o3 z
  | 3, _, _ => encP3 X Y Z n m1 n2 m2 n3 m3 l o o2 o3 z
  | 4, _, _ => encP4 X Y Z n m1 n2 m2 n3 m3 l o o2 o3 z
  | 5, _, _ => encP5 X Y Z n m1 n2 m2 n3 m3 l o o2 o3 z
  | 6, _, _ => encP6 X Y Z n m1 n2 m2 n3 m3 l o o2 o3 z
  | 7, _, _ => encP7 X Y Z n m1 n2 m2 n3 m3 l o o2 o3 z
  | 8, _, _ => encP8 X Y Z n m1 n2 m2 n3 m3 l o o2 o3 z
  | 9, _, _ => encP9 X Y Z n m1 n2 m2 n3 m3 l o o2 o3 z
  | 10, _, _ => encP10 X Y Z n m1 n2 m2 n3 m3 l o o2 o3 z
  | 11, _, _ => encP11 X Y Z n m1 n2 m2 n3 m3 l o o2 o3 z
  | 12, _, _ => encP12 X Y Z n m1 n2 m2 n3 m3 l o o2 o3 z
  | 13, _, _ => encP13 X Y Z n m1 n2 m2 n3 m3 l o o2 o3 z
  | 0, h, _ => absurd h (by omega)
  | m + 14, _, h => absurd h (by omega)
theorem enc_good : GoodRun 54 encF := by
  intro X Y Z n m1 n2 m2 n3 m3 o o2 o3 l h1 h2 h3 h4 h5 h6
  by_cases hr : l % 16 = 0
  · obtain ⟨m, rfl⟩ : ∃ m, l = 16 * m := ⟨l / 16, by omega⟩
    have hxs : encF (block16 X o) (block16 Y o2) (fun j => Z (o3 + j)) (16 * m) = encJ X Y o o2 (fullB Z o3 m) := by unfold encF encJ; rw [encBs_full]
    refine ⟨21 + 6 * m, .lit (16 * m), [], _, _, by omega, rfl, fun z => encF_all X Y Z n m1 n2 m2 n3 m3 o o2 o3 z m (by omega) (by omega), encFP_all h1 h2 h3 h4, .inl ⟨by rw [hxs], ?_⟩⟩
    rw [hxs]
    unfold encJ
    rw [joinL_length _ (fun b hb => chainL_16 _ _ _ b (swL_mem _ _ hb)), swL_length, chainL_length, fullB_length]
  · obtain ⟨m, hm, hm2⟩ : ∃ m, 16 * m < l ∧ l < 16 * m + 16 := ⟨l / 16, by omega, by omega⟩
    have hxs : encF (block16 X o) (block16 Y o2) (fun j => Z (o3 + j)) l = encJ X Y o o2 (app (fullB Z o3 m) [block16 (lastW Z l o3 (16 * m)) 0]) := by unfold encF encJ; rw [encBs_part Z o3 m l hm hm2]
    exact ⟨28 + 6 * m, .sym l, _, _, _, by omega, rfl, fun z => encP_all X Y Z n m1 n2 m2 n3 m3 l o o2 o3 z m (by omega) (by omega), encPP_all h1 h2 h3 h4 (by omega) (by omega) hm hm2, .inr (by rw [hxs])⟩

end Go.Proofs.YtflafdhmmcknhaaGreatDoor.Aes

