/-
  The reference's block cipher, third part: the words of a key; encrypting and decrypting.
-/
import Derived.Test.YtdnaaeagllejjaaDoorCk5
namespace Go.Proofs.YtdnaaeagllejjaaDoor.Aes
open Go.Sim
open Go.Proofs
variable {α : Type}

noncomputable def repL (l : List Prop) (n : Nat) : List Prop := Nat.rec (motive := fun _ => List Prop) [] (fun _ ih => app l ih) n
theorem app_all {a b : List Prop} (ha : ∀ p ∈ a, p) (hb : ∀ p ∈ b, p) : ∀ p ∈ app a b, p := by
  intro p hp
  rw [app_eq] at hp
  rcases List.mem_append.1 hp with h | h
  · exact ha p h
  · exact hb p h
theorem repL_all {l : List Prop} (h : ∀ p ∈ l, p) : ∀ n, ∀ p ∈ repL l n, p
  | 0 => fun _ hp => by cases hp
  | n + 1 => app_all h (repL_all h n)
/- The table, as the reference has it. -/
noncomputable def subsB : List (BitVec 8) := mapN (fun n => BitVec.ofNat 8 n) subs
noncomputable def refB (x : BitVec 8) : BitVec 8 := byteAt subsB (0 + x.toNat)
noncomputable def recsB : List (BitVec 8) := mapN (fun n => BitVec.ofNat 8 n) recs
noncomputable def refI (x : BitVec 8) : BitVec 8 := byteAt recsB (0 + x.toNat)
theorem subsB_all : (List.range 256).all (fun n => (byteAt subsB n).toNat == (tabB n).toNat && (byteAt recsB n).toNat == (tabB (256 + n)).toNat) = true := by kernel_rfl
theorem refB_eq : refB = subB := by
  funext x
  have h := List.all_eq_true.1 subsB_all x.toNat (List.mem_range.2 x.isLt)
  rw [Bool.and_eq_true] at h
  apply BitVec.eq_of_toNat_eq
  have h1 := h.1
  unfold refB subB
  rw [Nat.zero_add]
  simpa using h1
theorem refI_eq : refI = recB := by
  funext x
  have h := List.all_eq_true.1 subsB_all x.toNat (List.mem_range.2 x.isLt)
  rw [Bool.and_eq_true] at h
  apply BitVec.eq_of_toNat_eq
  have h1 := h.2
  unfold refI recB
  rw [Nat.zero_add]
  simpa using h1
/- The specification over any table. -/
noncomputable def nextS (S : BitVec 8 → BitVec 8) (f : BitVec 8) (k : List (BitVec 8)) : List (BitVec 8) :=
  let n0 := byteAt k 0 ^^^ (S (byteAt k 13) ^^^ f)
  let n1 := byteAt k 1 ^^^ S (byteAt k 14)
  let n2 := byteAt k 2 ^^^ S (byteAt k 15)
  let n3 := byteAt k 3 ^^^ S (byteAt k 12)
  let n4 := byteAt k 4 ^^^ n0
  let n5 := byteAt k 5 ^^^ n1
  let n6 := byteAt k 6 ^^^ n2
  let n7 := byteAt k 7 ^^^ n3
  let n8 := byteAt k 8 ^^^ n4
  let n9 := byteAt k 9 ^^^ n5
  let na := byteAt k 10 ^^^ n6
  let nb := byteAt k 11 ^^^ n7
  [n0, n1, n2, n3, n4, n5, n6, n7, n8, n9, na, nb, byteAt k 12 ^^^ n8, byteAt k 13 ^^^ n9, byteAt k 14 ^^^ na, byteAt k 15 ^^^ nb]
noncomputable def keysFromS (S : BitVec 8 → BitVec 8) (n : Nat) : Nat → List (BitVec 8) → List (BitVec 8) :=
  Nat.rec (motive := fun _ => Nat → List (BitVec 8) → List (BitVec 8)) (fun _ k => k) (fun _ ih r k => app k (ih (Nat.succ r) (nextS S (powB r) k))) n
noncomputable def keysS (S : BitVec 8 → BitVec 8) (k : List (BitVec 8)) : List (BitVec 8) := keysFromS S 10 0 k
theorem keysS_eq (k : List (BitVec 8)) : keysS refB k = keysL k := by rw [refB_eq]; rfl
noncomputable def encRS (S : BitVec 8 → BitVec 8) (K : Nat → BitVec 8) (r : Nat) (xs : List (BitVec 8)) : List (BitVec 8) := addL (mixL true (shiftL (mapL S xs))) (rkey K r)
noncomputable def encS (S : BitVec 8 → BitVec 8) (K : Nat → BitVec 8) (xs : List (BitVec 8)) : List (BitVec 8) :=
  addL (shiftL (mapL S (encRS S K 9 (encRS S K 8 (encRS S K 7 (encRS S K 6 (encRS S K 5 (encRS S K 4 (encRS S K 3 (encRS S K 2 (encRS S K 1 (addL xs (rkey K 0))))))))))))) (rkey K 10)
theorem encS_eq (K : Nat → BitVec 8) (xs : List (BitVec 8)) : encS refB K xs = encL K xs := by rw [refB_eq]; rfl
noncomputable def decRS (S : BitVec 8 → BitVec 8) (K : Nat → BitVec 8) (r : Nat) (xs : List (BitVec 8)) : List (BitVec 8) := mapL S (unshiftL (mixL false (addL xs (rkey K r))))
noncomputable def decS (S : BitVec 8 → BitVec 8) (K : Nat → BitVec 8) (xs : List (BitVec 8)) : List (BitVec 8) :=
  addL (decRS S K 1 (decRS S K 2 (decRS S K 3 (decRS S K 4 (decRS S K 5 (decRS S K 6 (decRS S K 7 (decRS S K 8 (decRS S K 9 (mapL S (unshiftL (addL xs (rkey K 10))))))))))))) (rkey K 0)
theorem decS_eq (K : Nat → BitVec 8) (xs : List (BitVec 8)) : decS refI K xs = decL K xs := by rw [refI_eq]; rfl
theorem rwords_run (X : Nat → BitVec 8) (n m o : Nat) : outP [413] (callSim cfgR3 20000 13 [.slice ⟨1, .sym o⟩ (.lit 16) (.sym m)] [tabR, rowF X n]) =
    ([o + 16 ≤ n], some (.slice ⟨413, .lit 0⟩ (.lit 176) (.rest 413 0), [some (.own (.lst (bx (keysS refB (block16 X o)))) false 5)])) := by kernel_rfl
theorem renc_run (X W : Nat → BitVec 8) (n m o o2 n2 m2 : Nat) : outP [32] (callSim cfgR3 20000 14 [.slice ⟨1, .sym o2⟩ (.lit 176) (.sym m2), .slice ⟨2, .sym o⟩ (.lit 16) (.sym m)] [tabR, rowF W n2, rowF X n]) =
    (app [IsB (byteF X), IsB (byteF W), o + 16 ≤ n ∧ o2 + 176 ≤ n2] (app (repL [0 + 16 ≤ 16, IsB (byteF W), 0 + 16 ≤ 16 ∧ o2 + 176 ≤ n2] 9) [IsB (byteF W), 0 + 16 ≤ 16 ∧ o2 + 176 ≤ n2]),
      some (.slice ⟨32, .lit 0⟩ (.lit 16) (.lit 16), [some (.own (.lst (bx (encS refB (at2 W o2) (block16 X o)))) true 5)])) := by kernel_rfl
theorem rdec_run (X W : Nat → BitVec 8) (n m o o2 n2 m2 : Nat) : outP [33] (callSim cfgR3 20000 30 [.slice ⟨1, .sym o2⟩ (.lit 176) (.sym m2), .slice ⟨2, .sym o⟩ (.lit 16) (.sym m)] [tabR, rowF W n2, rowF X n]) =
    (app [IsB (byteF X), IsB (byteF W), o + 16 ≤ n ∧ o2 + 176 ≤ n2] (app (repL [IsB (byteF W), 0 + 16 ≤ 16 ∧ o2 + 176 ≤ n2, 0 + 16 ≤ 16] 9) [IsB (byteF W), 0 + 16 ≤ 16 ∧ o2 + 176 ≤ n2]),
      some (.slice ⟨33, .lit 0⟩ (.lit 16) (.lit 16), [some (.own (.lst (bx (decS refI (at2 W o2) (block16 X o)))) true 5)])) := by kernel_rfl

end Go.Proofs.YtdnaaeagllejjaaDoor.Aes

