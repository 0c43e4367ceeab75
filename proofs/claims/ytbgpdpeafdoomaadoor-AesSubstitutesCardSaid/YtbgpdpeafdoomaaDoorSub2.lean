/-
  AesSubstitutes: the law's own run.
-/
import Derived.Test.YtbgpdpeafdoomaaDoorSub1
namespace Go.Proofs.YtbgpdpeafdoomaaDoor.Aes
open Go.Sim
open Go.Proofs
open Go.RowKit

def subStr : ByteArray := ⟨(subs.map UInt8.ofNat).toArray⟩
noncomputable def sStr (x : BitVec 8) : BitVec 8 := (subStr.data.getD x.toNat 0).toBitVec
noncomputable def iStr (x : BitVec 8) : Int := firstIdx subStr x.toNat.toUInt8
theorem sub_run (x : BitVec 8) : outA [] (callSim cfgS 20000 3 [.int .u8 (.b8 x)] [tabR]) =
    ([0 ≤ (x.toNat : Int) ∧ (x.toNat : Int) < (subStr.size : Int), ((((sStr x).toNat : Nat) : Int) == ((refB x).toNat : Int)) = true, (IntKind.u8.wrap (iStr x) == ((recB x).toNat : Int)) = true,
      0 ≤ (x.toNat : Int) ∧ (x.toNat : Int) < (subStr.size : Int), (IntKind.u8.wrap (iStr (sStr x)) == (x.toNat : Int)) = true], some (.bool (.lit true), [])) := by kernel_rfl
theorem str_check : ((List.range 256).all fun n => Nat.beq (subStr.data.getD n 0).toNat (tabB n).toNat && firstIdx subStr (UInt8.ofNat n) == ((tabB (256 + n)).toNat : Int)) = true := by kernel_rfl
theorem str_size : subStr.size = 256 := by kernel_rfl
theorem sStr_eq (x : BitVec 8) : sStr x = subB x := by
  have h := List.all_eq_true.1 str_check x.toNat (List.mem_range.2 x.isLt)
  rw [Bool.and_eq_true] at h
  apply BitVec.eq_of_toNat_eq
  exact beq_spec h.1
theorem iStr_eq (x : BitVec 8) : iStr x = ((recB x).toNat : Int) := by
  have h := List.all_eq_true.1 str_check x.toNat (List.mem_range.2 x.isLt)
  rw [Bool.and_eq_true] at h
  have h2 : (firstIdx subStr (UInt8.ofNat x.toNat) == ((tabB (256 + x.toNat)).toNat : Int)) = true := h.2
  exact eq_of_beq h2
theorem wrap_byte (x : BitVec 8) : IntKind.u8.wrap (x.toNat : Int) = (x.toNat : Int) := by
  have := x.isLt
  simp only [IntKind.wrap, IntKind.bits, IntKind.signed]
  simp
  omega
theorem rec_sub' (x : BitVec 8) : recB (subB x) = x := by
  have h := List.all_eq_true.1 recs_of x.toNat (List.mem_range.2 x.isLt)
  have h := beq_spec h
  apply BitVec.eq_of_toNat_eq
  unfold recB subB
  rw [tabB_nat', tabB_nat']
  have : tabN[x.toNat]? = subs[x.toNat]? := List.getElem?_append_left (by rw [subs_len]; exact x.isLt)
  rw [this]; exact h
theorem sub_law {w : World} {β : Val} {H0 : HeapRel Tryd.prog (fun _ => False) w β [tabR] w} (hG : GlobRel globR β) (x : BitVec 8) :
    Calls Tryd.prog 3 #[.int .u8 (x.toNat : Int)] w fun e w' => e = .returned (.bool true) ∧ Below w.heap.size w w' := by
  have hs : 0 ≤ (x.toNat : Int) ∧ (x.toNat : Int) < (subStr.size : Int) := by
    rw [str_size]; have := x.isLt; omega
  refine law_of cfgSOK 20000 H0 hG (args := [.int .u8 (.b8 x)]) rfl (sub_run x) (all_cons hs (all_cons ?_ (all_cons ?_ (all_cons hs (all_cons ?_ all_nil)))))
  · rw [sStr_eq, refB_eq]; simp
  · rw [iStr_eq, wrap_byte]; simp
  · rw [sStr_eq, iStr_eq, rec_sub', wrap_byte]; simp

end Go.Proofs.YtbgpdpeafdoomaaDoor.Aes
