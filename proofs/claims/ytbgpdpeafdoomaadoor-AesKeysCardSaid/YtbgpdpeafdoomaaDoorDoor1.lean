/-
  The start of a law that reads the reference's table.
-/
import Derived.Test.YtbgpdpeafdoomaaDoorRefA4
import Derived.Test.YtbgpdpeafdoomaaDoorEng31
import Derived.Test.YtbgpdpeafdoomaaDoorRows
import Derived.Lib.LaidTab
import Derived.MakeChecks
namespace Go.Proofs.YtbgpdpeafdoomaaDoor.Aes
open Go.Sim
open Go.Proofs

theorem gTab : Tryd.prog.globalNamed "watchword/watchwordref06.substitutes" = some 0 := by kernel_rfl
theorem tTab : (Tryd.prog.globals[0]?).map (·.type) = some 39 := by kernel_rfl
theorem uTab : Tryd.prog.underlying 39 = some (.array 256 5) := by kernel_rfl
theorem uByte : Tryd.prog.underlying 5 = some (.int .u8) := by kernel_rfl
theorem lx_den {γ : Val} : ∀ T : List Int, SV.denL γ (lx T) = some (T.map (Value.int .u8))
  | [] => rfl
  | _ :: T => denL_cons.2 ⟨_, _, rfl, lx_den T, rfl⟩
theorem tab_start {W : World} (hL : laidMetH Tryd.prog [("watchword/watchwordref06.substitutes", Rows.laid_watchword_watchwordref06_substitutes)] W) : ∃ β, HeapRel Tryd.prog (fun _ => False) W β [tabR] W ∧ GlobRel globR β := by
  rw [MakeChecks.laidMetH_plain _ _ _ (by kernel_rfl)] at hL
  have e : (Rows.laid_watchword_watchwordref06_substitutes : DataW Unit) = Lib.tabData .u8 subsI := by kernel_rfl
  rw [e] at hL
  have hT := Lib.tabIs_of_head gTab tTab uTab uByte (by kernel_rfl) (by kernel_rfl) hL
  have hlen : subsI.length = 256 := by kernel_rfl
  have hsn := (HeapRel.start Tryd.prog (fun _ => False) W).snoc (Go.Sim.Loc.mk 0 0 0) tabR ?_ (fun ho => by cases ho)
  · refine ⟨_, hsn.1, fun g nm hg => ?_⟩
    obtain ⟨h1, h2⟩ := boolC_opt (show boolC (Nat.beq g 0) (some 0) none = some nm from hg)
    cases h2
    exact ⟨_, Val.upd_same .., (beq_spec h1).symm, rfl⟩
  · refine ⟨_, _, Val.upd_same .., lx_den subsI, fun i x hx => ?_⟩
    rw [List.getElem?_map] at hx
    cases hi : subsI[i]? with
    | none => rw [hi] at hx; cases hx
    | some t =>
      rw [hi] at hx; cases hx
      have hlt : i < subsI.length := (List.getElem?_eq_some_iff.1 hi).1
      have hc := hT.cell gTab i hlt
      have e : subsI.getD i 0 = t := by rw [List.getD_eq_getElem?_getD, hi]; rfl
      rw [e] at hc
      refine ⟨?_, fun f => f, by simpa using hc⟩
      unfold World.cell? at hc
      by_cases hb : (0 : Nat) < W.heap.size
      · exact hb
      · have hn : W.heap[(0 : Nat)]? = none := Array.getElem?_eq_none (by omega)
        simp only [hn] at hc
        cases hc

end Go.Proofs.YtbgpdpeafdoomaaDoor.Aes
