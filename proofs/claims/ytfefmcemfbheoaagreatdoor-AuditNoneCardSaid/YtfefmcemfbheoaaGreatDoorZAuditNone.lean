/-
  AuditNone: for every event and every number the law returns true: nil and zero auditors answer as stated, and the chapter's examples hold; the two tables are tied to the program's text, no other conditions.
-/
import Derived.Test.YtfefmcemfbheoaaGreatDoorRows
import Derived.WalkKit
import Derived.ProofKit
import Derived.OpenShut
import Derived.Below
import Derived.ChangeOld
import Derived.LaidMore
import Derived.Stop.Joined
import Derived.Lib.LaidTab
import Derived.SevenTiedAt
import Derived.Test.YtfefmcemfbheoaaGreatDoorCards
import Derived.Test.YtfefmcemfbheoaaGreatDoorTie
import Derived.Test.YtfefmcemfbheoaaGreatDoorPk6
import Derived.ShutString
import Derived.Lay
import Derived.MakeChecks
namespace Go.Proofs.YtfefmcemfbheoaaGreatDoor.auditNone
open Go.ChangeShapes Go.WideShapes Go.ChangeAt Go.RowKit
open Go.ChangeMaps (open_string shut_string)
set_option linter.unusedVariables false      -- a walk need not use every 'w<i>' (that an integer argument fits its kind)

theorem own : ownKnob Tryz.prog.godebug = none := by kernel_rfl
/-- A heap that meets the condition. -/
theorem door_met (os : Os) (args : Array Value) : laidMetH Tryz.prog [("unicode/utf8.acceptRanges", Rows.laid_unicode_utf8_acceptRanges), ("unicode/utf8.first", Rows.laid_unicode_utf8_first)] ((World.laidAll Tryz.prog os [("unicode/utf8.acceptRanges", Rows.laid_unicode_utf8_acceptRanges), ("unicode/utf8.first", Rows.laid_unicode_utf8_first)]).forCall (fun _ _ => 0) ⟨#[], args, []⟩).memory := by
  rw [MakeChecks.laidMetH_plain _ _ _ (by kernel_rfl)]; exact laidMet_laidAll _ (by kernel_rfl) (by kernel_rfl)

theorem laidOut : laidOutB Tryz.prog = true := by kernel_rfl

/- The call. -/
theorem walk (ek ez : Int) (ea1 : Option Addr) (el1 em1 : Nat) (eS1 : Nat → ByteArray) (es1 : ByteArray) (ea2 : Option Addr) (el2 em2 : Nat) (eS2 : Nat → ByteArray) (es2 : ByteArray) (ea3 : Option Addr) (el3 em3 : Nat) (eS3 : Nat → ByteArray) (es3 : ByteArray) (ey1 : Option Addr) (en1 ec1 : Nat) (eX1 : Nat → BitVec 8) (ey2 : Option Addr) (en2 ec2 : Nat) (eX2 : Nat → BitVec 8) (ez0 ez1 ez2 ez3 : Int) (ea4 : Option Addr) (el4 em4 : Nat) (eS4 : Nat → ByteArray) (a1 : Int) (w : World) (w0 : Aes.StrRow w ea1 el1 em1 eS1 ∧ Aes.StrRow w ea2 el2 em2 eS2 ∧ Aes.StrRow w ea3 el3 em3 eS3 ∧ Go.Sim.ByteRow w ey1 en1 ec1 eX1 ∧ Go.Sim.ByteRow w ey2 en2 ec2 eX2 ∧ Aes.StrRow w ea4 el4 em4 eS4) (w1 : (Lit.int .i64 a1).wf = true) (hL0 : laidMetH Tryz.prog [("unicode/utf8.acceptRanges", Rows.laid_unicode_utf8_acceptRanges), ("unicode/utf8.first", Rows.laid_unicode_utf8_first)] w) :
    Calls Tryz.prog 3 #[.agg #[.int .i64 ek, .int .i64 ez, .slice ea1 el1 em1, .string es1, .slice ea2 el2 em2, .string es2, .slice ea3 el3 em3, .string es3, .slice ey1 en1 ec1, .slice ey2 en2 ec2, .int .i64 ez0, .int .i64 ez1, .int .i64 ez2, .int .i64 ez3, .slice ea4 el4 em4], .int .i64 a1] w fun e w' => e = .returned (.bool true) ∧ Below w.heap.size w w' := by
  obtain ⟨h1, h2, h3, _, _, h4⟩ := w0
  exact Aes.none_law h1 h2 h3 h4

/- The row's step. -/
set_option maxRecDepth 100000 in
theorem lifted (os : Os) (started : os.Started) (H : Type) (enc : TypeId × Value → H) :
    ReturnsInHanded {} Tryz.checked os 3 .any (fun w args => (Rows.auditNoneSpec.pre enc Tryz.prog Tryz.f3 [] false w args ∧ laidMetH Tryz.prog [("unicode/utf8.acceptRanges", Rows.laid_unicode_utf8_acceptRanges), ("unicode/utf8.first", Rows.laid_unicode_utf8_first)] w) ∧ sizedMet enc Tryz.prog Tryz.f3 (OpenSpec.ofChange Rows.auditNoneSpec) false w args)
      (Rows.auditNoneSpec.post enc Tryz.prog Tryz.f3 false true false false) := by
  refine returnsInHanded_of_change_and (C := Tryz.checked) (X := fun w _ => laidMetH Tryz.prog [("unicode/utf8.acceptRanges", Rows.laid_unicode_utf8_acceptRanges), ("unicode/utf8.first", Rows.laid_unicode_utf8_first)] w) (fun _ _ _ hh h => h.of_heap hh) own started (by kernel_rfl) Tryz.func3
    (ChangeSpec.witness_shaped (enc := enc) (C := Tryz.checked) (os := os) (X := fun w _ => laidMetH Tryz.prog [("unicode/utf8.acceptRanges", Rows.laid_unicode_utf8_acceptRanges), ("unicode/utf8.first", Rows.laid_unicode_utf8_first)] w) false (World.laidAll Tryz.prog os [("unicode/utf8.acceptRanges", Rows.laid_unicode_utf8_acceptRanges), ("unicode/utf8.first", Rows.laid_unicode_utf8_first)]) #[.agg #[.int .i64 0, .int .i64 0, .slice none 0 0, .string ByteArray.empty, .slice none 0 0, .string ByteArray.empty, .slice none 0 0, .string ByteArray.empty, .slice none 0 0, .slice none 0 0, .int .i64 0, .int .i64 0, .int .i64 0, .int .i64 0, .slice none 0 0], .int .i64 0] 8 (World.laidAll_os _ _ _) (World.shaped_of_ZipB (by kernel_rfl) (by kernel_rfl)) (by kernel_rfl) (by kernel_rfl) (by kernel_rfl) (door_met os _)) ?_
  intro W base args ds gs before hval0 hW _ _ hL _
  have hval : ∀ (j : Nat) t v, Tryz.f3.params[j]? = some t → args[j]? = some v → Value.okWide Tryz.prog W .any base t v := hval0
  have hW' := hW
  obtain ⟨p, q, hA0, hV, rfl, hfz, hnd⟩ := hW
  have hA : DataW.TrodAll enc Tryz.prog W 0 (fun _ => true) true Tryz.f3.params.toList args.toList ds p := hA0
  rw [Tryz.params3] at hA hval
  obtain ⟨v0, vs0, d0, ds0, p0, q0, hargs, rfl, rfl, h0, r0⟩ := trodAll_cons hA
  obtain ⟨v1, vs1, d1, ds1, p1, q1, rfl, rfl, rfl, h1, r1⟩ := trodAll_cons r0
  obtain ⟨rfl, rfl, rfl⟩ := trodAll_nil r1
  obtain rfl : args = #[v0, v1] := by cases args; simp_all
  obtain ⟨rfl, rfl⟩ := trodVars_none hV
  have k0 := h0
  have lt0 : ∀ x ∈ p0, x.block < W.heap.size := by obtain ⟨m, hm⟩ := k0; exact DataW.trod_lt m _ _ _ hm
  obtain ⟨ek, ez, ea1, el1, em1, eS1, es1, ea2, el2, em2, eS2, es2, ea3, el3, em3, eS3, es3, ey1, en1, ec1, eX1, ey2, en2, ec2, eX2, ez0, ez1, ez2, ez3, ea4, el4, em4, eS4, rfl, w0⟩ := Aes.open_event Tryz.underlying30 ⟨rfl, rfl⟩ ⟨rfl, rfl⟩ ⟨rfl, rfl⟩ ⟨rfl, rfl⟩ ⟨rfl, rfl⟩ ⟨rfl, rfl⟩ ⟨rfl, rfl⟩ ⟨rfl, rfl⟩ ⟨rfl, rfl⟩ Tryz.underlying25 ⟨rfl, rfl⟩ ⟨rfl, rfl⟩ Tryz.underlying28 ⟨rfl, rfl⟩ ⟨rfl, rfl⟩ ⟨rfl, rfl⟩ ⟨rfl, rfl⟩ Tryz.underlying22 Tryz.underlying3 Tryz.underlying23 Tryz.underlying9 Tryz.underlying26 Tryz.underlying5 (by kernel_rfl) (by kernel_rfl) (by kernel_rfl) (by kernel_rfl) (by kernel_rfl) (by kernel_rfl) (by kernel_rfl) (by kernel_rfl) (by kernel_rfl) (by kernel_rfl) (hval 0 30 v0 rfl rfl) h0
  obtain ⟨a1, rfl, rfl, rfl, w1⟩ := open_int Tryz.underlying3 (hval 1 3 v1 rfl rfl) h1
  clear hA0 hval0
  refine (walk ek ez ea1 el1 em1 eS1 es1 ea2 el2 em2 eS2 es2 ea3 el3 em3 eS3 es3 ey1 en1 ec1 eX1 ey2 en2 ec2 eX2 ez0 ez1 ez2 ez3 ea4 el4 em4 eS4 a1 W w0 w1 hL).mono fun e W' ⟨he, bel⟩ => ?_
  subst he
  exact ⟨_, rfl, _, _, _, [], _, [], hW', trodAll_mk1 (shut_bool Tryz.underlying4 _), (trodAll_cons_mk (Below.trod laidOut (by kernel_rfl) (of_decide_eq_true (by kernel_rfl)) k0 bel lt0) (trodAll_cons_mk (shut_int Tryz.underlying3 w1) trodAll_mk0)), rfl, bel.frame _, fun h => by cases h⟩

theorem over : Rows.auditNoneRow.holds Tryz.pinned (OpenSpec.ofChange Rows.auditNoneSpec) :=
  OpenClaim.holds_of_wide 3 Tryz.f3 rfl rfl rfl rfl rfl rfl rfl ⟨rfl, rfl, rfl, rfl, rfl⟩ rfl rfl rfl rfl rfl (by kernel_rfl) Tryz.func3 (by kernel_rfl)
    (of_decide_eq_true (by kernel_rfl)) (by unfold Func.isWrapper; first | (rw [if_pos (by decide +kernel)]; kernel_rfl) | (rw [if_neg (by decide +kernel)]; exact ⟨rfl, rfl⟩))
    (fun os started H enc _ => lifted os started H enc)

theorem row_holds : Rows.AuditNoneSaid := over
/-- The statement. -/
theorem proved : Rows.AuditNoneCardSaid :=
  Claim7.holds_tied_plain_at .later [] [.data, .pinned] true (true, "a8b4e1463f307185c25a918fd2e37b4328f4f91fe8a3cdf3ef9965070414cccf") false
    row_holds (fun _ h => by cases h) (by kernel_rfl) (fun _ h => by cases h) auditNone_row_tie rfl ⟨rfl, rfl⟩ (by kernel_rfl) rfl
    (fun f fn hf hfn => by
      obtain rfl : f = 3 := Option.some.inj ((show Tryz.prog.funcNamed Rows.auditNoneRow.func = some 3 by kernel_rfl).symm.trans hf) |>.symm
      obtain rfl : fn = Tryz.f3 := (Option.some.inj (Tryz.func3.symm.trans hfn)).symm
      exact ⟨by kernel_rfl, fun j t ht => by
        rw [Tryz.params3] at ht
        have hm : t ∈ [30, 3] := by simpa using Array.mem_of_getElem? ht
        have hall : ([30, 3].all fun u => !Tryz.prog.wantsStandIn u) = true := by kernel_rfl
        exact (show Tryz.prog.wantsStandIn t = false by simpa using List.all_eq_true.1 hall t hm)⟩)
    (by kernel_rfl)
#print axioms proved
end Go.Proofs.YtfefmcemfbheoaaGreatDoor.auditNone
