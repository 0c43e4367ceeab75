/-
  Chained blocks, sixth part: what is known by example.
-/
import Derived.Test.YtdnaaeagllejjaaCts5
namespace Go.Proofs.Ytdnaaeagllejjaa.Aes
open Go.Sim
open Go.Proofs
variable {α : Type}

noncomputable def cfgC3 : Cfg := cfgOf (sumsOf [(9, ctsS encF), (10, ctsS decF)])
theorem cfgC3OK : CfgOK cfgC3 := sumsOf_ok (allC encOK (all1 decOK))
/- The example of the chapter. -/
def ctKey : Blk := [0x63, 0x68, 0x69, 0x63, 0x6b, 0x65, 0x6e, 0x20, 0x74, 0x65, 0x72, 0x69, 0x79, 0x61, 0x6b, 0x69]
def ctText : Blk := [0x49, 0x20, 0x77, 0x6f, 0x75, 0x6c, 0x64, 0x20, 0x6c, 0x69, 0x6b, 0x65, 0x20, 0x74, 0x68, 0x65, 0x20]
def zero16 : Blk := [0, 0, 0, 0, 0, 0, 0, 0, 0, 0, 0, 0, 0, 0, 0, 0]
def ctStr : ByteArray := ⟨#[0xc6, 0x35, 0x35, 0x68, 0xf2, 0xbf, 0x8c, 0xb4, 0xd8, 0xa5, 0x80, 0x36, 0x2d, 0xa7, 0xff, 0x7f, 0x97]⟩
noncomputable def ctOut : Blk := encF (block16 (byteAt ctKey) 0) (block16 (byteAt zero16) 0) (fun j => byteAt ctText (0 + j)) 17
theorem ct_out : strOfFn (byteF (byteAt ctOut)) 0 17 = ctStr := by
  have h : (List.range 17).map (fun i => UInt8.ofNat (byteF (byteAt ctOut) (0 + i)).num.toNat) = [0xc6, 0x35, 0x35, 0x68, 0xf2, 0xbf, 0x8c, 0xb4, 0xd8, 0xa5, 0x80, 0x36, 0x2d, 0xa7, 0xff, 0x7f, 0x97] := by kernel_rfl
  unfold strOfFn ctStr
  rw [h]
noncomputable def knownCT : Tree := callSim cfgC3 6000 6 [] []
theorem knownC_run : (outN knownCT).1 = [0 + 16 ≤ 16, 0 + 16 ≤ 16, 0 + 17 ≤ 17 ∧ 17 ≤ 224, 0 + 16 ≤ 16, 0 + 16 ≤ 16, 0 + 17 ≤ 17 ∧ ∀ i, i < 17 → isByte (byteF (byteAt ctOut) i)] ∧ outF1 [] (outN knownCT).2 = some (decide (strOfFn (byteF (byteAt ctOut)) 0 17 = ctStr), ([], some (.bool (.lit true), []))) := by
  refine ⟨?_, ?_⟩ <;> kernel_rfl
theorem knownC_ob {D : SV → List SO → Prop} {S : SS → Prop} {t : Tree} (ht : knownCT = t) (hD : ∀ H, D (.bool (.lit true)) H) : t.Ob D S := by
  have hk := knownC_run
  rw [ht] at hk
  obtain ⟨h1, h2⟩ := hk
  refine outN_ob h1 ?_ (outF1_ob h2 (decide_eq_true ct_out) fun t' ht' => outP_ob0 ht' fun H _ => hD H)
  exact all_cons (by omega) (all_cons (by omega) (all_cons (by omega) (all_cons (by omega) (all_cons (by omega) (all_cons ⟨by omega, fun i _ => trivial⟩ all_nil)))))
noncomputable def knownCS : Summ := fun args _ _ => List.rec (motive := fun _ => R SumRes) (.ok ⟨.bool (.lit true), [], []⟩) (fun _ _ _ => .stuck 690) args
theorem knownCOK : SumOK Try.prog 6 knownCS := by
  intro glob O w0 β H w base args vs hH hG ha
  cases args with
  | cons => trivial
  | nil =>
    refine sum_run cfgC3OK rfl 6000 hH ⟨[], [], []⟩ ha (fits0 rfl) [] (by simp) (by simp) ?_
    show (callSim cfgC3 6000 6 [] []).Ob _ _
    generalize ht : callSim cfgC3 6000 6 [] [] = t
    exact knownC_ob ht fun H => ends0 rfl rfl rfl
noncomputable def cfgC4 : Cfg := cfgOf (sumsOf [(9, ctsS encF), (10, ctsS decF), (6, knownCS)])
theorem cfgC4OK : CfgOK cfgC4 := sumsOf_ok (allC encOK (allC decOK (all1 knownCOK)))

end Go.Proofs.Ytdnaaeagllejjaa.Aes
