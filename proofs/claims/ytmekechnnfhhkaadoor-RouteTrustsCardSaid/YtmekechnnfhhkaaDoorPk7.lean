/-
  Texts behind one another: the symbolic simulator and what it is told of the program.
-/
import Derived.Test.YtmekechnnfhhkaaDoorZRtc3a
import Derived.Test.YtmekechnnfhhkaaDoorZRtc3b
import Derived.Test.YtmekechnnfhhkaaDoorZRtc3c
import Derived.Test.YtmekechnnfhhkaaDoorZRtc3d
import Derived.Test.YtmekechnnfhhkaaDoorZRtc3e

/-
  Routes: the five pairs of the chapter in order: the summary.
-/
namespace Go.Proofs.YtmekechnnfhhkaaDoor.Aes
open Go.Sim
open Go.Proofs
variable {α : Type}

set_option maxRecDepth 1000000
theorem mapN_at0 {β : Type} {f g : Nat → β} {k : Nat} (h : mapN f (fromN k 0) = mapN g (fromN k 0)) {l : Nat} (h2 : l < k) : f l = g l := by
  rw [mapN_eq, mapN_eq, fromN_eq, List.map_inj_left] at h
  exact h l (by simp [h2])
theorem srt_at (z : Nat → Nat → Nat) {b k : Nat} (hb : b < 5) (hk : k < 24) : outZ [0, 25] srt5 (dir5 b k) z = (cnd5 z b k, some out5) := by
  match b, hb with
  | 0, _ => exact mapN_at0 (srt_run0 z) hk
  | 1, _ => exact mapN_at0 (srt_run1 z) hk
  | 2, _ => exact mapN_at0 (srt_run2 z) hk
  | 3, _ => exact mapN_at0 (srt_run3 z) hk
  | 4, _ => exact mapN_at0 (srt_run4 z) hk
theorem srt_any (z : Nat → Nat → Nat) : ∃ ds ps, outZ [0, 25] srt5 ds z = (ps, some out5) ∧ ∀ p ∈ ps, p := by
  let x0 := min (z 0 0) 4
  let x1 := min (z 1 0) 3
  let x2 := min (z 2 0) 2
  let x3 := min (z 3 0) 1
  have h0 : x0 ≤ 4 := Nat.min_le_right _ _
  have h1 : x1 ≤ 3 := Nat.min_le_right _ _
  have h2 : x2 ≤ 2 := Nat.min_le_right _ _
  have h3 : x3 ≤ 1 := Nat.min_le_right _ _
  let k := x1 * 6 + x2 * 2 + x3
  have e1 : k / 6 = x1 := by show (x1 * 6 + x2 * 2 + x3) / 6 = x1; omega
  have e2 : k % 6 / 2 = x2 := by show (x1 * 6 + x2 * 2 + x3) % 6 / 2 = x2; omega
  have e3 : k % 2 = x3 := by show (x1 * 6 + x2 * 2 + x3) % 2 = x3; omega
  refine ⟨dir5 x0 k, cnd5 z x0 k, srt_at z (by omega) (by show x1 * 6 + x2 * 2 + x3 < 24; omega), fun p hp => ?_⟩
  unfold cnd5 at hp
  rw [e1, e2, e3] at hp
  simp only [app_eq, List.mem_append] at hp
  rcases hp with hp | hp | hp | hp
  · exact cndQ_ok (z 0 0) 4 0 (Nat.zero_le _) p hp
  · exact cndQ_ok (z 1 0) 3 0 (Nat.zero_le _) p hp
  · exact cndQ_ok (z 2 0) 2 0 (Nat.zero_le _) p hp
  · exact cndQ_ok (z 3 0) 1 0 (Nat.zero_le _) p hp
/-- the name of a map -/
noncomputable def mapNm (v : SV) : Option Nat :=
  SV.rec (motive_1 := fun _ => Option Nat) (motive_2 := fun _ => Unit) (fun _ _ => none) (fun _ => none) (fun _ => none) (fun _ => none) none (fun _ _ _ => none) none (fun n => some n) none (fun _ _ _ _ _ => none) none (fun _ _ _ => none) none (fun _ _ => none) (fun _ _ => none) (fun _ => none) (fun _ _ _ _ => none) () (fun _ _ _ _ => ()) v
theorem mapNm_spec {v : SV} {n : Nat} (h : mapNm v = some n) : v = .map n := by
  cases v <;> first | (cases h; done) | (cases h; rfl)
noncomputable def map5 : SO := .obj (.map es5 5)
noncomputable def srtE : SO := .own (.lst [rA, rB, rA, rC, rB, rD, rC, rD, rD, rA]) false 41
def litIs (v : SV) (l : List UInt8) : Bool := match v with | .str (.lit s) => s.data.toList == l | _ => false
theorem litIs_spec {v : SV} {l : List UInt8} (h : litIs v l = true) : v = .str (.lit (bA l)) := by
  unfold litIs at h
  split at h
  · rename_i s
    have h := eq_of_beq h
    obtain ⟨⟨x⟩⟩ := s
    have h : x = l := h
    rw [h]; rfl
  · cases h
def entIs (e : SV × SV × Nat) (a b : List UInt8) (n : Nat) : Bool := match e with | (.agg [x, y], .bool (.lit true), k) => litIs x a && (litIs y b && Nat.beq k n) | _ => false
theorem entIs_spec {e : SV × SV × Nat} {a b : List UInt8} {n : Nat} (h : entIs e a b n = true) : e = (.agg [.str (.lit (bA a)), .str (.lit (bA b))], .bool (.lit true), n) := by
  unfold entIs at h
  split at h
  · obtain ⟨h1, h2⟩ := Bool.and_eq_true_iff.1 h
    obtain ⟨h2, h3⟩ := Bool.and_eq_true_iff.1 h2
    rw [litIs_spec h1, litIs_spec h2, Nat.eq_of_beq_eq_true h3]
  · cases h
def is5 (e : SO) : Bool := match e with
  | .obj (.map [a, b, c, d, e] k) => entIs a [65] [66] 0 && (entIs b [65] [67] 1 && (entIs c [66] [68, 46, 67] 2 && (entIs d [67] [68, 46, 67] 3 && (entIs e [68, 46, 67] [65] 4 && Nat.beq k 5))))
  | _ => false
theorem is5_spec {e : SO} (h : is5 e = true) : e = map5 := by
  unfold is5 at h
  split at h
  · obtain ⟨h1, h⟩ := Bool.and_eq_true_iff.1 h
    obtain ⟨h2, h⟩ := Bool.and_eq_true_iff.1 h
    obtain ⟨h3, h⟩ := Bool.and_eq_true_iff.1 h
    obtain ⟨h4, h⟩ := Bool.and_eq_true_iff.1 h
    obtain ⟨h5, h⟩ := Bool.and_eq_true_iff.1 h
    rw [entIs_spec h1, entIs_spec h2, entIs_spec h3, entIs_spec h4, entIs_spec h5, Nat.eq_of_beq_eq_true h]
    rfl
  · cases h
noncomputable def srtS : Summ := fun args H base => args1 args fun v => optC (mapNm v) (.stuck 683) fun m => optC (nth H m) (.stuck 683) fun e => boolC (is5 e) (.ok ⟨.slice ⟨base, .lit 0⟩ (.lit 5) (.rest base 0), [(m, map5)], [srtE]⟩) (.stuck 683)
theorem srtOK : SumOK Tryd.prog 37 srtS := by
  intro glob O w0 β H w base args vs hH hG ha
  refine args1_sat fun v hv => optC_only fun m hm => optC_only fun e he => boolC_only fun h5 => ?_
  rw [is5_spec h5, nth_eq] at he
  have hE : H[m]? = some map5 := he
  rw [hv, mapNm_spec hm] at ha
  let I : Ifc := ⟨[m], [map5], [.map 0]⟩
  refine sum_runQ cfgR1OK 20000 hH I (by intro g j hg; cases hg) ha (Ifc.fitsQ (by simp [I]) rfl ⟨⟨⟨map5, hE, .map es5 5, rfl, fun _ _ h => h⟩, rfl⟩, trivial⟩) [25] (by simp [I]) (by simp) (outW_ob (js := [0, 25]) srt_any fun H2 hH2 => ?_)
  obtain ⟨h0, h1⟩ := List.cons.inj (show [H2[0]?, H2[25]?] = [some map5, some srtE] from hH2)
  have h1 := (List.cons.inj h1).1
  exact ⟨SV.imp_of_eq rfl, rfl, ⟨⟨rfl, .inr ⟨.map es5 5, .map es5 5, h0, rfl, fun _ _ h => h, rfl⟩⟩, trivial⟩, ⟨.inl ⟨_, _, _, _, h1, by rfl, Cells.imp_of_eq rfl, rfl⟩, trivial⟩⟩
end Go.Proofs.YtmekechnnfhhkaaDoor.Aes


/-
  Routes: a list of one string, copied.
-/
namespace Go.Proofs.YtmekechnnfhhkaaDoor.Aes
open Go.Sim
open Go.Proofs
variable {α : Type}

set_option maxRecDepth 1000000
noncomputable def sliNm (v : SV) : Nat := v.asSlice 0 fun a _ _ => a.nm
noncomputable def clnE : SO := .own (.lst [rB]) false 9
def isOne (v : SV) : Bool := match v with | .slice ⟨_, .lit 0⟩ (.lit 1) (.lit 1) => true | _ => false
theorem isOne_spec {v : SV} (h : isOne v = true) : v = .slice ⟨sliNm v, .lit 0⟩ (.lit 1) (.lit 1) := by
  unfold isOne at h
  split at h
  · rfl
  · cases h
def isOneE (e : SO) : Bool := match e with | .own (.lst [x]) _ _ => litIs x [66] | _ => false
theorem isOneE_spec {e : SO} (h : isOneE e = true) : ∃ w el, e = .own (.lst [rB]) w el := by
  unfold isOneE at h
  split at h
  · rw [litIs_spec h]; exact ⟨_, _, rfl⟩
  · cases h
def isNilS (v : SV) : Bool := match v with | .nilSlice => true | _ => false
theorem isNilS_spec {v : SV} (h : isNilS v = true) : v = .nilSlice := by
  unfold isNilS at h
  split at h
  · rfl
  · cases h
noncomputable def clnS : Summ := fun args H base => args1 args fun v => boolC (isNilS v) (.ok ⟨.nilSlice, [], []⟩) (boolC (isOne v) (optC (nth H (sliNm v)) (.stuck 685) fun e => boolC (isOneE e) (.ok ⟨.slice ⟨base, .lit 0⟩ (.lit 1) (.rest base 0), [], [clnE]⟩) (.stuck 685)) (.stuck 686))
theorem cln_nil : outO [] (callSim (cfgOf fun _ => none) 400 27 [.nilSlice] []) [] = ([], some (.nilSlice, [])) := by kernel_rfl
theorem cln_run : outO [2] (callSim (cfgOf fun _ => none) 400 27 [.slice ⟨0, .lit 0⟩ (.lit 1) (.lit 1)] [.row (.lst [rB])]) [] = ([], some (.slice ⟨2, .lit 0⟩ (.lit 1) (.rest 2 0), [some clnE])) := by kernel_rfl
theorem clnOK : SumOK Tryd.prog 27 clnS := by
  intro glob O w0 β H w base args vs hH hG ha
  refine args1_sat fun v hv => ?_
  by_cases hn : isNilS v = true
  · rw [hn]
    rw [hv, isNilS_spec hn] at ha
    exact sum_outO cfg0OK rfl 400 hH ⟨[], [], [.nilSlice]⟩ ha (fits0 rfl) [] (by simp) (by simp) cln_nil all_nil fun H2 _ => ends0 rfl rfl rfl
  · rw [Bool.not_eq_true] at hn
    rw [hn]
    refine boolC_only fun h1 => optC_only fun e h2 => boolC_only fun h3 => ?_
    rw [hv, isOne_spec h1] at ha
    obtain ⟨w', el, h3⟩ := isOneE_spec h3
    rw [nth_eq, h3] at h2
    generalize sliNm v = m at ha h2
    let I : Ifc := ⟨[m], [.row (.lst [rB])], [.slice ⟨0, .lit 0⟩ (.lit 1) (.lit 1)]⟩
    refine sum_outO cfg0OK rfl 400 hH I ha (Ifc.fits (by simp [I]) rfl ⟨⟨⟨_, h2, .lst [rB], .inr ⟨_, _, rfl⟩, (Cells.Imp.refl _).front⟩, rfl⟩, trivial⟩) [2] (by simp [I]) (by simp) cln_run all_nil fun H2 hH2 => ?_
    have h := (List.cons.inj (show [H2[2]?] = [some clnE] from hH2)).1
    exact ⟨SV.imp_of_eq rfl, rfl, trivial, ⟨⟨_, _, _, _, h, by rfl, Cells.imp_of_eq rfl, rfl⟩, trivial⟩⟩
noncomputable def cfgR2 : Cfg := cfgOf (sumsOf [(88, idxS), (50, cmpS), (37, srtS), (27, clnS)])
theorem cfgR2OK : CfgOK cfgR2 := sumsOf_ok (allC idxOK (allC cmpOK (allC srtOK (all1 clnOK))))
end Go.Proofs.YtmekechnnfhhkaaDoor.Aes

