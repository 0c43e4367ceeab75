/-
  Chained blocks, first part: the exclusive or of two blocks.
-/
import Derived.Test.YtdnaaeagllejjaaLib1
import Derived.Test.YtdnaaeagllejjaaAes6
namespace Go.Proofs.Ytdnaaeagllejjaa.Aes
open Go.Sim
open Go.Proofs
variable {α : Type}

noncomputable def cfgC1 : Cfg := cfgOf (sumsOf [(17, cloneS)])
theorem cfgC1OK : CfgOK cfgC1 := sumsOf_ok (all1 cloneOK)
theorem comb_run (X Y : Nat → BitVec 8) (n m o o2 n2 m2 : Nat) : outP [2] (callSim cfgC1 20000 16 [.slice ⟨0, .sym o⟩ (.lit 16) (.sym m), .slice ⟨1, .sym o2⟩ (.lit 16) (.sym m2)] [rowF X n, rowF Y n2]) =
    (IsB (byteF X) :: (o + 16 ≤ n) :: need1 (fun i => o2 + i < n2) 16, some (.slice ⟨2, .lit 0⟩ (.lit 16) (.rest 2 0), [some (.own (.lst (bx (addL (block16 X o) (block16 Y o2)))) false 5)])) := by kernel_rfl
noncomputable def combS : Summ := fun args H base => args2 args fun v u => sliceR v (.stuck 800) fun a l => sliceR u (.stuck 800) fun b l2 => lenIs l 16 (lenIs l2 16 (boolC (Nat.beq a.nm b.nm) (.stuck 801) (bytesE (nth H a.nm) fun X n => bytesE (nth H b.nm) fun Y n2 => .need (a.off.den + 16 ≤ n ∧ b.off.den + 16 ≤ n2)
  (.ok ⟨.slice ⟨base, .lit 0⟩ (.lit 16) (.rest base 0), [], [.own (.lst (bx (addL (block16 X a.off.den) (block16 Y b.off.den)))) false 5]⟩))) (.stuck 802)) (.stuck 802)
theorem given_bytes' {p : Nat → Bool} {g : Nat → Nat} {E : Option SO} {xs : List (BitVec 8)} {w : Bool} {el : TypeId} (h : E = some (.own (.lst (bx xs)) w el)) : Given p g E (.own (.lst (bx xs)) w el) := by
  refine given_own h (bx_uses _ _) ?_
  show SO.own (.lst (SV.renL _ (bx _))) w el = _
  rw [bx_ren]
theorem combOK : SumOK Try.prog 16 combS := by
  intro glob O w0 β H w base args vs hH hG ha
  refine args2_sat fun v u hv => sliceR_sat (fun _ => trivial) fun a l c1 hs1 => sliceR_sat (fun _ => trivial) fun b l2 c2 hs2 => lenIs_sat (fun hl => lenIs_sat (fun hl2 => boolC_sat (fun _ => trivial) fun hab => bytesE_sat fun X n ht => bytesE_sat fun Y n2 ht2 => fun hn => ?_) fun _ => trivial) fun _ => trivial
  rw [hv, hs1, hs2] at ha
  rw [nth_eq] at ht ht2
  obtain ⟨x, ys, hx, hys, rfl⟩ := denL_cons.1 ha
  obtain ⟨y, zs, hy, hz, rfl⟩ := denL_cons.1 hys
  obtain ⟨m, _, hd, _, _⟩ := slice_den hx
  obtain ⟨m2, _, hd2, _, _⟩ := slice_den hy
  rw [hl] at hd
  rw [hl2] at hd2
  exact sum_out cfgC1OK rfl 20000 hH ⟨[a.nm, b.nm], [rowF X n, rowF Y n2], [.slice ⟨0, .sym a.off.den⟩ (.lit 16) (.sym m), .slice ⟨1, .sym b.off.den⟩ (.lit 16) (.sym m2)]⟩
    (denL_cons.2 ⟨_, _, hd, denL_cons.2 ⟨_, _, hd2, hz, rfl⟩, rfl⟩) (Ifc.fits (by simpa using beq_ne hab) rfl ⟨⟨ht _, rowF_uses _ _ _⟩, ⟨ht2 _, rowF_uses _ _ _⟩, trivial⟩) [2] (by simp) (by simp)
    (comb_run X Y n m a.off.den b.off.den n2 m2) (all_cons (byteF_isB X) (all_cons hn.1 (need1_all fun i hi => by omega))) fun H2 hH2 => ⟨SV.imp_of_eq rfl, rfl, trivial, ⟨given_bytes' (List.cons.inj hH2).1, trivial⟩⟩

end Go.Proofs.Ytdnaaeagllejjaa.Aes
