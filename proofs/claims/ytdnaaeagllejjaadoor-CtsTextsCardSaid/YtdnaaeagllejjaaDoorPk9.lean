/-
  Texts behind one another: the symbolic simulator and what it is told of the program.
-/
import Derived.Test.YtdnaaeagllejjaaDoorPk8
import Derived.Test.YtdnaaeagllejjaaDoorZTxt3

/-
  The reference's exclusive or of two blocks.
-/
namespace Go.Proofs.YtdnaaeagllejjaaDoor.Aes
open Go.Sim
open Go.Proofs
open Go.RowKit
variable {α : Type}

theorem rxor_run (X Y : Nat → BitVec 8) (n m1 n2 m2 o o2 : Nat) : outO [2] (callSim cfg0 2000 15 [.slice ⟨0, .sym o⟩ (.lit 16) (.sym m1), .slice ⟨1, .sym o2⟩ (.lit 16) (.sym m2)] [rowF X n, rowF Y n2]) [] =
    (xorC o n o2 n2 [], some (.slice ⟨2, .lit 0⟩ (.lit 16) (.lit 16), [some (.own (.lst (bx (addL (block16 X o) (block16 Y o2)))) true 5)])) := by kernel_rfl
noncomputable def rxorS : Summ := fun args H base => args2 args fun u v => sliceR u (.stuck 920) fun a l1 => sliceR v (.stuck 920) fun b l2 => boolC (Nat.beq a.nm b.nm) (.stuck 920) (lenIs l1 16 (lenIs l2 16 (bytesE (nth H a.nm) fun X n => bytesE (nth H b.nm) fun Y n2 => .need (a.off.den + 16 ≤ n ∧ b.off.den + 16 ≤ n2)
  (.ok ⟨.slice ⟨base, .lit 0⟩ (.lit 16) (.lit 16), [], [.own (.lst (bx (addL (block16 X a.off.den) (block16 Y b.off.den)))) true 5]⟩)) (.stuck 920)) (.stuck 920))
theorem rxorOK : SumOK Tryd.prog 15 rxorS := by
  intro glob O w0 β H w base args vs hH hG ha
  refine args2_sat fun u v hv => sliceR_sat (fun _ => trivial) fun a l1 c1 hs1 => sliceR_sat (fun _ => trivial) fun b l2 c2 hs2 => boolC_sat (fun _ => trivial) fun hab => lenIs_sat (fun hl1 => lenIs_sat (fun hl2 => bytesE_sat fun X n t1 => bytesE_sat fun Y n2 t2 => fun hn => ?_) fun _ => trivial) fun _ => trivial
  rw [hv, hs1, hs2] at ha
  rw [nth_eq] at t1 t2
  obtain ⟨x, ys, hx, hys, rfl⟩ := denL_cons.1 ha
  obtain ⟨y, zs, hy, hz, rfl⟩ := denL_cons.1 hys
  obtain ⟨m1, _, hd1, _, _⟩ := slice_den hx
  obtain ⟨m2, _, hd2, _, _⟩ := slice_den hy
  rw [hl1] at hd1
  rw [hl2] at hd2
  exact sum_outO cfg0OK rfl 2000 hH ⟨[a.nm, b.nm], [rowF X n, rowF Y n2], [.slice ⟨0, .sym a.off.den⟩ (.lit 16) (.sym m1), .slice ⟨1, .sym b.off.den⟩ (.lit 16) (.sym m2)]⟩ (denL_cons.2 ⟨_, _, hd1, denL_cons.2 ⟨_, _, hd2, hz, rfl⟩, rfl⟩)
    (Ifc.fits (by simpa using beq_ne hab) rfl ⟨⟨t1 _, rowF_uses _ _ _⟩, ⟨t2 _, rowF_uses _ _ _⟩, trivial⟩) [2] (by simp) (by simp) (rxor_run X Y n m1 n2 m2 a.off.den b.off.den) (xorC_all hn.1 hn.2 all_nil) fun H2 hH2 => ⟨SV.imp_of_eq rfl, rfl, trivial, ⟨given_bytes (List.cons.inj hH2).1, trivial⟩⟩
noncomputable def cfgRX : Cfg := cfgG globR (sumsOf [(6, rchainS), (13, rwordsS), (30, rcryptS decL), (15, rxorS)])
theorem cfgRXOK : CfgOK cfgRX := sumsG_ok (allA rchainOK (allA rwordsOK (allA rdecOK (allA (rxorOK _) (by simp)))))

end Go.Proofs.YtdnaaeagllejjaaDoor.Aes


/-
  The reference's Decrypt: what its runs come to.
-/
namespace Go.Proofs.YtdnaaeagllejjaaDoor.Aes
open Go.Sim
open Go.Proofs
open Go.RowKit

noncomputable def rdxN (w : Nat) (m : Nat) : Nat → List Prop := Nat.rec (motive := fun _ => Nat → List Prop) (fun _ => []) (fun _ ih i => (16 * i ≤ w ∧ 176 ≤ 176) :: (16 ≤ 16 ∧ 16 * (i - 1) ≤ w) :: ih (i + 1)) m
noncomputable def rdxM (X Y Z : Nat → BitVec 8) (n n2 n3 o o2 o3 l w : Nat) : List Prop :=
  IsB (byteF X) :: (o + 16 ≤ n) :: IsB (byteF Z) :: (o3 + (w - 32) + 16 ≤ n3 ∧ 176 ≤ 176) :: (o3 + (w - 16) + (l - (w - 16)) ≤ n3) :: (o3 + (w - 32) ≤ n3) :: (o3 + (w - 32) + 16 ≤ n3) :: (16 ≤ w ∧ 176 ≤ 176) :: IsB (byteF Y) :: (16 ≤ 16 ∧ o2 + 16 ≤ n2) :: rdxN w (Nat.sub (Nat.div w 16) 1) 2
noncomputable def rdxC (X Y Z : Nat → BitVec 8) (n n2 n3 o o2 o3 l : Nat) : List Prop := boolC (Nat.beq l 16) [IsB (byteF X), o + 16 ≤ n, IsB (byteF Z), o3 + 16 ≤ n3 ∧ 176 ≤ 176, IsB (byteF Y), 16 ≤ 16 ∧ o2 + 16 ≤ n2] (rdxM X Y Z n n2 n3 o o2 o3 l (Nat.mul 16 (numB l)))
section
variable (X Y Z : Nat → BitVec 8) (n m1 n2 m2 n3 m3 o o2 o3 : Nat)
noncomputable def rdxL (l : Nat) : List Prop × Option (SV × List (Option SO)) := outO [rdecI l] (callSim cfgRX 20000 12 (args3R m1 m2 m3 o o2 o3 l) (ents3R X Y Z n n2 n3)) []
noncomputable def rdxR (l : Nat) : List Prop × Option (SV × List (Option SO)) := (rdxC X Y Z n n2 n3 o o2 o3 l, some (.slice ⟨rdecI l, .lit 0⟩ (.lit l) (capR (dcp l) (rdecI l) l), [some (.own (.lst (bx (decF (block16 X o) (block16 Y o2) (fun j => Z (o3 + j)) l))) (dcp l) 5)]))
end

end Go.Proofs.YtdnaaeagllejjaaDoor.Aes

