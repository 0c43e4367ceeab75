/-
  The reference's keyed hash: the key block (a loop).
-/
import Derived.Test.YtbmgahpjgefjaaaGreatDoorPo12
import Derived.Test.YtbmgahpjgefjaaaGreatDoorPo16
namespace Go.Proofs.YtbmgahpjgefjaaaGreatDoor.Aes
open Go.Sim
open Go.Proofs
variable {α:Type}
set_option maxRecDepth 1000000
noncomputable def q1r (F:HashF):Summ:=fun args H _=>qfd args fun v=>shaT H (qob v (.ok ⟨.agg (b32L (F (fun _=>0#8) 0)),[],[]⟩) fun a l=>boolC (qib a.nm) (q3b (nth H a.nm) fun X N=>.need (a.off.den+l.den≤N∧l.den≤1099511627776) (.ok ⟨.agg (b32L (F (fun i=>X (a.off.den+i)) l.den)),[],[]⟩)) (.stuck 740))
theorem qo3:SumAt Tryz.prog qtd 74 (q1r shaF):=by
  rw [show q1r shaF=qd9 shaF 1099511627776 from by
    funext args H base
    unfold q1r qd9
    simp only [q0s (qj3 _ _)]]
  exact rsmOK
noncomputable def j3l (F:HashF):Cfg:=cfgG qtd (qbb [(74,q1r F)])
theorem jwp:CfgOK (j3l shaF):=q2b (allS qo3 (by simp))
noncomputable def rbN (F:HashF) (k:Sl) (n:Nat) (x:BitVec 8):Tree:=qca (j3l F) 8000 75 [k.valN 4 n,.int .u8 (.b8 x)] (shaH [k.row])
noncomputable def rbE (L:List (BitVec 8)):SO:=.own (.lst (bx L)) true 5
noncomputable def rbV (nm:Nat):SV:=.slice ⟨nm,.lit 0⟩ (.lit 64) (.lit 64)
noncomputable def rbL (k:Sl) (n:Nat) (x:BitVec 8):List (BitVec 8):=tabB (fun i=>(if i<n then k.X (k.o+i) else BitVec.ofInt 8 0) ^^^ x) 64
section
variable (F:HashF) (k:Sl) (x:BitVec 8) (m:Nat)
theorem rb_16:outO [5] (rbN F (k.pl m) 16 x) []=(qmp (fun i=>k.o+i<k.N) 16,some (rbV 5,[some (rbE (rbL k 16 x))])):=by kernel_rfl
theorem rb_32:outO [5] (rbN F (k.pl m) 32 x) []=(qmp (fun i=>k.o+i<k.N) 32,some (rbV 5,[some (rbE (rbL k 32 x))])):=by kernel_rfl
end
end Go.Proofs.YtbmgahpjgefjaaaGreatDoor.Aes
