/-
  The reference's keyed hash: the key block (a loop).
-/
import Derived.Test.YtcpafideogckmaaGreatDoorPc12
import Derived.Test.YtcpafideogckmaaGreatDoorPc16
namespace Go.Proofs.YtcpafideogckmaaGreatDoor.Aes
noncomputable section
open Go.Sim
open Go.Proofs
variable {α:Type}
set_option maxRecDepth 1000000
def qes (F:HashF):Summ:=fun args H _=>qgd args fun v=>shaT H (qob v (.ok ⟨.agg (b32L (F (fun _=>0#8) 0)),[],[]⟩) fun a l=>boolC (qeb a.nm) (q4b (nth H a.nm) fun X N=>.need (a.off.den+l.den<=N/\l.den<=1099511627776) (.ok ⟨.agg (b32L (F (fun i=>X (a.off.den+i)) l.den)),[],[]⟩)) (.stuck 740))
theorem qu3:SumAt Tryz.prog qud 54 (qes shaF):=by
 rw [show qes shaF=qk9 shaF 1099511627776 from by
  funext args H base
  unfold qes qk9
  simp only [qet (qo3 _ _)]]
 exact rsmOK
def jnm (F:HashF):Cfg:=cfgG qud (qbb [(54,qes F)])
theorem joq:CfgOK (jnm shaF):=qwb (allS qu3 (by simp))
def rbN (F:HashF) (k:Sl) (n:Nat) (x:BitVec 8):Tree:=qca (jnm F) 8000 55 [k.valN 4 n,.int .u8 (.b8 x)] (shaH [k.row])
def rbE (L:List (BitVec 8)):SO:=.own (.lst (bx L)) true 5
def rbV (nm:Nat):SV:=.slice ⟨nm,.lit 0⟩ (.lit 64) (.lit 64)
def rbL (k:Sl) (n:Nat) (x:BitVec 8):List (BitVec 8):=tabB (fun i=>(if i<n then k.X (k.o+i) else BitVec.ofInt 8 0) ^^^ x) 64
section
variable (F:HashF) (k:Sl) (x:BitVec 8) (m:Nat)
theorem rb_16:outO [5] (rbN F (k.pl m) 16 x) []=(qrp (fun i=>k.o+i<k.N) 16,some (rbV 5,[some (rbE (rbL k 16 x))])):=by kernel_rfl
theorem rb_32:outO [5] (rbN F (k.pl m) 32 x) []=(qrp (fun i=>k.o+i<k.N) 32,some (rbV 5,[some (rbE (rbL k 32 x))])):=by kernel_rfl
end
end
end Go.Proofs.YtcpafideogckmaaGreatDoor.Aes
