/-
  The profiles: Seal in profile 1.
-/
import Derived.Test.YtcpafideogckmaaGreatDoorCzPro12
import Derived.Test.YtcpafideogckmaaGreatDoorCzCts5
namespace Go.Proofs.YtcpafideogckmaaGreatDoor.Aes
noncomputable section
open Go.Sim
open Go.Proofs
variable {α:Type}
set_option maxRecDepth 1000000
abbrev CtsF:=Blk->Blk->(Nat->BitVec 8)->Nat->Blk
def q39 (F:HashF) (E:CtsF):Cfg:=cfgG q3b (qbb [(15,qgt),(30,deS F),(64,hmS F),(43,mkS (tagB F)),(46,mkS (tagS F)),(17,qft),(32,numS),(62,stS F),(59,ctsS E)])
theorem qf6:CfgOK (q39 shaF encF):=qwb (allS (qhq _) (allS deOK (allS hmOK (allS q19 (allS q29 (allS (qbs _) (allS (qas _) (allS stOK (allS (qz8 _) (by simp))))))))))
def seT (F:HashF) (E:CtsF) (p:Int) (n:Nat) (v u:Int) (k c t:Sl):Tree:=qca (q39 F E) 8000 6 [.agg [.int .i64 (.lit p),.int .i64 (.sym v),k.valN 4 n],.int .i64 (.sym u),c.valN 5 16,t.val 6] (qpc [k.row,c.row,t.row])
def dkS (F:HashF) (k:Sl) (n:Nat) (u:Int) (x:BitVec 8):Sl:=⟨qba (tabB (qba (kdfB F (k.len n).F n (lblS u x) n)) n),n,0,n,true,0⟩
def cphS (F:HashF) (E:CtsF) (k c t:Sl) (u:Int):Sl:=⟨qba (E (qha (dkS F k 16 u 0xaa#8).X 0) (qha z16.X 0) (fun j=>two (c.len 16) t (0+j)) (16+t.n)),16+t.n,0,16+t.n,true,0⟩
def qfx (F:HashF) (E:CtsF) (k c t:Sl) (u:Int):Sl:=⟨qba (tabB (qba (tagB F (dkS F k 16 u 0x55#8) (cphS F E k c t u))) 32),32,0,16,false,16⟩
def seC1 (F:HashF) (E:CtsF) (v u:Int) (k c t:Sl):List Prop :=
 [decide (0<=v)=true,decide (v<=65535)=true,decide (1<=u)=true,decide (u<=1023)=true,decide ((t.n:Int) > 65536)=false,IsB (qea k.X),k.o+16<=k.N,
  IsB (qea c.X),IsB (qea t.X),((okL (c.len 16)/\16≠0)/\okL t),0+16<=16,0+16<=16,decide (16+t.n<16)=false,decide (16+t.n<131073)=true,IsB (qea (two (c.len 16) t)),(0+(16+t.n)<=16+t.n/\16+t.n<=224),
  IsB (qea k.X),k.o+16<=k.N,IsB (qea (cphS F E k c t u).X),(okK (dkS F k 16 u 0x55#8)/\okL (cphS F E k c t u)),IsB (qea (cphS F E k c t u).X),((okL (cphS F E k c t u)/\(cphS F E k c t u).n≠0)/\okL (qfx F E k c t u))]
def seV (nm:Nat) (p:Int) (v:SI) (n:Nat):SV:=.tuple [.agg [.int .i64 (.lit p),.int .i64 v,q0e nm n],.int .i64 (.lit 0)]
theorem jdq (F:HashF) (E:CtsF) (v u:Int) (k c t:Sl) (m m2 m3:Nat):outO [20] (seT F E 1 16 v u (k.pl m) (c.pl m2) (t.pl m3)) [true,true,true,true,false,false,true] =
  (seC1 F E v u k c t,some (seV 20 1 (.sym v) (16+t.n+16),[some (.own (.fn (qea (two (cphS F E k c t u) (qfx F E k c t u))) (16+t.n+16)) false 5)])):=by kernel_rfl
def seT5 (F:HashF) (E:CtsF) (v u:Int) (k c t:Sl):Tree:=qca (q39 F E) 8000 6 [.agg [.int .i64 (.lit 2),.int .i64 (.sym v),k.valN 4 32],.int .i64 (.sym u),c.valN 5 16,t.valN 6 5] (qpc [k.row,c.row,t.row])
def str5 (F:HashF) (k c t:Sl) (u:Int):Sl:=⟨qba (tabB (strF F (dkS F k 32 u 0xaa#8) (c.len 16) (t.len 5)) 5),5,0,5,true,0⟩
def cph5 (F:HashF) (k c t:Sl) (u:Int):Sl:=⟨two (c.len 16) (str5 F k c t u),16+5,0,16+5,true,0⟩
def tag5 (F:HashF) (k c t:Sl) (u:Int):Sl:=⟨qba (tabB (qba (tagS F (dkS F k 32 u 0x55#8) (cph5 F k c t u))) 32),32,0,32,false,32⟩
def seC5 (F:HashF) (v u:Int) (k c t:Sl):List Prop :=
 [decide (0<=v)=true,decide (v<=65535)=true,decide (1<=u)=true,decide (u<=1023)=true,IsB (qea k.X),k.o+32<=k.N,
  IsB (qea c.X),IsB (qea t.X),(okK (dkS F k 32 u 0xaa#8)/\okL (c.len 16)/\okL (t.len 5)),IsB (qea c.X),((okL (c.len 16)/\16≠0)/\okL (str5 F k c t u)),IsB (qea k.X),k.o+32<=k.N,
  IsB (qea (cph5 F k c t u).X),(okK (dkS F k 32 u 0x55#8)/\okL (cph5 F k c t u)),IsB (qea (cph5 F k c t u).X),((okL (cph5 F k c t u)/\(cph5 F k c t u).n≠0)/\okL (tag5 F k c t u))]
theorem jeq (F:HashF) (E:CtsF) (v u:Int) (k c t:Sl) (m m2 m3:Nat):outO [19] (seT5 F E v u (k.pl m) (c.pl m2) (t.pl m3)) [true,true,true,true] =
  (seC5 F v u k c t,some (seV 19 2 (.sym v) (16+5+32),[some (.own (.fn (qea (two (cph5 F k c t u) (tag5 F k c t u))) (16+5+32)) false 5)])):=by kernel_rfl
end
end Go.Proofs.YtcpafideogckmaaGreatDoor.Aes
