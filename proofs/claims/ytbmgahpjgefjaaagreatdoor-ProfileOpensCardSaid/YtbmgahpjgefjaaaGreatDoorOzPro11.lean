/-
  The profiles: Seal in profile 1.
-/
import Derived.Test.YtbmgahpjgefjaaaGreatDoorOzPro12
import Derived.Test.YtbmgahpjgefjaaaGreatDoorOzCts5
namespace Go.Proofs.YtbmgahpjgefjaaaGreatDoor.Aes
open Go.Sim
open Go.Proofs
variable {α:Type}
set_option maxRecDepth 1000000
abbrev CtsF:=Blk→Blk→(Nat→BitVec 8)→Nat→Blk
noncomputable def qu9 (F:HashF) (E:CtsF):Cfg:=cfgG q6b (qbb [(37,q1s),(60,deS F),(73,hmS F),(69,mkS (tagB F)),(72,mkS (tagS F)),(39,q0w),(61,numS),(99,stS F),(97,ctsS E)])
theorem qb6:CfgOK (qu9 shaF encF):=q2b (allS (qbq _) (allS deOK (allS hmOK (allS jyl (allS jzl (allS (q1w _) (allS (qzw _) (allS stOK (allS (jbl _) (by simp))))))))))
noncomputable def seT (F:HashF) (E:CtsF) (p:Int) (n:Nat) (v u:Int) (k c t:Sl):Tree:=qca (qu9 F E) 8000 12 [.agg [.int .i64 (.lit p),.int .i64 (.sym v),k.valN 4 n],.int .i64 (.sym u),c.valN 5 16,t.val 6] (q5c [k.row,c.row,t.row])
noncomputable def dkS (F:HashF) (k:Sl) (n:Nat) (u:Int) (x:BitVec 8):Sl:=⟨qaa (tabB (qaa (kdfB F (k.len n).F n (lblS u x) n)) n),n,0,n,true,0⟩
noncomputable def cphS (F:HashF) (E:CtsF) (k c t:Sl) (u:Int):Sl:=⟨qaa (E (qha (dkS F k 16 u 0xaa#8).X 0) (qha z16.X 0) (fun j=>two (c.len 16) t (0+j)) (16+t.n)),16+t.n,0,16+t.n,true,0⟩
noncomputable def q3w (F:HashF) (E:CtsF) (k c t:Sl) (u:Int):Sl:=⟨qaa (tabB (qaa (tagB F (dkS F k 16 u 0x55#8) (cphS F E k c t u))) 32),32,0,16,false,16⟩
noncomputable def seC1 (F:HashF) (E:CtsF) (v u:Int) (k c t:Sl):List Prop :=
  [decide (0≤v)=true,decide (v≤65535)=true,decide (1≤u)=true,decide (u≤1023)=true,decide ((t.n:Int) > 65536)=false,IsB (qda k.X),k.o+16≤k.N,
   IsB (qda c.X),IsB (qda t.X),((okL (c.len 16)∧16≠0)∧okL t),0+16≤16,0+16≤16,decide (16+t.n<16)=false,decide (16+t.n<131073)=true,IsB (qda (two (c.len 16) t)),(0+(16+t.n)≤16+t.n∧16+t.n≤224),
   IsB (qda k.X),k.o+16≤k.N,IsB (qda (cphS F E k c t u).X),(okK (dkS F k 16 u 0x55#8)∧okL (cphS F E k c t u)),IsB (qda (cphS F E k c t u).X),((okL (cphS F E k c t u)∧(cphS F E k c t u).n≠0)∧okL (q3w F E k c t u))]
noncomputable def seV (nm:Nat) (p:Int) (v:SI) (n:Nat):SV:=.tuple [.agg [.int .i64 (.lit p),.int .i64 v,qgf nm n],.int .i64 (.lit 0)]
theorem jqp (F:HashF) (E:CtsF) (v u:Int) (k c t:Sl) (m m2 m3:Nat):outO [20] (seT F E 1 16 v u (k.pl m) (c.pl m2) (t.pl m3)) [true,true,true,true,false,false,true] =
    (seC1 F E v u k c t,some (seV 20 1 (.sym v) (16+t.n+16),[some (.own (.fn (qda (two (cphS F E k c t u) (q3w F E k c t u))) (16+t.n+16)) false 5)])):=by kernel_rfl
noncomputable def seT5 (F:HashF) (E:CtsF) (v u:Int) (k c t:Sl):Tree:=qca (qu9 F E) 8000 12 [.agg [.int .i64 (.lit 2),.int .i64 (.sym v),k.valN 4 32],.int .i64 (.sym u),c.valN 5 16,t.valN 6 5] (q5c [k.row,c.row,t.row])
noncomputable def str5 (F:HashF) (k c t:Sl) (u:Int):Sl:=⟨qaa (tabB (strF F (dkS F k 32 u 0xaa#8) (c.len 16) (t.len 5)) 5),5,0,5,true,0⟩
noncomputable def cph5 (F:HashF) (k c t:Sl) (u:Int):Sl:=⟨two (c.len 16) (str5 F k c t u),16+5,0,16+5,true,0⟩
noncomputable def tag5 (F:HashF) (k c t:Sl) (u:Int):Sl:=⟨qaa (tabB (qaa (tagS F (dkS F k 32 u 0x55#8) (cph5 F k c t u))) 32),32,0,32,false,32⟩
noncomputable def seC5 (F:HashF) (v u:Int) (k c t:Sl):List Prop :=
  [decide (0≤v)=true,decide (v≤65535)=true,decide (1≤u)=true,decide (u≤1023)=true,IsB (qda k.X),k.o+32≤k.N,
   IsB (qda c.X),IsB (qda t.X),(okK (dkS F k 32 u 0xaa#8)∧okL (c.len 16)∧okL (t.len 5)),IsB (qda c.X),((okL (c.len 16)∧16≠0)∧okL (str5 F k c t u)),IsB (qda k.X),k.o+32≤k.N,
   IsB (qda (cph5 F k c t u).X),(okK (dkS F k 32 u 0x55#8)∧okL (cph5 F k c t u)),IsB (qda (cph5 F k c t u).X),((okL (cph5 F k c t u)∧(cph5 F k c t u).n≠0)∧okL (tag5 F k c t u))]
theorem jrp (F:HashF) (E:CtsF) (v u:Int) (k c t:Sl) (m m2 m3:Nat):outO [19] (seT5 F E v u (k.pl m) (c.pl m2) (t.pl m3)) [true,true,true,true] =
    (seC5 F v u k c t,some (seV 19 2 (.sym v) (16+5+32),[some (.own (.fn (qda (two (cph5 F k c t u) (tag5 F k c t u))) (16+5+32)) false 5)])):=by kernel_rfl
end Go.Proofs.YtbmgahpjgefjaaaGreatDoor.Aes
