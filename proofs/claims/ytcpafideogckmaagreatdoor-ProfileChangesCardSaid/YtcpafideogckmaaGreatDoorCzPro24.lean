/-
  The profiles: Open, where it is told that the key and the usage are valid: its runs.
-/
import Derived.Test.YtcpafideogckmaaGreatDoorPc18
namespace Go.Proofs.YtcpafideogckmaaGreatDoor.Aes
noncomputable section
open Go.Sim
open Go.Proofs
variable {α:Type}
set_option maxRecDepth 1000000
def jga (F:HashF) (E D:CtsF) (us:Summ):Cfg:=cfgG q3b (qbb [(15,us),(30,deS F),(64,hmS F),(43,mkS (tagB F)),(46,mkS (tagS F)),(17,qft),(32,numS),(62,stHS F),(59,ctsS E),(60,ctsS D),(23,eqS)])
theorem qvd {us:Summ} (hu:q3a Tryz.prog 15 us):CfgOK (jga shaF encF decF us):=qwb (allS (hu _) (allS deOK (allS hmOK (allS q19 (allS q29 (allS (qbs _) (allS (qas _) (allS stHOK (allS (qz8 _) (allS (jul _) (allS (eqOK _) (by simp))))))))))))
def q03 (i:Int) (n:Nat) (v u sp sv:Int) (k t:Sl):List SV:=[.agg [.int .i64 (.lit i),.int .i64 (.sym v),k.valN 4 n],.int .i64 (.sym u),.agg [.int .i64 (.sym sp),.int .i64 (.sym sv),t.val 5]]
def og1T (F:HashF) (E D:CtsF) (v u sp sv:Int) (k t:Sl):Tree:=qca (jga F E D (qiq 1 kv1)) 8000 8 (q03 1 16 v u sp sv k t) (qpc [k.row,t.row])
def og2T (F:HashF) (E D:CtsF) (v u sp sv:Int) (k t:Sl):Tree:=qca (jga F E D (qiq 2 kv2)) 8000 8 (q03 2 32 v u sp sv k t) (qpc [k.row,t.row])
def ogN (t:Sl) (g:Int):Int:=(t.n:Int) - g
def ogL (t:Sl) (g:Int):Nat:=(((ogN t g).toNat:Nat):Int).toNat - 16
def ocS (t:Sl) (g:Int):Sl:=⟨t.X,t.N,t.o,(ogN t g).toNat,false,(ogN t g).toNat⟩
def otS (t:Sl) (g:Int):Sl:=⟨t.X,t.N,t.o+(ogN t g).toNat * 1,(t.n:Int).toNat - (ogN t g).toNat,false,(t.n:Int).toNat - (ogN t g).toNat⟩
def ogA (i:Int) (v u sp:Int) (t:Sl) (l:Nat) (g:Int) (b:Bool) (vs r:List Prop):List Prop:=usQ1 i v u l::((sp != i)=false)::app vs (qza (ogN t g)::(decide (ogN t g<16)=b)::r)
def ogB (F:HashF) (u:Int) (k t:Sl) (l m:Nat) (g:Int) (y:Sl) (b:Bool) (r:List Prop):List Prop:=(decide (ogN t g > 65552)=false)::(0<=ogN t g/\ogN t g<=m)::(0<=ogN t g/\ogN t g<=((ogN t g).toNat:Int))::(0<=(t.n:Int)/\(t.n:Int)<=m)::(0<=(t.n:Int)/\(t.n:Int)<=((t.n:Int).toNat:Int)) ::
 (0<=ogN t g/\ogN t g<=((t.n:Int).toNat:Int))::(decide ((t.n:Int).toNat=(ogN t g).toNat)=false)::IsB (qea k.X)::(k.o+l<=k.N)::IsB (qea t.X)::(okK (dkS F k l u 0x55#8)/\okL (ocS t g))::IsB (qea t.X)::(0+l<=32/\okL (otS t g))::((!eqB y (otS t g) l)=b)::r
def ogM (t:Sl) (g:Int) (b:Bool) (r:List Prop):List Prop:=(0<=(((ogN t g).toNat:Nat):Int)/\(((ogN t g).toNat:Nat):Int)<=(((ogN t g).toNat:Nat):Int))::(0<=(((ogN t g).toNat:Nat):Int)/\(((ogN t g).toNat:Nat):Int)<=(((((ogN t g).toNat:Nat):Int).toNat:Nat):Int))::(16<=(((ogN t g).toNat:Nat):Int).toNat)::(decide ((((ogN t g).toNat:Nat):Int).toNat=16)=b)::r
def og1C (k t:Sl) (b:Bool):List Prop:=IsB (qea k.X)::(k.o+16<=k.N)::(0+16<=16)::(0+16<=16)::(decide ((ogN t 16).toNat<16)=false)::(decide ((ogN t 16).toNat<131073)=true)::IsB (qea t.X)::(t.o+(ogN t 16).toNat<=t.N/\(ogN t 16).toNat<=224)::ogM t 16 b []
def og1D (F:HashF) (D:CtsF) (u:Int) (k t:Sl):Nat->BitVec 8:=qba (D (qha (dkS F k 16 u 0xaa#8).X 0) (qha z16.X 0) (fun j=>t.X (t.o+j)) (ogN t 16).toNat)
def og1V (o:Nat) (t:Sl):SV:=.tuple [.slice ⟨15,.lit o⟩ (.sym (ogL t 16)) (.sym (ogL t 16)),.int .i64 (.lit 0)]
def og1E (F:HashF) (D:CtsF) (u:Int) (k t:Sl):Option SO:=some (.own (.fn (qea (og1D F D u k t)) (ogN t 16).toNat) false 5)
def ogX (t:Sl) (o:Nat):Sl:=⟨t.X,t.N,o,ogL t 32,false,ogL t 32⟩
def og2C (F:HashF) (u:Int) (k t:Sl) (o:Nat) (b b3:Bool):List Prop:=IsB (qea k.X)::(k.o+32<=k.N)::(16<=(ogN t 32).toNat)::ogM t 32 b [IsB (qea t.X),okK (dkS F k 32 u 0xaa#8)/\okL (t.cut t.o 16)/\okL (ogX t o),(((ogL t 32:Nat):Int) == 0)=b3]
def og2V (n:Nat):SV:=.tuple [q0e 14 n,.int .i64 (.lit 0)]
section
variable (F:HashF) (E D:CtsF) (v u sp sv:Int) (k t:Sl) (m m2:Nat)
theorem jha:outO [] (og1T F E D v u sp sv (k.pl m) (t.pl m2)) [false,false,false,false,false,false,false,false,true]=(ogA 1 v u sp t 16 16 false (v0C v sv) (ogB F u k t 16 m2 16 (tgA F k u (ocS t 16)) true ([])),some (opV 10,[])):=by kernel_rfl
theorem j5q:outO [15] (og1T F E D v u sp sv (k.pl m) (t.pl m2)) [false,false,false,false,false,false,false,false,false,false,true,false]=(ogA 1 v u sp t 16 16 false (v0C v sv) (ogB F u k t 16 m2 16 (tgA F k u (ocS t 16)) false (og1C k t false)),some (og1V 16 t,[og1E F D u k t])):=by kernel_rfl
theorem jdj:outO [15] (og1T F E D v u sp sv (k.pl m) (t.pl m2)) [false,false,false,false,false,false,false,false,false,false,true,true]=(ogA 1 v u sp t 16 16 false (v0C v sv) (ogB F u k t 16 m2 16 (tgA F k u (ocS t 16)) false (og1C k t true)),some (og1V 0 t,[og1E F D u k t])):=by kernel_rfl
theorem jia:outO [] (og1T F E D v u sp sv (k.pl m) (t.pl m2)) [false,true,false,false,false,false,false,false,false,true]=(ogA 1 v u sp t 16 16 false (v1C v sv) (ogB F u k t 16 m2 16 (tgA F k u (ocS t 16)) true ([])),some (opV 10,[])):=by kernel_rfl
theorem j6q:outO [15] (og1T F E D v u sp sv (k.pl m) (t.pl m2)) [false,true,false,false,false,false,false,false,false,false,false,true,false]=(ogA 1 v u sp t 16 16 false (v1C v sv) (ogB F u k t 16 m2 16 (tgA F k u (ocS t 16)) false (og1C k t false)),some (og1V 16 t,[og1E F D u k t])):=by kernel_rfl
theorem jej:outO [15] (og1T F E D v u sp sv (k.pl m) (t.pl m2)) [false,true,false,false,false,false,false,false,false,false,false,true,true]=(ogA 1 v u sp t 16 16 false (v1C v sv) (ogB F u k t 16 m2 16 (tgA F k u (ocS t 16)) false (og1C k t true)),some (og1V 0 t,[og1E F D u k t])):=by kernel_rfl
theorem jja:outO [] (og1T F E D v u sp sv (k.pl m) (t.pl m2)) [false,true,true,false,false,false,false,true]=(ogA 1 v u sp t 16 16 false (v2C v sv) (ogB F u k t 16 m2 16 (tgA F k u (ocS t 16)) true ([])),some (opV 10,[])):=by kernel_rfl
theorem j7q:outO [15] (og1T F E D v u sp sv (k.pl m) (t.pl m2)) [false,true,true,false,false,false,false,false,false,true,false]=(ogA 1 v u sp t 16 16 false (v2C v sv) (ogB F u k t 16 m2 16 (tgA F k u (ocS t 16)) false (og1C k t false)),some (og1V 16 t,[og1E F D u k t])):=by kernel_rfl
theorem jfj:outO [15] (og1T F E D v u sp sv (k.pl m) (t.pl m2)) [false,true,true,false,false,false,false,false,false,true,true]=(ogA 1 v u sp t 16 16 false (v2C v sv) (ogB F u k t 16 m2 16 (tgA F k u (ocS t 16)) false (og1C k t true)),some (og1V 0 t,[og1E F D u k t])):=by kernel_rfl
theorem jka:outO [] (og2T F E D v u sp sv (k.pl m) (t.pl m2)) [false,false,false,false,false,false,false,false,true]=(ogA 2 v u sp t 32 32 false (v0C v sv) (ogB F u k t 32 m2 32 (tgB F k u (ocS t 32)) true ([])),some (opV 10,[])):=by kernel_rfl
theorem j8q:outO [14] (og2T F E D v u sp sv (k.pl m) (t.pl m2)) [false,false,false,false,false,false,false,false,false,false,false]=(ogA 2 v u sp t 32 32 false (v0C v sv) (ogB F u k t 32 m2 32 (tgB F k u (ocS t 32)) false (og2C F u k t (t.o+16) false false)),some (og2V (ogL t 32),[some (.own (.fn (qea (strG F (dkS F k 32 u 0xaa#8) (t.cut t.o 16) (ogX t (t.o+16)))) (ogL t 32)) false 5)])):=by kernel_rfl
theorem jgj:outO [] (og2T F E D v u sp sv (k.pl m) (t.pl m2)) [false,false,false,false,false,false,false,false,false,true,true]=(ogA 2 v u sp t 32 32 false (v0C v sv) (ogB F u k t 32 m2 32 (tgB F k u (ocS t 32)) false (og2C F u k t t.o true true)),some (opV 0,[])):=by kernel_rfl
theorem jla:outO [] (og2T F E D v u sp sv (k.pl m) (t.pl m2)) [false,true,false,false,false,false,false,false,false,true]=(ogA 2 v u sp t 32 32 false (v1C v sv) (ogB F u k t 32 m2 32 (tgB F k u (ocS t 32)) true ([])),some (opV 10,[])):=by kernel_rfl
theorem j9q:outO [14] (og2T F E D v u sp sv (k.pl m) (t.pl m2)) [false,true,false,false,false,false,false,false,false,false,false,false]=(ogA 2 v u sp t 32 32 false (v1C v sv) (ogB F u k t 32 m2 32 (tgB F k u (ocS t 32)) false (og2C F u k t (t.o+16) false false)),some (og2V (ogL t 32),[some (.own (.fn (qea (strG F (dkS F k 32 u 0xaa#8) (t.cut t.o 16) (ogX t (t.o+16)))) (ogL t 32)) false 5)])):=by kernel_rfl
theorem jhj:outO [] (og2T F E D v u sp sv (k.pl m) (t.pl m2)) [false,true,false,false,false,false,false,false,false,false,true,true]=(ogA 2 v u sp t 32 32 false (v1C v sv) (ogB F u k t 32 m2 32 (tgB F k u (ocS t 32)) false (og2C F u k t t.o true true)),some (opV 0,[])):=by kernel_rfl
theorem jma:outO [] (og2T F E D v u sp sv (k.pl m) (t.pl m2)) [false,true,true,false,false,false,false,true]=(ogA 2 v u sp t 32 32 false (v2C v sv) (ogB F u k t 32 m2 32 (tgB F k u (ocS t 32)) true ([])),some (opV 10,[])):=by kernel_rfl
theorem jar:outO [14] (og2T F E D v u sp sv (k.pl m) (t.pl m2)) [false,true,true,false,false,false,false,false,false,false]=(ogA 2 v u sp t 32 32 false (v2C v sv) (ogB F u k t 32 m2 32 (tgB F k u (ocS t 32)) false (og2C F u k t (t.o+16) false false)),some (og2V (ogL t 32),[some (.own (.fn (qea (strG F (dkS F k 32 u 0xaa#8) (t.cut t.o 16) (ogX t (t.o+16)))) (ogL t 32)) false 5)])):=by kernel_rfl
theorem jij:outO [] (og2T F E D v u sp sv (k.pl m) (t.pl m2)) [false,true,true,false,false,false,false,false,true,true]=(ogA 2 v u sp t 32 32 false (v2C v sv) (ogB F u k t 32 m2 32 (tgB F k u (ocS t 32)) false (og2C F u k t t.o true true)),some (opV 0,[])):=by kernel_rfl
end
end
end Go.Proofs.YtcpafideogckmaaGreatDoor.Aes
