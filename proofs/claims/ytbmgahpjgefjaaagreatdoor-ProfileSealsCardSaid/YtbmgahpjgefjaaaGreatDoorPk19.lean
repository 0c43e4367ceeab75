/-
  Texts behind one another: the symbolic simulator and what it is told of the program.
-/
import Derived.Test.YtbmgahpjgefjaaaGreatDoorZPro24
import Derived.Test.YtbmgahpjgefjaaaGreatDoorPk16
import Derived.Test.YtbmgahpjgefjaaaGreatDoorPk14
import Derived.Test.YtbmgahpjgefjaaaGreatDoorPk18
import Derived.Test.YtbmgahpjgefjaaaGreatDoorZRmc3
import Derived.Test.YtbmgahpjgefjaaaGreatDoorPk11
namespace Go.Proofs.YtbmgahpjgefjaaaGreatDoor.Aes
open Go.Sim
open Go.Proofs
variable {α:Type}
set_option maxRecDepth 100000
noncomputable def opT1 (F:HashF) (i:Nat) (k:Sl) (u:Int) (t:Sl):Bool:=boolC (Nat.beq i 1) (eqB (tgA F k u (ocS t 16)) (otS t 16) 16) (eqB (tgB F k u (ocS t 32)) (otS t 32) 32)
noncomputable def opnQ (i:Nat) (p v u sp sv:Int) (k t:Sl):Prop:=p=i∧usQ i v u k.n∧sp=i∧versQ v sv∧okL k∧okL t∧16+tagN i≤t.n∧t.n≤224+tagN i
end Go.Proofs.YtbmgahpjgefjaaaGreatDoor.Aes
namespace Go.Proofs.YtbmgahpjgefjaaaGreatDoor.Aes
open Go.Sim
open Go.Proofs
variable {α:Type}
set_option maxRecDepth 100000
end Go.Proofs.YtbmgahpjgefjaaaGreatDoor.Aes
namespace Go.Proofs.YtbmgahpjgefjaaaGreatDoor.Aes
open Go.Sim
open Go.Proofs
variable {α:Type}
set_option maxRecDepth 1000000
noncomputable def smY (F:HashF) (k:Sl) (u:Int) (n:Nat) (t:Sl):Sl:=⟨qaa (tabB (qaa (tagS F (dkS F k n u 0x99#8) t)) 32),32,0,n,false,n⟩
noncomputable def smL (F:HashF) (k:Sl) (u:Int) (n:Nat) (t:Sl):List (BitVec 8):=tabB (smY F k u n t).F n
section
variable (F:HashF) (v u:Int) (k t:Sl) (m m2:Nat)
end
end Go.Proofs.YtbmgahpjgefjaaaGreatDoor.Aes
namespace Go.Proofs.YtbmgahpjgefjaaaGreatDoor.Aes
open Go.Sim
open Go.Proofs
variable {α:Type}
set_option maxRecDepth 1000000
noncomputable def smA1 (F:HashF) (k:Sl) (u:Int) (i n:Nat) (b:Sl):Sl:=⟨qaa (smL F (k.len n) u (tagN i) b),n,0,n,true,0⟩
section
variable (F:HashF) (v u:Int) (k b s:Sl) (m m2 m3:Nat)
end
end Go.Proofs.YtbmgahpjgefjaaaGreatDoor.Aes
namespace Go.Proofs.YtbmgahpjgefjaaaGreatDoor.Aes
open Go.Sim
open Go.Proofs
variable {α:Type}
set_option maxRecDepth 1000000
noncomputable def jhl:Cfg:=qae (qcb [(19,vyS)])
theorem jqp:CfgOK jhl:=q7b (all1 rvyOK)
noncomputable def ruT (p v u:Int) (y:Option Addr) (l m:Nat):Tree:=qba jhl 400 40 [kyV p v y l m,.int .i64 (.sym u)] []
section
variable (p v u:Int) (y:Option Addr) (l m:Nat)
theorem ru_a:outO [] (ruT p v u y l m) [false,false,false]=(repN (vlB p v l=false) 3,some (.bool (.lit false),[])):=by kernel_rfl
theorem ru_b:outO [] (ruT p v u y l m) [true,false,false,false]=((vlB p v l=true)::repN (decide (u≥1)=false) 3,some (.bool (.lit false),[])):=by kernel_rfl
theorem ru_c:outO [] (ruT p v u y l m) [true,true]=([vlB p v l=true,decide (u≥1)=true],some (.bool (.sym (decide (u≤1023))),[])):=by kernel_rfl
end
noncomputable def ruS (b:Bool):Summ:=fun args _ _=>q9c args fun kv uv=>keyN kv fun p v l=>i64O uv fun u=>.need (usQ p.den v.den u.den l↔b=true) (.ok ⟨.bool (.lit b),[],[]⟩)
theorem ruOK {b:Bool}:q5a Tryz.prog 40 (ruS b):=by
  intro glob O w0 β H w base args vs hH hG ha
  refine qlb fun kv uv hv=>qti fun p v s n hk hs=>q1a fun u hu=>fun hq => ?_
  subst hv hk hu
  obtain ⟨y,m,ha'⟩:=qui ha hs
  have ha2:SV.denL β [kyV p.den v.den y n m,.int .i64 (.sym u.den)]=some vs:=qma (.refl _) (qma (qoa rfl) qac) _ _ ha'
  have key:∀ {ds cs c},outO [] (ruT p.den v.den u.den y n m) ds=(cs,some (.bool c,[]))→(∀ q∈cs,q)→c.den=b→q3a Tryz.prog H β w base 40 vs ⟨.bool (.lit b),[],[]⟩:=by
    intro ds cs c hr hc hb
    exact qob jqp rfl 400 hH ⟨[],[],[kyV p.den v.den y n m,.int .i64 (.sym u.den)]⟩ ha2 (qed rfl) [] (by simp) (by simp) hr hc fun _ _=>qpo rfl hb
  have no:¬ usQ p.den v.den u.den n→(SB.lit false).den=b:=fun h=>by
    show false=b
    cases b with
    | false=>rfl
    | true=>exact absurd (hq.2 rfl) h
  cases hv:vlB p.den v.den n with
  | false=>exact key (ru_a p.den v.den u.den y n m) (q2c hv 3) (no fun h=>by rw [vlB_iff.2 h.1] at hv; cases hv)
  | true =>
    by_cases h1:1≤u.den
    · refine key (ru_c p.den v.den u.den y n m) (all_cons hv (all_cons (decide_eq_true h1) qca)) ?_
      show decide (u.den≤1023)=b
      rw [Bool.eq_iff_iff,decide_eq_true_iff,← hq]
      exact ⟨fun h=>⟨vlB_iff.1 hv,h1,h⟩,fun h=>h.2.2⟩
    · exact key (ru_b p.den v.den u.den y n m) (all_cons hv (q2c (decide_eq_false h1) 3)) (no fun h=>h1 h.2.1)
noncomputable def rdkS (F:HashF) (k:Sl) (n:Nat) (u:Int) (x:BitVec 8):Sl:=⟨qaa (rdL F k n u x),32,0,n,true,0⟩
section
variable (F:HashF) (v u:Int) (k b:Sl) (m m2:Nat)
end
theorem j8d {k:Sl} {u:Int} {x:BitVec 8} {n:Nat} (h1:1≤u) (h2:u≤1023) (hn:n≤32):SlEq (rdkS shaF k n u x) (dkS shaF k n u x):=⟨rfl,fun i hi=>by
  have hi:i<n:=hi
  show qaa (rdL shaF k n u x) (0+i)=_
  rw [Nat.zero_add,j7d h1 h2 hn hi]; rfl⟩
end Go.Proofs.YtbmgahpjgefjaaaGreatDoor.Aes
namespace Go.Proofs.YtbmgahpjgefjaaaGreatDoor.Aes
open Go.Sim
open Go.Proofs
variable {α:Type}
set_option maxRecDepth 1000000
noncomputable def qrk (F:HashF):Cfg:=cfgG qvd (qcb [(52,rhmS F)])
theorem qro:CfgOK (qrk shaF):=qwb (allS qw9 (by simp))
structure RtA where
  i:Int
  j:Nat
  n:Nat
  G:Nat→BitVec 8
  S:Nat→BitVec 8
inductive RtS where
  | none (S:Nat→BitVec 8)
  | inn (A:RtA)
  | out (A:RtA)
noncomputable def rtG (G:Nat→BitVec 8) (n:Nat):HP:=.ent (.own (.fn (qea G) n) false 5)
noncomputable def rtH (S:Nat→BitVec 8):HP:=.ent (.own (.lst (bx (tabB S 32))) true 98)
noncomputable def rtM (c:Sl) (v:Int):Sl:=⟨qaa (app (tabB c.F 16) (num4 v)),20,0,20,true,0⟩
noncomputable def rtK (F:HashF) (k c:Sl) (v:Int):Nat→BitVec 8:=qaa (tagS F (k.len 32) (rtM c v))
noncomputable def rtHC (k c:Sl) (v:Int):List Prop:=[c.o+16≤c.N,IsB (qea k.X),k.o+32≤k.N∧okL (rtM c v)∧20≤1099511627712]
noncomputable def rtV (i:Int):Int:=IntKind.i64.wrap (i.tdiv 32)+1
noncomputable def rtx0 (t:Sl) (S:Nat→BitVec 8):BitVec 8:=t.X (t.o+0) ^^^ qaa (tabB S 32) 0
noncomputable def rtx (t:Sl) (A:RtA):BitVec 8:=t.X (t.o+(A.i+A.j).toNat * 1) ^^^ qaa (tabB A.S 32) (0+(A.j:Int).toNat * 1)
noncomputable def rtN (t:Sl) (A:RtA):Nat→BitVec 8:=catB (fun p=>A.G (0+p)) A.n (fun p=>qaa [rtx t A] (0+p))
noncomputable def rtTC (t:Sl) (A:RtA):List Prop:=[decide ((A.j:Int)<32)=true,q4a (A.i+A.j),decide (A.i+A.j<t.n)=true,q4a (A.i+A.j),0≤A.i+A.j∧A.i+A.j<t.n,t.o+(A.i+A.j).toNat * 1<t.N,0≤(A.j:Int)∧(A.j:Int)<32,0+(A.j:Int).toNat * 1<32,1≤1,0+A.n≤A.n∧IsB (qea A.G),((A.n+1) * 1<70368744177664∧A.n+1<70368744177664)∧1=1,q4a ((A.j:Int)+1)]
noncomputable def rtT (st:Option (Nat × Nat)) (F:HashF) (k c t:Sl):Tree:=qba ((qrk F).at st) 4000 43 [k.valN 4 32,c.valN 5 16,t.val 6] (shaH [k.row,c.row,t.row])
noncomputable def rtS0 (F:HashF) (k c t:Sl):SS:=qxh (rtT (some (1,7)) F k c t) [true,true]
noncomputable def rtSo (F:HashF) (k c t:Sl):SS:=qxh (rtT (some (1,3)) F k c t) []
noncomputable def rtO (n:Nat):SV:=.slice ⟨7,.lit 0⟩ (.sym n) (.rest 7 0)
noncomputable def rtR (k c t:Sl) (r:List HP):List HP:=.ent qbg::.ent qcg::.ent qol::.ent qyw::.ent k.row::.ent c.row::.ent t.row::r
noncomputable def rtC (F:HashF) (k c t:Sl) (A:RtS):Cut:=RtS.rec (motive:=fun _=>Cut)
  (fun S=>⟨qag (rtS0 F k c t).frames [[(0,k.valN 4 32),(1,c.valN 5 16),(2,t.val 6),(7,.nilSlice),(8,.int .i64 (.lit 0)),(10,.slice ⟨7,.lit 0⟩ (.lit 32) (.lit 32)),(11,.int .i64 (.lit 0))]],rtR k c t [rtH S]⟩)
  (fun A=>⟨qag (rtS0 F k c t).frames [[(0,k.valN 4 32),(1,c.valN 5 16),(2,t.val 6),(7,rtO A.n),(8,.int .i64 (.sym A.i)),(10,.slice ⟨8,.lit 0⟩ (.lit 32) (.lit 32)),(11,.int .i64 (.sym A.j))]],rtR k c t [rtG A.G A.n,rtH A.S]⟩)
  (fun A=>⟨qag (rtSo F k c t).frames [[(0,k.valN 4 32),(1,c.valN 5 16),(2,t.val 6),(7,rtO A.n),(8,.int .i64 (.sym A.i))]],rtR k c t [rtG A.G A.n]⟩) A
noncomputable def rtX (F:HashF) (k c t:Sl) (m m2 m3:Nat) (A:RtS) (J:Junk) (st:Option (Nat × Nat)):Tree:=sim1 ((qrk F).at st) 4000 ((rtC F (k.pl m) (c.pl m2) (t.pl m3) A).fill J)
section
variable (F:HashF) (k c t:Sl) (m m2 m3:Nat) (S:Nat→BitVec 8) (A:RtA) (J:Junk) (z:Nat→Nat→Nat)
theorem jrp:outL [] (rtC F (k.pl m) (c.pl m2) (t.pl m3) (.none S)) [0,1,2,3,4,5,6,11] (rtT (some (1,7)) F (k.pl m) (c.pl m2) (t.pl m3)) [true,true] z =
    ((decide ((0:Int)<t.n)=true)::rtHC k c 1,some (.inr (qbc [] [] (qnb [0,1,2,3,4,5,6,11] 12 (rtC F (k.pl m) (c.pl m2) (t.pl m3) (.none (rtK F k c 1))))))):=by kernel_rfl
theorem jfi:outL [] (rtC F (k.pl m) (c.pl m2) (t.pl m3) (.inn A)) [0,1,2,3,4,5,6,9,7] (rtX F k c t m m2 m3 (.none S) J (some (1,7))) [true] z =
    ([decide ((0:Int)<t.n)=true,0<t.n,t.o+0<t.N],some (.inr (qbc [(0,7,.slice ⟨9,.lit 0⟩ (.lit 1) (.rest 9 0)),(0,8,.int .i64 (.lit 0)),(0,11,.int .i64 (.lit 1))] [(7,.ent (.own (.lst (bx [rtx0 t S])) false 5))] (qnb [0,1,2,3,4,5,6,9,7] 10 (rtC F (k.pl m) (c.pl m2) (t.pl m3) (.inn ⟨0,1,1,qaa [rtx0 t S],S⟩)))))):=by kernel_rfl
theorem jsp:outL [] (rtC F (k.pl m) (c.pl m2) (t.pl m3) (.inn A)) [0,1,2,3,4,5,6,10,8] (rtX F k c t m m2 m3 (.inn A) J (some (1,7))) [true,true] z =
    (rtTC t A,some (.inr (qbc [] [] (qnb [0,1,2,3,4,5,6,10,8] 11 (rtC F (k.pl m) (c.pl m2) (t.pl m3) (.inn ⟨A.i,A.j+1,A.n+1,rtN t A,A.S⟩)))))):=by kernel_rfl
theorem jgi:outL [] (rtC F (k.pl m) (c.pl m2) (t.pl m3) (.out A)) [0,1,2,3,4,5,6,7] (rtX F k c t m m2 m3 (.inn A) J (some (1,3))) [true,false] z =
    ([decide ((A.j:Int)<32)=true,q4a (A.i+A.j),decide (A.i+A.j<t.n)=false,q4a (A.i+1)],some (.inr (qbc [] [] (qnb [0,1,2,3,4,5,6,7] 9 (rtC F (k.pl m) (c.pl m2) (t.pl m3) (.out ⟨A.i+1,A.j,A.n,A.G,A.S⟩)))))):=by kernel_rfl
theorem jhi:outL [] (rtC F (k.pl m) (c.pl m2) (t.pl m3) (.out A)) [0,1,2,3,4,5,6,7] (rtX F k c t m m2 m3 (.inn A) J (some (1,3))) (repN false 7) z =
    (app (repN (decide ((A.j:Int)<32)=false) 7) [q4a (A.i+1)],some (.inr (qbc [] [] (qnb [0,1,2,3,4,5,6,7] 9 (rtC F (k.pl m) (c.pl m2) (t.pl m3) (.out ⟨A.i+1,A.j,A.n,A.G,A.S⟩)))))):=by kernel_rfl
theorem jii:outL [] (rtC F (k.pl m) (c.pl m2) (t.pl m3) (.out A)) [0,1,2,3,4,5,6,7] (rtX F k c t m m2 m3 (.out A) J (some (1,3))) [true,false] z =
    ([decide (A.i<t.n)=true,q4a (rtV A.i),(A.i.tmod 32 == 0)=false,q4a (A.i+1)],some (.inr (qbc [] [] (qnb [0,1,2,3,4,5,6,7] 8 (rtC F (k.pl m) (c.pl m2) (t.pl m3) (.out ⟨A.i+1,A.j,A.n,A.G,A.S⟩)))))):=by kernel_rfl
theorem jtp:outL [] (rtC F (k.pl m) (c.pl m2) (t.pl m3) (.inn A)) [0,1,2,3,4,5,6,7,12] (rtX F k c t m m2 m3 (.out A) J (some (1,7))) [true,true] z =
    ((decide (A.i<t.n)=true)::q4a (rtV A.i)::((A.i.tmod 32 == 0)=true)::rtHC k c (rtV A.i),some (.inr (qbc [(0,11,.int .i64 (.lit 0))] [] (qnb [0,1,2,3,4,5,6,7,12] 13 (rtC F (k.pl m) (c.pl m2) (t.pl m3) (.inn ⟨A.i,0,A.n,A.G,rtK F k c (rtV A.i)⟩)))))):=by kernel_rfl
theorem j8t:outL [7] (rtC F (k.pl m) (c.pl m2) (t.pl m3) (.out A)) [0,1,2,3,4,5,6,7] (rtX F k c t m m2 m3 (.out A) J none) [false] z =
    ([decide (A.i<t.n)=false],some (.inl (rtO A.n,[some (.own (.fn (qea A.G) A.n) false 5)]))):=by kernel_rfl
theorem jup:outO [] (rtT none F (k.pl m) (c.pl m2) (t.pl m3)) [false]=([decide ((0:Int)<t.n)=false],some (.nilSlice,[])):=by kernel_rfl
theorem j9t:outO [] (qba (qrk F) 4000 43 [(k.pl m).valN 4 32,(c.pl m2).valN 5 16,.nilSlice] (shaH [k.row,c.row])) []=([],some (.nilSlice,[])):=by kernel_rfl
theorem rt_n4 (S1:Nat→BitVec 8):boolC (q2b 7 [0,1,2,3,4,5,6,11] (rtC F (k.pl m) (c.pl m2) (t.pl m3) (.none S)) (rtC F (k.pl m) (c.pl m2) (t.pl m3) (.none S1))) (allN qub (rtC F (k.pl m) (c.pl m2) (t.pl m3) (.none S1)).heap) false=true:=by kernel_rfl
theorem rt_n2 (A1:RtA):boolC (q2b 7 [0,1,2,3,4,5,6,9,7] (rtC F (k.pl m) (c.pl m2) (t.pl m3) (.inn A)) (rtC F (k.pl m) (c.pl m2) (t.pl m3) (.inn A1))) (allN qub (rtC F (k.pl m) (c.pl m2) (t.pl m3) (.inn A1)).heap) false=true:=by kernel_rfl
theorem rt_n3 (A1:RtA):boolC (q2b 7 [0,1,2,3,4,5,6,10,8] (rtC F (k.pl m) (c.pl m2) (t.pl m3) (.inn A)) (rtC F (k.pl m) (c.pl m2) (t.pl m3) (.inn A1))) (allN qub (rtC F (k.pl m) (c.pl m2) (t.pl m3) (.inn A1)).heap) false=true:=by kernel_rfl
theorem qz9 (A1:RtA):boolC (q2b 7 [0,1,2,3,4,5,6,7] (rtC F (k.pl m) (c.pl m2) (t.pl m3) (.out A)) (rtC F (k.pl m) (c.pl m2) (t.pl m3) (.out A1))) (allN qub (rtC F (k.pl m) (c.pl m2) (t.pl m3) (.out A1)).heap) false=true:=by kernel_rfl
theorem rt_n5 (A1:RtA):boolC (q2b 7 [0,1,2,3,4,5,6,7,12] (rtC F (k.pl m) (c.pl m2) (t.pl m3) (.inn A)) (rtC F (k.pl m) (c.pl m2) (t.pl m3) (.inn A1))) (allN qub (rtC F (k.pl m) (c.pl m2) (t.pl m3) (.inn A1)).heap) false=true:=by kernel_rfl
theorem qht:((((rtC F (k.pl m) (c.pl m2) (t.pl m3) (.inn A)).frames[0]?).bind fun p=>p.tmps[8]?)=some (some (.int .i64 (.sym A.i))))∧((((rtC F (k.pl m) (c.pl m2) (t.pl m3) (.inn A)).frames[0]?).bind fun p=>p.tmps[11]?)=some (some (.int .i64 (.sym (A.j:Int)))))∧((((rtC F (k.pl m) (c.pl m2) (t.pl m3) (.inn A)).frames[0]?).bind fun p=>p.tmps[7]?)=some (some (rtO A.n))):=⟨by kernel_rfl,by kernel_rfl,by kernel_rfl⟩
end
end Go.Proofs.YtbmgahpjgefjaaaGreatDoor.Aes
namespace Go.Proofs.YtbmgahpjgefjaaaGreatDoor.Aes
open Go.Sim
open Go.Proofs
variable {α:Type}
set_option maxRecDepth 1000000
theorem q2a {l r:List Prop} (h:∀ q∈l,q) (h':∀ q∈r,q):∀ q∈app l r,q:=by
  intro q hq
  rw [qeb,List.mem_append] at hq
  exact hq.elim (h q) (h' q)
noncomputable def strR (F:HashF) (k c t:Sl):Nat→BitVec 8:=fun p=>t.X (t.o+p) ^^^ rtK F k c (((p / 32:Nat):Int)+1) (p % 32)
def RtQ (F:HashF) (k c t:Sl):RtS→Prop
  | .none S=>S=rtK F k c 1
  | .inn A=>∃ q:Nat,A.i=32 * (q:Int)∧32 * q<t.n∧A.j≤min 32 (t.n - 32 * q)∧A.n=32 * q+A.j∧A.S=rtK F k c ((q:Int)+1)∧∀ p,p<A.n→A.G p=strR F k c t p
  | .out A=>∃ e:Nat,A.i=(e:Int)∧1≤e∧e≤t.n∧A.n=min t.n (32 * ((e - 1) / 32+1))∧∀ p,p<A.n→A.G p=strR F k c t p
def rtMu (t:Sl):RtS→Nat
  | .none _=>40 * t.n+100
  | .inn A=>40 * (t.n - A.i.toNat)+(32 - A.j)
  | .out A=>40 * (t.n - A.i.toNat)+39
theorem j9d {q:Nat} (hq:q<2 ^ 50):rtV (32 * (q:Int))=(q:Int)+1:=j3d hq
theorem qnx {e:Nat} (he:e<2 ^ 50):q4a (rtV (e:Int)):=by
  unfold rtV
  rw [Int.tdiv_eq_ediv_of_nonneg (by omega),wrap_i64 ⟨by omega,by omega⟩]
  exact ⟨by omega,by omega⟩
theorem jau (c:Sl) (v:Int):okL (rtM c v):=⟨by show 0+20≤20; omega,by show 20≤_; omega⟩
theorem qjq {k c:Sl} {v:Int} (hk:k.o+32≤k.N) (hc:c.o+16≤c.N):∀ q∈rtHC k c v,q:=all_cons hc (all_cons (qda _) (all_cons ⟨hk,jau c v,by omega⟩ qca))
noncomputable def rtD (F:HashF) (k c t:Sl) (B:Nat) (v:SV) (H:List SO):Prop:=v=q1f B t.n∧∃ G,(∀ p,p<t.n→G p=strR F k c t p)∧H[B]? = some (.own (.fn (qea G) t.n) false 5)
theorem jvp {k c t:Sl} {m m2 m3:Nat} (hk:k.o+32≤k.N) (hc:c.o+16≤c.N) (ht:okL t) (hn:t.n≠0):Runs (qrk shaF) 43 [(k.pl m).valN 4 32,(c.pl m2).valN 5 16,(t.pl m3).val 6] (shaH [(k.pl m).row,(c.pl m2).row,(t.pl m3).row]) (rtD shaF k c t 7):=by
  have hbig:t.n≤1099511627776:=ht.2
  have hto:=ht.1
  refine q6g qro (rtC shaF (k.pl m) (c.pl m2) (t.pl m3)) (RtQ shaF k c t) (rtMu t) (fun g nm hg=>Nat.lt_of_lt_of_le (q7p hg) (by show 3≤7; omega)) ?_ fun A hQ J => ?_
  · exact q6i (some (1,7)) 4000 (.none (rtK shaF k c 1)) rfl (jrp shaF k c t m m2 m3 (rtK shaF k c 1)) (rt_n4 shaF k c t m m2 m3 _ _) (by simp) (by simp) (all_cons (decide_eq_true (by omega)) (qjq hk hc))
  · cases A with
    | none S =>
      have hS:S=rtK shaF k c 1:=hQ
      refine qkd (some (1,7)) 4000 (.inn ⟨0,1,1,qaa [rtx0 t S],S⟩) ⟨⟨0,rfl,by omega,by show 1≤_; omega,rfl,hS,fun p hp => ?_⟩,by show 40 * (t.n - (0:Int).toNat)+(32 - 1)<40 * t.n+100; omega⟩ (jfi shaF k c t m m2 m3 S ⟨0,0,0,qaa [],qaa []⟩ J) (rt_n2 shaF k c t m m2 m3 _ _) ?_ ?_ (all_cons (decide_eq_true (by omega)) (all_cons (by omega) (all_cons (by omega) qca)))
      · have hp:p<1:=hp
        have h0:p=0:=by omega
        subst h0
        show rtx0 t S=_
        unfold rtx0 strR
        rw [qvb (by omega),hS]; rfl
      · intro x hx p u hp hu
        simp only [List.mem_cons,List.not_mem_nil,or_false] at hx
        rcases hx with rfl | rfl | rfl
        · exact q7d (qht _ _ _ _ _ _ _ _).2.2 hp hu (qwd (l:=.lit 1) (l':=.sym 1) rfl)
        · exact q7d (qht _ _ _ _ _ _ _ _).1 hp hu (qoa rfl)
        · exact q7d (qht _ _ _ _ _ _ _ _).2.1 hp hu (qoa rfl)
      · intro e he E0 hE0
        simp only [List.mem_cons,List.not_mem_nil,or_false] at he
        subst he
        have hE0:some (rtG (qaa [rtx0 t S]) 1)=some E0:=hE0
        cases hE0
        exact ⟨_,rfl,fun γ vs hv=>qhm hv⟩
    | inn A =>
      obtain ⟨q,hi,hlt,hj,hnn,hS,hG⟩:=hQ
      by_cases hjl:A.j<32
      · by_cases hl:A.i+A.j<t.n
        · refine qkd (some (1,7)) 4000 (.inn ⟨A.i,A.j+1,A.n+1,rtN t A,A.S⟩) ⟨⟨q,hi,hlt,by show A.j+1≤_; omega,by show A.n+1=32 * q+(A.j+1); omega,hS,fun p hp => ?_⟩,by show 40 * (t.n - A.i.toNat)+(32 - (A.j+1))<40 * (t.n - A.i.toNat)+(32 - A.j); omega⟩ (jsp shaF k c t m m2 m3 A J) (rt_n3 shaF k c t m m2 m3 _ _) (by simp) (by simp)
            (all_cons (decide_eq_true (by omega)) (all_cons ⟨by omega,by omega⟩ (all_cons (decide_eq_true hl) (all_cons ⟨by omega,by omega⟩ (all_cons ⟨by omega,by omega⟩ (all_cons (by omega) (all_cons ⟨by omega,by omega⟩ (all_cons (by omega) (all_cons (by omega) (all_cons ⟨by omega,qda _⟩ (all_cons ⟨⟨by omega,by omega⟩,rfl⟩ (all_cons ⟨by omega,by omega⟩ qca))))))))))))
          have hp:p<A.n+1:=hp
          show rtN t A p=_
          unfold rtN catB
          by_cases hpl:p<A.n
          · rw [if_pos hpl]
            show A.G (0+p)=_
            rw [Nat.zero_add]; exact hG p hpl
          · have hpe:p=32 * q+A.j:=by omega
            rw [if_neg hpl,show p - A.n=0 by omega]
            show rtx t A=_
            unfold rtx strR
            rw [qvb (by omega),hS,hpe,show (32 * q+A.j) / 32=q by omega,show (32 * q+A.j) % 32=A.j by omega,show 0+(A.j:Int).toNat * 1=A.j by omega,show (A.i+A.j).toNat * 1=32 * q+A.j by omega]
        · exact qkd (some (1,3)) 4000 (.out ⟨A.i+1,A.j,A.n,A.G,A.S⟩) ⟨⟨32 * q+1,by show A.i+1=_; omega,by omega,by omega,by show A.n=_; omega,hG⟩,by show 40 * (t.n - (A.i+1).toNat)+39<40 * (t.n - A.i.toNat)+(32 - A.j); omega⟩ (jgi shaF k c t m m2 m3 A J) (qz9 shaF k c t m m2 m3 _ _) (by simp) (by simp) (all_cons (decide_eq_true (by omega)) (all_cons ⟨by omega,by omega⟩ (all_cons (decide_eq_false hl) (all_cons ⟨by omega,by omega⟩ qca))))
      · exact qkd (some (1,3)) 4000 (.out ⟨A.i+1,A.j,A.n,A.G,A.S⟩) ⟨⟨32 * q+1,by show A.i+1=_; omega,by omega,by omega,by show A.n=_; omega,hG⟩,by show 40 * (t.n - (A.i+1).toNat)+39<40 * (t.n - A.i.toNat)+(32 - A.j); omega⟩ (jhi shaF k c t m m2 m3 A J) (qz9 shaF k c t m m2 m3 _ _) (by simp) (by simp) (q2a (q2c (decide_eq_false (by omega)) 7) (all_cons ⟨by omega,by omega⟩ qca))
    | out A =>
      obtain ⟨e,hi,h1,hle,hnn,hG⟩:=hQ
      by_cases hl:A.i<t.n
      · by_cases hm:e % 32=0
        · obtain ⟨q,rfl⟩:∃ q,e=32 * q:=⟨e / 32,by omega⟩
          have hi':A.i=32 * (q:Int):=by omega
          have hv:rtV A.i=(q:Int)+1:=by rw [hi']; exact j9d (by omega)
          refine qkd (some (1,7)) 4000 (.inn ⟨A.i,0,A.n,A.G,rtK shaF k c (rtV A.i)⟩) ⟨⟨q,hi',by omega,by show 0≤_; omega,by show A.n=32 * q+0; omega,by show rtK shaF k c (rtV A.i)=_; rw [hv],hG⟩,by show 40 * (t.n - A.i.toNat)+(32 - 0)<40 * (t.n - A.i.toNat)+39; omega⟩ (jtp shaF k c t m m2 m3 A J) (rt_n5 shaF k c t m m2 m3 _ _) ?_ (by simp) (all_cons (decide_eq_true hl) (all_cons (by rw [hi]; exact qnx (by omega)) (all_cons (by rw [beq_iff_eq,hi',Int.tmod_eq_emod_of_nonneg (by omega)]; omega) (qjq hk hc))))
          intro x hx p u hp hu
          simp only [List.mem_cons,List.not_mem_nil,or_false] at hx
          subst hx
          exact q7d (qht _ _ _ _ _ _ _ _).2.1 hp hu (qoa rfl)
        · exact qkd (some (1,3)) 4000 (.out ⟨A.i+1,A.j,A.n,A.G,A.S⟩) ⟨⟨e+1,by show A.i+1=_; omega,by omega,by omega,by show A.n=_; omega,hG⟩,by show 40 * (t.n - (A.i+1).toNat)+39<40 * (t.n - A.i.toNat)+39; omega⟩ (jii shaF k c t m m2 m3 A J) (qz9 shaF k c t m m2 m3 _ _) (by simp) (by simp) (all_cons (decide_eq_true hl) (all_cons (by rw [hi]; exact qnx (by omega)) (all_cons (by rw [beq_eq_false_iff_ne,hi,Int.tmod_eq_emod_of_nonneg (by omega)]; omega) (all_cons ⟨by omega,by omega⟩ qca))))
      · have hend:A.n=t.n:=by omega
        refine qvj none 4000 (j8t shaF k c t m m2 m3 A J) (all_cons (decide_eq_false hl) qca) fun H hH=>⟨by rw [hend]; rfl,A.G,fun p hp=>hG p (by omega),?_⟩
        rw [← hend]
        exact (List.cons.inj hH).1
end Go.Proofs.YtbmgahpjgefjaaaGreatDoor.Aes
namespace Go.Proofs.YtbmgahpjgefjaaaGreatDoor.Aes
open Go.Sim
open Go.Proofs
variable {α:Type}
set_option maxRecDepth 1000000
noncomputable def rzT (st:Option (Nat × Nat)) (F:HashF) (k c t:Sl):Tree:=qba ((qrk F).at st) 4000 43 [k.valN 4 32,c.valN 5 16,t.val 5] (shaH [k.row,t.row])
noncomputable def rzS0 (F:HashF) (k c t:Sl):SS:=qxh (rzT (some (1,7)) F k c t) [true,true]
noncomputable def rzSo (F:HashF) (k c t:Sl):SS:=qxh (rzT (some (1,3)) F k c t) []
noncomputable def rzO (n:Nat):SV:=.slice ⟨6,.lit 0⟩ (.sym n) (.rest 6 0)
noncomputable def rzR (k _ t:Sl) (r:List HP):List HP:=.ent qbg::.ent qcg::.ent qol::.ent qyw::.ent k.row::.ent t.row::r
noncomputable def rzC (F:HashF) (k c t:Sl) (A:RtS):Cut:=RtS.rec (motive:=fun _=>Cut)
  (fun S=>⟨qag (rzS0 F k c t).frames [[(0,k.valN 4 32),(1,c.valN 5 16),(2,t.val 5),(7,.nilSlice),(8,.int .i64 (.lit 0)),(10,.slice ⟨6,.lit 0⟩ (.lit 32) (.lit 32)),(11,.int .i64 (.lit 0))]],rzR k c t [rtH S]⟩)
  (fun A=>⟨qag (rzS0 F k c t).frames [[(0,k.valN 4 32),(1,c.valN 5 16),(2,t.val 5),(7,rzO A.n),(8,.int .i64 (.sym A.i)),(10,.slice ⟨7,.lit 0⟩ (.lit 32) (.lit 32)),(11,.int .i64 (.sym A.j))]],rzR k c t [rtG A.G A.n,rtH A.S]⟩)
  (fun A=>⟨qag (rzSo F k c t).frames [[(0,k.valN 4 32),(1,c.valN 5 16),(2,t.val 5),(7,rzO A.n),(8,.int .i64 (.sym A.i))]],rzR k c t [rtG A.G A.n]⟩) A
noncomputable def rzX (F:HashF) (k t:Sl) (o n m m2 m3:Nat) (A:RtS) (J:Junk) (st:Option (Nat × Nat)):Tree:=sim1 ((qrk F).at st) 4000 ((rzC F (k.pl m) ((t.cut o n).pl m2) (t.pl m3) A).fill J)
section
variable (F:HashF) (k t:Sl) (o n m m2 m3:Nat) (S:Nat→BitVec 8) (A:RtA) (J:Junk) (z:Nat→Nat→Nat)
theorem jwp:outL [] (rzC F (k.pl m) ((t.cut o n).pl m2) (t.pl m3) (.none S)) [0,1,2,3,4,5,10] (rzT (some (1,7)) F (k.pl m) ((t.cut o n).pl m2) (t.pl m3)) [true,true] z =
    ((decide ((0:Int)<t.n)=true)::rtHC k (t.cut o n) 1,some (.inr (qbc [] [] (qnb [0,1,2,3,4,5,10] 11 (rzC F (k.pl m) ((t.cut o n).pl m2) (t.pl m3) (.none (rtK F k (t.cut o n) 1))))))):=by kernel_rfl
theorem jji:outL [] (rzC F (k.pl m) ((t.cut o n).pl m2) (t.pl m3) (.inn A)) [0,1,2,3,4,5,8,6] (rzX F k t o n m m2 m3 (.none S) J (some (1,7))) [true] z =
    ([decide ((0:Int)<t.n)=true,0<t.n,t.o+0<t.N],some (.inr (qbc [(0,7,.slice ⟨8,.lit 0⟩ (.lit 1) (.rest 8 0)),(0,8,.int .i64 (.lit 0)),(0,11,.int .i64 (.lit 1))] [(6,.ent (.own (.lst (bx [rtx0 t S])) false 5))] (qnb [0,1,2,3,4,5,8,6] 9 (rzC F (k.pl m) ((t.cut o n).pl m2) (t.pl m3) (.inn ⟨0,1,1,qaa [rtx0 t S],S⟩)))))):=by kernel_rfl
theorem jxp:outL [] (rzC F (k.pl m) ((t.cut o n).pl m2) (t.pl m3) (.inn A)) [0,1,2,3,4,5,9,7] (rzX F k t o n m m2 m3 (.inn A) J (some (1,7))) [true,true] z =
    (rtTC t A,some (.inr (qbc [] [] (qnb [0,1,2,3,4,5,9,7] 10 (rzC F (k.pl m) ((t.cut o n).pl m2) (t.pl m3) (.inn ⟨A.i,A.j+1,A.n+1,rtN t A,A.S⟩)))))):=by kernel_rfl
theorem jki:outL [] (rzC F (k.pl m) ((t.cut o n).pl m2) (t.pl m3) (.out A)) [0,1,2,3,4,5,6] (rzX F k t o n m m2 m3 (.inn A) J (some (1,3))) [true,false] z =
    ([decide ((A.j:Int)<32)=true,q4a (A.i+A.j),decide (A.i+A.j<t.n)=false,q4a (A.i+1)],some (.inr (qbc [] [] (qnb [0,1,2,3,4,5,6] 8 (rzC F (k.pl m) ((t.cut o n).pl m2) (t.pl m3) (.out ⟨A.i+1,A.j,A.n,A.G,A.S⟩)))))):=by kernel_rfl
theorem jli:outL [] (rzC F (k.pl m) ((t.cut o n).pl m2) (t.pl m3) (.out A)) [0,1,2,3,4,5,6] (rzX F k t o n m m2 m3 (.inn A) J (some (1,3))) (repN false 7) z =
    (app (repN (decide ((A.j:Int)<32)=false) 7) [q4a (A.i+1)],some (.inr (qbc [] [] (qnb [0,1,2,3,4,5,6] 8 (rzC F (k.pl m) ((t.cut o n).pl m2) (t.pl m3) (.out ⟨A.i+1,A.j,A.n,A.G,A.S⟩)))))):=by kernel_rfl
theorem jmi:outL [] (rzC F (k.pl m) ((t.cut o n).pl m2) (t.pl m3) (.out A)) [0,1,2,3,4,5,6] (rzX F k t o n m m2 m3 (.out A) J (some (1,3))) [true,false] z =
    ([decide (A.i<t.n)=true,q4a (rtV A.i),(A.i.tmod 32 == 0)=false,q4a (A.i+1)],some (.inr (qbc [] [] (qnb [0,1,2,3,4,5,6] 7 (rzC F (k.pl m) ((t.cut o n).pl m2) (t.pl m3) (.out ⟨A.i+1,A.j,A.n,A.G,A.S⟩)))))):=by kernel_rfl
theorem jyp:outL [] (rzC F (k.pl m) ((t.cut o n).pl m2) (t.pl m3) (.inn A)) [0,1,2,3,4,5,6,11] (rzX F k t o n m m2 m3 (.out A) J (some (1,7))) [true,true] z =
    ((decide (A.i<t.n)=true)::q4a (rtV A.i)::((A.i.tmod 32 == 0)=true)::rtHC k (t.cut o n) (rtV A.i),some (.inr (qbc [(0,11,.int .i64 (.lit 0))] [] (qnb [0,1,2,3,4,5,6,11] 12 (rzC F (k.pl m) ((t.cut o n).pl m2) (t.pl m3) (.inn ⟨A.i,0,A.n,A.G,rtK F k (t.cut o n) (rtV A.i)⟩)))))):=by kernel_rfl
theorem jbu:outL [6] (rzC F (k.pl m) ((t.cut o n).pl m2) (t.pl m3) (.out A)) [0,1,2,3,4,5,6] (rzX F k t o n m m2 m3 (.out A) J none) [false] z =
    ([decide (A.i<t.n)=false],some (.inl (rzO A.n,[some (.own (.fn (qea A.G) A.n) false 5)]))):=by kernel_rfl
theorem jzp:outO [] (rzT none F (k.pl m) ((t.cut o n).pl m2) (t.pl m3)) [false]=([decide ((0:Int)<t.n)=false],some (.nilSlice,[])):=by kernel_rfl
theorem rz_n4 (S1:Nat→BitVec 8):boolC (q2b 6 [0,1,2,3,4,5,10] (rzC F (k.pl m) ((t.cut o n).pl m2) (t.pl m3) (.none S)) (rzC F (k.pl m) ((t.cut o n).pl m2) (t.pl m3) (.none S1))) (allN qub (rzC F (k.pl m) ((t.cut o n).pl m2) (t.pl m3) (.none S1)).heap) false=true:=by kernel_rfl
theorem rz_n2 (A1:RtA):boolC (q2b 6 [0,1,2,3,4,5,8,6] (rzC F (k.pl m) ((t.cut o n).pl m2) (t.pl m3) (.inn A)) (rzC F (k.pl m) ((t.cut o n).pl m2) (t.pl m3) (.inn A1))) (allN qub (rzC F (k.pl m) ((t.cut o n).pl m2) (t.pl m3) (.inn A1)).heap) false=true:=by kernel_rfl
theorem rz_n3 (A1:RtA):boolC (q2b 6 [0,1,2,3,4,5,9,7] (rzC F (k.pl m) ((t.cut o n).pl m2) (t.pl m3) (.inn A)) (rzC F (k.pl m) ((t.cut o n).pl m2) (t.pl m3) (.inn A1))) (allN qub (rzC F (k.pl m) ((t.cut o n).pl m2) (t.pl m3) (.inn A1)).heap) false=true:=by kernel_rfl
theorem q09 (A1:RtA):boolC (q2b 6 [0,1,2,3,4,5,6] (rzC F (k.pl m) ((t.cut o n).pl m2) (t.pl m3) (.out A)) (rzC F (k.pl m) ((t.cut o n).pl m2) (t.pl m3) (.out A1))) (allN qub (rzC F (k.pl m) ((t.cut o n).pl m2) (t.pl m3) (.out A1)).heap) false=true:=by kernel_rfl
theorem rz_n5 (A1:RtA):boolC (q2b 6 [0,1,2,3,4,5,6,11] (rzC F (k.pl m) ((t.cut o n).pl m2) (t.pl m3) (.inn A)) (rzC F (k.pl m) ((t.cut o n).pl m2) (t.pl m3) (.inn A1))) (allN qub (rzC F (k.pl m) ((t.cut o n).pl m2) (t.pl m3) (.inn A1)).heap) false=true:=by kernel_rfl
theorem qit:((((rzC F (k.pl m) ((t.cut o n).pl m2) (t.pl m3) (.inn A)).frames[0]?).bind fun p=>p.tmps[8]?)=some (some (.int .i64 (.sym A.i))))∧((((rzC F (k.pl m) ((t.cut o n).pl m2) (t.pl m3) (.inn A)).frames[0]?).bind fun p=>p.tmps[11]?)=some (some (.int .i64 (.sym (A.j:Int)))))∧((((rzC F (k.pl m) ((t.cut o n).pl m2) (t.pl m3) (.inn A)).frames[0]?).bind fun p=>p.tmps[7]?)=some (some (rzO A.n))):=⟨by kernel_rfl,by kernel_rfl,by kernel_rfl⟩
end
theorem j0p {k t:Sl} {o n m m2 m3:Nat} (hk:k.o+32≤k.N) (hc:(t.cut o n).o+16≤(t.cut o n).N) (ht:okL t) (hn:t.n≠0):Runs (qrk shaF) 43 [(k.pl m).valN 4 32,((t.cut o n).pl m2).valN 5 16,(t.pl m3).val 5] (shaH [(k.pl m).row,(t.pl m3).row]) (rtD shaF k (t.cut o n) t 6):=by
  have hbig:t.n≤1099511627776:=ht.2
  have hto:=ht.1
  refine q6g qro (rzC shaF (k.pl m) ((t.cut o n).pl m2) (t.pl m3)) (RtQ shaF k (t.cut o n) t) (rtMu t) (fun g nm hg=>Nat.lt_of_lt_of_le (q7p hg) (by show 3≤6; omega)) ?_ fun A hQ J => ?_
  · exact q6i (some (1,7)) 4000 (.none (rtK shaF k (t.cut o n) 1)) rfl (jwp shaF k t o n m m2 m3 (rtK shaF k (t.cut o n) 1)) (rz_n4 shaF k t o n m m2 m3 _ _) (by simp) (by simp) (all_cons (decide_eq_true (by omega)) (qjq hk hc))
  · cases A with
    | none S =>
      have hS:S=rtK shaF k (t.cut o n) 1:=hQ
      refine qkd (some (1,7)) 4000 (.inn ⟨0,1,1,qaa [rtx0 t S],S⟩) ⟨⟨0,rfl,by omega,by show 1≤_; omega,rfl,hS,fun p hp => ?_⟩,by show 40 * (t.n - (0:Int).toNat)+(32 - 1)<40 * t.n+100; omega⟩ (jji shaF k t o n m m2 m3 S ⟨0,0,0,qaa [],qaa []⟩ J) (rz_n2 shaF k t o n m m2 m3 _ _) ?_ ?_ (all_cons (decide_eq_true (by omega)) (all_cons (by omega) (all_cons (by omega) qca)))
      · have hp:p<1:=hp
        have h0:p=0:=by omega
        subst h0
        show rtx0 t S=_
        unfold rtx0 strR
        rw [qvb (by omega),hS]; rfl
      · intro x hx p u hp hu
        simp only [List.mem_cons,List.not_mem_nil,or_false] at hx
        rcases hx with rfl | rfl | rfl
        · exact q7d (qit _ _ _ _ _ _ _ _ _).2.2 hp hu (qwd (l:=.lit 1) (l':=.sym 1) rfl)
        · exact q7d (qit _ _ _ _ _ _ _ _ _).1 hp hu (qoa rfl)
        · exact q7d (qit _ _ _ _ _ _ _ _ _).2.1 hp hu (qoa rfl)
      · intro e he E0 hE0
        simp only [List.mem_cons,List.not_mem_nil,or_false] at he
        subst he
        have hE0:some (rtG (qaa [rtx0 t S]) 1)=some E0:=hE0
        cases hE0
        exact ⟨_,rfl,fun γ vs hv=>qhm hv⟩
    | inn A =>
      obtain ⟨q,hi,hlt,hj,hnn,hS,hG⟩:=hQ
      by_cases hjl:A.j<32
      · by_cases hl:A.i+A.j<t.n
        · refine qkd (some (1,7)) 4000 (.inn ⟨A.i,A.j+1,A.n+1,rtN t A,A.S⟩) ⟨⟨q,hi,hlt,by show A.j+1≤_; omega,by show A.n+1=32 * q+(A.j+1); omega,hS,fun p hp => ?_⟩,by show 40 * (t.n - A.i.toNat)+(32 - (A.j+1))<40 * (t.n - A.i.toNat)+(32 - A.j); omega⟩ (jxp shaF k t o n m m2 m3 A J) (rz_n3 shaF k t o n m m2 m3 _ _) (by simp) (by simp)
            (all_cons (decide_eq_true (by omega)) (all_cons ⟨by omega,by omega⟩ (all_cons (decide_eq_true hl) (all_cons ⟨by omega,by omega⟩ (all_cons ⟨by omega,by omega⟩ (all_cons (by omega) (all_cons ⟨by omega,by omega⟩ (all_cons (by omega) (all_cons (by omega) (all_cons ⟨by omega,qda _⟩ (all_cons ⟨⟨by omega,by omega⟩,rfl⟩ (all_cons ⟨by omega,by omega⟩ qca))))))))))))
          have hp:p<A.n+1:=hp
          show rtN t A p=_
          unfold rtN catB
          by_cases hpl:p<A.n
          · rw [if_pos hpl]
            show A.G (0+p)=_
            rw [Nat.zero_add]; exact hG p hpl
          · have hpe:p=32 * q+A.j:=by omega
            rw [if_neg hpl,show p - A.n=0 by omega]
            show rtx t A=_
            unfold rtx strR
            rw [qvb (by omega),hS,hpe,show (32 * q+A.j) / 32=q by omega,show (32 * q+A.j) % 32=A.j by omega,show 0+(A.j:Int).toNat * 1=A.j by omega,show (A.i+A.j).toNat * 1=32 * q+A.j by omega]
        · exact qkd (some (1,3)) 4000 (.out ⟨A.i+1,A.j,A.n,A.G,A.S⟩) ⟨⟨32 * q+1,by show A.i+1=_; omega,by omega,by omega,by show A.n=_; omega,hG⟩,by show 40 * (t.n - (A.i+1).toNat)+39<40 * (t.n - A.i.toNat)+(32 - A.j); omega⟩ (jki shaF k t o n m m2 m3 A J) (q09 shaF k t o n m m2 m3 _ _) (by simp) (by simp) (all_cons (decide_eq_true (by omega)) (all_cons ⟨by omega,by omega⟩ (all_cons (decide_eq_false hl) (all_cons ⟨by omega,by omega⟩ qca))))
      · exact qkd (some (1,3)) 4000 (.out ⟨A.i+1,A.j,A.n,A.G,A.S⟩) ⟨⟨32 * q+1,by show A.i+1=_; omega,by omega,by omega,by show A.n=_; omega,hG⟩,by show 40 * (t.n - (A.i+1).toNat)+39<40 * (t.n - A.i.toNat)+(32 - A.j); omega⟩ (jli shaF k t o n m m2 m3 A J) (q09 shaF k t o n m m2 m3 _ _) (by simp) (by simp) (q2a (q2c (decide_eq_false (by omega)) 7) (all_cons ⟨by omega,by omega⟩ qca))
    | out A =>
      obtain ⟨e,hi,h1,hle,hnn,hG⟩:=hQ
      by_cases hl:A.i<t.n
      · by_cases hm:e % 32=0
        · obtain ⟨q,rfl⟩:∃ q,e=32 * q:=⟨e / 32,by omega⟩
          have hi':A.i=32 * (q:Int):=by omega
          have hv:rtV A.i=(q:Int)+1:=by rw [hi']; exact j9d (by omega)
          refine qkd (some (1,7)) 4000 (.inn ⟨A.i,0,A.n,A.G,rtK shaF k (t.cut o n) (rtV A.i)⟩) ⟨⟨q,hi',by omega,by show 0≤_; omega,by show A.n=32 * q+0; omega,by show rtK shaF k (t.cut o n) (rtV A.i)=_; rw [hv],hG⟩,by show 40 * (t.n - A.i.toNat)+(32 - 0)<40 * (t.n - A.i.toNat)+39; omega⟩ (jyp shaF k t o n m m2 m3 A J) (rz_n5 shaF k t o n m m2 m3 _ _) ?_ (by simp) (all_cons (decide_eq_true hl) (all_cons (by rw [hi]; exact qnx (by omega)) (all_cons (by rw [beq_iff_eq,hi',Int.tmod_eq_emod_of_nonneg (by omega)]; omega) (qjq hk hc))))
          intro x hx p u hp hu
          simp only [List.mem_cons,List.not_mem_nil,or_false] at hx
          subst hx
          exact q7d (qit _ _ _ _ _ _ _ _ _).2.1 hp hu (qoa rfl)
        · exact qkd (some (1,3)) 4000 (.out ⟨A.i+1,A.j,A.n,A.G,A.S⟩) ⟨⟨e+1,by show A.i+1=_; omega,by omega,by omega,by show A.n=_; omega,hG⟩,by show 40 * (t.n - (A.i+1).toNat)+39<40 * (t.n - A.i.toNat)+39; omega⟩ (jmi shaF k t o n m m2 m3 A J) (q09 shaF k t o n m m2 m3 _ _) (by simp) (by simp) (all_cons (decide_eq_true hl) (all_cons (by rw [hi]; exact qnx (by omega)) (all_cons (by rw [beq_eq_false_iff_ne,hi,Int.tmod_eq_emod_of_nonneg (by omega)]; omega) (all_cons ⟨by omega,by omega⟩ qca))))
      · have hend:A.n=t.n:=by omega
        refine qvj none 4000 (jbu shaF k t o n m m2 m3 A J) (all_cons (decide_eq_false hl) qca) fun H hH=>⟨by rw [hend]; rfl,A.G,fun p hp=>hG p (by omega),?_⟩
        rw [← hend]
        exact (List.cons.inj hH).1
end Go.Proofs.YtbmgahpjgefjaaaGreatDoor.Aes
namespace Go.Proofs.YtbmgahpjgefjaaaGreatDoor.Aes
open Go.Sim
open Go.Proofs
variable {α:Type}
set_option maxRecDepth 1000000
theorem jcu {k c:Sl} {v:Int} (hk:k.n=32) (hc:c.n=16):rtK shaF k c v=sgK shaF k c v:=by
  unfold rtK sgK tagS
  refine congrArg qaa ?_
  rw [hk,hc]
  refine qsg fun i hi => ?_
  show qaa (app (tabB c.F 16) (num4 v)) (0+i)=_
  rw [Nat.zero_add,qv3,qld,qff,hc]
  by_cases h:i<16
  · rw [if_pos h,if_pos h,qvb h]; rfl
  · rw [if_neg h,if_neg h]
    show qaa (num4 v) (i - 16)=qaa (num4 v) (0+(i - 16))
    rw [Nat.zero_add]
theorem qf6 {k c t:Sl} (hk:k.n=32) (hc:c.n=16) {p:Nat}:strR shaF k c t p=strG shaF k c t p:=by
  unfold strR strG
  rw [jcu hk hc]
def rstQ (k c t:Sl):Prop:=k.n=32∧c.n=16∧okL k∧okL c∧okL t
noncomputable def jil (F:HashF):Summ:=fun args H base=>quc args fun kv cv tv=>shaT H (qnc H kv fun k kn=>qnc H cv fun c cn=>qkb tv (boolC (qfd [kn,cn]) (.need (rstQ k c q1c) (.ok ⟨.nilSlice,[],[]⟩)) (.stuck 870)) fun _ _=>qnc H tv fun t tn=>boolC (qfd [kn,cn,tn]) (.need (rstQ k c t) (isI (.sym t.n) 0 (.ok ⟨.nilSlice,[],[]⟩) (.ok (qom base t.n (strG F k c t))))) (.stuck 870))
noncomputable def rstS (F:HashF):Summ:=fun args H base=>quc args fun kv cv tv=>qz3 H cv tv (jil F args H base) fun c t tn=>shaT H (qnc H kv fun k kn=>boolC (qfd [kn,tn]) (.need (rstQ k c t) (isI (.sym t.n) 0 (.ok ⟨.nilSlice,[],[]⟩) (.ok (qom base t.n (strG F k c t))))) (.stuck 870))
theorem jdu:SumAt Tryz.prog qvd 43 (jil shaF):=by
  intro O w0 β H w base args vs hH hG ha
  refine qib fun kv cv tv hv=>qpg fun hT=>qdb fun k kn hn ht hk=>qdb fun c cn hn2 ht2 hk2 => ?_
  rw [hv] at ha
  obtain ⟨x,ys,hx,hys,rfl⟩:=denL_cons.1 ha
  obtain ⟨y,zs,hy,hzs,rfl⟩:=denL_cons.1 hys
  obtain ⟨q,qs,hq,hqs,rfl⟩:=denL_cons.1 hzs
  refine qva (fun hnil=>qfa fun hd=>fun ⟨h32,h16,hok,hoc,_⟩ => ?_) fun _ _ _ _=>qdb fun t tn hn3 ht3 hk3=>qfa fun hd=>fun ⟨h32,h16,hok,hoc,hot⟩ => ?_
  · subst hnil
    obtain ⟨m,hx'⟩:=Sl.val_denN h32 (hk _ _ hx)
    obtain ⟨m2,hy'⟩:=Sl.val_denN h16 (hk2 _ _ hy)
    refine q7a qro 4000 hH (shaI [kn,cn] [k.row,c.row] [(k.pl m).valN 4 32,(c.pl m2).valN 5 16,.nilSlice]) (qzd hG) ?_ (Ifc.fits (nd4 hd (by simp only [List.mem_cons,List.not_mem_nil,or_false]; rintro x (rfl | rfl) <;> assumption)) ?_ (qse hT ⟨⟨ht _,k.row_uses _⟩,⟨ht2 _,c.row_uses _⟩,trivial⟩)) [] (by simp [shaI]) (by simp) (j9t shaF k c m m2) qca fun H2 _=>qmc rfl rfl rfl
    · show SV.denL β [((k.pl m).valN 4 32).ren _,((c.pl m2).valN 5 16).ren _,.nilSlice]=_
      rw [Sl.valN_ren,Sl.valN_ren]
      exact denL_cons.2 ⟨_,_,hx',denL_cons.2 ⟨_,_,hy',denL_cons.2 ⟨_,_,hq,hqs,rfl⟩,rfl⟩,rfl⟩
    · show (((k.pl m).valN 4 32).uses _ && (((c.pl m2).valN 5 16).uses _ && (true && true)))=true
      rw [Sl.valN_uses _ _ _ _ rfl,Sl.valN_uses _ _ _ _ rfl]; rfl
  · obtain ⟨m,hx'⟩:=Sl.val_denN h32 (hk _ _ hx)
    obtain ⟨m2,hy'⟩:=Sl.val_denN h16 (hk2 _ _ hy)
    obtain ⟨m3,_,hq'⟩:=Sl.val_den (hk3 _ _ hq)
    have hkl:k.o+32≤k.N:=by have:=hok.1; omega
    have hcl:c.o+16≤c.N:=by have:=hoc.1; omega
    have hfit:Ifc.Fits (shaI [kn,cn,tn] [k.row,c.row,t.row] [(k.pl m).valN 4 32,(c.pl m2).valN 5 16,(t.pl m3).val 6]) H:=by
      refine Ifc.fits (nd4 hd (by simp only [List.mem_cons,List.not_mem_nil,or_false]; rintro x (rfl | rfl | rfl) <;> assumption)) ?_ (qse hT ⟨⟨ht _,k.row_uses _⟩,⟨ht2 _,c.row_uses _⟩,⟨ht3 _,t.row_uses _⟩,trivial⟩)
      show (((k.pl m).valN 4 32).uses _ && (((c.pl m2).valN 5 16).uses _ && (((t.pl m3).val 6).uses _ && true)))=true
      rw [Sl.valN_uses _ _ _ _ rfl,Sl.valN_uses _ _ _ _ rfl,Sl.val_uses _ _ _ rfl]; rfl
    have harg:SV.denL β (SV.renL (shaI [kn,cn,tn] [k.row,c.row,t.row] [(k.pl m).valN 4 32,(c.pl m2).valN 5 16,(t.pl m3).val 6]).big [(k.pl m).valN 4 32,(c.pl m2).valN 5 16,(t.pl m3).val 6])=some (x::y::q::qs):=by
      show SV.denL β [((k.pl m).valN 4 32).ren _,((c.pl m2).valN 5 16).ren _,((t.pl m3).val 6).ren _]=_
      rw [Sl.valN_ren,Sl.valN_ren,Sl.val_ren]
      exact denL_cons.2 ⟨_,_,hx',denL_cons.2 ⟨_,_,hy',denL_cons.2 ⟨_,_,hq',hqs,rfl⟩,rfl⟩,rfl⟩
    refine q0d (fun h0 => ?_) fun h0 => ?_
    · have h0:(t.n:Int)=0:=h0
      exact q7a qro 4000 hH (shaI [kn,cn,tn] [k.row,c.row,t.row] [(k.pl m).valN 4 32,(c.pl m2).valN 5 16,(t.pl m3).val 6]) (qzd hG) harg hfit [] (by simp [shaI]) (by simp) (jup shaF k c t m m2 m3) (all_cons (decide_eq_false (by omega)) qca) fun H2 _=>qmc rfl rfl rfl
    · have h0:(t.n:Int)≠0:=h0
      refine Go.Sim.sum_runs (c:=qrk shaF) hH (shaI [kn,cn,tn] [k.row,c.row,t.row] [(k.pl m).valN 4 32,(c.pl m2).valN 5 16,(t.pl m3).val 6]) (qzd hG) harg hfit [7] (by simp [shaI]) (by simp) (qfg (jvp (m:=m) (m2:=m2) (m3:=m3) hkl hcl hot (by omega)) fun v H2 ⟨hv,G,hGe,hE⟩ => ?_)
      subst hv
      exact qeq rfl rfl hE rfl fun p hp=>by rw [hGe p hp]; exact qf6 h32 h16
theorem rstOK:SumAt Tryz.prog qvd 43 (rstS shaF):=by
  intro O w0 β H w base args vs hH hG ha
  refine qib fun kv cv tv hv=>qy9 (jdu O w0 β H w base args vs hH hG ha) fun t o n tn hn3 ht3 hic hit=>qpg fun hT=>qdb fun k kn hn ht hk=>qfa fun hd=>fun ⟨h32,h16,hok,hoc,hot⟩ => ?_
  rw [hv] at ha
  obtain ⟨x,ys,hx,hys,rfl⟩:=denL_cons.1 ha
  obtain ⟨y,zs,hy,hzs,rfl⟩:=denL_cons.1 hys
  obtain ⟨q,qs,hq,hqs,rfl⟩:=denL_cons.1 hzs
  obtain ⟨m,hx'⟩:=Sl.val_denN h32 (hk _ _ hx)
  obtain ⟨m2,hy0⟩:=hic _ _ hy
  have h16':n=16:=h16
  have hy':(((t.cut o n).pl m2).valN tn 16).den β=some y:=qwd (l:=.sym n) (l':=.lit 16) h16' _ _ hy0
  obtain ⟨m3,_,hq'⟩:=Sl.val_den (hit _ _ hq)
  have hkl:k.o+32≤k.N:=by have:=hok.1; omega
  have hcl:(t.cut o n).o+16≤(t.cut o n).N:=by have:=hoc.1; rw [h16] at this; exact this
  have hfit:Ifc.Fits (shaI [kn,tn] [(k.pl m).row,(t.pl m3).row] [(k.pl m).valN 4 32,((t.cut o n).pl m2).valN 5 16,(t.pl m3).val 5]) H:=by
    refine Ifc.fits (nd4 hd (by simp only [List.mem_cons,List.not_mem_nil,or_false]; rintro x (rfl | rfl) <;> assumption)) rfl (qse hT ⟨⟨ht _,k.row_uses _⟩,⟨ht3 _,t.row_uses _⟩,trivial⟩)
  have harg:SV.denL β (SV.renL (shaI [kn,tn] [(k.pl m).row,(t.pl m3).row] [(k.pl m).valN 4 32,((t.cut o n).pl m2).valN 5 16,(t.pl m3).val 5]).big [(k.pl m).valN 4 32,((t.cut o n).pl m2).valN 5 16,(t.pl m3).val 5])=some (x::y::q::qs):=by
    show SV.denL β [((k.pl m).valN 4 32).ren _,(((t.cut o n).pl m2).valN 5 16).ren _,((t.pl m3).val 5).ren _]=_
    rw [Sl.valN_ren,Sl.valN_ren,Sl.val_ren]
    exact denL_cons.2 ⟨_,_,hx',denL_cons.2 ⟨_,_,hy',denL_cons.2 ⟨_,_,hq',hqs,rfl⟩,rfl⟩,rfl⟩
  refine q0d (fun h0 => ?_) fun h0 => ?_
  · have h0:(t.n:Int)=0:=h0
    exact q7a qro 4000 hH (shaI [kn,tn] [(k.pl m).row,(t.pl m3).row] [(k.pl m).valN 4 32,((t.cut o n).pl m2).valN 5 16,(t.pl m3).val 5]) (qzd hG) harg hfit [] (by simp [shaI]) (by simp) (jzp shaF k t o n m m2 m3) (all_cons (decide_eq_false (by omega)) qca) fun H2 _=>qmc rfl rfl rfl
  · have h0:(t.n:Int)≠0:=h0
    refine Go.Sim.sum_runs (c:=qrk shaF) hH (shaI [kn,tn] [(k.pl m).row,(t.pl m3).row] [(k.pl m).valN 4 32,((t.cut o n).pl m2).valN 5 16,(t.pl m3).val 5]) (qzd hG) harg hfit [6] (by simp [shaI]) (by simp) (qfg (j0p (m:=m) (m2:=m2) (m3:=m3) hkl hcl hot (by omega)) fun v H2 ⟨hv,G,hGe,hE⟩ => ?_)
    subst hv
    exact qeq rfl rfl hE rfl fun p hp=>by rw [hGe p hp]; exact qf6 h32 h16
end Go.Proofs.YtbmgahpjgefjaaaGreatDoor.Aes
namespace Go.Proofs.YtbmgahpjgefjaaaGreatDoor.Aes
open Go.Sim
open Go.Proofs
variable {α:Type}
set_option maxRecDepth 1000000
noncomputable def jjl (F:HashF) (i:Nat):Cfg:=cfgG qvd (qcb [(41,rdeS F i),(52,rhmS F)])
theorem j1p {i:Nat} (hi12:i=1∨i=2):CfgOK (jjl shaF i):=qwb (allS (jel hi12) (allS qw9 (by simp)))
noncomputable def rgA (i:Int) (n:Nat) (v u:Int) (k c:Sl):List SV:=[.agg [.int .i64 (.lit i),.int .i64 (.sym v),k.valN 4 n],.int .i64 (.sym u),c.val 5]
noncomputable def rgT (F:HashF) (i n:Nat) (v u:Int) (k c:Sl):Tree:=qba (jjl F i) 8000 44 (rgA i n v u k c) (shaH [k.row,c.row])
noncomputable def rgZ (c:Sl):Sl:=⟨catB (fun i=>qaa (tabB (fun _=>0#8) 16) (0+i)) 16 (fun i=>c.X (c.o+i)),16+c.n,0,16+c.n,true,0⟩
noncomputable def rgV (nm n:Nat):SV:=.slice ⟨nm,.lit 0⟩ (.lit n) (.lit 32)
section
variable (F:HashF) (v u:Int) (k c:Sl) (m m2:Nat)
theorem j2p:outO [10] (rgT F 1 16 v u (k.pl m) (c.pl m2)) []=([IsB (qea k.X),(1:Int)=1∧k.o+16≤k.N,c.o+c.n≤c.N∧IsB (qea c.X),16≤16,16<16+c.n∧((16+c.n) * 1<70368744177664∧16+c.n<70368744177664)∧1=1,IsB (qea (rgZ c).X),16≤32∧okL (rgZ c)∧16+c.n≤1099511627712],some (rgV 10 16,[some (mkE (tagS F (rdkS F k 16 u 0x55#8) (rgZ c)))])):=by kernel_rfl
theorem j3p:outO [8] (rgT F 2 32 v u (k.pl m) (c.pl m2)) []=([IsB (qea k.X),(2:Int)=2∧k.o+32≤k.N,IsB (qea c.X),32≤32∧okL c∧c.n≤1099511627712],some (rgV 8 32,[some (mkE (tagS F (rdkS F k 32 u 0x55#8) c))])):=by kernel_rfl
end
noncomputable def rgL (F:HashF) (i:Nat) (k:Sl) (u:Int) (c:Sl):List (BitVec 8):=boolC (Nat.beq i 1) (tagB F (dkS F k 16 u 0x55#8) c) (tagS F (dkS F k 32 u 0x55#8) c)
theorem jae {k t:Sl} {u:Int} {n:Nat} {x:BitVec 8} (h:1≤u∧u≤1023) (hn:n≤32):tagS shaF (rdkS shaF k n u x) t=tagS shaF (dkS shaF k n u x) t:=qx3 (j8d h.1 h.2 hn) (by show n≤64; omega)
theorem j4p {k c:Sl}:tagS shaF k (rgZ c)=tagB shaF k c:=by
  unfold tagS tagB
  refine qsg fun i hi => ?_
  show catB (fun i=>qaa (tabB (fun _=>0#8) 16) (0+i)) 16 (fun i=>c.X (c.o+i)) (0+i)=two z16 c i
  rw [Nat.zero_add,qff]
  unfold catB
  have hz:z16.n=16:=rfl
  by_cases h:i<16
  · rw [if_pos h,if_pos (by omega)]
    show qaa (tabB (fun _=>0#8) 16) (0+i)=z16.X (z16.o+i)
    rw [Nat.zero_add,qvb h]
    have:∀ j,j<16→z16.X (z16.o+j)=0#8:=by decide
    exact (this i h).symm
  · rw [if_neg h,if_neg (by omega),hz]
noncomputable def rtgS (F:HashF) (i:Nat):Summ:=fun args H base=>quc args fun kv uv cv=>kv.asAgg (.stuck 871) fun l=>quc l fun p v s=>i64O p fun p=>i64O v fun _=>i64O uv fun u=>shaT H (qnc H s fun k kn=>qnc H cv fun c cn=>boolC (qfd [kn,cn])
  (.need (p.den=(i:Int)∧k.n=tagN i∧(1≤u.den∧u.den≤1023)∧okL k∧okL c∧1≤c.n∧c.n≤1000000) (.ok ⟨rgV base (tagN i),[],[mkE (rgL F i k u.den c)]⟩)) (.stuck 871))
theorem jeu {I:Ifc} {base j n:Nat} {L:List (BitVec 8)} {H:List SO} (hj:I.known j=false) (ho:q8b I.ents 0=[]) (hE:H[j]? = some (mkE L)):I.Ends base [j] ⟨rgV base n,[],[mkE L]⟩ (rgV j n) H:=by
  have ho':I.out base [j] j=base:=by
    unfold Ifc.out
    rw [hj]
    show base+idxN j [j]=base
    rw [show idxN j [j]=boolC (Nat.beq j j) 0 _ from rfl,Nat.beq_refl]; rfl
  have hs:I.seen [j] j=true:=by
    unfold Ifc.seen
    rw [hj]
    exact (memN_iff (n:=j) (l:=[j])).2 List.mem_cons_self
  refine ⟨?_,?_,by rw [ho]; trivial,⟨qdc hE (qcd _ _) (by show SO.own (.lst (SV.renL _ (bx _))) _ _=_; rw [qyd]; rfl),trivial⟩⟩
  · show (SV.slice ⟨I.out base [j] j,.lit 0⟩ (.lit n) (.lit 32)).Imp _
    rw [ho']; exact .refl _
  · show (I.seen [j] j && true)=true
    rw [hs]; rfl
theorem jni {p:Nat→Bool} {i:Int} {n:Nat} {v u:Int} {k c:Sl} (h4:p 4=true) (h5:p 5=true):SV.usesL p (rgA i n v u k c)=true:=by
  show ((true && (true && ((k.valN 4 n).uses p && true))) && (true && ((c.val 5).uses p && true)))=true
  rw [Sl.valN_uses _ _ _ _ h4,Sl.val_uses _ _ _ h5]; rfl
theorem rtgOK {i:Nat} (hi12:i=1∨i=2):SumAt Tryz.prog qvd 44 (rtgS shaF i):=by
  intro O w0 β H w base args vs hH hG ha
  refine qib fun kv uv cv hv => ?_
  rcases qfc kv with ⟨l,rfl⟩ | hno
  case inr=>rw [hno]; trivial
  refine qib fun p v s hl=>q1a fun p' hp=>q1a fun v' hv'=>q1a fun u hu=>qpg fun hT=>qdb fun k kn hn1 ht1 hi1=>qdb fun c cn hn2 ht2 hi2=>qfa fun hd=>fun ⟨hpi,hkn,hu12,hk,hc,hc1,hc2⟩ => ?_
  subst hl hp hv' hu
  rw [hv] at ha
  obtain ⟨⟨xs,hxs⟩,zs,hzs⟩:=q8g ha
  obtain ⟨xu,zs1,hxu,hzs1,rfl⟩:=denL_cons.1 hzs
  obtain ⟨xc,zs2,hxc,hzs2,rfl⟩:=denL_cons.1 hzs1
  obtain ⟨m,hks⟩:=Sl.val_denN hkn (hi1 _ _ hxs)
  obtain ⟨m2,_,hcs⟩:=Sl.val_den (hi2 _ _ hxc)
  have h1:=qxf (s':=(k.pl m).valN kn (tagN i)) (p':=.int .i64 (.lit i)) (v':=.int .i64 (.sym v'.den)) ha (fun x hx=>by rw [hxs] at hx; cases hx; exact hks) (qoa hpi) (qoa rfl)
  obtain ⟨xa,ws,hxa,hws,rfl⟩:=denL_cons.1 h1
  rw [hzs] at hws
  cases hws
  have ha':SV.denL β [.agg [.int .i64 (.lit i),.int .i64 (.sym v'.den),(k.pl m).valN kn (tagN i)],.int .i64 (.sym u.den),(c.pl m2).val cn]=some (xa::xu::xc::zs2):=denL_cons.2 ⟨_,_,hxa,denL_cons.2 ⟨_,_,qoa rfl _ _ hxu,denL_cons.2 ⟨_,_,hcs,hzs2,rfl⟩,rfl⟩,rfl⟩
  have n3:∀ {x:Nat},x∈[kn,cn]→qpb x=true:=by simp only [List.mem_cons,List.not_mem_nil,or_false]; rintro x (rfl | rfl) <;> assumption
  have key:∀ {cs j L},(shaI [kn,cn] [k.row,c.row] []).known j=false→6≤j→outO [j] (rgT shaF i (tagN i) v'.den u.den (k.pl m) (c.pl m2)) []=(cs,some (rgV j (tagN i),[some (mkE L)]))→(∀ q∈cs,q)→L=rgL shaF i k u.den c→q3a Tryz.prog H β w base 44 (xa::xu::xc::zs2) ⟨rgV base (tagN i),[],[mkE (rgL shaF i k u.den c)]⟩:=by
    intro cs j L hj h6 hr hc hL
    rw [← hL]
    refine q7a (j1p hi12) 8000 hH (shaI [kn,cn] [k.row,c.row] (rgA i (tagN i) v'.den u.den (k.pl m) (c.pl m2))) (qzd hG) ?_ (Ifc.fits (nd4 hd fun _=>n3) (jni rfl rfl) (qse hT ⟨⟨ht1 _,k.row_uses _⟩,⟨ht2 _,c.row_uses _⟩,trivial⟩)) [j] (by simp [shaI]; omega) (by simp) hr hc fun H2 hH2=>jeu hj rfl (List.cons.inj hH2).1
    show SV.denL β [.agg [.int .i64 (.lit i),.int .i64 (.sym v'.den),((k.pl m).valN 4 (tagN i)).ren _],.int .i64 (.sym u.den),((c.pl m2).val 5).ren _]=_
    rw [Sl.valN_ren,Sl.val_ren]; exact ha'
  have hko:=hk.1
  rcases hi12 with rfl | rfl
  · have hkn:k.n=16:=hkn
    exact key rfl (by omega) (j2p shaF v'.den u.den k c m m2) (all_cons (qda _) (all_cons ⟨rfl,by omega⟩ (all_cons ⟨hc.1,qda _⟩ (all_cons (by omega) (all_cons ⟨by omega,⟨by omega,by omega⟩,rfl⟩ (all_cons (qda _) (all_cons ⟨by omega,⟨by show 0+(16+c.n)≤16+c.n; omega,by show 16+c.n≤_; omega⟩,by omega⟩ qca))))))) (by rw [jae hu12 (by omega),j4p]; rfl)
  · have hkn:k.n=32:=hkn
    exact key rfl (by omega) (j3p shaF v'.den u.den k c m m2) (all_cons (qda _) (all_cons ⟨rfl,by omega⟩ (all_cons (qda _) (all_cons ⟨by omega,hc,by omega⟩ qca)))) (by rw [jae hu12 (by omega)]; rfl)
end Go.Proofs.YtbmgahpjgefjaaaGreatDoor.Aes
namespace Go.Proofs.YtbmgahpjgefjaaaGreatDoor.Aes
open Go.Sim
open Go.Proofs
open Go.RowKit
variable {α:Type}
set_option maxRecDepth 1000000
noncomputable def q03 (F:Blk→Blk→(Nat→BitVec 8)→Nat→Blk) (ok:Nat→Bool) (nl:Bool):Summ:=fun args H base=>quc args fun k v p=>qkb k (.stuck 910) fun a l1=>qkb v (.stuck 910) fun b l2=>q30 H
  (boolC (Nat.beq 4 a.nm) (.stuck 911) (boolC (Nat.beq 4 b.nm) (.stuck 911) (boolC (Nat.beq a.nm b.nm) (.stuck 911) (qad l1 16 (qad l2 16 (qxb (nth H a.nm) fun X n=>qxb (nth H b.nm) fun Y n2=>.need (a.off.den+16≤n∧b.off.den+16≤n2)
    (qkb p (boolC nl (.ok ⟨.nilSlice,[],[]⟩) (.stuck 912)) fun c l=>boolC (Nat.beq 4 c.nm) (.stuck 911) (boolC (Nat.beq a.nm c.nm) (.stuck 911) (boolC (Nat.beq b.nm c.nm) (.stuck 911)
      (qxb (nth H c.nm) fun Z n3=>.need (c.off.den+l.den≤n3∧ok l.den=true) (isI (.sym l.den) 16 (.ok ⟨.slice ⟨base,.lit 0⟩ l (.lit 16),[],[.own (fnB (F (qha X a.off.den) (qha Y b.off.den) (fun j=>Z (c.off.den+j)) l.den)) true 5]⟩) (.ok ⟨.slice ⟨base,.lit 0⟩ l (.rest base 0),[],[.own (fnB (F (qha X a.off.den) (qha Y b.off.den) (fun j=>Z (c.off.den+j)) l.den)) false 5]⟩))))))) (.stuck 913)) (.stuck 913)))))
theorem joi {c:Cfg} (hc:CfgOK c) (hg:c.glob=qof) (hP:c.P=Tryz.prog) {f:FuncId} {F:Blk→Blk→(Nat→BitVec 8)→Nat→Blk} {ok:Nat→Bool} {nl:Bool} (hrun:RunR c f F ok dcp) (hnil:nl=true→NilR c f):SumAt Tryz.prog qce f (q03 F ok nl):=by
  intro O w0 β H w base args vs hH hG ha
  refine qib fun k v p hv=>qva (fun _=>trivial) fun a l1 c1 hs1=>qva (fun _=>trivial) fun b l2 c2 hs2=>q3r fun htab=>qla (fun _=>trivial) fun h0=>qla (fun _=>trivial) fun h1=>qla (fun _=>trivial) fun hab =>
    qqb (fun hl1=>qqb (fun hl2=>q0a fun X n t1=>q0a fun Y n2 t2=>fun hn => ?_) fun _=>trivial) fun _=>trivial
  rw [hv,hs1,hs2] at ha
  rw [qga] at t1 t2
  obtain ⟨x,ys,hx,hys,rfl⟩:=denL_cons.1 ha
  obtain ⟨y,zs,hy,hz,rfl⟩:=denL_cons.1 hys
  obtain ⟨u,us,hu,hus,rfl⟩:=denL_cons.1 hz
  obtain ⟨m1,_,hd1,_,_⟩:=q6a hx
  obtain ⟨m2,_,hd2,_,_⟩:=q6a hy
  rw [hl1] at hd1
  rw [hl2] at hd2
  refine qva (fun hn3=>qla (fun hnl => ?_) fun _=>trivial) fun c0 l c3 hs3=>qla (fun _=>trivial) fun h2=>qla (fun _=>trivial) fun hac=>qla (fun _=>trivial) fun hbc=>q0a fun Z n3 t3=>fun hn3 => ?_
  · rw [hn3] at hu
    have hnd:[4,a.nm,b.nm].Nodup:=by
      simp only [List.nodup_cons,List.mem_cons,List.not_mem_nil,or_false,not_or,not_false_eq_true,List.nodup_nil,and_true]
      exact ⟨⟨qbb h0,qbb h1⟩,qbb hab⟩
    rw [← hP] at hH ⊢
    refine qxe hc 20000 hH ⟨[4,a.nm,b.nm],[tabR,rowF X n,rowF Y n2],[.slice ⟨1,.sym a.off.den⟩ (.lit 16) (.sym m1),.slice ⟨2,.sym b.off.den⟩ (.lit 16) (.sym m2),.nilSlice]⟩ (by rw [hg]; exact q8p rfl rfl hG) (denL_cons.2 ⟨_,_,hd1,denL_cons.2 ⟨_,_,hd2,denL_cons.2 ⟨_,_,hu,hus,rfl⟩,rfl⟩,rfl⟩)
      (Ifc.fits hnd rfl ⟨⟨htab _,qpf _⟩,⟨t1 _,qsa _ _ _⟩,⟨t2 _,qsa _ _ _⟩,trivial⟩) [] (by simp) (by simp) (q5g (hnil hnl X Y n m1 n2 m2 a.off.den b.off.den) (all_cons (qda X) (all_cons hn.1 qca)) fun H2 _=>qmc rfl rfl rfl)
  · rw [hs3] at hu
    rw [qga] at t3
    obtain ⟨m3,hlm3,hd3,hd3',_⟩:=q6a hu
    have hd4:(SV.slice ⟨c0.nm,.sym c0.off.den⟩ (.lit l.den) (.sym m3)).den β=some u:=by
      rw [qpa] at hd3 ⊢
      exact hd3
    have hnd:[4,a.nm,b.nm,c0.nm].Nodup:=by
      simp only [List.nodup_cons,List.mem_cons,List.not_mem_nil,or_false,not_or,not_false_eq_true,List.nodup_nil,and_true]
      exact ⟨⟨qbb h0,qbb h1,qbb h2⟩,⟨qbb hab,qbb hac⟩,qbb hbc⟩
    obtain ⟨nm,ps,hnm,hr,hps⟩:=hrun X Y Z n m1 n2 m2 n3 m3 a.off.den b.off.den c0.off.den l.den hn3.2 hn.1 hn.2 hn3.1 hlm3
    rw [← hP] at hH ⊢
    have gen:q3a c.P H β w base f (x::y::u::us) ⟨.slice ⟨base,.lit 0⟩ l (capR (dcp l.den) base l.den),[],[.own (fnB (F (qha X a.off.den) (qha Y b.off.den) (fun j=>Z (c0.off.den+j)) l.den)) (dcp l.den) 5]⟩:=by
      refine qxe hc 20000 hH ⟨[4,a.nm,b.nm,c0.nm],qzg X Y Z n n2 n3,qyg m1 m2 m3 a.off.den b.off.den c0.off.den l.den⟩ (by rw [hg]; exact q8p rfl rfl hG) (denL_cons.2 ⟨_,_,hd1,denL_cons.2 ⟨_,_,hd2,denL_cons.2 ⟨_,_,hd4,hus,rfl⟩,rfl⟩,rfl⟩)
        (Ifc.fits hnd rfl ⟨⟨htab _,qpf _⟩,⟨t1 _,qsa _ _ _⟩,⟨t2 _,qsa _ _ _⟩,⟨t3 _,qsa _ _ _⟩,trivial⟩) [nm] (by simpa using hnm) (by simp) (q5g hr hps fun H2 hH2=>⟨?_,?_,trivial,⟨qtz (List.cons.inj hH2).1,trivial⟩⟩)
      · intro γ xv hxv
        have hon:=qzs (I:=⟨[4,a.nm,b.nm,c0.nm],qzg X Y Z n n2 n3,qyg m1 m2 m3 a.off.den b.off.den c0.off.den l.den⟩) (base:=base) (nm:=nm) (by simpa using hnm)
        have hcap:SC.ren (Ifc.out ⟨[4,a.nm,b.nm,c0.nm],qzg X Y Z n n2 n3,qyg m1 m2 m3 a.off.den b.off.den c0.off.den l.den⟩ base [nm]) (capR (dcp l.den) nm l.den)=capR (dcp l.den) base l.den:=by
          unfold capR
          cases dcp l.den with
          | true=>rfl
          | false=>show SC.rest _ 0=_; rw [hon]; rfl
        simp only [SV.ren,SA.ren,hon,hcap] at hxv
        rw [qpa] at hxv ⊢
        exact hxv
      · show (Ifc.seen _ [nm] nm && SC.uses _ (capR (dcp l.den) nm l.den))=true
        rw [qsi]
        unfold capR
        cases dcp l.den with
        | true=>rfl
        | false=>exact qsi
    refine q0d (fun h => ?_) fun h => ?_
    · have h16:l.den=16:=by have h:(l.den:Int)=16:=h; omega
      have hd:dcp l.den=true:=by unfold dcp; rw [h16]; rfl
      have e:capR (dcp l.den) base l.den=.lit 16:=by rw [hd]; show SC.lit l.den=_; rw [h16]
      rw [e,hd] at gen
      exact gen
    · have h16:l.den≠16:=by have h:(l.den:Int)≠16:=h; omega
      have hd:dcp l.den=false:=by
        unfold dcp
        cases hb:Nat.beq l.den 16 with
        | true=>exact absurd (qna hb) h16
        | false=>rfl
      have e:capR (dcp l.den) base l.den=.rest base 0:=by rw [hd]; rfl
      rw [e,hd] at gen
      exact gen
noncomputable def jfu:Summ:=q03 decF tOk false
theorem jpi:SumAt Tryz.prog qce 46 jfu:=joi jzm rfl rfl jxc (fun h=>by cases h)
theorem jbe (K V:Blk) (P:Nat→BitVec 8) (l:Nat):l≤lenN (encF K V P l):=by
  rw [qwa]
  unfold encF qup
  rw [qwh _ (fun b hb=>qvr _ _ _ b (qdy _ _ hb)),qll,qal,qqj]
  unfold numB; omega
end Go.Proofs.YtbmgahpjgefjaaaGreatDoor.Aes
namespace Go.Proofs.YtbmgahpjgefjaaaGreatDoor.Aes
open Go.Sim
open Go.Proofs
variable {α:Type}
set_option maxRecDepth 1000000
theorem SumAt.upQ {f:FuncId} {s:Summ} (h:SumAt Tryz.prog qvd f s):SumAt Tryz.prog qce f s:=fun O w0 β H w base args vs hH hG ha=>h O w0 β H w base args vs hH (fun _ nm hg=>hG _ nm (jes hg)) ha
noncomputable def rencE (E:CtsF):Summ:=qc3 E tOk (fun _=>false) false
noncomputable def rdecE (D:CtsF):Summ:=q03 D tOk false
noncomputable def jkl (F:HashF) (E D:CtsF) (i:Nat):Cfg:=cfgG qce (qcb [(40,ruS true),(41,rdeS F i),(44,rtgS F i),(43,rstS F),(42,rencE E),(46,rdecE D),(24,lnS 16 32)])
theorem qzl {i:Nat} (hi:i=1∨i=2):CfgOK (jkl shaF encF decF i):=qwb (allS (ruOK _) (allS (SumAt.upQ (jel hi)) (allS (SumAt.upQ (rtgOK hi)) (allS (SumAt.upQ rstOK) (allS j9m (allS jpi (allS (qx9 _) (by simp))))))))
noncomputable def rlA (i:Int) (n:Nat) (v u:Int) (k c:Sl) (t:SV):List SV:=[.agg [.int .i64 (.lit i),.int .i64 (.sym v),k.valN 5 n],.int .i64 (.sym u),c.valN 6 16,t]
noncomputable def rlT (F:HashF) (E D:CtsF) (i n:Nat) (v u:Int) (k c:Sl) (t:SV) (r:List SO):Tree:=qba (jkl F E D i) 8000 13 (rlA i n v u k c t) (shaH (tabR::k.row::c.row::r))
noncomputable def rlM (c t:Sl):Nat→BitVec 8:=catB (fun i=>qaa (tabB c.F 16) (0+i)) 16 (fun i=>t.X (t.o+i))
noncomputable def rlE (F:HashF) (E:CtsF) (k:Sl) (u:Int) (M:Nat→BitVec 8) (l:Nat):Blk:=E (qha (qaa (rdL F k 16 u 0xaa#8)) 0) (qha (qaa (tabB (fun _=>0#8) 16)) 0) (fun j=>M (0+j)) l
noncomputable def rlC (L:Blk) (l:Nat):Sl:=⟨qaa L,lenN L,0,l,false,l⟩
noncomputable def rlG (F:HashF) (k:Sl) (u:Int) (C:Sl) (i:Nat):Nat→BitVec 8:=qaa (tabB (qaa (rgL F i k u C)) 32)
noncomputable def rlTQ (i:Nat) (n:Nat) (u:Int) (k C:Sl):Prop:=(i:Int)=i∧n=tagN i∧(1≤u∧u≤1023)∧okL (k.len n)∧okL C∧1≤C.n∧C.n≤1000000
noncomputable def room (n:Nat):Prop:=(n * 1<70368744177664∧n<70368744177664)∧1=1
noncomputable def rlQ (i n:Nat) (v u:Int) (k:Sl) (bt:List Prop) (r:List Prop):List Prop:=(usQ i v u n↔true=true)::app bt (IsB (qea k.X)::((i:Int)=i∧k.o+n≤k.N)::r)
noncomputable def qkq (t:Sl):List Prop:=[decide ((t.n:Int) > 65536)=false]
noncomputable def q19 (i n:Nat) (u:Int) (k C:Sl) (X:Nat→BitVec 8) (N l:Nat):List Prop :=
  [0+l≤N,decide (l=0)=false,room l,IsB (qea k.X),IsB (qea X),rlTQ i n u k C,n≤32,0+l≤l∧IsB (fun i=>qea X (0+i)),room (l+n)]
noncomputable def rl1C (F:HashF) (E:CtsF) (u:Int) (k c t:Sl):List Prop :=
  (c.o+16≤c.N)::(t.o+t.n≤t.N∧IsB (qea t.X))::(16≤16)::room (16+t.n)::(16≤32∧16≤16)::IsB (qea (rlM c t))::(0+(16+t.n)≤16+t.n∧tOk (16+t.n)=true) ::
    q19 1 16 u k (rlC (rlE F E k u (rlM c t) (16+t.n)) (16+t.n)) (qaa (rlE F E k u (rlM c t) (16+t.n))) (lenN (rlE F E k u (rlM c t) (16+t.n))) (16+t.n)
noncomputable def rlJ (X:Nat→BitVec 8) (l:Nat) (Y:Nat→BitVec 8):Nat→BitVec 8:=catB (fun j=>X (0+(0+j))) l (fun j=>Y (0+j))
noncomputable def rlV (nm:Nat) (i:Int) (v:Int) (n:Nat):SV:=.tuple [.agg [.int .i64 (.lit i),.int .i64 (.sym v),q1f nm n],.int .i64 (.lit 0)]
noncomputable def rl1R (F:HashF) (E:CtsF) (v u:Int) (k c t:Sl):Option (SV × List (Option SO)):=some (rlV 19 1 v (16+t.n+16),[some (.own (.fn (qea (rlJ (qaa (rlE F E k u (rlM c t) (16+t.n))) (16+t.n) (rlG F k u (rlC (rlE F E k u (rlM c t) (16+t.n)) (16+t.n)) 1))) (16+t.n+16)) false 5)])
noncomputable def rlD (i:Nat):List Bool:=boolC (Nat.beq i 335) (repN false 335) (app (repN false i) [true])
noncomputable def rlDC (z:Nat) (i:Nat):List Prop:=app (mapN (fun j=>decide (z=j)=false) (qka i 0)) (boolC (Nat.beq i 335) [] [decide (z=i)=true])
noncomputable def rlV0 (nm:Nat) (i:Int) (v:Int) (n:Nat):SV:=.tuple [.agg [.int .i64 (.lit i),.int .i64 (.sym v),.slice ⟨nm,.lit 0⟩ (.lit n) (.rest nm 0)],.int .i64 (.lit 0)]
noncomputable def rlC0 (F:HashF) (E:CtsF) (k:Sl) (u:Int) (c:Sl):Blk:=rlE F E k u (qaa (tabB c.F 16)) 16
noncomputable def rl1Z (F:HashF) (E:CtsF) (u:Int) (k c:Sl) (zt:List Prop):List Prop :=
  (c.o+16≤c.N)::app zt [16≤32∧16≤16,16≤16∧tOk 16=true,16≤lenN (rlC0 F E k u c),IsB (qea k.X),IsB (qea (qaa (rlC0 F E k u c))),rlTQ 1 16 u k (rlC (rlC0 F E k u c) 16)]
noncomputable def rlL (F:HashF) (i n:Nat) (k:Sl) (u:Int) (C:Sl):List (BitVec 8):=app (tabB C.F 16) (tabB (qaa (rgL F i k u C)) n)
noncomputable def rlR0 (F:HashF) (i n nm:Nat) (v u:Int) (k C:Sl):Option (SV × List (Option SO)):=some (rlV0 nm i v (16+n),[some (.own (.lst (bx (rlL F i n k u C))) false 5)])
noncomputable def rlX (F:HashF) (k:Sl) (u:Int) (c t:Sl):Nat→BitVec 8:=catB (fun i=>qaa (tabB c.F 16) (0+i)) 16 (fun i=>strG F (rdkS F k 32 u 0xaa#8) (c.len 16) t (0+i))
noncomputable def rlS (F:HashF) (k:Sl) (u:Int) (c t:Sl):Sl:=⟨rlX F k u c t,16+t.n,0,16+t.n,true,0⟩
noncomputable def rlT0 (c:Sl):Sl:=⟨qaa (tabB c.F 16),16,0,16,true,0⟩
noncomputable def rl2C (F:HashF) (u:Int) (k c t:Sl):List Prop :=
  (c.o+16≤c.N)::IsB (qea c.X)::IsB (qea t.X)::rstQ (rdkS F k 32 u 0xaa#8) (c.len 16) t::(((t.n:Int) == 0)=false)::(0+t.n≤t.n∧IsB (qea (strG F (rdkS F k 32 u 0xaa#8) (c.len 16) t)))::(16≤16)::room (16+t.n) ::
    q19 2 32 u k (rlS F k u c t) (rlX F k u c t) (16+t.n) (16+t.n)
noncomputable def rl2Z (F:HashF) (u:Int) (k c t:Sl) (zt zu:List Prop):List Prop:=(c.o+16≤c.N)::IsB (qea c.X)::app zt (rstQ (rdkS F k 32 u 0xaa#8) (c.len 16) t::app zu [IsB (qea k.X),rlTQ 2 32 u k (rlT0 c)])
noncomputable def rl2R (F:HashF) (v u:Int) (k c t:Sl):Option (SV × List (Option SO)):=some (rlV 18 2 v (16+t.n+32),[some (.own (.fn (qea (rlJ (rlX F k u c t) (16+t.n) (rlG F k u (rlS F k u c t) 2))) (16+t.n+32)) false 5)])
section
variable (F:HashF) (E D:CtsF) (v u:Int) (k c t:Sl) (m m2 m3:Nat)
theorem j5p:outO [18] (rlT F E D 2 32 v u (k.pl m) (c.pl m2) ((t.pl m3).val 7) [(t.pl m3).row]) [false,false,false]=(rlQ 2 32 v u k (qkq t) (rl2C F u k c t),rl2R F v u k c t):=by kernel_rfl
theorem jqi:outO [16] (rlT F E D 2 32 v u (k.pl m) (c.pl m2) ((t.pl m3).val 7) [(t.pl m3).row]) [false,true]=(rlQ 2 32 v u k (qkq t) (rl2Z F u k c t [IsB (qea t.X)] [((t.n:Int) == 0)=true]),rlR0 F 2 32 16 v u k (rlT0 c)):=by kernel_rfl
theorem j6p:outO [15] (rlT F E D 2 32 v u (k.pl m) (c.pl m2) .nilSlice []) []=(rlQ 2 32 v u k [] (rl2Z F u k c q1c [] []),rlR0 F 2 32 15 v u k (rlT0 c)):=by kernel_rfl
end
end Go.Proofs.YtbmgahpjgefjaaaGreatDoor.Aes
