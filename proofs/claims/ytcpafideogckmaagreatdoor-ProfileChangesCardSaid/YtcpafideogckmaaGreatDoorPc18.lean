/-
  Texts behind one another: the symbolic simulator and what it is told of the program.
-/
import Derived.Test.YtcpafideogckmaaGreatDoorPc16
import Derived.Test.YtcpafideogckmaaGreatDoorPc14
import Derived.Test.YtcpafideogckmaaGreatDoorCzRmc3
namespace Go.Proofs.YtcpafideogckmaaGreatDoor.Aes
noncomputable section
open Go.Sim
open Go.Proofs
variable {α:Type}
set_option maxRecDepth 1000000
def eqT (n:Nat) (a b:Sl):Tree:=qca cfg0 4000 23 [a.valN 0 n,b.val 1] [a.row,b.row]
def orF (X Y:Nat->BitVec 8) (n:Nat):BitVec 8:=Nat.rec (motive:=fun _=>BitVec 8) (BitVec.ofInt 8 0) (fun j ih=>ih ||| (X j ^^^ Y j)) n
def eqC (a b:Sl) (n:Nat):List Prop:=Nat.rec (motive:=fun _=>Nat->List Prop) (fun _=>[]) (fun _ ih j=>(a.o+j<a.N)::(j<b.n)::(b.o+j<b.N)::ih (Nat.succ j)) n 0
section
variable (a b:Sl) (m m2:Nat)
theorem eq_16:outO [] (eqT 16 (a.pl m) (b.pl m2)) [false]=((((16:Int) != b.n)=false)::eqC a b 16,some (.bool (.sym (((orF a.F b.F 16).toNat:Int) == 0)),[])):=by kernel_rfl
theorem eq_32:outO [] (eqT 32 (a.pl m) (b.pl m2)) [false]=((((32:Int) != b.n)=false)::eqC a b 32,some (.bool (.sym (((orF a.F b.F 32).toNat:Int) == 0)),[])):=by kernel_rfl
theorem j1u:outO [] (eqT 16 (a.pl m) (b.pl m2)) [true]=([((16:Int) != b.n)=true],some (.bool (.lit false),[])):=by kernel_rfl
theorem j2u:outO [] (eqT 32 (a.pl m) (b.pl m2)) [true]=([((32:Int) != b.n)=true],some (.bool (.lit false),[])):=by kernel_rfl
def eqN (n:Nat) (a:Sl):Tree:=qca cfg0 4000 23 [a.valN 0 n,.nilSlice] [a.row]
theorem j0i:outO [] (eqN 16 (a.pl m)) []=([],some (.bool (.lit false),[])):=by kernel_rfl
theorem j1i:outO [] (eqN 32 (a.pl m)) []=([],some (.bool (.lit false),[])):=by kernel_rfl
end
theorem qw3 (X Y:Nat->BitVec 8):∀ n,orF X Y n=0#8↔∀ i,i<n->X i=Y i
 | 0=>⟨fun _ i h=>absurd h (Nat.not_lt_zero i),fun _=>rfl⟩
 | n+1=>by
   show orF X Y n ||| (X n ^^^ Y n)=0#8↔_
   rw [BitVec.or_eq_zero_iff,qw3 X Y n,BitVec.xor_eq_zero_iff]
   constructor
   . rintro ⟨h,h'⟩ i hi
     by_cases c:i=n
     . rw [c]; exact h'
     . exact h i (by omega)
   . exact fun h=>⟨fun i hi=>h i (by omega),h n (by omega)⟩
theorem qi6 {a b:Sl} {n:Nat} (ha:a.o+n<=a.N) (hb:b.o+b.n<=b.N) (hn:b.n=n):∀ p∈eqC a b n,p:=by
 have key:∀ q j,j+q<=n->∀ p∈(Nat.rec (motive:=fun _=>Nat->List Prop) (fun _=>[]) (fun _ ih j=>(a.o+j<a.N)::(j<b.n)::(b.o+j<b.N)::ih (Nat.succ j)) q j:List Prop),p:=by
  intro q
  induction q with
  | zero=>intro j _ p hp; cases hp
  | succ q ih=>intro j hj; exact all_cons (by omega) (all_cons (by omega) (all_cons (by omega) (ih (j+1) (by omega))))
 exact key n 0 (by omega)
def eqB (a b:Sl) (n:Nat):Bool:=@decide (b.n=n/\∀ i,i<n->a.F i=b.F i) (Classical.propDecidable _)
theorem eqB_iff {a b:Sl} {n:Nat}:eqB a b n=true↔b.n=n/\∀ i,i<n->a.F i=b.F i:=by
 unfold eqB; exact @decide_eq_true_iff _ (Classical.propDecidable _)
def eqS:Summ:=fun args H _=>qdd args fun av bv=>qoi H av fun a an n=>boolC (boolC (Nat.beq n 16) true (Nat.beq n 32)) (qob bv (.ok ⟨.bool (.lit false),[],[]⟩) fun _ _=>qcc H bv fun b bn=>boolC (qrc [an,bn]) (.need (a.o+n<=a.N/\okL b) (.ok ⟨.bool (.sym (eqB a b n)),[],[]⟩)) (.stuck 831)) (.stuck 831)
theorem qx3 {I:Ifc} {base:Nat} {b b':SB} {H:List SO} (ho:q6b I.ents 0=[]) (h:b.den=b'.den):I.Ends base [] ⟨.bool b',[],[]⟩ (.bool b) H:=by
 refine ⟨?_,rfl,by rw [ho]; trivial,trivial⟩
 intro γ x hx
 have hx:some (Value.bool b.den)=some x:=by cases b <;> exact hx
 rw [h] at hx
 cases b' <;> exact hx
theorem eqOK:q3a Tryz.prog 23 eqS:=by
 intro glob O w0 β H w base args vs hH hG ha
 refine qnb fun av bv hv=>q6e fun a an n hn1 ht1 hi1 han=>qfa fun h12 => ?_
 rw [hv] at ha
 obtain ⟨xa,ys,hxa,hys,rfl⟩:=denL_cons.1 ha
 obtain ⟨xb,zs,hxb,hzs,rfl⟩:=denL_cons.1 hys
 obtain ⟨m,has⟩:=Sl.valN_den (hi1 _ _ hxa)
 have h12:n=16\/n=32:=by
  cases h:Nat.beq n 16 with
  | true=>exact .inl (qpa h)
  | false=>rw [h] at h12; exact .inr (qpa h12)
 refine qxa (fun hnil => ?_) fun _ _ _ _=>qab fun b bn hn2 ht2 hi2=>qfa fun hd=>fun ⟨hao,hb,_⟩ => ?_
 . subst hnil
   have key:∀ {n cs},((a.pl m).valN an n).den β=some xa->outO [] (eqN n (a.pl m)) []=(cs,some (.bool (.lit false),[]))->(∀ q∈cs,q)->q4a Tryz.prog H β w base 23 (xa::xb::zs) ⟨.bool (.lit false),[],[]⟩:=by
    intro n cs has hr hc
    refine qqb q4c rfl 4000 hH ⟨[an],[(a.pl m).row],[(a.pl m).valN 0 n,.nilSlice]⟩ ?_ (Ifc.fits (by simp) rfl ⟨⟨ht1 _,a.row_uses _⟩,trivial⟩) [] (by simp) (by simp) hr hc fun _ _=>qkb rfl rfl rfl
    show SV.denL β [((a.pl m).valN 0 n).ren _,.nilSlice]=_
    rw [Sl.valN_ren]
    exact denL_cons.2 ⟨_,_,has,denL_cons.2 ⟨_,_,hxb,hzs,rfl⟩,rfl⟩
   rcases h12 with rfl | rfl
   . exact key has (j0i a m) qaa
   . exact key has (j1i a m) qaa
 . obtain ⟨m2,_,hbs⟩:=Sl.val_den (hi2 _ _ hxb)
   have key:∀ {n cs ds} {v:SB},((a.pl m).valN an n).den β=some xa->outO [] (eqT n (a.pl m) (b.pl m2)) ds=(cs,some (.bool v,[]))->(∀ q∈cs,q)->v.den=eqB a b n->q4a Tryz.prog H β w base 23 (xa::xb::zs) ⟨.bool (.sym (eqB a b n)),[],[]⟩:=by
    intro n cs ds v has hr hc hv
    refine qqb q4c rfl 4000 hH ⟨[an,bn],[(a.pl m).row,(b.pl m2).row],[(a.pl m).valN 0 n,(b.pl m2).val 1]⟩ ?_ (Ifc.fits (q2g hd) rfl ⟨⟨ht1 _,a.row_uses _⟩,⟨ht2 _,b.row_uses _⟩,trivial⟩) [] (by simp) (by simp) hr hc fun _ _=>qx3 rfl hv
    show SV.denL β [((a.pl m).valN 0 n).ren _,((b.pl m2).val 1).ren _]=_
    rw [Sl.valN_ren,Sl.val_ren]
    exact denL_cons.2 ⟨_,_,has,denL_cons.2 ⟨_,_,hbs,hzs,rfl⟩,rfl⟩
   have e0:∀ {n:Nat},b.n=n->(SB.sym (((orF a.F b.F n).toNat:Int) == 0)).den=eqB a b n:=fun {n} hb=>by
    show (((orF a.F b.F n).toNat:Int) == 0)=_
    rw [Bool.eq_iff_iff,eqB_iff,beq_iff_eq,← qw3]
    constructor
    . exact fun h=>⟨hb,BitVec.eq_of_toNat_eq (by show _=0; omega)⟩
    . intro ⟨_,h⟩; rw [h]; rfl
   have e1:∀ {n:Nat},b.n≠n->(SB.lit false).den=eqB a b n:=fun {n} hb=>by
    symm
    show eqB a b n=false
    rw [Bool.eq_false_iff]
    exact fun h=>hb (eqB_iff.1 h).1
   have c0:∀ {n:Nat},b.n=n->((n:Int) != b.n)=false:=fun h=>by rw [h]; simp
   have c1:∀ {n:Nat},b.n≠n->((n:Int) != b.n)=true:=fun h=>by rw [bne_iff_ne]; omega
   rcases h12 with rfl | rfl
   . by_cases hbn:b.n=16
     . exact key has (eq_16 a b m m2) (all_cons (c0 hbn) (qi6 hao hb hbn)) (e0 hbn)
     . exact key has (j1u a b m m2) (all_cons (c1 hbn) qaa) (e1 hbn)
   . by_cases hbn:b.n=32
     . exact key has (eq_32 a b m m2) (all_cons (c0 hbn) (qi6 hao hb hbn)) (e0 hbn)
     . exact key has (j2u a b m m2) (all_cons (c1 hbn) qaa) (e1 hbn)
end
noncomputable section
open Go.Sim
open Go.Proofs
variable {α:Type}
set_option maxRecDepth 1000000
def jpm:Cfg:=qle (qbb [(15,qgt)])
theorem jpq:CfgOK jpm:=q8b (all1 qhq)
def opT (v u sp sv:Int) (k t:Sl):Tree:=qca jpm 4000 8 [.agg [.int .i64 (.lit 1),.int .i64 (.sym v),k.valN 0 16],.int .i64 (.sym u),.agg [.int .i64 (.sym sp),.int .i64 (.sym sv),t.val 1]] [k.row,t.row]
def opC (v u:Int) (r:List Prop):List Prop:=(decide (0<=v)=true)::(decide (v<=65535)=true)::(decide (1<=u)=true)::(decide (u<=1023)=true)::r
def opV (e:Int):SV:=.tuple [.nilSlice,.int .i64 (.lit e)]
section
variable (v u sp sv:Int) (k t:Sl) (m m2:Nat)
theorem jqq:outO [] (opT v u sp sv (k.pl m) (t.pl m2)) [true,true,true,true,true,true,true,true,true,true,true,true,true,true]=(opC v u (repN ((sp != 1)=true) 10),some (opV 9,[])):=by kernel_rfl
theorem jrq:outO [] (opT v u sp sv (k.pl m) (t.pl m2)) [true,true,true,true,false,true,true,true]=(opC v u [(sp != 1)=false,(sv != v)=true,(sv != 0)=true,(v != 0)=true],some (opV 9,[])):=by kernel_rfl
theorem j2i:outO [] (opT v u sp sv (k.pl m) (t.pl m2)) [true,true,true,true,false,false,false,false,false,true]=(opC v u [(sp != 1)=false,(sv != v)=false,(sv != v)=false,(sv != v)=false,(sv != v)=false,qza ((t.n:Int) - 16),decide ((t.n:Int) - 16<16)=true],some (opV 4,[])):=by kernel_rfl
end
def opR (e:Int):R SumRes:=.ok ⟨opV e,[],[]⟩
def jqm:Summ:=fun args H _=>qoc args fun kv uv zv=>kv.asAgg (.stuck 797) fun l=>qoc l fun p v s=>optC (litI p) (.stuck 797) fun p=>boolC (Nat.beq p 1) (i64O v fun v=>i64O uv fun u=>zv.asAgg (.stuck 797) fun l2=>qoc l2 fun sp sv ss=>i64O sp fun sp=>i64O sv fun sv =>
 qoi H s fun _ kn n=>boolC (Nat.beq n 16) (qcc H ss fun t tn=>boolC (qrc [kn,tn]) (.need ((0<=v.den/\v.den<=65535)/\1<=u.den/\u.den<=1023)
  (isI sp 1 (sv.asLit (.stuck 797) fun a=>v.asLit (.stuck 797) fun b=>boolC (eqI a b) (.need (t.n<32) (opR 4)) (boolC (eqI a 0) (.stuck 797) (boolC (eqI b 0) (.stuck 797) (opR 9)))) (opR 9))) (.stuck 797)) (.stuck 797)) (.stuck 797)
theorem q8d {p:Prop} (h:p):∀ n,∀ q∈repN p n,q:=by
 intro n q hq
 rw [qai] at hq
 rw [List.eq_of_mem_replicate hq]; exact h
theorem j3u:q3a Tryz.prog 8 jqm:=by
 intro glob O w0 β H w base args vs hH hG ha
 refine qcb fun kv uv zv hv => ?_
 rcases qmc kv with ⟨l,rfl⟩ | hno
 case inr=>rw [hno]; trivial
 refine qcb fun p v s hl=>qja fun p0 hp=>qfa fun hp1=>q2a fun v' hv'=>q2a fun u hu => ?_
 rcases qmc zv with ⟨l2,rfl⟩ | hno
 case inr=>rw [hno]; trivial
 refine qcb fun sp sv ss hl2=>q2a fun sp' hsp=>q2a fun sv' hsv=>q6e fun k kn n hn1 ht1 hi1 hkn=>qfa fun h16=>qab fun t tn hn2 ht2 hi2=>qfa fun hd=>fun ⟨⟨hv1,hv2⟩,hu1,hu2⟩ => ?_
 have h16:=qpa h16
 have hp1:=qpa hp1
 subst hl hv' hu hl2 hsp hsv h16 hp1
 rw [hv,qjf hp] at ha
 obtain ⟨⟨xs,hxs⟩,zs,hzs⟩:=qhh ha
 obtain ⟨m,hks⟩:=Sl.valN_den (hi1 _ _ hxs)
 obtain ⟨xu,zs1,hxu,hzs1,rfl⟩:=denL_cons.1 hzs
 obtain ⟨⟨xt,hxt⟩,zs2,hzs2⟩:=qhh hzs1
 obtain ⟨m2,_,hts⟩:=Sl.val_den (hi2 _ _ hxt)
 have h2:SV.denL β [.agg [.int .i64 (.sym sp'.den),.int .i64 (.sym sv'.den),(t.pl m2).val tn]]=some zs1:=q3g hzs1 (fun x hx=>by rw [hxt] at hx; cases hx; exact hts) (qla rfl) (qla rfl)
 have h1:SV.denL β [.agg [.int .i64 (.lit 1),.int .i64 (.sym v'.den),(k.pl m).valN kn 16],.int .i64 (.sym u.den),.agg [.int .i64 (.sym sp'.den),.int .i64 (.sym sv'.den),(t.pl m2).val tn]]=some vs:=by
  have h1:=q3g (s':=(k.pl m).valN kn 16) (p':=.int .i64 (.lit 1)) (v':=.int .i64 (.sym v'.den)) ha (fun x hx=>by rw [hxs] at hx; cases hx; exact hks) (.refl _) (qla rfl)
  obtain ⟨xa,ws,hxa,hws,rfl⟩:=denL_cons.1 h1
  refine denL_cons.2 ⟨_,_,hxa,?_,rfl⟩
  rw [hzs] at hws
  cases hws
  exact denL_cons.2 ⟨_,_,qla rfl _ _ hxu,h2,rfl⟩
 have key:∀ {ds cs e},outO [] (opT v'.den u.den sp'.den sv'.den (k.pl m) (t.pl m2)) ds=(opC v'.den u.den cs,some (opV e,[]))->(∀ q∈cs,q)->q4a Tryz.prog H β w base 8 vs ⟨opV e,[],[]⟩:=by
  intro ds cs e hr hc
  refine qqb jpq rfl 4000 hH ⟨[kn,tn],[k.row,t.row],[.agg [.int .i64 (.lit 1),.int .i64 (.sym v'.den),(k.pl m).valN 0 16],.int .i64 (.sym u.den),.agg [.int .i64 (.sym sp'.den),.int .i64 (.sym sv'.den),(t.pl m2).val 1]]⟩ ?_ (Ifc.fits (q2g hd) rfl ⟨⟨ht1 _,k.row_uses _⟩,⟨ht2 _,t.row_uses _⟩,trivial⟩) [] (by simp) (by simp) hr (all_cons (decide_eq_true hv1) (all_cons (decide_eq_true hv2) (all_cons (decide_eq_true hu1) (all_cons (decide_eq_true hu2) hc)))) fun _ _=>qkb rfl rfl rfl
  show SV.denL β [.agg [.int .i64 (.lit 1),.int .i64 (.sym v'.den),((k.pl m).valN 0 16).ren _],.int .i64 (.sym u.den),.agg [.int .i64 (.sym sp'.den),.int .i64 (.sym sv'.den),((t.pl m2).val 1).ren _]]=_
  rw [Sl.valN_ren,Sl.val_ren]
  exact h1
 refine q1c (fun hs1 => ?_) fun hs1 => ?_
 . have e1:(sp'.den != 1)=false:=by rw [hs1]; rfl
   cases sv' with
   | lit a =>
     cases v' with
     | lit b =>
       refine qna (fun hab=>fun ht => ?_) fun hab=>qna (fun _=>trivial) fun ha0=>qna (fun _=>trivial) fun hb0 => ?_
       . have hab:=qhm hab
         subst hab
         have e2:((SI.lit a).den != (SI.lit a).den)=false:=by simp
         exact key (j2i (SI.lit a).den u.den sp'.den (SI.lit a).den k t m m2) (all_cons e1 (all_cons e2 (all_cons e2 (all_cons e2 (all_cons e2 (all_cons ⟨by omega,by omega⟩ (all_cons (decide_eq_true (by omega)) qaa)))))))
       . have ne:∀ {x y:Int},eqI x y=false->(x != y)=true:=fun {x y} h=>by
          rw [bne_iff_ne]
          intro e
          subst e
          rw [qqi] at h
          simp at h
         exact key (jrq (SI.lit b).den u.den sp'.den (SI.lit a).den k t m m2) (all_cons e1 (all_cons (ne hab) (all_cons (ne ha0) (all_cons (ne hb0) qaa))))
     | sym b=>trivial
     | b8 b=>trivial
     | b32 b=>trivial
     | b64 b=>trivial
   | sym a=>trivial
   | b8 a=>trivial
   | b32 a=>trivial
   | b64 a=>trivial
 . exact key (jqq v'.den u.den sp'.den sv'.den k t m m2) (q8d (by rw [bne_iff_ne]; exact hs1) 10)
end
noncomputable section
open Go.Sim
open Go.Proofs
variable {α:Type}
set_option maxRecDepth 1000000
def strS (t:Sl):ByteArray:=q2i (qea t.X) t.o t.n
theorem strS_iff {x y:Sl}:strS x=strS y↔SlEq x y:=by
 constructor
 . intro h
   have h1:=congrArg (fun b:ByteArray=>b.data.toList) h
   simp only [strS,q2i,List.toList_toArray] at h1
   have hl:x.n=y.n:=by simpa using congrArg List.length h1
   refine ⟨hl,fun i hi => ?_⟩
   have h2:=congrArg (fun l:List UInt8=>l[i]?) h1
   simp only [List.getElem?_map,List.getElem?_range hi,List.getElem?_range (show i<y.n by omega),Option.map_some,Option.some.injEq] at h2
   have h3:UInt8.ofNat (((x.X (x.o+i)).toNat:Int)).toNat=UInt8.ofNat (((y.X (y.o+i)).toNat:Int)).toNat:=h2
   rw [Int.toNat_natCast,Int.toNat_natCast] at h3
   have h4:=congrArg UInt8.toNat h3
   rw [UInt8.toNat_ofNat',UInt8.toNat_ofNat'] at h4
   have a:=(x.X (x.o+i)).isLt
   have b:=(y.X (y.o+i)).isLt
   exact BitVec.eq_of_toNat_eq (by omega)
 . rintro ⟨hl,h⟩
   unfold strS q2i
   rw [← hl]
   congr 2
   apply List.map_congr_left
   intro i hi
   show UInt8.ofNat (((x.X (x.o+i)).toNat:Int)).toNat=UInt8.ofNat (((y.X (y.o+i)).toNat:Int)).toNat
   rw [h i (by simpa using hi)]
def rdC (x:Sl):Prop:=x.o+x.n<=x.N/\∀ i:Nat,i<x.N->True
theorem j2e {x:Sl} (h:okL x):rdC x:=⟨h.1,fun _ _=>trivial⟩
section
variable (p v p' v':Int) (x y:Sl) (m m2:Nat)
end
end
noncomputable section
open Go.Sim
open Go.Proofs
variable {α:Type}
set_option maxRecDepth 1000000
def lnR (n:Int):R SumRes:=.ok ⟨.int .i64 (.lit n),[],[]⟩
def lnS (a b:Int):Summ:=fun args _ _=>qgd args fun pv=>i64O pv fun p=>isI p 1 (lnR a) (isI p 2 (lnR b) (lnR 0))
theorem lnOK {f:FuncId} {a b:Int} (h:∀ p:Int,outO [] (qca cfgF 400 f [.int .i64 (.sym p)] []) [true]=([(p == 1)=true],some (.int .i64 (.lit a),[]))) (h2:∀ p:Int,outO [] (qca cfgF 400 f [.int .i64 (.sym p)] []) [false,true]=([(p == 1)=false,(p == 2)=true],some (.int .i64 (.lit b),[]))) (h0:∀ p:Int,outO [] (qca cfgF 400 f [.int .i64 (.sym p)] []) [false,false]=([(p == 1)=false,(p == 2)=false],some (.int .i64 (.lit 0),[]))):q3a Tryz.prog f (lnS a b):=by
 intro glob O w0 β H w base args vs hH hG ha
 refine qub fun pv hv=>q2a fun p hp => ?_
 subst hv hp
 have ha':SV.denL β [.int .i64 (.sym p.den)]=some vs:=q2m ha (qla rfl)
 have key:∀ {ds cs n},outO [] (qca cfgF 400 f [.int .i64 (.sym p.den)] []) ds=(cs,some (.int .i64 (.lit n),[]))->(∀ q∈cs,q)->q4a Tryz.prog H β w base f vs ⟨.int .i64 (.lit n),[],[]⟩:=by
  intro ds cs n hr hc
  exact qqb q9r rfl 400 hH ⟨[],[],[.int .i64 (.sym p.den)]⟩ ha' (q5c rfl) [] (by simp) (by simp) hr hc fun _ _=>qkb rfl rfl rfl
 refine q1c (fun h1=>key (h _) (all_cons (by simp [h1]) qaa)) fun h1=>q1c (fun h2'=>key (h2 _) (all_cons (by simp [h1]) (all_cons (by simp [h2']) qaa))) fun h2'=>key (h0 _) (all_cons (by simp [h1]) (all_cons (by simp [h2']) qaa))
end
noncomputable section
open Go.Sim
open Go.Proofs
variable {α:Type}
set_option maxRecDepth 1000000
theorem jsq:q3a Tryz.prog 66 numS:=qu9 fun u=>by kernel_rfl
theorem q99:q3a Tryz.prog 24 (lnS 16 32):=lnOK (fun p=>by kernel_rfl) (fun p=>by kernel_rfl) fun p=>by kernel_rfl
def jrm (F:HashF):Cfg:=cfgG qud (qbb [(36,rhmS F),(66,numS),(24,lnS 16 32)])
theorem jtq:CfgOK (jrm shaF):=qwb (allS q89 (allS (jsq _) (allS (q99 _) (by simp))))
def rdT (F:HashF) (i n:Nat) (v u:Int) (k:Sl) (x:BitVec 8):Tree:=qca (jrm F) 8000 19 [.agg [.int .i64 (.lit i),.int .i64 (.sym v),k.valN 4 n],.int .i64 (.sym u),.int .u8 (.b8 x)] (shaH [k.row])
def rdM (u:Int) (x:BitVec 8) (n:Int):List (BitVec 8):=app (num4 1) (0#8::0#8::BitVec.ofInt 8 (IntKind.i64.wrap (u.tdiv 256))::BitVec.ofInt 8 (u.tmod 256)::x::0#8::num4 (8 * n))
def rdS (u:Int) (x:BitVec 8) (n:Int):Sl:=⟨qba (rdM u x n),14,0,14,true,0⟩
def rdL (F:HashF) (k:Sl) (n:Nat) (u:Int) (x:BitVec 8):List (BitVec 8):=tabB (qba (tagS F (k.len n) (rdS u x n))) 32
def rdvC (k:Sl) (n:Nat) (u:Int) (x:BitVec 8):List Prop:=[IsB (qea k.X),k.o+n<=k.N/\okL (rdS u x n)/\14<=1099511627712]
section
variable (F:HashF) (v u:Int) (k:Sl) (x:BitVec 8) (m:Nat)
theorem rd_16:outO [14] (rdT F 1 16 v u (k.pl m) x) []=(rdvC k 16 u x,some (deV 14 16,[some (.own (.lst (bx (rdL F k 16 u x))) false 5)])):=by kernel_rfl
theorem rd_32:outO [14] (rdT F 2 32 v u (k.pl m) x) []=(rdvC k 32 u x,some (deV 14 32,[some (.own (.lst (bx (rdL F k 32 u x))) false 5)])):=by kernel_rfl
end
def rdeS (F:HashF) (i:Nat):Summ:=fun args H base=>qoc args fun kv uv xv=>kv.asAgg (.stuck 862) fun l=>qoc l fun p v s=>i64O p fun p=>i64O v fun _=>i64O uv fun u=>optC (unb1 xv) (.stuck 862) fun x=>shaT H (qoi H s fun k _ n=>boolC (Nat.beq n (tagN i)) (.need (p.den=(i:Int)/\k.o+n<=k.N) (.ok ⟨deV base (tagN i),[],[.own (.lst (bx (rdL F k (tagN i) u.den x))) false 5]⟩)) (.stuck 862))
theorem j3i {p:Nat->Bool} {i:Int} {n:Nat} {v u:Int} {k:Sl} {x:BitVec 8} (h4:p 4=true):SV.usesL p [.agg [.int .i64 (.lit i),.int .i64 (.sym v),k.valN 4 n],.int .i64 (.sym u),.int .u8 (.b8 x)]=true:=by
 show ((true && (true && ((k.valN 4 n).uses p && true))) && (true && (true && true)))=true
 rw [Sl.valN_uses _ _ _ _ h4]; rfl
theorem jsm {i:Nat} (hi12:i=1\/i=2):SumAt Tryz.prog qud 19 (rdeS shaF i):=by
 intro O w0 β H w base args vs hH hG ha
 refine qcb fun kv uv xv hv => ?_
 rcases qmc kv with ⟨l,rfl⟩ | hno
 case inr=>rw [hno]; trivial
 refine qcb fun p v s hl=>q2a fun p' hp=>q2a fun v' hv'=>q2a fun u hu=>qja fun x hx=>qzg fun hT=>q6e fun k kn n hn1 ht1 hi1 hkn=>qfa fun hnt=>fun ⟨hpi,hle⟩ => ?_
 have hnt:=qpa hnt
 subst hl hp hv' hu hnt
 rw [hv] at ha
 obtain ⟨⟨xs,hxs⟩,zs,hzs⟩:=qhh ha
 obtain ⟨m,hks⟩:=Sl.valN_den (hi1 _ _ hxs)
 have h1:=q3g (s':=(k.pl m).valN kn (tagN i)) (p':=.int .i64 (.lit i)) (v':=.int .i64 (.sym v'.den)) ha (fun z hz=>by rw [hxs] at hz; cases hz; exact hks) (qla hpi) (qla rfl)
 obtain ⟨xa,ws,hxa,hws,rfl⟩:=denL_cons.1 h1
 rw [hzs] at hws
 cases hws
 have ha':SV.denL β [.agg [.int .i64 (.lit i),.int .i64 (.sym v'.den),(k.pl m).valN kn (tagN i)],.int .i64 (.sym u.den),.int .u8 (.b8 x)]=some (xa::zs):=denL_cons.2 ⟨_,_,hxa,qoa (qla rfl) (qoa (qtg hx) q9b) _ _ hzs,rfl⟩
 have key:outO [14] (rdT shaF i (tagN i) v'.den u.den (k.pl m) x) []=(rdvC k (tagN i) u.den x,some (deV 14 (tagN i),[some (.own (.lst (bx (rdL shaF k (tagN i) u.den x))) false 5)]))->q4a Tryz.prog H β w base 19 (xa::zs) ⟨deV base (tagN i),[],[.own (.lst (bx (rdL shaF k (tagN i) u.den x))) false 5]⟩:=by
  intro hr
  refine qka jtq 8000 hH (shaI [kn] [k.row] [.agg [.int .i64 (.lit i),.int .i64 (.sym v'.den),(k.pl m).valN 4 (tagN i)],.int .i64 (.sym u.den),.int .u8 (.b8 x)]) (qae hG) ?_ (Ifc.fits (nd5 hn1) ?_ (q5e hT ⟨⟨ht1 _,k.row_uses _⟩,trivial⟩)) [14] (by simp [shaI]) (by simp) hr (all_cons (qda _) (all_cons ⟨hle,⟨by show 0+14<=14; omega,by show 14<=_; omega⟩,by omega⟩ qaa)) fun H2 hH2=>qx9 rfl rfl (List.cons.inj hH2).1 rfl
  . show SV.denL β [.agg [.int .i64 (.lit i),.int .i64 (.sym v'.den),((k.pl m).valN 4 (tagN i)).ren _],.int .i64 (.sym u.den),.int .u8 (.b8 x)]=_
    rw [Sl.valN_ren]; exact ha'
  . exact j3i rfl
 rcases hi12 with rfl | rfl
 . exact key (rd_16 shaF v'.den u.den k x m)
 . exact key (rd_32 shaF v'.den u.den k x m)
theorem j4u {u:Int} (h1:1<=u) (h2:u<=1023):num4 u=[0#8,0#8,BitVec.ofInt 8 (IntKind.i64.wrap (u.tdiv 256)),BitVec.ofInt 8 (u.tmod 256)]:=by
 have e0:u.fdiv (2 ^ 24)=0:=by rw [Int.fdiv_eq_ediv_of_nonneg _ (by omega)]; omega
 have e1:u.fdiv (2 ^ 16)=0:=by rw [Int.fdiv_eq_ediv_of_nonneg _ (by omega)]; omega
 have e2:u.fdiv (2 ^ 8)=IntKind.i64.wrap (u.tdiv 256):=by
  rw [Int.fdiv_eq_ediv_of_nonneg _ (by omega),Int.tdiv_eq_ediv_of_nonneg (by omega),IntKind.wrap_i64]
  omega
 have e3:BitVec.ofInt 8 u=BitVec.ofInt 8 (u.tmod 256):=by
  apply BitVec.eq_of_toInt_eq
  rw [BitVec.toInt_ofInt,BitVec.toInt_ofInt,Int.tmod_eq_emod_of_nonneg (by omega)]
  simp only [Int.bmod_def]
  omega
 unfold num4
 rw [e0,e1,e2,← e3]
 rfl
theorem j5u {u:Int} {x:BitVec 8} {n:Nat} (h1:1<=u) (h2:u<=1023):∀ {j:Nat},j<14->(rdS u x n).F j=kdfM (lblS u x) n j:=by
 intro j hj
 show qba (rdM u x n) (0+j)=four (slL (num4 1)) ⟨two (slL (num4 u)) (slL [x]),4+1,0,4+1,true,0⟩ (slL [0#8]) (slL (num4 (8 * (n:Int)))) j
 rw [j4u h1 h2,Nat.zero_add]
 match j,hj with
 | 0,_=>rfl
 | 1,_=>rfl
 | 2,_=>rfl
 | 3,_=>rfl
 | 4,_=>rfl
 | 5,_=>rfl
 | 6,_=>rfl
 | 7,_=>rfl
 | 8,_=>rfl
 | 9,_=>rfl
 | 10,_=>rfl
 | 11,_=>rfl
 | 12,_=>rfl
 | 13,_=>rfl
theorem rd_eq {k:Sl} {u:Int} {x:BitVec 8} {n:Nat} (h1:1<=u) (h2:u<=1023):tagS shaF (k.len n) (rdS u x n)=kdfB shaF (k.len n).F n (lblS u x) n:=by
 unfold tagS kdfB
 exact q4g fun i hi=>j5u h1 h2 hi
theorem j3e {k:Sl} {u:Int} {x:BitVec 8} {n:Nat} (h1:1<=u) (h2:u<=1023) (hn:n<=32) {i:Nat} (hi:i<n):qba (rdL shaF k n u x) i=(dkS shaF k n u x).F i:=by
 unfold rdL
 rw [rd_eq h1 h2,qqc (by omega)]
 show _=qba (tabB (qba (kdfB shaF (k.len n).F n (lblS u x) n)) n) (0+i)
 rw [Nat.zero_add,qqc hi]
theorem qy3 {k k' c:Sl} (h:SlEq k k') (h64:k.n<=64):tagS shaF k c=tagS shaF k' c:=by
 have hk:keyP shaF k.F k.n=keyP shaF k'.F k'.n:=by
  funext i
  unfold keyP
  have h1:k.n=k'.n:=h.1
  have h64':k'.n<=64:=by omega
  rw [if_pos h64,if_pos h64']
  by_cases c:i<k.n
  . have c':i<k'.n:=by omega
    rw [if_pos c,if_pos c']; exact h.2 i c
  . have c':¬ i<k'.n:=by omega
    rw [if_neg c,if_neg c']
 unfold tagS macB xorP
 rw [hk]
end
noncomputable section
open Go.Sim
open Go.Proofs
variable {α:Type}
set_option maxRecDepth 1000000
section
variable (p v p' v':Int) (x y:Sl) (m m2:Nat)
end
section
variable (p v p' v':Int) (x y:Sl) (m m2:Nat)
end
end
noncomputable section
open Go.Sim
open Go.Proofs
variable {α:Type}
set_option maxRecDepth 1000000
def lenQ (v:SV) (f:Nat->R α):R α:=valS v (qob v (f 0) fun _ l=>f l.den) f
theorem qpm {v:SV} {f:Nat->R α} {φ:α->Prop} (h:∀ n,(∀ β x,v.den β=some x->∃ y m,x=.slice y n m)->(f n).Sat φ):(lenQ v f).Sat φ:=by
 unfold lenQ
 refine qqp (qxa (fun hn=>h 0 fun β x hx => ?_) fun a l c hs=>h _ fun β x hx => ?_) fun p n c hv=>h n fun β x hx => ?_
 . subst hn; cases hx; exact ⟨_,_,rfl⟩
 . subst hs
   simp only [SV.den,Option.bind_eq_some_iff] at hx
   obtain ⟨y,_,m,_,hs⟩:=hx
   unfold q5l at hs
   by_cases hl:l.den<=m
   . rw [if_pos hl] at hs
     cases hs
     exact ⟨_,_,rfl⟩
   . rw [if_neg hl] at hs; cases hs
 . subst hv; cases hx; exact ⟨_,_,rfl⟩
def keyN (kv:SV) (f:SI->SI->Nat->R α):R α:=kv.asAgg (.stuck 834) fun l=>qoc l fun p v s=>i64O p fun p=>i64O v fun v=>lenQ s fun n=>f p v n
theorem qrf {kv:SV} {f:SI->SI->Nat->R α} {φ:α->Prop} (h:∀ p v s n,kv=.agg [.int .i64 p,.int .i64 v,s]->(∀ β x,s.den β=some x->∃ y m,x=.slice y n m)->(f p v n).Sat φ):(keyN kv f).Sat φ:=by
 unfold keyN
 rcases qmc kv with ⟨l,rfl⟩ | hno
 case inr=>rw [hno]; trivial
 refine qcb fun p v s hl=>q2a fun p' hp=>q2a fun v' hv'=>qpm fun n hn => ?_
 subst hl hp hv'
 exact h _ _ _ _ rfl hn
def kyV (p v:Int) (y:Option Addr) (n m:Nat):SV:=fdK p v (.val (.slice y n m))
theorem qsf {β:Val} {p v:SI} {s:SV} {n:Nat} {ys:List SV} {vs:List Value} (h:SV.denL β (.agg [.int .i64 p,.int .i64 v,s]::ys)=some vs) (hs:∀ β x,s.den β=some x->∃ y m,x=.slice y n m):∃ y m,SV.denL β (kyV p.den v.den y n m::ys)=some vs:=by
 obtain ⟨⟨xs,hxs⟩,_⟩:=qhh h
 obtain ⟨y,m,rfl⟩:=hs _ _ hxs
 exact ⟨y,m,q3g h (fun x hx=>by rw [hxs] at hx; cases hx; rfl) (qla rfl) (qla rfl)⟩
def fvT (p v:Int) (y:Option Addr) (l m:Nat):Tree:=qca cfgF 400 29 [kyV p v y l m] []
section
variable (p v:Int) (y:Option Addr) (l m:Nat)
theorem juq:outO [] (fvT p v y l m) [false,false]=([(p == 1)=false,(p == 2)=false],fdV kv0 (.lit false)):=by kernel_rfl
theorem jvq:outO [] (fvT p v y l m) [true,false,false,false,false]=([(p == 1)=true,((l:Int) == 16)=false,((l:Int) == 16)=false,((l:Int) == 16)=false,((l:Int) == 16)=false],fdV kv1 (.lit false)):=by kernel_rfl
theorem jwq:outO [] (fvT p v y l m) [true,true,false,false,false,false]=([(p == 1)=true,((l:Int) == 16)=true,decide (v>=0)=false,decide (v>=0)=false,decide (v>=0)=false,decide (v>=0)=false],fdV kv1 (.lit false)):=by kernel_rfl
theorem j6u:outO [] (fvT p v y l m) [true,true,true]=([(p == 1)=true,((l:Int) == 16)=true,decide (v>=0)=true],fdV kv1 (.sym (decide (v<=65535)))):=by kernel_rfl
theorem jxq:outO [] (fvT p v y l m) [false,true,false,false,false,false]=([(p == 1)=false,(p == 2)=true,((l:Int) == 32)=false,((l:Int) == 32)=false,((l:Int) == 32)=false,((l:Int) == 32)=false],fdV kv2 (.lit false)):=by kernel_rfl
theorem jyq:outO [] (fvT p v y l m) [false,true,true,false,false,false,false]=([(p == 1)=false,(p == 2)=true,((l:Int) == 32)=true,decide (v>=0)=false,decide (v>=0)=false,decide (v>=0)=false,decide (v>=0)=false],fdV kv2 (.lit false)):=by kernel_rfl
theorem j7u:outO [] (fvT p v y l m) [false,true,true,true]=([(p == 1)=false,(p == 2)=true,((l:Int) == 32)=true,decide (v>=0)=true],fdV kv2 (.sym (decide (v<=65535)))):=by kernel_rfl
end
def fdQS (i:Nat) (b:Bool):Summ:=fun args _ _=>qgd args fun kv=>keyN kv fun p v l=>.need (kdOf p.den=i/\(q6f p.den v.den l↔b=true)) (fdR (kvI i) b)
theorem fdQOK {i:Nat} {b:Bool}:q3a Tryz.prog 29 (fdQS i b):=by
 intro glob O w0 β H w base args vs hH hG ha
 refine qub fun kv hv=>qrf fun p v s n hk hs=>fun ⟨hi,hb⟩ => ?_
 subst hv hk
 obtain ⟨y,m,ha'⟩:=qsf ha hs
 have h0:=fun g p=>(qef g p).1
 have h1:=fun g p=>(qef g p).2.1
 have h2:=fun g p=>(qef g p).2.2
 have key:∀ {ds cs k b c},outO [] (fvT p.den v.den y n m) ds=(cs,fdV k b)->(∀ q∈cs,q)->(∀ g p,k.ren g=k/\k.uses p=true)->b.den=c->q4a Tryz.prog H β w base 29 vs ⟨.tuple [k,.bool (.lit c)],[],[]⟩:=by
  intro ds cs k b c hr hc hk hb
  exact qqb q9r rfl 400 hH ⟨[],[],[kyV p.den v.den y n m]⟩ ha' (q5c rfl) [] (by simp) (by simp) hr hc fun H2 _=>qt9 rfl hk hb H2
 have f4:∀ {q:Prop},q->∀ p∈[q,q,q,q],p:=fun h=>all_cons h (all_cons h (all_cons h (all_cons h qaa)))
 show q4a Tryz.prog H β w base 29 vs ⟨.tuple [kvI i,.bool (.lit b)],[],[]⟩
 unfold kdOf at hi
 unfold q6f at hb
 by_cases hp:p.den=1
 . rw [if_pos hp] at hi
   subst hi
   have e1:(p.den == 1)=true:=by simp [hp]
   by_cases hl:n=16
   . have e2:((n:Int) == 16)=true:=by rw [hl]; rfl
     by_cases hg:0<=v.den
     . refine key (j6u p.den v.den y n m) (all_cons e1 (all_cons e2 (all_cons (decide_eq_true hg) qaa))) h1 ?_
       show decide (v.den<=65535)=b
       by_cases hle:v.den<=65535
       . rw [decide_eq_true hle,hb.1 ⟨.inl ⟨hp,hl⟩,hg,hle⟩]
       . rw [decide_eq_false hle]
         cases b with
         | false=>rfl
         | true=>exact absurd (hb.2 rfl).2.2 hle
     . obtain rfl:b=false:=by
        cases b with
        | false=>rfl
        | true=>exact absurd (hb.2 rfl).2.1 hg
       exact key (jwq p.den v.den y n m) (all_cons e1 (all_cons e2 (f4 (decide_eq_false hg)))) h1 rfl
   . obtain rfl:b=false:=by
      cases b with
      | false=>rfl
      | true=>rcases (hb.2 rfl).1 with h | h <;> omega
     exact key (jvq p.den v.den y n m) (all_cons e1 (f4 (by rw [beq_eq_false_iff_ne]; omega))) h1 rfl
 . rw [if_neg hp] at hi
   have e1:(p.den == 1)=false:=by simp [hp]
   by_cases hp2:p.den=2
   . rw [if_pos hp2] at hi
     subst hi
     have e3:(p.den == 2)=true:=by simp [hp2]
     by_cases hl:n=32
     . have e2:((n:Int) == 32)=true:=by rw [hl]; rfl
       by_cases hg:0<=v.den
       . refine key (j7u p.den v.den y n m) (all_cons e1 (all_cons e3 (all_cons e2 (all_cons (decide_eq_true hg) qaa)))) h2 ?_
         show decide (v.den<=65535)=b
         by_cases hle:v.den<=65535
         . rw [decide_eq_true hle,hb.1 ⟨.inr ⟨hp2,hl⟩,hg,hle⟩]
         . rw [decide_eq_false hle]
           cases b with
           | false=>rfl
           | true=>exact absurd (hb.2 rfl).2.2 hle
       . obtain rfl:b=false:=by
          cases b with
          | false=>rfl
          | true=>exact absurd (hb.2 rfl).2.1 hg
         exact key (jyq p.den v.den y n m) (all_cons e1 (all_cons e3 (all_cons e2 (f4 (decide_eq_false hg))))) h2 rfl
     . obtain rfl:b=false:=by
        cases b with
        | false=>rfl
        | true=>rcases (hb.2 rfl).1 with h | h <;> omega
       exact key (jxq p.den v.den y n m) (all_cons e1 (all_cons e3 (f4 (by rw [beq_eq_false_iff_ne]; omega)))) h2 rfl
   . rw [if_neg hp2] at hi
     subst hi
     obtain rfl:b=false:=by
      cases b with
      | false=>rfl
      | true=>rcases (hb.2 rfl).1 with h | h <;> omega
     exact key (juq p.den v.den y n m) (all_cons e1 (all_cons (by simp [hp2]) qaa)) h0 rfl
def jtm (i:Nat) (b:Bool):Cfg:=qle (qbb [(29,fdQS i b)])
theorem qj6 {i:Nat} {b:Bool}:CfgOK (jtm i b):=q8b (all1 fdQOK)
def uqT (i:Nat) (b:Bool) (p v u:Int) (y:Option Addr) (l m:Nat):Tree:=qca (jtm i b) 400 15 [kyV p v y l m,.int .i64 (.sym u)] []
def fdP (i:Nat) (p v:Int) (l:Nat) (b:Bool):Prop:=kdOf p=i/\(q6f p v l↔b=true)
section
variable (p v u:Int) (y:Option Addr) (l m:Nat)
theorem j8u:outO [] (uqT 0 false p v u y l m) []=([fdP 0 p v l false],some (usV kv0 2,[])):=by kernel_rfl
theorem j9u:outO [] (uqT 1 false p v u y l m) []=([fdP 1 p v l false],some (usV kv0 2,[])):=by kernel_rfl
theorem jav:outO [] (uqT 2 false p v u y l m) []=([fdP 2 p v l false],some (usV kv0 2,[])):=by kernel_rfl
theorem jbv:outO [] (uqT 1 true p v u y l m) [true,true,true]=([fdP 1 p v l true,decide (u<1)=true,decide (u<1)=true,decide (u<1)=true],some (usV kv0 2,[])):=by kernel_rfl
theorem jcv:outO [] (uqT 1 true p v u y l m) [false,true]=([fdP 1 p v l true,decide (u<1)=false,decide (u > 1023)=true],some (usV kv0 2,[])):=by kernel_rfl
theorem jdv:outO [] (uqT 1 true p v u y l m) [false,false]=([fdP 1 p v l true,decide (u<1)=false,decide (u > 1023)=false],some (usV kv1 0,[])):=by kernel_rfl
theorem jev:outO [] (uqT 2 true p v u y l m) [true,true,true]=([fdP 2 p v l true,decide (u<1)=true,decide (u<1)=true,decide (u<1)=true],some (usV kv0 2,[])):=by kernel_rfl
theorem jfv:outO [] (uqT 2 true p v u y l m) [false,true]=([fdP 2 p v l true,decide (u<1)=false,decide (u > 1023)=true],some (usV kv0 2,[])):=by kernel_rfl
theorem jgv:outO [] (uqT 2 true p v u y l m) [false,false]=([fdP 2 p v l true,decide (u<1)=false,decide (u > 1023)=false],some (usV kv2 0,[])):=by kernel_rfl
end
theorem qz3 {p v:Int} {l:Nat} (h:q6f p v l):(p=1/\l=16/\kdOf p=1)\/(p=2/\l=32/\kdOf p=2):=by
 rcases h.1 with ⟨rfl,h1⟩ | ⟨rfl,h1⟩
 . exact .inl ⟨rfl,h1,rfl⟩
 . exact .inr ⟨rfl,h1,rfl⟩
def uqE:Summ:=fun args _ _=>qdd args fun kv uv=>keyN kv fun p v l=>i64O uv fun u=>.need (¬ usQ p.den v.den u.den l) (usR kv0 2)
def uqS (i:Int) (k:SV):Summ:=fun args _ _=>qdd args fun kv uv=>keyN kv fun p v l=>i64O uv fun u=>.need (p.den=i/\usQ p.den v.den u.den l) (usR k 0)
theorem uqEOK:q3a Tryz.prog 15 uqE:=by
 intro glob O w0 β H w base args vs hH hG ha
 refine qnb fun kv uv hv=>qrf fun p v s n hk hs=>q2a fun u hu=>fun hq => ?_
 subst hv hk hu
 obtain ⟨y,m,ha'⟩:=qsf ha hs
 have ha2:SV.denL β [kyV p.den v.den y n m,.int .i64 (.sym u.den)]=some vs:=qoa (.refl _) (qoa (qla rfl) q9b) _ _ ha'
 have h0:=fun g p=>(qef g p).1
 have key:∀ {i b ds cs},outO [] (uqT i b p.den v.den u.den y n m) ds=(cs,some (usV kv0 2,[]))->(∀ q∈cs,q)->q4a Tryz.prog H β w base 15 vs ⟨usV kv0 2,[],[]⟩:=by
  intro i b ds cs hr hc
  exact qqb qj6 rfl 400 hH ⟨[],[],[kyV p.den v.den y n m,.int .i64 (.sym u.den)]⟩ ha2 (q5c rfl) [] (by simp) (by simp) hr hc fun H2 _=>q60 rfl h0 H2
 have t1:∀ {q:Prop},q->∀ p∈[q,q,q],p:=fun h=>all_cons h (all_cons h (all_cons h qaa))
 by_cases hval:q6f p.den v.den n
 . have hu:¬ (1<=u.den/\u.den<=1023):=fun h=>hq ⟨hval,h⟩
   have ht:q6f p.den v.den n↔true=true:=⟨fun _=>rfl,fun _=>hval⟩
   rcases qz3 hval with ⟨_,_,hi⟩ | ⟨_,_,hi⟩
   . by_cases h1:u.den<1
     . exact key (jbv p.den v.den u.den y n m) (all_cons ⟨hi,ht⟩ (t1 (decide_eq_true h1)))
     . exact key (jcv p.den v.den u.den y n m) (all_cons ⟨hi,ht⟩ (all_cons (decide_eq_false h1) (all_cons (decide_eq_true (by omega)) qaa)))
   . by_cases h1:u.den<1
     . exact key (jev p.den v.den u.den y n m) (all_cons ⟨hi,ht⟩ (t1 (decide_eq_true h1)))
     . exact key (jfv p.den v.den u.den y n m) (all_cons ⟨hi,ht⟩ (all_cons (decide_eq_false h1) (all_cons (decide_eq_true (by omega)) qaa)))
 . have hf:q6f p.den v.den n↔false=true:=⟨fun h=>absurd h hval,fun h=>by cases h⟩
   rcases q59 p.den with h | h | h
   . exact key (j8u p.den v.den u.den y n m) (all_cons ⟨h,hf⟩ qaa)
   . exact key (j9u p.den v.den u.den y n m) (all_cons ⟨h,hf⟩ qaa)
   . exact key (jav p.den v.den u.den y n m) (all_cons ⟨h,hf⟩ qaa)
theorem uqOK {i:Int} {k:SV} (hik:(i=1/\k=kv1)\/(i=2/\k=kv2)):q3a Tryz.prog 15 (uqS i k):=by
 intro glob O w0 β H w base args vs hH hG ha
 refine qnb fun kv uv hv=>qrf fun p v s n hk hs=>q2a fun u hu=>fun ⟨hpi,hval,h1,h2⟩ => ?_
 subst hv hk hu
 obtain ⟨y,m,ha'⟩:=qsf ha hs
 have ha2:SV.denL β [kyV p.den v.den y n m,.int .i64 (.sym u.den)]=some vs:=qoa (.refl _) (qoa (qla rfl) q9b) _ _ ha'
 have e1:=fun g p=>(qef g p).2.1
 have e2:=fun g p=>(qef g p).2.2
 have ht:q6f p.den v.den n↔true=true:=⟨fun _=>rfl,fun _=>hval⟩
 have key:∀ {i b ds cs k},outO [] (uqT i b p.den v.den u.den y n m) ds=(cs,some (usV k 0,[]))->(∀ q∈cs,q)->(∀ g p,k.ren g=k/\k.uses p=true)->q4a Tryz.prog H β w base 15 vs ⟨usV k 0,[],[]⟩:=by
  intro i b ds cs k hr hc hk
  exact qqb qj6 rfl 400 hH ⟨[],[],[kyV p.den v.den y n m,.int .i64 (.sym u.den)]⟩ ha2 (q5c rfl) [] (by simp) (by simp) hr hc fun H2 _=>q60 rfl hk H2
 have hu:∀ {q:Prop},q->∀ p∈[q,decide (u.den<1)=false,decide (u.den > 1023)=false],p:=fun h=>all_cons h (all_cons (decide_eq_false (by omega)) (all_cons (decide_eq_false (by omega)) qaa))
 rcases qz3 hval with ⟨hp,_,hi⟩ | ⟨hp,_,hi⟩
 . rcases hik with ⟨rfl,rfl⟩ | ⟨rfl,rfl⟩
   . exact key (jdv p.den v.den u.den y n m) (hu ⟨hi,ht⟩) e1
   . rw [hp] at hpi; cases hpi
 . rcases hik with ⟨rfl,rfl⟩ | ⟨rfl,rfl⟩
   . rw [hp] at hpi; cases hpi
   . exact key (jgv p.den v.den u.den y n m) (hu ⟨hi,ht⟩) e2
section
variable (b:Bool) (p v:Int) (y:Option Addr) (l m:Nat)
end
end
noncomputable section
open Go.Sim
open Go.Proofs
variable {α:Type}
set_option maxRecDepth 1000000
def cfgX (F:HashF) (E:CtsF):Cfg:=cfgG q3b (qbb [(29,qs9),(15,qgt),(26,qp3),(28,jem),(6,jhm F E),(8,jqm)])
theorem jhv:CfgOK (cfgX shaF encF):=qwb (allS (jve _) (allS (qhq _) (allS (qd6 _) (allS (jpu _) (allS jwu (allS (j3u _) (by simp)))))))
def knT (F:HashF) (E:CtsF):Tree:=qca (cfgX F E) 5000 5 [] (qpc [])
def kaS (n:Nat):Sl:=⟨fun i=>qba (repN 0#8 n) (0+i),n,0,n,true,0⟩
def qso:Sl:=⟨qba [104#8,101#8,108#8,108#8,111#8],5,0,5,true,0⟩
def opN:Prop:=((0:Int)<=2/\(2:Int)<=65535)/\(1:Int)<=1/\(1:Int)<=1023
def knC (F:HashF) (E:CtsF):List Prop :=
 [(0+16<=16/\16<=1099511627776),(0+32<=32/\32<=1099511627776),IsB (qea (kaS 16).X),seOK (.lit 0) (.lit 1) (kaS 16) z16 16 16,(0+5<=5/\5<=208),IsB (qea (kaS 32).X),seOK (.lit 0) (.lit 1) (kaS 32) z16 32 16,0+5<=5,false=false,false=false,
  IsB (qea (kaS 16).X),IsB (qea (two (cphS F E (kaS 16) z16 qso 1) (qfx F E (kaS 16) z16 qso 1))),opN,31<=37,IsB (qea (kaS 16).X),IsB (qea (two (cphS F E (kaS 16) z16 qso 1) (qfx F E (kaS 16) z16 qso 1))),opN,31<32,
  IsB (qea (kaS 16).X),IsB (qea (two (cph5 F (kaS 32) z16 qso 1) (tag5 F (kaS 32) z16 qso 1))),opN]
theorem jiv (F:HashF) (E:CtsF):outO [] (knT F E) [false,false]=(knC F E,some (.bool (.lit true),[])):=by kernel_rfl
def knS:Summ:=fun args H _=>qq9 args (qbf H (.ok ⟨.bool (.lit true),[],[]⟩))
theorem knOK:SumAt Tryz.prog q3b 5 knS:=by
 intro O w0 β H w base args vs hH hG ha
 refine qxz fun hv=>qkc fun hT => ?_
 rw [hv] at ha
 have hop:opN:=⟨⟨by omega,by omega⟩,by omega,by omega⟩
 have hse:∀ n,seOK (.lit 0) (.lit 1) (kaS n) z16 n 16:=fun n=>⟨⟨by show (0:Int)<=0; omega,by show (0:Int)<=65535; omega⟩,⟨by show (1:Int)<=1; omega,by show (1:Int)<=1023; omega⟩,by show 0+n<=n; omega,by show 0+16<=16; omega⟩
 refine qka jhv 5000 hH (qqa [] [] []) (qma hG) ha (Ifc.fits (by simp [qqa]) rfl (qdb hT trivial)) [] (by simp) (by simp) (jiv shaF encF) ?_ fun _ _=>qkb rfl rfl rfl
 exact all_cons ⟨by omega,by omega⟩ (all_cons ⟨by omega,by omega⟩ (all_cons (qda _) (all_cons (hse 16) (all_cons ⟨by omega,by omega⟩ (all_cons (qda _) (all_cons (hse 32) (all_cons (by omega) (all_cons rfl (all_cons rfl
  (all_cons (qda _) (all_cons (qda _) (all_cons hop (all_cons (by omega) (all_cons (qda _) (all_cons (qda _) (all_cons hop (all_cons (by omega) (all_cons (qda _) (all_cons (qda _) (all_cons hop qaa))))))))))))))))))))
end
noncomputable section
open Go.Sim
open Go.Proofs
variable {α:Type}
set_option maxRecDepth 1000000
def vlB (p v:Int) (l:Nat):Bool:=@decide (q6f p v l) (Classical.propDecidable _)
theorem vlB_iff {p v:Int} {l:Nat}:vlB p v l=true↔q6f p v l:=by
 unfold vlB; exact @decide_eq_true_iff _ (Classical.propDecidable _)
def vyS:Summ:=fun args _ _=>qgd args fun kv=>keyN kv fun p v l=>.ok ⟨.bool (.sym (vlB p.den v.den l)),[],[]⟩
def lyI (a b p:Int):Int:=if p=1 then a else if p=2 then b else 0
def lyS (a b:Int):Summ:=fun args _ _=>qgd args fun pv=>i64O pv fun p=>.ok ⟨.int .i64 (.sym (lyI a b p.den)),[],[]⟩
theorem endsI {I:Ifc} {base:Nat} {n m:SI} {H:List SO} (ho:q6b I.ents 0=[]) (h:n.den=m.den):I.Ends base [] ⟨.int .i64 m,[],[]⟩ (.int .i64 n) H:=by
 refine ⟨?_,rfl,by rw [ho]; trivial,trivial⟩
 exact qla h
theorem lyOK {f:FuncId} {a b:Int} (h:∀ p:Int,outO [] (qca cfgF 400 f [.int .i64 (.sym p)] []) [true]=([(p == 1)=true],some (.int .i64 (.lit a),[]))) (h2:∀ p:Int,outO [] (qca cfgF 400 f [.int .i64 (.sym p)] []) [false,true]=([(p == 1)=false,(p == 2)=true],some (.int .i64 (.lit b),[]))) (h0:∀ p:Int,outO [] (qca cfgF 400 f [.int .i64 (.sym p)] []) [false,false]=([(p == 1)=false,(p == 2)=false],some (.int .i64 (.lit 0),[]))):q3a Tryz.prog f (lyS a b):=by
 intro glob O w0 β H w base args vs hH hG ha
 refine qub fun pv hv=>q2a fun p hp => ?_
 subst hv hp
 have ha':SV.denL β [.int .i64 (.sym p.den)]=some vs:=q2m ha (qla rfl)
 have key:∀ {ds cs n},outO [] (qca cfgF 400 f [.int .i64 (.sym p.den)] []) ds=(cs,some (.int .i64 (.lit n),[]))->(∀ q∈cs,q)->n=lyI a b p.den->q4a Tryz.prog H β w base f vs ⟨.int .i64 (.sym (lyI a b p.den)),[],[]⟩:=by
  intro ds cs n hr hc hn
  exact qqb q9r rfl 400 hH ⟨[],[],[.int .i64 (.sym p.den)]⟩ ha' (q5c rfl) [] (by simp) (by simp) hr hc fun _ _=>endsI rfl hn
 show q4a Tryz.prog H β w base f vs ⟨.int .i64 (.sym (lyI a b p.den)),[],[]⟩
 by_cases h1:p.den=1
 . exact key (h _) (all_cons (by simp [h1]) qaa) (by unfold lyI; rw [if_pos h1])
 . by_cases h2':p.den=2
   . exact key (h2 _) (all_cons (by simp [h1]) (all_cons (by simp [h2']) qaa)) (by unfold lyI; rw [if_neg h1,if_pos h2'])
   . exact key (h0 _) (all_cons (by simp [h1]) (all_cons (by simp [h2']) qaa)) (by unfold lyI; rw [if_neg h1,if_neg h2'])
theorem rlyOK:q3a Tryz.prog 24 (lyS 16 32):=lyOK (fun p=>by kernel_rfl) (fun p=>by kernel_rfl) fun p=>by kernel_rfl
def jum:Cfg:=qle (qbb [(24,lyS 16 32)])
theorem jzq:CfgOK jum:=q8b (all1 rlyOK)
def rvT (p v:Int) (y:Option Addr) (l m:Nat):Tree:=qca jum 400 33 [kyV p v y l m] []
section
variable (p v:Int) (y:Option Addr) (l m:Nat)
theorem rv_a:outO [] (rvT p v y l m) [false,false,false,false,false,false,false,false]=(repN (decide (lyI 16 32 p > 0)=false) 8,some (.bool (.lit false),[])):=by kernel_rfl
theorem rv_b:outO [] (rvT p v y l m) [true,false,false,false,false]=((decide (lyI 16 32 p > 0)=true)::repN (((l:Int) == lyI 16 32 p)=false) 4,some (.bool (.lit false),[])):=by kernel_rfl
theorem rv_c:outO [] (rvT p v y l m) [true,true,false,false,false,false]=((decide (lyI 16 32 p > 0)=true)::(((l:Int) == lyI 16 32 p)=true)::repN (decide (v>=0)=false) 4,some (.bool (.lit false),[])):=by kernel_rfl
theorem rv_d:outO [] (rvT p v y l m) [true,true,true]=([decide (lyI 16 32 p > 0)=true,((l:Int) == lyI 16 32 p)=true,decide (v>=0)=true],some (.bool (.sym (decide (v<=65535))),[])):=by kernel_rfl
end
theorem lyI_valid {p:Int} {l:Nat}:(0<lyI 16 32 p/\(l:Int)=lyI 16 32 p)↔((p=1/\l=16)\/(p=2/\l=32)):=by
 unfold lyI
 by_cases h1:p=1
 . rw [if_pos h1]; omega
 . rw [if_neg h1]
   by_cases h2:p=2
   . rw [if_pos h2]; omega
   . rw [if_neg h2]; omega
theorem rvyOK:q3a Tryz.prog 33 vyS:=by
 intro glob O w0 β H w base args vs hH hG ha
 refine qub fun kv hv=>qrf fun p v s n hk hs => ?_
 subst hv hk
 obtain ⟨y,m,ha'⟩:=qsf ha hs
 have key:∀ {ds cs b},outO [] (rvT p.den v.den y n m) ds=(cs,some (.bool b,[]))->(∀ q∈cs,q)->b.den=vlB p.den v.den n->q4a Tryz.prog H β w base 33 vs ⟨.bool (.sym (vlB p.den v.den n)),[],[]⟩:=by
  intro ds cs b hr hc hb
  exact qqb jzq rfl 400 hH ⟨[],[],[kyV p.den v.den y n m]⟩ ha' (q5c rfl) [] (by simp) (by simp) hr hc fun _ _=>qx3 rfl hb
 have no:¬ q6f p.den v.den n->(SB.lit false).den=vlB p.den v.den n:=fun h=>by
  symm; show vlB _ _ _=false
  rw [Bool.eq_false_iff]; exact fun e=>h (vlB_iff.1 e)
 by_cases h1:0<lyI 16 32 p.den
 . by_cases h2:(n:Int)=lyI 16 32 p.den
   . have hp:=lyI_valid.1 ⟨h1,h2⟩
     by_cases h3:0<=v.den
     . refine key (rv_d p.den v.den y n m) (all_cons (decide_eq_true h1) (all_cons (by simp [h2]) (all_cons (decide_eq_true h3) qaa))) ?_
       show decide (v.den<=65535)=_
       rw [Bool.eq_iff_iff,vlB_iff,decide_eq_true_iff]
       exact ⟨fun h=>⟨hp,h3,h⟩,fun h=>h.2.2⟩
     . exact key (rv_c p.den v.den y n m) (all_cons (decide_eq_true h1) (all_cons (by simp [h2]) (q8d (decide_eq_false h3) 4))) (no fun h=>h3 h.2.1)
   . exact key (rv_b p.den v.den y n m) (all_cons (decide_eq_true h1) (q8d (by rw [beq_eq_false_iff_ne]; exact h2) 4)) (no fun h=>h2 (lyI_valid.2 h.1).2)
 . exact key (rv_a p.den v.den y n m) (q8d (decide_eq_false h1) 8) (no fun h=>h1 (lyI_valid.2 h.1).1)
end
noncomputable section
open Go.Sim
open Go.Proofs
variable {α:Type}
set_option maxRecDepth 1000000
def Sl.cut (t:Sl) (o n:Nat):Sl:=⟨t.X,t.N,o,n,false,0⟩
def shT1 (st:Option (Nat × Nat)) (F:HashF) (k c t:Sl):Tree:=qca ((qqk F).at st) 4000 62 [k.val 4,c.val 5,t.val 5] (qpc [k.row,t.row])
def shS01 (F:HashF) (k c t:Sl):SS:=qah (shT1 (some (1,7)) F k c t) [false,true,true]
def shC1 (F:HashF) (k c t:Sl) (A:SgA):Cut :=
 ⟨q2f (shS01 F k c t).frames [[(0,k.val 4),(1,c.val 5),(7,.slice ⟨6,.lit 0⟩ (.sym t.n) (.rest 6 0)),(8,.int .i64 (.sym A.i)),(9,.slice ⟨7,.lit 0⟩ (.lit 32) (.lit 32)),(36,.int .i64 (.sym A.L)),(37,.int .i64 (.sym A.j))]],
  [.ent q3f,.ent q4f,.ent anyR,.ent anyR,.ent k.row,.ent t.row,.ent (.own (.fn (qea A.G) t.n) false 5),.ent (.own (.lst (bx (tabB A.S 32))) true 81)]⟩
section
variable (F:HashF) (k t:Sl) (o n m m2 m3:Nat) (A:SgA) (J:Junk) (z:Nat->Nat->Nat)
theorem j4i:outL [] (shC1 F (k.pl m) ((t.cut o n).pl m2) (t.pl m3) A) [0,1,2,3,4,5,7,10] (shT1 (some (1,7)) F (k.pl m) ((t.cut o n).pl m2) (t.pl m3)) [false,true,true] z =
  (sg0 k (t.cut o n) t true [0<=(t.n:Int)/\(t.n:Int)<=t.n,0<=(t.n:Int).toNat],some (.inr (q0b [(0,8,.int .i64 (.lit 0)),(0,37,.int .i64 (.lit 0))] [] (qhb [0,1,2,3,4,5,7,10] 11 (shC1 F (k.pl m) ((t.cut o n).pl m2) (t.pl m3) ⟨0,(t.n:Int).toNat,0,qhd t,sgK F k (t.cut o n) 1⟩))))):=by kernel_rfl
theorem j5i:outL [] (shC1 F (k.pl m) ((t.cut o n).pl m2) (t.pl m3) A) [0,1,2,3,4,5,7,10] (shT1 (some (1,7)) F (k.pl m) ((t.cut o n).pl m2) (t.pl m3)) [false,true,false] z =
  (sg0 k (t.cut o n) t false [32<=t.n],some (.inr (q0b [(0,8,.int .i64 (.lit 0)),(0,37,.int .i64 (.lit 0)),(0,36,.int .i64 (.lit 32))] [] (qhb [0,1,2,3,4,5,7,10] 11 (shC1 F (k.pl m) ((t.cut o n).pl m2) (t.pl m3) ⟨0,32,0,qhd t,sgK F k (t.cut o n) 1⟩))))):=by kernel_rfl
def shR1 (st:Option (Nat × Nat)):Tree:=sim1 ((qqk F).at st) 4000 ((shC1 F (k.pl m) ((t.cut o n).pl m2) (t.pl m3) A).fill J)
theorem j0q:outL [] (shC1 F (k.pl m) ((t.cut o n).pl m2) (t.pl m3) A) [0,1,2,3,4,5,6,7] (shR1 F k t o n m m2 m3 A J (some (1,7))) [true] z =
  (qg6 t.n A,some (.inr (q0b [] [(6,.ent (sgE t.n A))] (qhb [0,1,2,3,4,5,6,7] 8 (shC1 F (k.pl m) ((t.cut o n).pl m2) (t.pl m3) ⟨A.i,A.L,A.j+1,sgG A,A.S⟩))))):=by kernel_rfl
theorem j6i:outL [] (shC1 F (k.pl m) ((t.cut o n).pl m2) (t.pl m3) A) [0,1,2,3,4,5,6,10] (shR1 F k t o n m m2 m3 A J (some (1,7))) [false,true,true] z =
  (q0l k (t.cut o n) t A true [0<=(t.n:Int)/\(t.n:Int)<=t.n,0<=A.i+32/\A.i+32<=((t.n:Int).toNat:Int)],some (.inr (q0b [(0,37,.int .i64 (.lit 0))] [] (qhb [0,1,2,3,4,5,6,10] 11 (shC1 F (k.pl m) ((t.cut o n).pl m2) (t.pl m3) ⟨A.i+32,(((t.n:Int).toNat - (A.i+32).toNat:Nat):Int),0,A.G,sgK F k (t.cut o n) (sgV (A.i+32))⟩))))):=by kernel_rfl
theorem j7i:outL [] (shC1 F (k.pl m) ((t.cut o n).pl m2) (t.pl m3) A) [0,1,2,3,4,5,6,10] (shR1 F k t o n m m2 m3 A J (some (1,7))) [false,true,false] z =
  (q0l k (t.cut o n) t A false [0<=A.i+32+32/\A.i+32+32<=(t.n:Int),0<=A.i+32/\A.i+32<=((A.i+32+32).toNat:Int)],some (.inr (q0b [(0,37,.int .i64 (.lit 0))] [] (qhb [0,1,2,3,4,5,6,10] 11 (shC1 F (k.pl m) ((t.cut o n).pl m2) (t.pl m3) ⟨A.i+32,(((A.i+32+32).toNat - (A.i+32).toNat:Nat):Int),0,A.G,sgK F k (t.cut o n) (sgV (A.i+32))⟩))))):=by kernel_rfl
theorem jjv:outL [6] (shC1 F (k.pl m) ((t.cut o n).pl m2) (t.pl m3) A) [0,1,2,3,4,5,6,7] (shR1 F k t o n m m2 m3 A J none) [false,false] z =
  ([decide ((A.j:Int)<A.L)=false,qza (A.i+32),decide (A.i+32<t.n)=false],some (.inl (q0e 6 t.n,[some (.own (.fn (qea A.G) t.n) false 5)]))):=by kernel_rfl
theorem j8i (B:SgA):boolC (qvb 6 [0,1,2,3,4,5,6,7] (shC1 F (k.pl m) ((t.cut o n).pl m2) (t.pl m3) A) (shC1 F (k.pl m) ((t.cut o n).pl m2) (t.pl m3) B)) (allN qlb (shC1 F (k.pl m) ((t.cut o n).pl m2) (t.pl m3) B).heap) false=true:=by kernel_rfl
theorem q2z (B:SgA):boolC (qvb 6 [0,1,2,3,4,5,6,10] (shC1 F (k.pl m) ((t.cut o n).pl m2) (t.pl m3) A) (shC1 F (k.pl m) ((t.cut o n).pl m2) (t.pl m3) B)) (allN qlb (shC1 F (k.pl m) ((t.cut o n).pl m2) (t.pl m3) B).heap) false=true:=by kernel_rfl
theorem q3z (B:SgA):boolC (qvb 6 [0,1,2,3,4,5,7,10] (shC1 F (k.pl m) ((t.cut o n).pl m2) (t.pl m3) A) (shC1 F (k.pl m) ((t.cut o n).pl m2) (t.pl m3) B)) (allN qlb (shC1 F (k.pl m) ((t.cut o n).pl m2) (t.pl m3) B).heap) false=true:=by kernel_rfl
end
end
noncomputable section
open Go.Sim
open Go.Proofs
variable {α:Type}
set_option maxRecDepth 1000000
theorem q2l (F:HashF) (k t:Sl) (o n m m2 m3:Nat) (A:SgA):(((shC1 F (k.pl m) ((t.cut o n).pl m2) (t.pl m3) A).frames[0]?).bind fun p=>p.tmps[8]?)=some (some (.int .i64 (.sym A.i)))/\(((shC1 F (k.pl m) ((t.cut o n).pl m2) (t.pl m3) A).frames[0]?).bind fun p=>p.tmps[36]?)=some (some (.int .i64 (.sym A.L)))/\(((shC1 F (k.pl m) ((t.cut o n).pl m2) (t.pl m3) A).frames[0]?).bind fun p=>p.tmps[37]?)=some (some (.int .i64 (.sym (A.j:Int)))):=⟨by kernel_rfl,by kernel_rfl,by kernel_rfl⟩
def shD (F:HashF) (k c t:Sl) (v:SV) (H:List SO):Prop:=v=q0e 6 t.n/\∃ G,(∀ p,p<t.n->G p=strG F k c t p)/\H[6]? = some (.own (.fn (qea G) t.n) false 5)
theorem j1q {k t:Sl} {o n m m2 m3:Nat} (hk:okK k) (hc:okL (t.cut o n)) (ht:okL t) (hn:t.n≠0):Runs (qqk shaF) 62 [(k.pl m).val 4,((t.cut o n).pl m2).val 5,(t.pl m3).val 5] (qpc [(k.pl m).row,(t.pl m3).row]) (shD shaF k (t.cut o n) t):=by
 have hbig:t.n<=1099511627776:=ht.2
 have hn1:((t.n:Int) == 0)=false:=by rw [beq_eq_false_iff_ne]; omega
 have hn2:decide ((0:Int)<t.n)=true:=decide_eq_true (by omega)
 have h0:∀ {b r},decide ((t.n:Int)<32)=b->(∀ p∈r,p)->∀ p∈sg0 k (t.cut o n) t b r,p:=fun hb hr=>all_cons (qda _) (all_cons ht (all_cons hn1 (all_cons hn2 (all_cons (qda _) (all_cons (qda _) (all_cons ⟨hk,hc,qht 1⟩ (all_cons hb hr)))))))
 have hg0:∀ p,p<t.n->qhd t p=if p<32 * 0+0 then strG shaF k (t.cut o n) t p else qhd t p:=fun p _=>by rw [if_neg (by omega)]
 refine qng qqo (shC1 shaF (k.pl m) ((t.cut o n).pl m2) (t.pl m3)) (fun A=>∃ q,SgQ shaF k (t.cut o n) t A q) (fun A=>33 * (t.n - A.i.toNat)+(32 - A.j)) (fun g nm hg=>Nat.lt_of_lt_of_le (q8p hg) (by show 2<=6; omega)) ?_ fun A ⟨q,hQ⟩ J => ?_
 . by_cases hl:(t.n:Int)<32
   . refine qpg (some (1,7)) 4000 ⟨0,(t.n:Int).toNat,0,qhd t,sgK shaF k (t.cut o n) 1⟩ ⟨0,rfl,by omega,by show (((t.n:Int).toNat:Nat):Int)=_; omega,by show 0<=_; omega,rfl,hg0⟩ (j4i shaF k t o n m m2 m3 ⟨0,0,0,qhd t,qhd t⟩) (q3z shaF k t o n m m2 m3 _ _) ?_ (by simp) (h0 (decide_eq_true hl) (all_cons ⟨by omega,by omega⟩ (all_cons (by omega) qaa)))
     intro x hx p u hp hu
     simp only [List.mem_cons,List.not_mem_nil,or_false] at hx
     rcases hx with rfl | rfl
     . exact qwc (q2l _ _ _ _ _ _ _ _ _).1 hp hu (qla rfl)
     . exact qwc (q2l _ _ _ _ _ _ _ _ _).2.2 hp hu (qla rfl)
   . refine qpg (some (1,7)) 4000 ⟨0,32,0,qhd t,sgK shaF k (t.cut o n) 1⟩ ⟨0,rfl,by omega,by show (32:Int)=_; omega,by show 0<=_; omega,rfl,hg0⟩ (j5i shaF k t o n m m2 m3 ⟨0,0,0,qhd t,qhd t⟩) (q3z shaF k t o n m m2 m3 _ _) ?_ (by simp) (h0 (decide_eq_false hl) (all_cons (by omega) qaa))
     intro x hx p u hp hu
     simp only [List.mem_cons,List.not_mem_nil,or_false] at hx
     rcases hx with rfl | rfl | rfl
     . exact qwc (q2l _ _ _ _ _ _ _ _ _).1 hp hu (qla rfl)
     . exact qwc (q2l _ _ _ _ _ _ _ _ _).2.2 hp hu (qla rfl)
     . exact qwc (q2l _ _ _ _ _ _ _ _ _).2.1 hp hu (qla rfl)
 . obtain ⟨hi,hlt,hL,hj,hS,hG⟩:=hQ
   by_cases hjl:(A.j:Int)<A.L
   . have hidx:0+(A.i+A.j).toNat * 1=32 * q+A.j:=by omega
     refine qvc (some (1,7)) 4000 ⟨A.i,A.L,A.j+1,sgG A,A.S⟩ ⟨⟨q,hi,hlt,hL,by show A.j+1<=_; omega,hS,fun p hp => ?_⟩,by show 33 * (t.n - A.i.toNat)+(32 - (A.j+1))<33 * (t.n - A.i.toNat)+(32 - A.j); omega⟩ (j0q shaF k t o n m m2 m3 A J) (j8i shaF k t o n m m2 m3 _ _) (by simp) ?_
      (all_cons (decide_eq_true hjl) (all_cons ⟨by omega,by omega⟩ (all_cons ⟨by omega,by omega⟩ (all_cons (by omega) (all_cons ⟨by omega,by omega⟩ (all_cons (by omega) (all_cons ⟨by omega,by omega⟩ (all_cons (by omega) (all_cons ⟨by omega,by omega⟩ qaa)))))))))
     . show sgG A p=if p<32 * q+(A.j+1) then _ else _
       unfold sgG
       rw [hidx]
       by_cases hpi:p=32 * q+A.j
       . rw [if_pos hpi,if_pos (by omega)]
         unfold sgB
         rw [hidx,hG _ (by omega),if_neg (by omega),qqc (by omega),hS]
         unfold strG qhd
         rw [hpi,show (32 * q+A.j) / 32=q by omega,show (32 * q+A.j) % 32=A.j by omega,show 0+(A.j:Int).toNat * 1=A.j by omega]
       . rw [if_neg hpi,hG p hp]
         by_cases hpl:p<32 * q+A.j
         . rw [if_pos hpl,if_pos (by omega)]
         . rw [if_neg hpl,if_neg (by omega)]
     . intro e he E0 hE0
       simp only [List.mem_cons,List.not_mem_nil,or_false] at he
       subst he
       have hE0:some (HP.ent (.own (.fn (qea (sgG A)) t.n) false 5))=some E0:=hE0
       cases hE0
       refine ⟨_,rfl,qgq fun p _ => ?_⟩
       show (if p=0+(A.i+A.j).toNat * 1 then SV.int .u8 (.b8 (sgB A)) else qea A.G p).Imp (.int .u8 (.b8 (sgG A p)))
       unfold sgG
       by_cases hpi:p=0+(A.i+A.j).toNat * 1
       . rw [if_pos hpi,if_pos hpi]; exact .refl _
       . rw [if_neg hpi,if_neg hpi]; exact .refl _
   . have hjl':A.j=min 32 (t.n - 32 * q):=by omega
     have e1:decide ((A.j:Int)<A.L)=false:=decide_eq_false hjl
     by_cases hnx:A.i+32<t.n
     . have hj32:A.j=32:=by omega
       have hi':A.i+32=32 * ((q+1:Nat):Int):=by omega
       have hv:sgV (A.i+32)=((q+1:Nat):Int)+1:=by rw [hi']; exact qs3 (by omega)
       have hg:∀ p,p<t.n->A.G p=if p<32 * (q+1)+0 then strG shaF k (t.cut o n) t p else qhd t p:=fun p hp=>by
        rw [hG p hp,show 32 * (q+1)+0=32 * q+A.j by omega]
       have hC:∀ {b r},decide ((t.n:Int)<A.i+32+32)=b->(∀ p∈r,p)->∀ p∈q0l k (t.cut o n) t A b r,p:=fun hb hr=>all_cons e1 (all_cons ⟨by omega,by omega⟩ (all_cons (decide_eq_true hnx) (all_cons (by rw [hv]; exact ⟨by omega,by omega⟩) (all_cons (qda _) (all_cons (qda _) (all_cons ⟨hk,hc,qht _⟩ (all_cons ⟨by omega,by omega⟩ (all_cons hb hr))))))))
       have hT:∀ (B:SgA),B.j=0->∀ x∈([(0,37,.int .i64 (.lit 0))]:List (Nat × Nat × SV)),∀ p u,(shC1 shaF (k.pl m) ((t.cut o n).pl m2) (t.pl m3) B).frames[x.1]? = some p->p.tmps[x.2.1]? = some u->∃ w,u=some w/\x.2.2.Imp (w.ren (qjc [0,1,2,3,4,5,6,10] 11)):=by
        intro B hB x hx p u hp hu
        simp only [List.mem_cons,List.not_mem_nil,or_false] at hx
        subst hx
        refine qwc (q2l _ _ _ _ _ _ _ _ _).2.2 hp hu (qla ?_)
        show (0:Int)=(B.j:Int)
        rw [hB]; rfl
       by_cases hl:(t.n:Int)<A.i+32+32
       . refine qvc (some (1,7)) 4000 ⟨A.i+32,(((t.n:Int).toNat - (A.i+32).toNat:Nat):Int),0,A.G,sgK shaF k (t.cut o n) (sgV (A.i+32))⟩ ⟨⟨q+1,hi',by omega,by show (((t.n:Int).toNat - (A.i+32).toNat:Nat):Int)=_; omega,by show 0<=_; omega,by show sgK shaF k (t.cut o n) (sgV (A.i+32))=_; rw [hv],hg⟩,by show 33 * (t.n - (A.i+32).toNat)+(32 - 0)<33 * (t.n - A.i.toNat)+(32 - A.j); omega⟩ (j6i shaF k t o n m m2 m3 A J) (q2z shaF k t o n m m2 m3 _ _) (hT _ rfl) (by simp) (hC (decide_eq_true hl) (all_cons ⟨by omega,by omega⟩ (all_cons ⟨by omega,by omega⟩ qaa)))
       . refine qvc (some (1,7)) 4000 ⟨A.i+32,(((A.i+32+32).toNat - (A.i+32).toNat:Nat):Int),0,A.G,sgK shaF k (t.cut o n) (sgV (A.i+32))⟩ ⟨⟨q+1,hi',by omega,by show (((A.i+32+32).toNat - (A.i+32).toNat:Nat):Int)=_; omega,by show 0<=_; omega,by show sgK shaF k (t.cut o n) (sgV (A.i+32))=_; rw [hv],hg⟩,by show 33 * (t.n - (A.i+32).toNat)+(32 - 0)<33 * (t.n - A.i.toNat)+(32 - A.j); omega⟩ (j7i shaF k t o n m m2 m3 A J) (q2z shaF k t o n m m2 m3 _ _) (hT _ rfl) (by simp) (hC (decide_eq_false hl) (all_cons ⟨by omega,by omega⟩ (all_cons ⟨by omega,by omega⟩ qaa)))
     . refine qti none 4000 (jjv shaF k t o n m m2 m3 A J) (all_cons e1 (all_cons ⟨by omega,by omega⟩ (all_cons (decide_eq_false hnx) qaa))) fun H hH=>⟨rfl,A.G,fun p hp => ?_,(List.cons.inj hH).1⟩
       rw [hG p hp,if_pos (by omega)]
theorem j2q (F:HashF) (k t:Sl) (o n m m2 m3:Nat):outO [] (shT1 none F (k.pl m) ((t.cut o n).pl m2) (t.pl m3)) [true]=([IsB (qea t.X),okL t,((t.n:Int) == 0)=true],some (.nilSlice,[])):=by kernel_rfl
def qjx (H:List SO) (cv tv:SV) (no:R α) (f:Sl->Sl->Nat->R α):R α:=cv.asSlice no fun a l _=>tv.asSlice no fun a2 l2 c2=>boolC (Nat.beq a.nm a2.nm) (optC (capL a2.nm c2) (.stuck 832) fun bk=>boolC (qeb a.nm) (q4b (nth H a.nm) fun X N=>f ⟨X,N,a.off.den,l.den,false,0⟩ ⟨X,N,a2.off.den,l2.den,bk.1,bk.2⟩ a.nm) (.stuck 832)) no
theorem qkx {H:List SO} {cv tv:SV} {no:R α} {f:Sl->Sl->Nat->R α} {φ:α->Prop} (h0:no.Sat φ) (h:∀ t o n nm,qeb nm=true->(∀ g,∃ e',H[nm]? = some e'/\qrb g t.row e')->(∀ β x,cv.den β=some x->∃ m,(((t.cut o n).pl m).val nm).den β=some x)->tv.Imp (t.val nm)->(f (t.cut o n) t nm).Sat φ):(qjx H cv tv no f).Sat φ:=by
 unfold qjx
 rcases asSlice_cases cv with ⟨a,l,c,rfl⟩ | hv
 case inr=>rw [hv]; exact h0
 rcases asSlice_cases tv with ⟨a2,l2,c2,rfl⟩ | hv
 case inr =>
  have:∀ g:SA->SN->SC->R α,(tv.asSlice no g).Sat φ:=fun g=>by rw [hv]; exact h0
  exact this _
 refine qna (fun hnm=>qja fun bk hbk=>qfa fun hn=>q5a fun X N ht=>h ⟨X,N,a2.off.den,l2.den,bk.1,bk.2⟩ a.off.den l.den a.nm hn (fun g=>by rw [← qga]; exact ht g) (fun β x hx => ?_) fun γ x hx => ?_) fun _=>h0
 . obtain ⟨m,_,hd,_,_⟩:=q8a hx
   exact ⟨m,hd⟩
 . have hnm:=qpa hnm
   rw [qra] at hx
   obtain ⟨A,C,hA,hC,hle,rfl⟩:=hx
   rw [show (Sl.val ⟨X,N,a2.off.den,l2.den,bk.1,bk.2⟩ a.nm)=.slice ⟨a.nm,.sym a2.off.den⟩ (.sym l2.den) (boolC bk.1 (.rest a.nm bk.2) (.sym bk.2)) from rfl,hnm,qra]
   exact ⟨A,C,hA,by rw [← q0u hbk]; exact hC,hle,rfl⟩
def stHS (F:HashF):Summ:=fun args H base=>qoc args fun kv cv tv=>qjx H cv tv (stGS F args H base) fun c t tn=>qbf H (qcc H kv fun k kn=>boolC (qrc [kn,tn]) (.need (okK k/\okL c/\okL t) (isI (.sym t.n) 0 (.ok ⟨.nilSlice,[],[]⟩) (.ok (q8k base t.n (strG F k c t))))) (.stuck 833))
theorem stHOK:SumAt Tryz.prog q3b 62 (stHS shaF):=by
 intro O w0 β H w base args vs hH hG ha
 refine qcb fun kv cv tv hv=>qkx (jkm O w0 β H w base args vs hH hG ha) fun t o n tn hn3 ht3 hic hit=>qkc fun hT=>qab fun k kn hn ht hk=>qfa fun hd=>fun ⟨h1,h2,h3⟩ => ?_
 rw [hv] at ha
 obtain ⟨x,ys,hx,hys,rfl⟩:=denL_cons.1 ha
 obtain ⟨y,zs,hy,hzs,rfl⟩:=denL_cons.1 hys
 obtain ⟨q,qs,hq,hqs,rfl⟩:=denL_cons.1 hzs
 obtain ⟨m,_,hx'⟩:=Sl.val_den (hk _ _ hx)
 obtain ⟨m2,hy'⟩:=hic _ _ hy
 obtain ⟨m3,_,hq'⟩:=Sl.val_den (hit _ _ hq)
 have hfit:Ifc.Fits (qqa [kn,tn] [(k.pl m).row,(t.pl m3).row] [(k.pl m).val 4,((t.cut o n).pl m2).val 5,(t.pl m3).val 5]) H:=by
  refine Ifc.fits (nd4 hd (by simp only [List.mem_cons,List.not_mem_nil,or_false]; rintro x (rfl | rfl) <;> assumption)) rfl (qdb hT ⟨⟨ht _,k.row_uses _⟩,⟨ht3 _,t.row_uses _⟩,trivial⟩)
 have harg:SV.denL β (SV.renL (qqa [kn,tn] [(k.pl m).row,(t.pl m3).row] [(k.pl m).val 4,((t.cut o n).pl m2).val 5,(t.pl m3).val 5]).big [(k.pl m).val 4,((t.cut o n).pl m2).val 5,(t.pl m3).val 5])=some (x::y::q::qs):=by
  show SV.denL β [((k.pl m).val 4).ren _,(((t.cut o n).pl m2).val 5).ren _,((t.pl m3).val 5).ren _]=_
  rw [Sl.val_ren,Sl.val_ren,Sl.val_ren]
  exact denL_cons.2 ⟨_,_,hx',denL_cons.2 ⟨_,_,hy',denL_cons.2 ⟨_,_,hq',hqs,rfl⟩,rfl⟩,rfl⟩
 refine q1c (fun h0 => ?_) fun h0 => ?_
 . have h0:(t.n:Int)=0:=h0
   exact qka qqo 4000 hH (qqa [kn,tn] [(k.pl m).row,(t.pl m3).row] [(k.pl m).val 4,((t.cut o n).pl m2).val 5,(t.pl m3).val 5]) (qma hG) harg hfit [] (by simp [qqa]) (by simp) (j2q shaF k t o n m m2 m3) (all_cons (qda _) (all_cons h3 (all_cons (by rw [h0]; rfl) qaa))) fun H2 _=>qkb rfl rfl rfl
 . have h0:(t.n:Int)≠0:=h0
   refine Go.Sim.sum_runs (c:=qqk shaF) hH (qqa [kn,tn] [(k.pl m).row,(t.pl m3).row] [(k.pl m).val 4,((t.cut o n).pl m2).val 5,(t.pl m3).val 5]) (qma hG) harg hfit [6] (by simp [qqa]) (by simp) (q5f (j1q h1 h2 h3 (by omega)) fun v H2 ⟨hv,G,hGe,hE⟩ => ?_)
   subst hv
   exact qen rfl rfl hE rfl hGe
end
noncomputable section
open Go.Sim
open Go.Proofs
variable {α:Type}
set_option maxRecDepth 1000000
def cfgQ (us:Summ):Cfg:=qle (qbb [(15,us)])
theorem jvm:CfgOK (cfgQ uqE):=q8b (all1 uqEOK)
theorem qit:CfgOK (cfgQ (uqS 1 kv1)):=q8b (all1 (uqOK (.inl ⟨rfl,rfl⟩)))
theorem qjt:CfgOK (cfgQ (uqS 2 kv2)):=q8b (all1 (uqOK (.inr ⟨rfl,rfl⟩)))
def vSl (y:Option Addr) (n m:Nat):SV:=.val (.slice y n m)
def sqA (p v u:Int) (y:Option Addr) (l m:Nat) (y1:Option Addr) (l1 m1:Nat) (y2:Option Addr) (l2 m2:Nat):List SV:=[kyV p v y l m,.int .i64 (.sym u),vSl y1 l1 m1,vSl y2 l2 m2]
def sqT (us:Summ) (p v u:Int) (y:Option Addr) (l m:Nat) (y1:Option Addr) (l1 m1:Nat) (y2:Option Addr) (l2 m2:Nat):Tree:=qca (cfgQ us) 400 6 (sqA p v u y l m y1 l1 m1 y2 l2 m2) []
def sqV:SV:=.tuple [.agg [.int .i64 (.lit 0),.int .i64 (.lit 0),.nilSlice],.int .i64 (.lit 2)]
section
variable (p v u sp sv:Int) (y:Option Addr) (l m:Nat) (y1:Option Addr) (l1 m1:Nat) (y2:Option Addr) (l2 m2:Nat)
theorem jkv:outO [] (sqT uqE p v u y l m y1 l1 m1 y2 l2 m2) []=([¬ usQ p v u l],some (sqV,[])):=by kernel_rfl
theorem j3q:outO [] (sqT (uqS 1 kv1) p v u y l m y1 l1 m1 y2 l2 m2) [true,true,true,true]=((p=1/\usQ p v u l)::repN (((l1:Int) != 16)=true) 4,some (sqV,[])):=by kernel_rfl
theorem j4q:outO [] (sqT (uqS 2 kv2) p v u y l m y1 l1 m1 y2 l2 m2) [true,true,true,true]=((p=2/\usQ p v u l)::repN (((l1:Int) != 16)=true) 4,some (sqV,[])):=by kernel_rfl
end
def sqS:Summ:=fun args _ _=>qop args fun kv uv cv tv=>keyN kv fun p v l=>i64O uv fun u=>lenQ cv fun cl=>lenQ tv fun _=>.need (¬ usQ p.den v.den u.den l\/cl≠16) (.ok ⟨sqV,[],[]⟩)
theorem qjq {β:Val} {v:SV} {n:Nat} {x:Value} (h:∀ β x,v.den β=some x->∃ y m,x=.slice y n m) (hx:v.den β=some x):∃ y m,(vSl y n m).den β=some x:=by
 obtain ⟨y,m,rfl⟩:=h _ _ hx
 exact ⟨y,m,rfl⟩
theorem sqOK:q3a Tryz.prog 6 sqS:=by
 intro glob O w0 β H w base args vs hH hG ha
 refine q1h fun kv uv cv tv hv=>qrf fun p v s n hk hs=>q2a fun u hu=>qpm fun cl hc=>qpm fun tl ht=>fun hq => ?_
 subst hv hk hu
 obtain ⟨y,m,h1⟩:=qsf ha hs
 obtain ⟨xk,zs,hxk,hzs,rfl⟩:=denL_cons.1 h1
 obtain ⟨xu,zs1,hxu,hzs1,rfl⟩:=denL_cons.1 hzs
 obtain ⟨xc,zs2,hxc,hzs2,rfl⟩:=denL_cons.1 hzs1
 obtain ⟨xt,zs3,hxt,hzs3,rfl⟩:=denL_cons.1 hzs2
 obtain ⟨y1,m1,hc'⟩:=qjq hc hxc
 obtain ⟨y2,m2,ht'⟩:=qjq ht hxt
 have ha':SV.denL β (sqA p.den v.den u.den y n m y1 cl m1 y2 tl m2)=some (xk::xu::xc::xt::zs3):=denL_cons.2 ⟨_,_,hxk,denL_cons.2 ⟨_,_,qla rfl _ _ hxu,denL_cons.2 ⟨_,_,hc',denL_cons.2 ⟨_,_,ht',hzs3,rfl⟩,rfl⟩,rfl⟩,rfl⟩
 have key:∀ {us cs ds},CfgOK (cfgQ us)->outO [] (sqT us p.den v.den u.den y n m y1 cl m1 y2 tl m2) ds=(cs,some (sqV,[]))->(∀ q∈cs,q)->q4a Tryz.prog H β w base 6 (xk::xu::xc::xt::zs3) ⟨sqV,[],[]⟩:=by
  intro us cs ds hcf hr hc
  exact qqb hcf rfl 400 hH ⟨[],[],sqA p.den v.den u.den y n m y1 cl m1 y2 tl m2⟩ ha' (q5c rfl) [] (by simp) (by simp) hr hc fun _ _=>qkb rfl rfl rfl
 by_cases hval:usQ p.den v.den u.den n
 . have hcl:((cl:Int) != 16)=true:=by
    rcases hq with h | h
    . exact absurd hval h
    . rw [bne_iff_ne]; omega
   rcases hval.1.1 with ⟨h,_⟩ | ⟨h,_⟩
   . exact key qit (j3q p.den v.den u.den y n m y1 cl m1 y2 tl m2) (all_cons ⟨h,hval⟩ (q8d hcl 4))
   . exact key qjt (j4q p.den v.den u.den y n m y1 cl m1 y2 tl m2) (all_cons ⟨h,hval⟩ (q8d hcl 4))
 . exact key jvm (jkv p.den v.den u.den y n m y1 cl m1 y2 tl m2) (all_cons hval qaa)
def oqA (p v u:Int) (y:Option Addr) (l m:Nat) (sp sv:Int) (y1:Option Addr) (l1 m1:Nat):List SV:=[kyV p v y l m,.int .i64 (.sym u),.agg [.int .i64 (.sym sp),.int .i64 (.sym sv),vSl y1 l1 m1]]
def oqT (us:Summ) (p v u:Int) (y:Option Addr) (l m:Nat) (sp sv:Int) (y1:Option Addr) (l1 m1:Nat):Tree:=qca (cfgQ us) 400 8 (oqA p v u y l m sp sv y1 l1 m1) []
def v0C (v sv:Int):List Prop:=[(sv != v)=false,(sv != v)=false,(sv != v)=false,(sv != v)=false]
def v1C (v sv:Int):List Prop:=[(sv != v)=true,(sv != 0)=false,(sv != 0)=false,(sv != 0)=false,(sv != 0)=false]
def v2C (v sv:Int):List Prop:=[(sv != v)=true,(sv != 0)=true,(v != 0)=false]
def shC (l1:Nat) (g:Int):List Prop:=[qza ((l1:Int) - g),decide ((l1:Int) - g<16)=true]
section
variable (p v u sp sv:Int) (y:Option Addr) (l m:Nat) (y1:Option Addr) (l1 m1:Nat)
theorem jlv:outO [] (oqT uqE p v u y l m sp sv y1 l1 m1) []=([¬ usQ p v u l],some (opV 2,[])):=by kernel_rfl
theorem j9i:outO [] (oqT (uqS 1 kv1) p v u y l m sp sv y1 l1 m1) [true,true,true,true,true,true,true,true,true,true]=((p=1/\usQ p v u l)::repN ((sp != p)=true) 10,some (opV 9,[])):=by kernel_rfl
theorem jaj:outO [] (oqT (uqS 1 kv1) p v u y l m sp sv y1 l1 m1) [false,true,true,true]=((p=1/\usQ p v u l)::[(sp != p)=false,(sv != v)=true,(sv != 0)=true,(v != 0)=true],some (opV 9,[])):=by kernel_rfl
theorem jaa:outO [] (oqT (uqS 1 kv1) p v u y l m sp sv y1 l1 m1) [false,false,false,false,false,true]=((p=1/\usQ p v u l)::((sp != p)=false)::app (v0C v sv) (shC l1 16),some (opV 4,[])):=by kernel_rfl
theorem jba:outO [] (oqT (uqS 1 kv1) p v u y l m sp sv y1 l1 m1) [false,true,false,false,false,false,true]=((p=1/\usQ p v u l)::((sp != p)=false)::app (v1C v sv) (shC l1 16),some (opV 4,[])):=by kernel_rfl
theorem jca:outO [] (oqT (uqS 1 kv1) p v u y l m sp sv y1 l1 m1) [false,true,true,false,true]=((p=1/\usQ p v u l)::((sp != p)=false)::app (v2C v sv) (shC l1 16),some (opV 4,[])):=by kernel_rfl
theorem jbj:outO [] (oqT (uqS 2 kv2) p v u y l m sp sv y1 l1 m1) [true,true,true,true,true,true,true,true,true,true]=((p=2/\usQ p v u l)::repN ((sp != p)=true) 10,some (opV 9,[])):=by kernel_rfl
theorem jcj:outO [] (oqT (uqS 2 kv2) p v u y l m sp sv y1 l1 m1) [false,true,true,true]=((p=2/\usQ p v u l)::[(sp != p)=false,(sv != v)=true,(sv != 0)=true,(v != 0)=true],some (opV 9,[])):=by kernel_rfl
theorem jda:outO [] (oqT (uqS 2 kv2) p v u y l m sp sv y1 l1 m1) [false,false,false,false,false,true]=((p=2/\usQ p v u l)::((sp != p)=false)::app (v0C v sv) (shC l1 32),some (opV 4,[])):=by kernel_rfl
theorem jea:outO [] (oqT (uqS 2 kv2) p v u y l m sp sv y1 l1 m1) [false,true,false,false,false,false,true]=((p=2/\usQ p v u l)::((sp != p)=false)::app (v1C v sv) (shC l1 32),some (opV 4,[])):=by kernel_rfl
theorem jfa:outO [] (oqT (uqS 2 kv2) p v u y l m sp sv y1 l1 m1) [false,true,true,false,true]=((p=2/\usQ p v u l)::((sp != p)=false)::app (v2C v sv) (shC l1 32),some (opV 4,[])):=by kernel_rfl
end
def qxi (v sv:Int):Prop:=sv=v\/sv=0\/v=0
def oqP (e p v u:Int) (l:Nat) (sp sv:Int) (l1:Nat):Prop :=
 (e=2/\¬ usQ p v u l)\/(e=9/\usQ p v u l/\(sp≠p\/¬ qxi v sv))\/(e=4/\usQ p v u l/\sp=p/\qxi v sv/\l1<l+16)
def oqS (e:Int):Summ:=fun args _ _=>qoc args fun kv uv zv=>keyN kv fun p v l=>i64O uv fun u=>keyN zv fun sp sv l1=>.need (oqP e p.den v.den u.den l sp.den sv.den l1) (.ok ⟨opV e,[],[]⟩)
theorem qsc {v sv:Int} (h:qxi v sv):(∀ q∈v0C v sv,q)\/(∀ q∈v1C v sv,q)\/(∀ q∈v2C v sv,q):=by
 by_cases h0:sv=v
 . have e:(sv != v)=false:=by simp [h0]
   exact .inl (all_cons e (all_cons e (all_cons e (all_cons e qaa))))
 . have e:(sv != v)=true:=by simp [h0]
   by_cases h1:sv=0
   . have e1:(sv != 0)=false:=by simp [h1]
     exact .inr (.inl (all_cons e (all_cons e1 (all_cons e1 (all_cons e1 (all_cons e1 qaa))))))
   . have h2:v=0:=by rcases h with h | h | h <;> first | exact absurd h h0 | exact absurd h h1 | exact h
     exact .inr (.inr (all_cons e (all_cons (by simp [h1]) (all_cons (by simp [h2]) qaa))))
theorem qrd {l r:List Prop} (h:∀ q∈l,q) (h':∀ q∈r,q):∀ q∈app l r,q:=by
 intro q hq
 rw [qib,List.mem_append] at hq
 exact hq.elim (h q) (h' q)
theorem oqOK {e:Int}:q3a Tryz.prog 8 (oqS e):=by
 intro glob O w0 β H w base args vs hH hG ha
 refine qcb fun kv uv zv hv=>qrf fun p v s n hk hs=>q2a fun u hu=>qrf fun sp sv s1 l1 hz hs1=>fun hq => ?_
 subst hv hk hu hz
 obtain ⟨y,m,h1⟩:=qsf ha hs
 obtain ⟨xk,zs,hxk,hzs,rfl⟩:=denL_cons.1 h1
 obtain ⟨xu,zs1,hxu,hzs1,rfl⟩:=denL_cons.1 hzs
 obtain ⟨y1,m1,hzs1'⟩:=qsf hzs1 hs1
 have ha':SV.denL β (oqA p.den v.den u.den y n m sp.den sv.den y1 l1 m1)=some (xk::xu::zs1):=denL_cons.2 ⟨_,_,hxk,denL_cons.2 ⟨_,_,qla rfl _ _ hxu,hzs1',rfl⟩,rfl⟩
 have key:∀ {us cs ds},CfgOK (cfgQ us)->outO [] (oqT us p.den v.den u.den y n m sp.den sv.den y1 l1 m1) ds=(cs,some (opV e,[]))->(∀ q∈cs,q)->q4a Tryz.prog H β w base 8 (xk::xu::zs1) ⟨opV e,[],[]⟩:=by
  intro us cs ds hcf hr hc
  exact qqb hcf rfl 400 hH ⟨[],[],oqA p.den v.den u.den y n m sp.den sv.den y1 l1 m1⟩ ha' (q5c rfl) [] (by simp) (by simp) hr hc fun _ _=>qkb rfl rfl rfl
 rcases hq with ⟨rfl,hval⟩ | ⟨rfl,hval,hne⟩ | ⟨rfl,hval,hsp,hvs,hlt⟩
 . exact key jvm (jlv p.den v.den u.den sp.den sv.den y n m y1 l1 m1) (all_cons hval qaa)
 . by_cases hsp:sp.den=p.den
   . have hv:¬ qxi v.den sv.den:=hne.resolve_left fun h=>h hsp
     have hv:¬ (sv.den=v.den\/sv.den=0\/v.den=0):=hv
     have hc:∀ q∈[(sp.den != p.den)=false,(sv.den != v.den)=true,(sv.den != 0)=true,(v.den != 0)=true],q:=all_cons (by simp [hsp]) (all_cons (by rw [bne_iff_ne]; omega) (all_cons (by rw [bne_iff_ne]; omega) (all_cons (by rw [bne_iff_ne]; omega) qaa)))
     rcases hval.1.1 with ⟨h,_⟩ | ⟨h,_⟩
     . exact key qit (jaj p.den v.den u.den sp.den sv.den y n m y1 l1 m1) (all_cons ⟨h,hval⟩ hc)
     . exact key qjt (jcj p.den v.den u.den sp.den sv.den y n m y1 l1 m1) (all_cons ⟨h,hval⟩ hc)
   . have hc:(sp.den != p.den)=true:=by simp [hsp]
     rcases hval.1.1 with ⟨h,_⟩ | ⟨h,_⟩
     . exact key qit (j9i p.den v.den u.den sp.den sv.den y n m y1 l1 m1) (all_cons ⟨h,hval⟩ (q8d hc 10))
     . exact key qjt (jbj p.den v.den u.den sp.den sv.den y n m y1 l1 m1) (all_cons ⟨h,hval⟩ (q8d hc 10))
 . have hc:(sp.den != p.den)=false:=by simp [hsp]
   have hsh:∀ {g:Int},g=n->n<=32->∀ q∈shC l1 g,q:=fun {g} hg hn=>all_cons ⟨by omega,by omega⟩ (all_cons (decide_eq_true (by omega)) qaa)
   rcases hval.1.1 with ⟨h,hn⟩ | ⟨h,hn⟩
   . rcases qsc hvs with hv | hv | hv
     . exact key qit (jaa p.den v.den u.den sp.den sv.den y n m y1 l1 m1) (all_cons ⟨h,hval⟩ (all_cons hc (qrd hv (hsh (by omega) (by omega)))))
     . exact key qit (jba p.den v.den u.den sp.den sv.den y n m y1 l1 m1) (all_cons ⟨h,hval⟩ (all_cons hc (qrd hv (hsh (by omega) (by omega)))))
     . exact key qit (jca p.den v.den u.den sp.den sv.den y n m y1 l1 m1) (all_cons ⟨h,hval⟩ (all_cons hc (qrd hv (hsh (by omega) (by omega)))))
   . rcases qsc hvs with hv | hv | hv
     . exact key qjt (jda p.den v.den u.den sp.den sv.den y n m y1 l1 m1) (all_cons ⟨h,hval⟩ (all_cons hc (qrd hv (hsh (by omega) (by omega)))))
     . exact key qjt (jea p.den v.den u.den sp.den sv.den y n m y1 l1 m1) (all_cons ⟨h,hval⟩ (all_cons hc (qrd hv (hsh (by omega) (by omega)))))
     . exact key qjt (jfa p.den v.den u.den sp.den sv.den y n m y1 l1 m1) (all_cons ⟨h,hval⟩ (all_cons hc (qrd hv (hsh (by omega) (by omega)))))
end
end Go.Proofs.YtcpafideogckmaaGreatDoor.Aes
