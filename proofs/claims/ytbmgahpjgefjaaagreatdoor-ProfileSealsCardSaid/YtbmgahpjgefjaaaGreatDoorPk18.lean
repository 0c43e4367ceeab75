/-
  Texts behind one another: the symbolic simulator and what it is told of the program.
-/
import Derived.Test.YtbmgahpjgefjaaaGreatDoorPk16
import Derived.Test.YtbmgahpjgefjaaaGreatDoorPk14
import Derived.Test.YtbmgahpjgefjaaaGreatDoorZRmc3
namespace Go.Proofs.YtbmgahpjgefjaaaGreatDoor.Aes
open Go.Sim
open Go.Proofs
variable {α:Type}
set_option maxRecDepth 1000000
noncomputable def orF (X Y:Nat→BitVec 8) (n:Nat):BitVec 8:=Nat.rec (motive:=fun _=>BitVec 8) (BitVec.ofInt 8 0) (fun j ih=>ih ||| (X j ^^^ Y j)) n
section
variable (a b:Sl) (m m2:Nat)
end
noncomputable def eqB (a b:Sl) (n:Nat):Bool:=@decide (b.n=n∧∀ i,i<n→a.F i=b.F i) (Classical.propDecidable _)
theorem qpo {I:Ifc} {base:Nat} {b b':SB} {H:List SO} (ho:q8b I.ents 0=[]) (h:b.den=b'.den):I.Ends base [] ⟨.bool b',[],[]⟩ (.bool b) H:=by
  refine ⟨?_,rfl,by rw [ho]; trivial,trivial⟩
  intro γ x hx
  have hx:some (Value.bool b.den)=some x:=by cases b <;> exact hx
  rw [h] at hx
  cases b' <;> exact hx
end Go.Proofs.YtbmgahpjgefjaaaGreatDoor.Aes
namespace Go.Proofs.YtbmgahpjgefjaaaGreatDoor.Aes
open Go.Sim
open Go.Proofs
variable {α:Type}
set_option maxRecDepth 1000000
noncomputable def jbl:Cfg:=qae (qcb [(37,qft)])
theorem jdp:CfgOK jbl:=q7b (all1 qfq)
noncomputable def opT (v u sp sv:Int) (k t:Sl):Tree:=qba jbl 4000 15 [.agg [.int .i64 (.lit 1),.int .i64 (.sym v),k.valN 0 16],.int .i64 (.sym u),.agg [.int .i64 (.sym sp),.int .i64 (.sym sv),t.val 1]] [k.row,t.row]
noncomputable def opC (v u:Int) (r:List Prop):List Prop:=(decide (0≤v)=true)::(decide (v≤65535)=true)::(decide (1≤u)=true)::(decide (u≤1023)=true)::r
noncomputable def opV (e:Int):SV:=.tuple [.nilSlice,.int .i64 (.lit e)]
section
variable (v u sp sv:Int) (k t:Sl) (m m2:Nat)
theorem jep:outO [] (opT v u sp sv (k.pl m) (t.pl m2)) [true,true,true,true,true,true,true,true,true,true,true,true,true,true]=(opC v u (repN ((sp != 1)=true) 10),some (opV 9,[])):=by kernel_rfl
theorem jfp:outO [] (opT v u sp sv (k.pl m) (t.pl m2)) [true,true,true,true,false,true,true,true]=(opC v u [(sp != 1)=false,(sv != v)=true,(sv != 0)=true,(v != 0)=true],some (opV 9,[])):=by kernel_rfl
theorem jdi:outO [] (opT v u sp sv (k.pl m) (t.pl m2)) [true,true,true,true,false,false,false,false,false,true]=(opC v u [(sp != 1)=false,(sv != v)=false,(sv != v)=false,(sv != v)=false,(sv != v)=false,q4a ((t.n:Int) - 16),decide ((t.n:Int) - 16<16)=true],some (opV 4,[])):=by kernel_rfl
end
noncomputable def opR (e:Int):R SumRes:=.ok ⟨opV e,[],[]⟩
noncomputable def jcl:Summ:=fun args H _=>quc args fun kv uv zv=>kv.asAgg (.stuck 797) fun l=>quc l fun p v s=>optC (litI p) (.stuck 797) fun p=>boolC (Nat.beq p 1) (i64O v fun v=>i64O uv fun u=>zv.asAgg (.stuck 797) fun l2=>quc l2 fun sp sv ss=>i64O sp fun sp=>i64O sv fun sv =>
  qoi H s fun _ kn n=>boolC (Nat.beq n 16) (qnc H ss fun t tn=>boolC (qfd [kn,tn]) (.need ((0≤v.den∧v.den≤65535)∧1≤u.den∧u.den≤1023)
    (isI sp 1 (sv.asLit (.stuck 797) fun a=>v.asLit (.stuck 797) fun b=>boolC (eqI a b) (.need (t.n<32) (opR 4)) (boolC (eqI a 0) (.stuck 797) (boolC (eqI b 0) (.stuck 797) (opR 9)))) (opR 9))) (.stuck 797)) (.stuck 797)) (.stuck 797)
theorem q2c {p:Prop} (h:p):∀ n,∀ q∈repN p n,q:=by
  intro n q hq
  rw [q2h] at hq
  rw [List.eq_of_mem_replicate hq]; exact h
theorem jft:q5a Tryz.prog 15 jcl:=by
  intro glob O w0 β H w base args vs hH hG ha
  refine qib fun kv uv zv hv => ?_
  rcases qfc kv with ⟨l,rfl⟩ | hno
  case inr=>rw [hno]; trivial
  refine qib fun p v s hl=>qja fun p0 hp=>qfa fun hp1=>q1a fun v' hv'=>q1a fun u hu => ?_
  rcases qfc zv with ⟨l2,rfl⟩ | hno
  case inr=>rw [hno]; trivial
  refine qib fun sp sv ss hl2=>q1a fun sp' hsp=>q1a fun sv' hsv=>q9e fun k kn n hn1 ht1 hi1 hkn=>qfa fun h16=>qdb fun t tn hn2 ht2 hi2=>qfa fun hd=>fun ⟨⟨hv1,hv2⟩,hu1,hu2⟩ => ?_
  have h16:=qna h16
  have hp1:=qna hp1
  subst hl hv' hu hl2 hsp hsv h16 hp1
  rw [hv,q6e hp] at ha
  obtain ⟨⟨xs,hxs⟩,zs,hzs⟩:=q8g ha
  obtain ⟨m,hks⟩:=Sl.valN_den (hi1 _ _ hxs)
  obtain ⟨xu,zs1,hxu,hzs1,rfl⟩:=denL_cons.1 hzs
  obtain ⟨⟨xt,hxt⟩,zs2,hzs2⟩:=q8g hzs1
  obtain ⟨m2,_,hts⟩:=Sl.val_den (hi2 _ _ hxt)
  have h2:SV.denL β [.agg [.int .i64 (.sym sp'.den),.int .i64 (.sym sv'.den),(t.pl m2).val tn]]=some zs1:=qxf hzs1 (fun x hx=>by rw [hxt] at hx; cases hx; exact hts) (qoa rfl) (qoa rfl)
  have h1:SV.denL β [.agg [.int .i64 (.lit 1),.int .i64 (.sym v'.den),(k.pl m).valN kn 16],.int .i64 (.sym u.den),.agg [.int .i64 (.sym sp'.den),.int .i64 (.sym sv'.den),(t.pl m2).val tn]]=some vs:=by
    have h1:=qxf (s':=(k.pl m).valN kn 16) (p':=.int .i64 (.lit 1)) (v':=.int .i64 (.sym v'.den)) ha (fun x hx=>by rw [hxs] at hx; cases hx; exact hks) (.refl _) (qoa rfl)
    obtain ⟨xa,ws,hxa,hws,rfl⟩:=denL_cons.1 h1
    refine denL_cons.2 ⟨_,_,hxa,?_,rfl⟩
    rw [hzs] at hws
    cases hws
    exact denL_cons.2 ⟨_,_,qoa rfl _ _ hxu,h2,rfl⟩
  have key:∀ {ds cs e},outO [] (opT v'.den u.den sp'.den sv'.den (k.pl m) (t.pl m2)) ds=(opC v'.den u.den cs,some (opV e,[]))→(∀ q∈cs,q)→q3a Tryz.prog H β w base 15 vs ⟨opV e,[],[]⟩:=by
    intro ds cs e hr hc
    refine qob jdp rfl 4000 hH ⟨[kn,tn],[k.row,t.row],[.agg [.int .i64 (.lit 1),.int .i64 (.sym v'.den),(k.pl m).valN 0 16],.int .i64 (.sym u.den),.agg [.int .i64 (.sym sp'.den),.int .i64 (.sym sv'.den),(t.pl m2).val 1]]⟩ ?_ (Ifc.fits (q4e hd) rfl ⟨⟨ht1 _,k.row_uses _⟩,⟨ht2 _,t.row_uses _⟩,trivial⟩) [] (by simp) (by simp) hr (all_cons (decide_eq_true hv1) (all_cons (decide_eq_true hv2) (all_cons (decide_eq_true hu1) (all_cons (decide_eq_true hu2) hc)))) fun _ _=>qmc rfl rfl rfl
    show SV.denL β [.agg [.int .i64 (.lit 1),.int .i64 (.sym v'.den),((k.pl m).valN 0 16).ren _],.int .i64 (.sym u.den),.agg [.int .i64 (.sym sp'.den),.int .i64 (.sym sv'.den),((t.pl m2).val 1).ren _]]=_
    rw [Sl.valN_ren,Sl.val_ren]
    exact h1
  refine q0d (fun hs1 => ?_) fun hs1 => ?_
  · have e1:(sp'.den != 1)=false:=by rw [hs1]; rfl
    cases sv' with
    | lit a =>
      cases v' with
      | lit b =>
        refine qla (fun hab=>fun ht => ?_) fun hab=>qla (fun _=>trivial) fun ha0=>qla (fun _=>trivial) fun hb0 => ?_
        · have hab:=qgm hab
          subst hab
          have e2:((SI.lit a).den != (SI.lit a).den)=false:=by simp
          exact key (jdi (SI.lit a).den u.den sp'.den (SI.lit a).den k t m m2) (all_cons e1 (all_cons e2 (all_cons e2 (all_cons e2 (all_cons e2 (all_cons ⟨by omega,by omega⟩ (all_cons (decide_eq_true (by omega)) qca)))))))
        · have ne:∀ {x y:Int},eqI x y=false→(x != y)=true:=fun {x y} h=>by
            rw [bne_iff_ne]
            intro e
            subst e
            rw [qii] at h
            simp at h
          exact key (jfp (SI.lit b).den u.den sp'.den (SI.lit a).den k t m m2) (all_cons e1 (all_cons (ne hab) (all_cons (ne ha0) (all_cons (ne hb0) qca))))
      | sym b=>trivial
      | b8 b=>trivial
      | b32 b=>trivial
      | b64 b=>trivial
    | sym a=>trivial
    | b8 a=>trivial
    | b32 a=>trivial
    | b64 a=>trivial
  · exact key (jep v'.den u.den sp'.den sv'.den k t m m2) (q2c (by rw [bne_iff_ne]; exact hs1) 10)
end Go.Proofs.YtbmgahpjgefjaaaGreatDoor.Aes
namespace Go.Proofs.YtbmgahpjgefjaaaGreatDoor.Aes
open Go.Sim
open Go.Proofs
variable {α:Type}
set_option maxRecDepth 1000000
noncomputable def strS (t:Sl):ByteArray:=qxi (qea t.X) t.o t.n
theorem strS_iff {x y:Sl}:strS x=strS y↔SlEq x y:=by
  constructor
  · intro h
    have h1:=congrArg (fun b:ByteArray=>b.data.toList) h
    simp only [strS,qxi,List.toList_toArray] at h1
    have hl:x.n=y.n:=by simpa using congrArg List.length h1
    refine ⟨hl,fun i hi => ?_⟩
    have h2:=congrArg (fun l:List UInt8=>l[i]?) h1
    simp only [List.getElem?_map,List.getElem?_range hi,List.getElem?_range (show i<y.n by omega),Option.map_some,Option.some.injEq] at h2
    have h3:UInt8.ofNat (((x.X (x.o+i)).toNat:Int)).toNat=UInt8.ofNat (((y.X (y.o+i)).toNat:Int)).toNat:=h2
    rw [Int.toNat_natCast,Int.toNat_natCast] at h3
    have h4:=congrArg UInt8.toNat h3
    rw [UInt8.toNat_ofNat',UInt8.toNat_ofNat'] at h4
    have a:=(x.X (x.o+i)).isLt
    have b:=(y.X (y.o+i)).isLt
    exact BitVec.eq_of_toNat_eq (by omega)
  · rintro ⟨hl,h⟩
    unfold strS qxi
    rw [← hl]
    congr 2
    apply List.map_congr_left
    intro i hi
    show UInt8.ofNat (((x.X (x.o+i)).toNat:Int)).toNat=UInt8.ofNat (((y.X (y.o+i)).toNat:Int)).toNat
    rw [h i (by simpa using hi)]
noncomputable def samB (p v:Int) (x:Sl) (p' v':Int) (y:Sl):Bool:=@decide (p=p'∧v=v'∧SlEq x y) (Classical.propDecidable _)
theorem samB_iff {p v:Int} {x:Sl} {p' v':Int} {y:Sl}:samB p v x p' v' y=true↔p=p'∧v=v'∧SlEq x y:=by
  unfold samB; exact @decide_eq_true_iff _ (Classical.propDecidable _)
noncomputable def saA (p v:Int) (x:SV) (p' v':Int) (y:SV):List SV:=[.agg [.int .i64 (.sym p),.int .i64 (.sym v),x],.agg [.int .i64 (.sym p'),.int .i64 (.sym v'),y]]
theorem qhq {q:Nat→Bool} {p v:Int} {x:SV} {p' v':Int} {y:SV} (hx:x.uses q=true) (hy:y.uses q=true):SV.usesL q (saA p v x p' v' y)=true:=by
  show ((true && (true && (x.uses q && true))) && ((true && (true && (y.uses q && true))) && true))=true
  rw [hx,hy]; rfl
noncomputable def rdC (x:Sl):Prop:=x.o+x.n≤x.N∧∀ i:Nat,i<x.N→True
theorem q0h {x:Sl} (h:okL x):rdC x:=⟨h.1,fun _ _=>trivial⟩
section
variable (p v p' v':Int) (x y:Sl) (m m2:Nat)
theorem jgt:outO [] (qba cfg0 4000 14 (saA p v .nilSlice p' v' .nilSlice) []) [false,false,false,false,false,false]=(repN ((p == p')=false) 6,some (.bool (.lit false),[])):=by kernel_rfl
theorem jht:outO [] (qba cfg0 4000 14 (saA p v .nilSlice p' v' .nilSlice) []) [true,false,false,false,false,false,false,false,false]=(((p == p')=true)::repN ((v == v')=false) 8,some (.bool (.lit false),[])):=by kernel_rfl
theorem jit:outO [] (qba cfg0 4000 14 (saA p v .nilSlice p' v' .nilSlice) []) [true,true]=([(p == p')=true,(v == v')=true],some ((.bool (.lit true)),[])):=by kernel_rfl
theorem jjt:outO [] (qba cfg0 4000 14 (saA p v .nilSlice p' v' ((y.pl m2).val 0)) [(y.pl m2).row]) [false,false,false,false,false,false]=(repN ((p == p')=false) 6,some (.bool (.lit false),[])):=by kernel_rfl
theorem jkt:outO [] (qba cfg0 4000 14 (saA p v .nilSlice p' v' ((y.pl m2).val 0)) [(y.pl m2).row]) [true,false,false,false,false,false,false,false,false]=(((p == p')=true)::repN ((v == v')=false) 8,some (.bool (.lit false),[])):=by kernel_rfl
theorem jlt:outO [] (qba cfg0 4000 14 (saA p v .nilSlice p' v' ((y.pl m2).val 0)) [(y.pl m2).row]) [true,true]=([(p == p')=true,(v == v')=true,rdC y],some ((.bool (.sym (decide (strS q1c=strS y)))),[])):=by kernel_rfl
theorem jmt:outO [] (qba cfg0 4000 14 (saA p v ((x.pl m).val 0) p' v' .nilSlice) [(x.pl m).row]) [false,false,false,false,false,false]=(repN ((p == p')=false) 6,some (.bool (.lit false),[])):=by kernel_rfl
theorem jnt:outO [] (qba cfg0 4000 14 (saA p v ((x.pl m).val 0) p' v' .nilSlice) [(x.pl m).row]) [true,false,false,false,false,false,false,false,false]=(((p == p')=true)::repN ((v == v')=false) 8,some (.bool (.lit false),[])):=by kernel_rfl
theorem jot:outO [] (qba cfg0 4000 14 (saA p v ((x.pl m).val 0) p' v' .nilSlice) [(x.pl m).row]) [true,true]=([(p == p')=true,(v == v')=true,rdC x],some ((.bool (.sym (decide (strS x=strS q1c)))),[])):=by kernel_rfl
theorem jpt:outO [] (qba cfg0 4000 14 (saA p v ((x.pl m).val 0) p' v' ((y.pl m2).val 1)) [(x.pl m).row,(y.pl m2).row]) [false,false,false,false,false,false]=(repN ((p == p')=false) 6,some (.bool (.lit false),[])):=by kernel_rfl
theorem jqt:outO [] (qba cfg0 4000 14 (saA p v ((x.pl m).val 0) p' v' ((y.pl m2).val 1)) [(x.pl m).row,(y.pl m2).row]) [true,false,false,false,false,false,false,false,false]=(((p == p')=true)::repN ((v == v')=false) 8,some (.bool (.lit false),[])):=by kernel_rfl
theorem jrt:outO [] (qba cfg0 4000 14 (saA p v ((x.pl m).val 0) p' v' ((y.pl m2).val 1)) [(x.pl m).row,(y.pl m2).row]) [true,true]=([(p == p')=true,(v == v')=true,rdC x,rdC y],some ((.bool (.sym (decide (strS x=strS y)))),[])):=by kernel_rfl
end
noncomputable def saS:Summ:=fun args H _=>q9c args fun av bv=>av.asAgg (.stuck 850) fun l=>quc l fun p v s=>i64O p fun p=>i64O v fun v=>bv.asAgg (.stuck 850) fun l2=>quc l2 fun p' v' s'=>i64O p' fun p'=>i64O v' fun v'=>txtL H s fun x xn=>txtL H s' fun y yn=>boolC (qfd (app (optL xn) (optL yn))) (.need (okL x∧okL y) (.ok ⟨.bool (.sym (samB p.den v.den x p'.den v'.den y)),[],[]⟩)) (.stuck 850)
theorem saOK:q5a Tryz.prog 14 saS:=by
  intro glob O w0 β H w base args vs hH hG ha
  refine qlb fun av bv hv => ?_
  rcases qfc av with ⟨l,rfl⟩ | hno
  case inr=>rw [hno]; trivial
  refine qib fun p v s hl=>q1a fun p1 hp=>q1a fun v1 hv1 => ?_
  rcases qfc bv with ⟨l2,rfl⟩ | hno
  case inr=>rw [hno]; trivial
  refine qib fun p' v' s' hl2=>q1a fun p2 hp2=>q1a fun v2 hv2 => ?_
  subst hl hl2 hp hv1 hp2 hv2
  rw [hv] at ha
  obtain ⟨⟨xs,hxs⟩,zs,hzs⟩:=q8g ha
  obtain ⟨⟨xt,hxt⟩,zs2,hzs2⟩:=q8g hzs
  have harg:∀ {sx sy:SV},sx.den β=some xs→sy.den β=some xt→SV.denL β (saA p1.den v1.den sx p2.den v2.den sy)=some vs:=by
    intro sx sy hx hy
    have h2:SV.denL β [.agg [.int .i64 (.sym p2.den),.int .i64 (.sym v2.den),sy]]=some zs:=qxf hzs (fun z hz=>by rw [hxt] at hz; cases hz; exact hy) (qoa rfl) (qoa rfl)
    have h1:=qxf (s':=sx) (p':=.int .i64 (.sym p1.den)) (v':=.int .i64 (.sym v1.den)) ha (fun z hz=>by rw [hxs] at hz; cases hz; exact hx) (qoa rfl) (qoa rfl)
    obtain ⟨xa,ws,hxa,hws,rfl⟩:=denL_cons.1 h1
    refine denL_cons.2 ⟨_,_,hxa,?_,rfl⟩
    rw [hzs] at hws
    cases hws
    exact h2
  have hp1:p1.den≠p2.den→(p1.den == p2.den)=false:=fun h=>by rw [beq_eq_false_iff_ne]; exact h
  have hv1:v1.den≠v2.den→(v1.den == v2.den)=false:=fun h=>by rw [beq_eq_false_iff_ne]; exact h
  have no:∀ {x y:Sl},¬ (p1.den=p2.den∧v1.den=v2.den∧SlEq x y)→(SB.lit false).den=samB p1.den v1.den x p2.den v2.den y:=fun h=>by
    symm; show samB _ _ _ _ _ _=false
    rw [Bool.eq_false_iff]; exact fun e=>h (samB_iff.1 e)
  have yes:∀ {x y:Sl},p1.den=p2.den→v1.den=v2.den→(SB.sym (decide (strS x=strS y))).den=samB p1.den v1.den x p2.den v2.den y:=fun {x y} h h'=>by
    show decide _=_
    rw [Bool.eq_iff_iff,samB_iff,decide_eq_true_iff,strS_iff]
    exact ⟨fun e=>⟨h,h',e⟩,fun e=>e.2.2⟩
  refine qhk (fun hx=>qhk (fun hy=>qfa fun hd=>fun _ => ?_) fun y yn hn2 ht2 hi2=>qfa fun hd=>fun ⟨_,hoy⟩ => ?_) fun x xn hn1 ht1 hi1=>qhk (fun hy=>qfa fun hd=>fun ⟨hox,_⟩ => ?_) fun y yn hn2 ht2 hi2=>qfa fun hd=>fun ⟨hox,hoy⟩ => ?_
  · subst hx
    subst hy
    have key:∀ {cs ds b},outO [] (qba cfg0 4000 14 (saA p1.den v1.den .nilSlice p2.den v2.den .nilSlice) []) ds=(cs,some (.bool b,[]))→(∀ q∈cs,q)→b.den=samB p1.den v1.den q1c p2.den v2.den q1c→q3a Tryz.prog H β w base 14 vs ⟨.bool (.sym (samB p1.den v1.den q1c p2.den v2.den q1c)),[],[]⟩:=by
      intro cs ds b hr hc hb
      refine qob qsc rfl 4000 hH ⟨[],[],saA p1.den v1.den .nilSlice p2.den v2.den .nilSlice⟩ ?_ (Ifc.fits (by simp) ?_ trivial) [] (by simp) (by simp) hr hc fun _ _=>qpo rfl hb
      · show SV.denL β (saA p1.den v1.den (.nilSlice) p2.den v2.den (.nilSlice))=_
        exact harg hxs hxt
      · exact qhq rfl rfl
    by_cases h1:p1.den=p2.den
    · by_cases h2:v1.den=v2.den
      · exact key (jit p1.den v1.den p2.den v2.den) (all_cons (by simp [h1]) (all_cons (by simp [h2]) qca)) ((show (SB.lit true).den=_ from (by symm; exact samB_iff.2 ⟨h1,h2,rfl,fun _ _=>rfl⟩)))
      · exact key (jht p1.den v1.den p2.den v2.den) (all_cons (by simp [h1]) (q2c (hv1 h2) 8)) (no fun h=>h2 h.2.1)
    · exact key (jgt p1.den v1.den p2.den v2.den) (q2c (hp1 h1) 6) (no fun h=>h1 h.1)
  · subst hx
    obtain ⟨m2,_,hyd⟩:=Sl.val_den (hi2 _ _ hxt)
    have key:∀ {cs ds b},outO [] (qba cfg0 4000 14 (saA p1.den v1.den .nilSlice p2.den v2.den ((y.pl m2).val 0)) [(y.pl m2).row]) ds=(cs,some (.bool b,[]))→(∀ q∈cs,q)→b.den=samB p1.den v1.den q1c p2.den v2.den y→q3a Tryz.prog H β w base 14 vs ⟨.bool (.sym (samB p1.den v1.den q1c p2.den v2.den y)),[],[]⟩:=by
      intro cs ds b hr hc hb
      refine qob qsc rfl 4000 hH ⟨[yn],[(y.pl m2).row],saA p1.den v1.den .nilSlice p2.den v2.den ((y.pl m2).val 0)⟩ ?_ (Ifc.fits (q4e hd) ?_ ⟨⟨ht2 _,y.row_uses _⟩,trivial⟩) [] (by simp) (by simp) hr hc fun _ _=>qpo rfl hb
      · show SV.denL β (saA p1.den v1.den (.nilSlice) p2.den v2.den (((y.pl m2).val 0).ren _))=_
        rw [Sl.val_ren]
        exact harg hxs hyd
      · exact qhq rfl (Sl.val_uses _ _ _ rfl)
    by_cases h1:p1.den=p2.den
    · by_cases h2:v1.den=v2.den
      · exact key (jlt p1.den v1.den p2.den v2.den y m2) (all_cons (by simp [h1]) (all_cons (by simp [h2]) (all_cons (q0h hoy) qca))) (yes h1 h2)
      · exact key (jkt p1.den v1.den p2.den v2.den y m2) (all_cons (by simp [h1]) (q2c (hv1 h2) 8)) (no fun h=>h2 h.2.1)
    · exact key (jjt p1.den v1.den p2.den v2.den y m2) (q2c (hp1 h1) 6) (no fun h=>h1 h.1)
  · subst hy
    obtain ⟨m,_,hxd⟩:=Sl.val_den (hi1 _ _ hxs)
    have key:∀ {cs ds b},outO [] (qba cfg0 4000 14 (saA p1.den v1.den ((x.pl m).val 0) p2.den v2.den .nilSlice) [(x.pl m).row]) ds=(cs,some (.bool b,[]))→(∀ q∈cs,q)→b.den=samB p1.den v1.den x p2.den v2.den q1c→q3a Tryz.prog H β w base 14 vs ⟨.bool (.sym (samB p1.den v1.den x p2.den v2.den q1c)),[],[]⟩:=by
      intro cs ds b hr hc hb
      refine qob qsc rfl 4000 hH ⟨[xn],[(x.pl m).row],saA p1.den v1.den ((x.pl m).val 0) p2.den v2.den .nilSlice⟩ ?_ (Ifc.fits (q4e hd) ?_ ⟨⟨ht1 _,x.row_uses _⟩,trivial⟩) [] (by simp) (by simp) hr hc fun _ _=>qpo rfl hb
      · show SV.denL β (saA p1.den v1.den (((x.pl m).val 0).ren _) p2.den v2.den (.nilSlice))=_
        rw [Sl.val_ren]
        exact harg hxd hxt
      · exact qhq (Sl.val_uses _ _ _ rfl) rfl
    by_cases h1:p1.den=p2.den
    · by_cases h2:v1.den=v2.den
      · exact key (jot p1.den v1.den p2.den v2.den x m) (all_cons (by simp [h1]) (all_cons (by simp [h2]) (all_cons (q0h hox) qca))) (yes h1 h2)
      · exact key (jnt p1.den v1.den p2.den v2.den x m) (all_cons (by simp [h1]) (q2c (hv1 h2) 8)) (no fun h=>h2 h.2.1)
    · exact key (jmt p1.den v1.den p2.den v2.den x m) (q2c (hp1 h1) 6) (no fun h=>h1 h.1)
  · obtain ⟨m,_,hxd⟩:=Sl.val_den (hi1 _ _ hxs)
    obtain ⟨m2,_,hyd⟩:=Sl.val_den (hi2 _ _ hxt)
    have key:∀ {cs ds b},outO [] (qba cfg0 4000 14 (saA p1.den v1.den ((x.pl m).val 0) p2.den v2.den ((y.pl m2).val 1)) [(x.pl m).row,(y.pl m2).row]) ds=(cs,some (.bool b,[]))→(∀ q∈cs,q)→b.den=samB p1.den v1.den x p2.den v2.den y→q3a Tryz.prog H β w base 14 vs ⟨.bool (.sym (samB p1.den v1.den x p2.den v2.den y)),[],[]⟩:=by
      intro cs ds b hr hc hb
      refine qob qsc rfl 4000 hH ⟨[xn,yn],[(x.pl m).row,(y.pl m2).row],saA p1.den v1.den ((x.pl m).val 0) p2.den v2.den ((y.pl m2).val 1)⟩ ?_ (Ifc.fits (q4e hd) ?_ ⟨⟨ht1 _,x.row_uses _⟩,⟨ht2 _,y.row_uses _⟩,trivial⟩) [] (by simp) (by simp) hr hc fun _ _=>qpo rfl hb
      · show SV.denL β (saA p1.den v1.den (((x.pl m).val 0).ren _) p2.den v2.den (((y.pl m2).val 1).ren _))=_
        rw [Sl.val_ren,Sl.val_ren]
        exact harg hxd hyd
      · exact qhq (Sl.val_uses _ _ _ rfl) (Sl.val_uses _ _ _ rfl)
    by_cases h1:p1.den=p2.den
    · by_cases h2:v1.den=v2.den
      · exact key (jrt p1.den v1.den p2.den v2.den x y m m2) (all_cons (by simp [h1]) (all_cons (by simp [h2]) (all_cons (q0h hox) (all_cons (q0h hoy) qca)))) (yes h1 h2)
      · exact key (jqt p1.den v1.den p2.den v2.den x y m m2) (all_cons (by simp [h1]) (q2c (hv1 h2) 8)) (no fun h=>h2 h.2.1)
    · exact key (jpt p1.den v1.den p2.den v2.den x y m m2) (q2c (hp1 h1) 6) (no fun h=>h1 h.1)
end Go.Proofs.YtbmgahpjgefjaaaGreatDoor.Aes
namespace Go.Proofs.YtbmgahpjgefjaaaGreatDoor.Aes
open Go.Sim
open Go.Proofs
variable {α:Type}
set_option maxRecDepth 1000000
noncomputable def lnR (n:Int):R SumRes:=.ok ⟨.int .i64 (.lit n),[],[]⟩
noncomputable def lnS (a b:Int):Summ:=fun args _ _=>qdd args fun pv=>i64O pv fun p=>isI p 1 (lnR a) (isI p 2 (lnR b) (lnR 0))
theorem lnOK {f:FuncId} {a b:Int} (h:∀ p:Int,outO [] (qba cfgF 400 f [.int .i64 (.sym p)] []) [true]=([(p == 1)=true],some (.int .i64 (.lit a),[]))) (h2:∀ p:Int,outO [] (qba cfgF 400 f [.int .i64 (.sym p)] []) [false,true]=([(p == 1)=false,(p == 2)=true],some (.int .i64 (.lit b),[]))) (h0:∀ p:Int,outO [] (qba cfgF 400 f [.int .i64 (.sym p)] []) [false,false]=([(p == 1)=false,(p == 2)=false],some (.int .i64 (.lit 0),[]))):q5a Tryz.prog f (lnS a b):=by
  intro glob O w0 β H w base args vs hH hG ha
  refine qtb fun pv hv=>q1a fun p hp => ?_
  subst hv hp
  have ha':SV.denL β [.int .i64 (.sym p.den)]=some vs:=q4m ha (qoa rfl)
  have key:∀ {ds cs n},outO [] (qba cfgF 400 f [.int .i64 (.sym p.den)] []) ds=(cs,some (.int .i64 (.lit n),[]))→(∀ q∈cs,q)→q3a Tryz.prog H β w base f vs ⟨.int .i64 (.lit n),[],[]⟩:=by
    intro ds cs n hr hc
    exact qob qas rfl 400 hH ⟨[],[],[.int .i64 (.sym p.den)]⟩ ha' (qed rfl) [] (by simp) (by simp) hr hc fun _ _=>qmc rfl rfl rfl
  refine q0d (fun h1=>key (h _) (all_cons (by simp [h1]) qca)) fun h1=>q0d (fun h2'=>key (h2 _) (all_cons (by simp [h1]) (all_cons (by simp [h2']) qca))) fun h2'=>key (h0 _) (all_cons (by simp [h1]) (all_cons (by simp [h2']) qca))
end Go.Proofs.YtbmgahpjgefjaaaGreatDoor.Aes
namespace Go.Proofs.YtbmgahpjgefjaaaGreatDoor.Aes
open Go.Sim
open Go.Proofs
variable {α:Type}
set_option maxRecDepth 1000000
theorem jgp:q5a Tryz.prog 88 numS:=qm9 fun u=>by kernel_rfl
theorem qx9:q5a Tryz.prog 24 (lnS 16 32):=lnOK (fun p=>by kernel_rfl) (fun p=>by kernel_rfl) fun p=>by kernel_rfl
noncomputable def jdl (F:HashF):Cfg:=cfgG qvd (qcb [(52,rhmS F),(88,numS),(24,lnS 16 32)])
theorem jhp:CfgOK (jdl shaF):=qwb (allS qw9 (allS (jgp _) (allS (qx9 _) (by simp))))
noncomputable def rdT (F:HashF) (i n:Nat) (v u:Int) (k:Sl) (x:BitVec 8):Tree:=qba (jdl F) 8000 41 [.agg [.int .i64 (.lit i),.int .i64 (.sym v),k.valN 4 n],.int .i64 (.sym u),.int .u8 (.b8 x)] (shaH [k.row])
noncomputable def rdM (u:Int) (x:BitVec 8) (n:Int):List (BitVec 8):=app (num4 1) (0#8::0#8::BitVec.ofInt 8 (IntKind.i64.wrap (u.tdiv 256))::BitVec.ofInt 8 (u.tmod 256)::x::0#8::num4 (8 * n))
noncomputable def rdS (u:Int) (x:BitVec 8) (n:Int):Sl:=⟨qaa (rdM u x n),14,0,14,true,0⟩
noncomputable def rdL (F:HashF) (k:Sl) (n:Nat) (u:Int) (x:BitVec 8):List (BitVec 8):=tabB (qaa (tagS F (k.len n) (rdS u x n))) 32
noncomputable def rdvC (k:Sl) (n:Nat) (u:Int) (x:BitVec 8):List Prop:=[IsB (qea k.X),k.o+n≤k.N∧okL (rdS u x n)∧14≤1099511627712]
section
variable (F:HashF) (v u:Int) (k:Sl) (x:BitVec 8) (m:Nat)
theorem rd_16:outO [14] (rdT F 1 16 v u (k.pl m) x) []=(rdvC k 16 u x,some (deV 14 16,[some (.own (.lst (bx (rdL F k 16 u x))) false 5)])):=by kernel_rfl
theorem rd_32:outO [14] (rdT F 2 32 v u (k.pl m) x) []=(rdvC k 32 u x,some (deV 14 32,[some (.own (.lst (bx (rdL F k 32 u x))) false 5)])):=by kernel_rfl
end
noncomputable def rdeS (F:HashF) (i:Nat):Summ:=fun args H base=>quc args fun kv uv xv=>kv.asAgg (.stuck 862) fun l=>quc l fun p v s=>i64O p fun p=>i64O v fun _=>i64O uv fun u=>optC (unb1 xv) (.stuck 862) fun x=>shaT H (qoi H s fun k _ n=>boolC (Nat.beq n (tagN i)) (.need (p.den=(i:Int)∧k.o+n≤k.N) (.ok ⟨deV base (tagN i),[],[.own (.lst (bx (rdL F k (tagN i) u.den x))) false 5]⟩)) (.stuck 862))
theorem jei {p:Nat→Bool} {i:Int} {n:Nat} {v u:Int} {k:Sl} {x:BitVec 8} (h4:p 4=true):SV.usesL p [.agg [.int .i64 (.lit i),.int .i64 (.sym v),k.valN 4 n],.int .i64 (.sym u),.int .u8 (.b8 x)]=true:=by
  show ((true && (true && ((k.valN 4 n).uses p && true))) && (true && (true && true)))=true
  rw [Sl.valN_uses _ _ _ _ h4]; rfl
theorem jel {i:Nat} (hi12:i=1∨i=2):SumAt Tryz.prog qvd 41 (rdeS shaF i):=by
  intro O w0 β H w base args vs hH hG ha
  refine qib fun kv uv xv hv => ?_
  rcases qfc kv with ⟨l,rfl⟩ | hno
  case inr=>rw [hno]; trivial
  refine qib fun p v s hl=>q1a fun p' hp=>q1a fun v' hv'=>q1a fun u hu=>qja fun x hx=>qpg fun hT=>q9e fun k kn n hn1 ht1 hi1 hkn=>qfa fun hnt=>fun ⟨hpi,hle⟩ => ?_
  have hnt:=qna hnt
  subst hl hp hv' hu hnt
  rw [hv] at ha
  obtain ⟨⟨xs,hxs⟩,zs,hzs⟩:=q8g ha
  obtain ⟨m,hks⟩:=Sl.valN_den (hi1 _ _ hxs)
  have h1:=qxf (s':=(k.pl m).valN kn (tagN i)) (p':=.int .i64 (.lit i)) (v':=.int .i64 (.sym v'.den)) ha (fun z hz=>by rw [hxs] at hz; cases hz; exact hks) (qoa hpi) (qoa rfl)
  obtain ⟨xa,ws,hxa,hws,rfl⟩:=denL_cons.1 h1
  rw [hzs] at hws
  cases hws
  have ha':SV.denL β [.agg [.int .i64 (.lit i),.int .i64 (.sym v'.den),(k.pl m).valN kn (tagN i)],.int .i64 (.sym u.den),.int .u8 (.b8 x)]=some (xa::zs):=denL_cons.2 ⟨_,_,hxa,qma (qoa rfl) (qma (qig hx) qac) _ _ hzs,rfl⟩
  have key:outO [14] (rdT shaF i (tagN i) v'.den u.den (k.pl m) x) []=(rdvC k (tagN i) u.den x,some (deV 14 (tagN i),[some (.own (.lst (bx (rdL shaF k (tagN i) u.den x))) false 5)]))→q3a Tryz.prog H β w base 41 (xa::zs) ⟨deV base (tagN i),[],[.own (.lst (bx (rdL shaF k (tagN i) u.den x))) false 5]⟩:=by
    intro hr
    refine q7a jhp 8000 hH (shaI [kn] [k.row] [.agg [.int .i64 (.lit i),.int .i64 (.sym v'.den),(k.pl m).valN 4 (tagN i)],.int .i64 (.sym u.den),.int .u8 (.b8 x)]) (qzd hG) ?_ (Ifc.fits (nd5 hn1) ?_ (qse hT ⟨⟨ht1 _,k.row_uses _⟩,trivial⟩)) [14] (by simp [shaI]) (by simp) hr (all_cons (qda _) (all_cons ⟨hle,⟨by show 0+14≤14; omega,by show 14≤_; omega⟩,by omega⟩ qca)) fun H2 hH2=>qp9 rfl rfl (List.cons.inj hH2).1 rfl
    · show SV.denL β [.agg [.int .i64 (.lit i),.int .i64 (.sym v'.den),((k.pl m).valN 4 (tagN i)).ren _],.int .i64 (.sym u.den),.int .u8 (.b8 x)]=_
      rw [Sl.valN_ren]; exact ha'
    · exact jei rfl
  rcases hi12 with rfl | rfl
  · exact key (rd_16 shaF v'.den u.den k x m)
  · exact key (rd_32 shaF v'.den u.den k x m)
theorem jst {u:Int} (h1:1≤u) (h2:u≤1023):num4 u=[0#8,0#8,BitVec.ofInt 8 (IntKind.i64.wrap (u.tdiv 256)),BitVec.ofInt 8 (u.tmod 256)]:=by
  have e0:u.fdiv (2 ^ 24)=0:=by rw [Int.fdiv_eq_ediv_of_nonneg _ (by omega)]; omega
  have e1:u.fdiv (2 ^ 16)=0:=by rw [Int.fdiv_eq_ediv_of_nonneg _ (by omega)]; omega
  have e2:u.fdiv (2 ^ 8)=IntKind.i64.wrap (u.tdiv 256):=by
    rw [Int.fdiv_eq_ediv_of_nonneg _ (by omega),Int.tdiv_eq_ediv_of_nonneg (by omega),IntKind.wrap_i64]
    omega
  have e3:BitVec.ofInt 8 u=BitVec.ofInt 8 (u.tmod 256):=by
    apply BitVec.eq_of_toInt_eq
    rw [BitVec.toInt_ofInt,BitVec.toInt_ofInt,Int.tmod_eq_emod_of_nonneg (by omega)]
    simp only [Int.bmod_def]
    omega
  unfold num4
  rw [e0,e1,e2,← e3]
  rfl
theorem jtt {u:Int} {x:BitVec 8} {n:Nat} (h1:1≤u) (h2:u≤1023):∀ {j:Nat},j<14→(rdS u x n).F j=kdfM (lblS u x) n j:=by
  intro j hj
  show qaa (rdM u x n) (0+j)=four (slL (num4 1)) ⟨two (slL (num4 u)) (slL [x]),4+1,0,4+1,true,0⟩ (slL [0#8]) (slL (num4 (8 * (n:Int)))) j
  rw [jst h1 h2,Nat.zero_add]
  match j,hj with
  | 0,_=>rfl
  | 1,_=>rfl
  | 2,_=>rfl
  | 3,_=>rfl
  | 4,_=>rfl
  | 5,_=>rfl
  | 6,_=>rfl
  | 7,_=>rfl
  | 8,_=>rfl
  | 9,_=>rfl
  | 10,_=>rfl
  | 11,_=>rfl
  | 12,_=>rfl
  | 13,_=>rfl
theorem rd_eq {k:Sl} {u:Int} {x:BitVec 8} {n:Nat} (h1:1≤u) (h2:u≤1023):tagS shaF (k.len n) (rdS u x n)=kdfB shaF (k.len n).F n (lblS u x) n:=by
  unfold tagS kdfB
  exact qsg fun i hi=>jtt h1 h2 hi
theorem j7d {k:Sl} {u:Int} {x:BitVec 8} {n:Nat} (h1:1≤u) (h2:u≤1023) (hn:n≤32) {i:Nat} (hi:i<n):qaa (rdL shaF k n u x) i=(dkS shaF k n u x).F i:=by
  unfold rdL
  rw [rd_eq h1 h2,qvb (by omega)]
  show _=qaa (tabB (qaa (kdfB shaF (k.len n).F n (lblS u x) n)) n) (0+i)
  rw [Nat.zero_add,qvb hi]
theorem qx3 {k k' c:Sl} (h:SlEq k k') (h64:k.n≤64):tagS shaF k c=tagS shaF k' c:=by
  have hk:keyP shaF k.F k.n=keyP shaF k'.F k'.n:=by
    funext i
    unfold keyP
    have h1:k.n=k'.n:=h.1
    have h64':k'.n≤64:=by omega
    rw [if_pos h64,if_pos h64']
    by_cases c:i<k.n
    · have c':i<k'.n:=by omega
      rw [if_pos c,if_pos c']; exact h.2 i c
    · have c':¬ i<k'.n:=by omega
      rw [if_neg c,if_neg c']
  unfold tagS macB xorP
  rw [hk]
end Go.Proofs.YtbmgahpjgefjaaaGreatDoor.Aes
namespace Go.Proofs.YtbmgahpjgefjaaaGreatDoor.Aes
open Go.Sim
open Go.Proofs
variable {α:Type}
set_option maxRecDepth 1000000
section
variable (p v p' v':Int) (x y:Sl) (m m2:Nat)
end
section
variable (p v p' v':Int) (x y:Sl) (m m2:Nat)
end
end Go.Proofs.YtbmgahpjgefjaaaGreatDoor.Aes
namespace Go.Proofs.YtbmgahpjgefjaaaGreatDoor.Aes
open Go.Sim
open Go.Proofs
variable {α:Type}
set_option maxRecDepth 1000000
noncomputable def lenQ (v:SV) (f:Nat→R α):R α:=valS v (qkb v (f 0) fun _ l=>f l.den) f
theorem qqm {v:SV} {f:Nat→R α} {φ:α→Prop} (h:∀ n,(∀ β x,v.den β=some x→∃ y m,x=.slice y n m)→(f n).Sat φ):(lenQ v f).Sat φ:=by
  unfold lenQ
  refine qmp (qva (fun hn=>h 0 fun β x hx => ?_) fun a l c hs=>h _ fun β x hx => ?_) fun p n c hv=>h n fun β x hx => ?_
  · subst hn; cases hx; exact ⟨_,_,rfl⟩
  · subst hs
    simp only [SV.den,Option.bind_eq_some_iff] at hx
    obtain ⟨y,_,m,_,hs⟩:=hx
    unfold q4l at hs
    by_cases hl:l.den≤m
    · rw [if_pos hl] at hs
      cases hs
      exact ⟨_,_,rfl⟩
    · rw [if_neg hl] at hs; cases hs
  · subst hv; cases hx; exact ⟨_,_,rfl⟩
noncomputable def keyN (kv:SV) (f:SI→SI→Nat→R α):R α:=kv.asAgg (.stuck 834) fun l=>quc l fun p v s=>i64O p fun p=>i64O v fun v=>lenQ s fun n=>f p v n
theorem qti {kv:SV} {f:SI→SI→Nat→R α} {φ:α→Prop} (h:∀ p v s n,kv=.agg [.int .i64 p,.int .i64 v,s]→(∀ β x,s.den β=some x→∃ y m,x=.slice y n m)→(f p v n).Sat φ):(keyN kv f).Sat φ:=by
  unfold keyN
  rcases qfc kv with ⟨l,rfl⟩ | hno
  case inr=>rw [hno]; trivial
  refine qib fun p v s hl=>q1a fun p' hp=>q1a fun v' hv'=>qqm fun n hn => ?_
  subst hl hp hv'
  exact h _ _ _ _ rfl hn
noncomputable def kyV (p v:Int) (y:Option Addr) (n m:Nat):SV:=fdK p v (.val (.slice y n m))
theorem qui {β:Val} {p v:SI} {s:SV} {n:Nat} {ys:List SV} {vs:List Value} (h:SV.denL β (.agg [.int .i64 p,.int .i64 v,s]::ys)=some vs) (hs:∀ β x,s.den β=some x→∃ y m,x=.slice y n m):∃ y m,SV.denL β (kyV p.den v.den y n m::ys)=some vs:=by
  obtain ⟨⟨xs,hxs⟩,_⟩:=q8g h
  obtain ⟨y,m,rfl⟩:=hs _ _ hxs
  exact ⟨y,m,qxf h (fun x hx=>by rw [hxs] at hx; cases hx; rfl) (qoa rfl) (qoa rfl)⟩
noncomputable def fvT (p v:Int) (y:Option Addr) (l m:Nat):Tree:=qba cfgF 400 48 [kyV p v y l m] []
section
variable (p v:Int) (y:Option Addr) (l m:Nat)
theorem jip:outO [] (fvT p v y l m) [false,false]=([(p == 1)=false,(p == 2)=false],fdV kv0 (.lit false)):=by kernel_rfl
theorem jjp:outO [] (fvT p v y l m) [true,false,false,false,false]=([(p == 1)=true,((l:Int) == 16)=false,((l:Int) == 16)=false,((l:Int) == 16)=false,((l:Int) == 16)=false],fdV kv1 (.lit false)):=by kernel_rfl
theorem jkp:outO [] (fvT p v y l m) [true,true,false,false,false,false]=([(p == 1)=true,((l:Int) == 16)=true,decide (v≥0)=false,decide (v≥0)=false,decide (v≥0)=false,decide (v≥0)=false],fdV kv1 (.lit false)):=by kernel_rfl
theorem jut:outO [] (fvT p v y l m) [true,true,true]=([(p == 1)=true,((l:Int) == 16)=true,decide (v≥0)=true],fdV kv1 (.sym (decide (v≤65535)))):=by kernel_rfl
theorem jlp:outO [] (fvT p v y l m) [false,true,false,false,false,false]=([(p == 1)=false,(p == 2)=true,((l:Int) == 32)=false,((l:Int) == 32)=false,((l:Int) == 32)=false,((l:Int) == 32)=false],fdV kv2 (.lit false)):=by kernel_rfl
theorem jmp:outO [] (fvT p v y l m) [false,true,true,false,false,false,false]=([(p == 1)=false,(p == 2)=true,((l:Int) == 32)=true,decide (v≥0)=false,decide (v≥0)=false,decide (v≥0)=false,decide (v≥0)=false],fdV kv2 (.lit false)):=by kernel_rfl
theorem jvt:outO [] (fvT p v y l m) [false,true,true,true]=([(p == 1)=false,(p == 2)=true,((l:Int) == 32)=true,decide (v≥0)=true],fdV kv2 (.sym (decide (v≤65535)))):=by kernel_rfl
end
noncomputable def fdQS (i:Nat) (b:Bool):Summ:=fun args _ _=>qdd args fun kv=>keyN kv fun p v l=>.need (kdOf p.den=i∧(qrf p.den v.den l↔b=true)) (fdR (kvI i) b)
theorem fdQOK {i:Nat} {b:Bool}:q5a Tryz.prog 48 (fdQS i b):=by
  intro glob O w0 β H w base args vs hH hG ha
  refine qtb fun kv hv=>qti fun p v s n hk hs=>fun ⟨hi,hb⟩ => ?_
  subst hv hk
  obtain ⟨y,m,ha'⟩:=qui ha hs
  have h0:=fun g p=>(qze g p).1
  have h1:=fun g p=>(qze g p).2.1
  have h2:=fun g p=>(qze g p).2.2
  have key:∀ {ds cs k b c},outO [] (fvT p.den v.den y n m) ds=(cs,fdV k b)→(∀ q∈cs,q)→(∀ g p,k.ren g=k∧k.uses p=true)→b.den=c→q3a Tryz.prog H β w base 48 vs ⟨.tuple [k,.bool (.lit c)],[],[]⟩:=by
    intro ds cs k b c hr hc hk hb
    exact qob qas rfl 400 hH ⟨[],[],[kyV p.den v.den y n m]⟩ ha' (qed rfl) [] (by simp) (by simp) hr hc fun H2 _=>ql9 rfl hk hb H2
  have f4:∀ {q:Prop},q→∀ p∈[q,q,q,q],p:=fun h=>all_cons h (all_cons h (all_cons h (all_cons h qca)))
  show q3a Tryz.prog H β w base 48 vs ⟨.tuple [kvI i,.bool (.lit b)],[],[]⟩
  unfold kdOf at hi
  unfold qrf at hb
  by_cases hp:p.den=1
  · rw [if_pos hp] at hi
    subst hi
    have e1:(p.den == 1)=true:=by simp [hp]
    by_cases hl:n=16
    · have e2:((n:Int) == 16)=true:=by rw [hl]; rfl
      by_cases hg:0≤v.den
      · refine key (jut p.den v.den y n m) (all_cons e1 (all_cons e2 (all_cons (decide_eq_true hg) qca))) h1 ?_
        show decide (v.den≤65535)=b
        by_cases hle:v.den≤65535
        · rw [decide_eq_true hle,hb.1 ⟨.inl ⟨hp,hl⟩,hg,hle⟩]
        · rw [decide_eq_false hle]
          cases b with
          | false=>rfl
          | true=>exact absurd (hb.2 rfl).2.2 hle
      · obtain rfl:b=false:=by
          cases b with
          | false=>rfl
          | true=>exact absurd (hb.2 rfl).2.1 hg
        exact key (jkp p.den v.den y n m) (all_cons e1 (all_cons e2 (f4 (decide_eq_false hg)))) h1 rfl
    · obtain rfl:b=false:=by
        cases b with
        | false=>rfl
        | true=>rcases (hb.2 rfl).1 with h | h <;> omega
      exact key (jjp p.den v.den y n m) (all_cons e1 (f4 (by rw [beq_eq_false_iff_ne]; omega))) h1 rfl
  · rw [if_neg hp] at hi
    have e1:(p.den == 1)=false:=by simp [hp]
    by_cases hp2:p.den=2
    · rw [if_pos hp2] at hi
      subst hi
      have e3:(p.den == 2)=true:=by simp [hp2]
      by_cases hl:n=32
      · have e2:((n:Int) == 32)=true:=by rw [hl]; rfl
        by_cases hg:0≤v.den
        · refine key (jvt p.den v.den y n m) (all_cons e1 (all_cons e3 (all_cons e2 (all_cons (decide_eq_true hg) qca)))) h2 ?_
          show decide (v.den≤65535)=b
          by_cases hle:v.den≤65535
          · rw [decide_eq_true hle,hb.1 ⟨.inr ⟨hp2,hl⟩,hg,hle⟩]
          · rw [decide_eq_false hle]
            cases b with
            | false=>rfl
            | true=>exact absurd (hb.2 rfl).2.2 hle
        · obtain rfl:b=false:=by
            cases b with
            | false=>rfl
            | true=>exact absurd (hb.2 rfl).2.1 hg
          exact key (jmp p.den v.den y n m) (all_cons e1 (all_cons e3 (all_cons e2 (f4 (decide_eq_false hg))))) h2 rfl
      · obtain rfl:b=false:=by
          cases b with
          | false=>rfl
          | true=>rcases (hb.2 rfl).1 with h | h <;> omega
        exact key (jlp p.den v.den y n m) (all_cons e1 (all_cons e3 (f4 (by rw [beq_eq_false_iff_ne]; omega)))) h2 rfl
    · rw [if_neg hp2] at hi
      subst hi
      obtain rfl:b=false:=by
        cases b with
        | false=>rfl
        | true=>rcases (hb.2 rfl).1 with h | h <;> omega
      exact key (jip p.den v.den y n m) (all_cons e1 (all_cons (by simp [hp2]) qca)) h0 rfl
noncomputable def jfl (i:Nat) (b:Bool):Cfg:=qae (qcb [(48,fdQS i b)])
theorem qe6 {i:Nat} {b:Bool}:CfgOK (jfl i b):=q7b (all1 fdQOK)
noncomputable def uqT (i:Nat) (b:Bool) (p v u:Int) (y:Option Addr) (l m:Nat):Tree:=qba (jfl i b) 400 37 [kyV p v y l m,.int .i64 (.sym u)] []
noncomputable def fdP (i:Nat) (p v:Int) (l:Nat) (b:Bool):Prop:=kdOf p=i∧(qrf p v l↔b=true)
section
variable (p v u:Int) (y:Option Addr) (l m:Nat)
theorem jwt:outO [] (uqT 0 false p v u y l m) []=([fdP 0 p v l false],some (usV kv0 2,[])):=by kernel_rfl
theorem jxt:outO [] (uqT 1 false p v u y l m) []=([fdP 1 p v l false],some (usV kv0 2,[])):=by kernel_rfl
theorem jyt:outO [] (uqT 2 false p v u y l m) []=([fdP 2 p v l false],some (usV kv0 2,[])):=by kernel_rfl
theorem jzt:outO [] (uqT 1 true p v u y l m) [true,true,true]=([fdP 1 p v l true,decide (u<1)=true,decide (u<1)=true,decide (u<1)=true],some (usV kv0 2,[])):=by kernel_rfl
theorem j0t:outO [] (uqT 1 true p v u y l m) [false,true]=([fdP 1 p v l true,decide (u<1)=false,decide (u > 1023)=true],some (usV kv0 2,[])):=by kernel_rfl
theorem j1t:outO [] (uqT 1 true p v u y l m) [false,false]=([fdP 1 p v l true,decide (u<1)=false,decide (u > 1023)=false],some (usV kv1 0,[])):=by kernel_rfl
theorem j2t:outO [] (uqT 2 true p v u y l m) [true,true,true]=([fdP 2 p v l true,decide (u<1)=true,decide (u<1)=true,decide (u<1)=true],some (usV kv0 2,[])):=by kernel_rfl
theorem j3t:outO [] (uqT 2 true p v u y l m) [false,true]=([fdP 2 p v l true,decide (u<1)=false,decide (u > 1023)=true],some (usV kv0 2,[])):=by kernel_rfl
theorem j4t:outO [] (uqT 2 true p v u y l m) [false,false]=([fdP 2 p v l true,decide (u<1)=false,decide (u > 1023)=false],some (usV kv2 0,[])):=by kernel_rfl
end
theorem qy3 {p v:Int} {l:Nat} (h:qrf p v l):(p=1∧l=16∧kdOf p=1)∨(p=2∧l=32∧kdOf p=2):=by
  rcases h.1 with ⟨rfl,h1⟩ | ⟨rfl,h1⟩
  · exact .inl ⟨rfl,h1,rfl⟩
  · exact .inr ⟨rfl,h1,rfl⟩
noncomputable def uqE:Summ:=fun args _ _=>q9c args fun kv uv=>keyN kv fun p v l=>i64O uv fun u=>.need (¬ usQ p.den v.den u.den l) (usR kv0 2)
noncomputable def uqS (i:Int) (k:SV):Summ:=fun args _ _=>q9c args fun kv uv=>keyN kv fun p v l=>i64O uv fun u=>.need (p.den=i∧usQ p.den v.den u.den l) (usR k 0)
theorem uqEOK:q5a Tryz.prog 37 uqE:=by
  intro glob O w0 β H w base args vs hH hG ha
  refine qlb fun kv uv hv=>qti fun p v s n hk hs=>q1a fun u hu=>fun hq => ?_
  subst hv hk hu
  obtain ⟨y,m,ha'⟩:=qui ha hs
  have ha2:SV.denL β [kyV p.den v.den y n m,.int .i64 (.sym u.den)]=some vs:=qma (.refl _) (qma (qoa rfl) qac) _ _ ha'
  have h0:=fun g p=>(qze g p).1
  have key:∀ {i b ds cs},outO [] (uqT i b p.den v.den u.den y n m) ds=(cs,some (usV kv0 2,[]))→(∀ q∈cs,q)→q3a Tryz.prog H β w base 37 vs ⟨usV kv0 2,[],[]⟩:=by
    intro i b ds cs hr hc
    exact qob qe6 rfl 400 hH ⟨[],[],[kyV p.den v.den y n m,.int .i64 (.sym u.den)]⟩ ha2 (qed rfl) [] (by simp) (by simp) hr hc fun H2 _=>q80 rfl h0 H2
  have t1:∀ {q:Prop},q→∀ p∈[q,q,q],p:=fun h=>all_cons h (all_cons h (all_cons h qca))
  by_cases hval:qrf p.den v.den n
  · have hu:¬ (1≤u.den∧u.den≤1023):=fun h=>hq ⟨hval,h⟩
    have ht:qrf p.den v.den n↔true=true:=⟨fun _=>rfl,fun _=>hval⟩
    rcases qy3 hval with ⟨_,_,hi⟩ | ⟨_,_,hi⟩
    · by_cases h1:u.den<1
      · exact key (jzt p.den v.den u.den y n m) (all_cons ⟨hi,ht⟩ (t1 (decide_eq_true h1)))
      · exact key (j0t p.den v.den u.den y n m) (all_cons ⟨hi,ht⟩ (all_cons (decide_eq_false h1) (all_cons (decide_eq_true (by omega)) qca)))
    · by_cases h1:u.den<1
      · exact key (j2t p.den v.den u.den y n m) (all_cons ⟨hi,ht⟩ (t1 (decide_eq_true h1)))
      · exact key (j3t p.den v.den u.den y n m) (all_cons ⟨hi,ht⟩ (all_cons (decide_eq_false h1) (all_cons (decide_eq_true (by omega)) qca)))
  · have hf:qrf p.den v.den n↔false=true:=⟨fun h=>absurd h hval,fun h=>by cases h⟩
    rcases qv9 p.den with h | h | h
    · exact key (jwt p.den v.den u.den y n m) (all_cons ⟨h,hf⟩ qca)
    · exact key (jxt p.den v.den u.den y n m) (all_cons ⟨h,hf⟩ qca)
    · exact key (jyt p.den v.den u.den y n m) (all_cons ⟨h,hf⟩ qca)
theorem uqOK {i:Int} {k:SV} (hik:(i=1∧k=kv1)∨(i=2∧k=kv2)):q5a Tryz.prog 37 (uqS i k):=by
  intro glob O w0 β H w base args vs hH hG ha
  refine qlb fun kv uv hv=>qti fun p v s n hk hs=>q1a fun u hu=>fun ⟨hpi,hval,h1,h2⟩ => ?_
  subst hv hk hu
  obtain ⟨y,m,ha'⟩:=qui ha hs
  have ha2:SV.denL β [kyV p.den v.den y n m,.int .i64 (.sym u.den)]=some vs:=qma (.refl _) (qma (qoa rfl) qac) _ _ ha'
  have e1:=fun g p=>(qze g p).2.1
  have e2:=fun g p=>(qze g p).2.2
  have ht:qrf p.den v.den n↔true=true:=⟨fun _=>rfl,fun _=>hval⟩
  have key:∀ {i b ds cs k},outO [] (uqT i b p.den v.den u.den y n m) ds=(cs,some (usV k 0,[]))→(∀ q∈cs,q)→(∀ g p,k.ren g=k∧k.uses p=true)→q3a Tryz.prog H β w base 37 vs ⟨usV k 0,[],[]⟩:=by
    intro i b ds cs k hr hc hk
    exact qob qe6 rfl 400 hH ⟨[],[],[kyV p.den v.den y n m,.int .i64 (.sym u.den)]⟩ ha2 (qed rfl) [] (by simp) (by simp) hr hc fun H2 _=>q80 rfl hk H2
  have hu:∀ {q:Prop},q→∀ p∈[q,decide (u.den<1)=false,decide (u.den > 1023)=false],p:=fun h=>all_cons h (all_cons (decide_eq_false (by omega)) (all_cons (decide_eq_false (by omega)) qca))
  rcases qy3 hval with ⟨hp,_,hi⟩ | ⟨hp,_,hi⟩
  · rcases hik with ⟨rfl,rfl⟩ | ⟨rfl,rfl⟩
    · exact key (j1t p.den v.den u.den y n m) (hu ⟨hi,ht⟩) e1
    · rw [hp] at hpi; cases hpi
  · rcases hik with ⟨rfl,rfl⟩ | ⟨rfl,rfl⟩
    · rw [hp] at hpi; cases hpi
    · exact key (j4t p.den v.den u.den y n m) (hu ⟨hi,ht⟩) e2
section
variable (b:Bool) (p v:Int) (y:Option Addr) (l m:Nat)
end
end Go.Proofs.YtbmgahpjgefjaaaGreatDoor.Aes
namespace Go.Proofs.YtbmgahpjgefjaaaGreatDoor.Aes
open Go.Sim
open Go.Proofs
variable {α:Type}
set_option maxRecDepth 1000000
noncomputable def cfgX (F:HashF) (E:CtsF):Cfg:=cfgG q9b (qcb [(48,qk9),(37,qft),(50,qr3),(17,j1k),(12,j6k F E),(15,jcl)])
theorem j5t:CfgOK (cfgX shaF encF):=qwb (allS (j1d _) (allS (qfq _) (allS (q95 _) (allS (j3s _) (allS jat (allS (jft _) (by simp)))))))
noncomputable def knT (F:HashF) (E:CtsF):Tree:=qba (cfgX F E) 5000 11 [] (q4c [])
noncomputable def kaS (n:Nat):Sl:=⟨fun i=>qaa (repN 0#8 n) (0+i),n,0,n,true,0⟩
noncomputable def qqo:Sl:=⟨qaa [104#8,101#8,108#8,108#8,111#8],5,0,5,true,0⟩
noncomputable def opN:Prop:=((0:Int)≤2∧(2:Int)≤65535)∧(1:Int)≤1∧(1:Int)≤1023
noncomputable def knC (F:HashF) (E:CtsF):List Prop :=
  [(0+16≤16∧16≤1099511627776),(0+32≤32∧32≤1099511627776),IsB (qea (kaS 16).X),seOK (.lit 0) (.lit 1) (kaS 16) z16 16 16,(0+5≤5∧5≤208),IsB (qea (kaS 32).X),seOK (.lit 0) (.lit 1) (kaS 32) z16 32 16,0+5≤5,false=false,false=false,
   IsB (qea (kaS 16).X),IsB (qea (two (cphS F E (kaS 16) z16 qqo 1) (qhx F E (kaS 16) z16 qqo 1))),opN,31≤37,IsB (qea (kaS 16).X),IsB (qea (two (cphS F E (kaS 16) z16 qqo 1) (qhx F E (kaS 16) z16 qqo 1))),opN,31<32,
   IsB (qea (kaS 16).X),IsB (qea (two (cph5 F (kaS 32) z16 qqo 1) (tag5 F (kaS 32) z16 qqo 1))),opN]
theorem j6t (F:HashF) (E:CtsF):outO [] (knT F E) [false,false]=(knC F E,some (.bool (.lit true),[])):=by kernel_rfl
noncomputable def knS:Summ:=fun args H _=>qi9 args (qif H (.ok ⟨.bool (.lit true),[],[]⟩))
theorem knOK:SumAt Tryz.prog q9b 11 knS:=by
  intro O w0 β H w base args vs hH hG ha
  refine q0z fun hv=>qwc fun hT => ?_
  rw [hv] at ha
  have hop:opN:=⟨⟨by omega,by omega⟩,by omega,by omega⟩
  have hse:∀ n,seOK (.lit 0) (.lit 1) (kaS n) z16 n 16:=fun n=>⟨⟨by show (0:Int)≤0; omega,by show (0:Int)≤65535; omega⟩,⟨by show (1:Int)≤1; omega,by show (1:Int)≤1023; omega⟩,by show 0+n≤n; omega,by show 0+16≤16; omega⟩
  refine q7a j5t 5000 hH (qya [] [] []) (q8a hG) ha (Ifc.fits (by simp [qya]) rfl (qhb hT trivial)) [] (by simp) (by simp) (j6t shaF encF) ?_ fun _ _=>qmc rfl rfl rfl
  exact all_cons ⟨by omega,by omega⟩ (all_cons ⟨by omega,by omega⟩ (all_cons (qda _) (all_cons (hse 16) (all_cons ⟨by omega,by omega⟩ (all_cons (qda _) (all_cons (hse 32) (all_cons (by omega) (all_cons rfl (all_cons rfl
    (all_cons (qda _) (all_cons (qda _) (all_cons hop (all_cons (by omega) (all_cons (qda _) (all_cons (qda _) (all_cons hop (all_cons (by omega) (all_cons (qda _) (all_cons (qda _) (all_cons hop qca))))))))))))))))))))
end Go.Proofs.YtbmgahpjgefjaaaGreatDoor.Aes
namespace Go.Proofs.YtbmgahpjgefjaaaGreatDoor.Aes
open Go.Sim
open Go.Proofs
variable {α:Type}
set_option maxRecDepth 1000000
noncomputable def vlB (p v:Int) (l:Nat):Bool:=@decide (qrf p v l) (Classical.propDecidable _)
theorem vlB_iff {p v:Int} {l:Nat}:vlB p v l=true↔qrf p v l:=by
  unfold vlB; exact @decide_eq_true_iff _ (Classical.propDecidable _)
noncomputable def vyS:Summ:=fun args _ _=>qdd args fun kv=>keyN kv fun p v l=>.ok ⟨.bool (.sym (vlB p.den v.den l)),[],[]⟩
noncomputable def lyI (a b p:Int):Int:=if p=1 then a else if p=2 then b else 0
noncomputable def lyS (a b:Int):Summ:=fun args _ _=>qdd args fun pv=>i64O pv fun p=>.ok ⟨.int .i64 (.sym (lyI a b p.den)),[],[]⟩
theorem endsI {I:Ifc} {base:Nat} {n m:SI} {H:List SO} (ho:q8b I.ents 0=[]) (h:n.den=m.den):I.Ends base [] ⟨.int .i64 m,[],[]⟩ (.int .i64 n) H:=by
  refine ⟨?_,rfl,by rw [ho]; trivial,trivial⟩
  exact qoa h
theorem lyOK {f:FuncId} {a b:Int} (h:∀ p:Int,outO [] (qba cfgF 400 f [.int .i64 (.sym p)] []) [true]=([(p == 1)=true],some (.int .i64 (.lit a),[]))) (h2:∀ p:Int,outO [] (qba cfgF 400 f [.int .i64 (.sym p)] []) [false,true]=([(p == 1)=false,(p == 2)=true],some (.int .i64 (.lit b),[]))) (h0:∀ p:Int,outO [] (qba cfgF 400 f [.int .i64 (.sym p)] []) [false,false]=([(p == 1)=false,(p == 2)=false],some (.int .i64 (.lit 0),[]))):q5a Tryz.prog f (lyS a b):=by
  intro glob O w0 β H w base args vs hH hG ha
  refine qtb fun pv hv=>q1a fun p hp => ?_
  subst hv hp
  have ha':SV.denL β [.int .i64 (.sym p.den)]=some vs:=q4m ha (qoa rfl)
  have key:∀ {ds cs n},outO [] (qba cfgF 400 f [.int .i64 (.sym p.den)] []) ds=(cs,some (.int .i64 (.lit n),[]))→(∀ q∈cs,q)→n=lyI a b p.den→q3a Tryz.prog H β w base f vs ⟨.int .i64 (.sym (lyI a b p.den)),[],[]⟩:=by
    intro ds cs n hr hc hn
    exact qob qas rfl 400 hH ⟨[],[],[.int .i64 (.sym p.den)]⟩ ha' (qed rfl) [] (by simp) (by simp) hr hc fun _ _=>endsI rfl hn
  show q3a Tryz.prog H β w base f vs ⟨.int .i64 (.sym (lyI a b p.den)),[],[]⟩
  by_cases h1:p.den=1
  · exact key (h _) (all_cons (by simp [h1]) qca) (by unfold lyI; rw [if_pos h1])
  · by_cases h2':p.den=2
    · exact key (h2 _) (all_cons (by simp [h1]) (all_cons (by simp [h2']) qca)) (by unfold lyI; rw [if_neg h1,if_pos h2'])
    · exact key (h0 _) (all_cons (by simp [h1]) (all_cons (by simp [h2']) qca)) (by unfold lyI; rw [if_neg h1,if_neg h2'])
theorem rlyOK:q5a Tryz.prog 24 (lyS 16 32):=lyOK (fun p=>by kernel_rfl) (fun p=>by kernel_rfl) fun p=>by kernel_rfl
noncomputable def jgl:Cfg:=qae (qcb [(24,lyS 16 32)])
theorem jnp:CfgOK jgl:=q7b (all1 rlyOK)
noncomputable def rvT (p v:Int) (y:Option Addr) (l m:Nat):Tree:=qba jgl 400 19 [kyV p v y l m] []
section
variable (p v:Int) (y:Option Addr) (l m:Nat)
theorem rv_a:outO [] (rvT p v y l m) [false,false,false,false,false,false,false,false]=(repN (decide (lyI 16 32 p > 0)=false) 8,some (.bool (.lit false),[])):=by kernel_rfl
theorem rv_b:outO [] (rvT p v y l m) [true,false,false,false,false]=((decide (lyI 16 32 p > 0)=true)::repN (((l:Int) == lyI 16 32 p)=false) 4,some (.bool (.lit false),[])):=by kernel_rfl
theorem rv_c:outO [] (rvT p v y l m) [true,true,false,false,false,false]=((decide (lyI 16 32 p > 0)=true)::(((l:Int) == lyI 16 32 p)=true)::repN (decide (v≥0)=false) 4,some (.bool (.lit false),[])):=by kernel_rfl
theorem rv_d:outO [] (rvT p v y l m) [true,true,true]=([decide (lyI 16 32 p > 0)=true,((l:Int) == lyI 16 32 p)=true,decide (v≥0)=true],some (.bool (.sym (decide (v≤65535))),[])):=by kernel_rfl
end
theorem lyI_valid {p:Int} {l:Nat}:(0<lyI 16 32 p∧(l:Int)=lyI 16 32 p)↔((p=1∧l=16)∨(p=2∧l=32)):=by
  unfold lyI
  by_cases h1:p=1
  · rw [if_pos h1]; omega
  · rw [if_neg h1]
    by_cases h2:p=2
    · rw [if_pos h2]; omega
    · rw [if_neg h2]; omega
theorem rvyOK:q5a Tryz.prog 19 vyS:=by
  intro glob O w0 β H w base args vs hH hG ha
  refine qtb fun kv hv=>qti fun p v s n hk hs => ?_
  subst hv hk
  obtain ⟨y,m,ha'⟩:=qui ha hs
  have key:∀ {ds cs b},outO [] (rvT p.den v.den y n m) ds=(cs,some (.bool b,[]))→(∀ q∈cs,q)→b.den=vlB p.den v.den n→q3a Tryz.prog H β w base 19 vs ⟨.bool (.sym (vlB p.den v.den n)),[],[]⟩:=by
    intro ds cs b hr hc hb
    exact qob jnp rfl 400 hH ⟨[],[],[kyV p.den v.den y n m]⟩ ha' (qed rfl) [] (by simp) (by simp) hr hc fun _ _=>qpo rfl hb
  have no:¬ qrf p.den v.den n→(SB.lit false).den=vlB p.den v.den n:=fun h=>by
    symm; show vlB _ _ _=false
    rw [Bool.eq_false_iff]; exact fun e=>h (vlB_iff.1 e)
  by_cases h1:0<lyI 16 32 p.den
  · by_cases h2:(n:Int)=lyI 16 32 p.den
    · have hp:=lyI_valid.1 ⟨h1,h2⟩
      by_cases h3:0≤v.den
      · refine key (rv_d p.den v.den y n m) (all_cons (decide_eq_true h1) (all_cons (by simp [h2]) (all_cons (decide_eq_true h3) qca))) ?_
        show decide (v.den≤65535)=_
        rw [Bool.eq_iff_iff,vlB_iff,decide_eq_true_iff]
        exact ⟨fun h=>⟨hp,h3,h⟩,fun h=>h.2.2⟩
      · exact key (rv_c p.den v.den y n m) (all_cons (decide_eq_true h1) (all_cons (by simp [h2]) (q2c (decide_eq_false h3) 4))) (no fun h=>h3 h.2.1)
    · exact key (rv_b p.den v.den y n m) (all_cons (decide_eq_true h1) (q2c (by rw [beq_eq_false_iff_ne]; exact h2) 4)) (no fun h=>h2 (lyI_valid.2 h.1).2)
  · exact key (rv_a p.den v.den y n m) (q2c (decide_eq_false h1) 8) (no fun h=>h1 (lyI_valid.2 h.1).1)
end Go.Proofs.YtbmgahpjgefjaaaGreatDoor.Aes
namespace Go.Proofs.YtbmgahpjgefjaaaGreatDoor.Aes
open Go.Sim
open Go.Proofs
variable {α:Type}
set_option maxRecDepth 1000000
noncomputable def Sl.cut (t:Sl) (o n:Nat):Sl:=⟨t.X,t.N,o,n,false,0⟩
section
variable (F:HashF) (k t:Sl) (o n m m2 m3:Nat) (A:SgA) (J:Junk) (z:Nat→Nat→Nat)
end
end Go.Proofs.YtbmgahpjgefjaaaGreatDoor.Aes
namespace Go.Proofs.YtbmgahpjgefjaaaGreatDoor.Aes
open Go.Sim
open Go.Proofs
variable {α:Type}
set_option maxRecDepth 1000000
noncomputable def shD (F:HashF) (k c t:Sl) (v:SV) (H:List SO):Prop:=v=q1f 6 t.n∧∃ G,(∀ p,p<t.n→G p=strG F k c t p)∧H[6]? = some (.own (.fn (qea G) t.n) false 5)
noncomputable def qz3 (H:List SO) (cv tv:SV) (no:R α) (f:Sl→Sl→Nat→R α):R α:=cv.asSlice no fun a l _=>tv.asSlice no fun a2 l2 c2=>boolC (Nat.beq a.nm a2.nm) (optC (capL a2.nm c2) (.stuck 832) fun bk=>boolC (qpb a.nm) (qxb (nth H a.nm) fun X N=>f ⟨X,N,a.off.den,l.den,false,0⟩ ⟨X,N,a2.off.den,l2.den,bk.1,bk.2⟩ a.nm) (.stuck 832)) no
theorem qy9 {H:List SO} {cv tv:SV} {no:R α} {f:Sl→Sl→Nat→R α} {φ:α→Prop} (h0:no.Sat φ) (h:∀ t o n nm,qpb nm=true→(∀ g,∃ e',H[nm]? = some e'∧q3b g t.row e')→(∀ β x,cv.den β=some x→∃ m,(((t.cut o n).pl m).val nm).den β=some x)→tv.Imp (t.val nm)→(f (t.cut o n) t nm).Sat φ):(qz3 H cv tv no f).Sat φ:=by
  unfold qz3
  rcases asSlice_cases cv with ⟨a,l,c,rfl⟩ | hv
  case inr=>rw [hv]; exact h0
  rcases asSlice_cases tv with ⟨a2,l2,c2,rfl⟩ | hv
  case inr =>
    have:∀ g:SA→SN→SC→R α,(tv.asSlice no g).Sat φ:=fun g=>by rw [hv]; exact h0
    exact this _
  refine qla (fun hnm=>qja fun bk hbk=>qfa fun hn=>q0a fun X N ht=>h ⟨X,N,a2.off.den,l2.den,bk.1,bk.2⟩ a.off.den l.den a.nm hn (fun g=>by rw [← qga]; exact ht g) (fun β x hx => ?_) fun γ x hx => ?_) fun _=>h0
  · obtain ⟨m,_,hd,_,_⟩:=q6a hx
    exact ⟨m,hd⟩
  · have hnm:=qna hnm
    rw [qpa] at hx
    obtain ⟨A,C,hA,hC,hle,rfl⟩:=hx
    rw [show (Sl.val ⟨X,N,a2.off.den,l2.den,bk.1,bk.2⟩ a.nm)=.slice ⟨a.nm,.sym a2.off.den⟩ (.sym l2.den) (boolC bk.1 (.rest a.nm bk.2) (.sym bk.2)) from rfl,hnm,qpa]
    exact ⟨A,C,hA,by rw [← qwu hbk]; exact hC,hle,rfl⟩
end Go.Proofs.YtbmgahpjgefjaaaGreatDoor.Aes
namespace Go.Proofs.YtbmgahpjgefjaaaGreatDoor.Aes
open Go.Sim
open Go.Proofs
variable {α:Type}
set_option maxRecDepth 1000000
noncomputable def cfgQ (us:Summ):Cfg:=qae (qcb [(37,us)])
theorem cfgQ0:CfgOK (cfgQ uqE):=q7b (all1 uqEOK)
theorem cfgQ1:CfgOK (cfgQ (uqS 1 kv1)):=q7b (all1 (uqOK (.inl ⟨rfl,rfl⟩)))
theorem cfgQ2:CfgOK (cfgQ (uqS 2 kv2)):=q7b (all1 (uqOK (.inr ⟨rfl,rfl⟩)))
noncomputable def vSl (y:Option Addr) (n m:Nat):SV:=.val (.slice y n m)
noncomputable def sqA (p v u:Int) (y:Option Addr) (l m:Nat) (y1:Option Addr) (l1 m1:Nat) (y2:Option Addr) (l2 m2:Nat):List SV:=[kyV p v y l m,.int .i64 (.sym u),vSl y1 l1 m1,vSl y2 l2 m2]
noncomputable def sqT (us:Summ) (p v u:Int) (y:Option Addr) (l m:Nat) (y1:Option Addr) (l1 m1:Nat) (y2:Option Addr) (l2 m2:Nat):Tree:=qba (cfgQ us) 400 12 (sqA p v u y l m y1 l1 m1 y2 l2 m2) []
noncomputable def sqV:SV:=.tuple [.agg [.int .i64 (.lit 0),.int .i64 (.lit 0),.nilSlice],.int .i64 (.lit 2)]
section
variable (p v u sp sv:Int) (y:Option Addr) (l m:Nat) (y1:Option Addr) (l1 m1:Nat) (y2:Option Addr) (l2 m2:Nat)
theorem j7t:outO [] (sqT uqE p v u y l m y1 l1 m1 y2 l2 m2) []=([¬ usQ p v u l],some (sqV,[])):=by kernel_rfl
theorem jop:outO [] (sqT (uqS 1 kv1) p v u y l m y1 l1 m1 y2 l2 m2) [true,true,true,true]=((p=1∧usQ p v u l)::repN (((l1:Int) != 16)=true) 4,some (sqV,[])):=by kernel_rfl
theorem jpp:outO [] (sqT (uqS 2 kv2) p v u y l m y1 l1 m1 y2 l2 m2) [true,true,true,true]=((p=2∧usQ p v u l)::repN (((l1:Int) != 16)=true) 4,some (sqV,[])):=by kernel_rfl
end
noncomputable def sqS:Summ:=fun args _ _=>q3m args fun kv uv cv tv=>keyN kv fun p v l=>i64O uv fun u=>lenQ cv fun cl=>lenQ tv fun _=>.need (¬ usQ p.den v.den u.den l∨cl≠16) (.ok ⟨sqV,[],[]⟩)
theorem qiq {β:Val} {v:SV} {n:Nat} {x:Value} (h:∀ β x,v.den β=some x→∃ y m,x=.slice y n m) (hx:v.den β=some x):∃ y m,(vSl y n m).den β=some x:=by
  obtain ⟨y,m,rfl⟩:=h _ _ hx
  exact ⟨y,m,rfl⟩
theorem sqOK:q5a Tryz.prog 12 sqS:=by
  intro glob O w0 β H w base args vs hH hG ha
  refine qeg fun kv uv cv tv hv=>qti fun p v s n hk hs=>q1a fun u hu=>qqm fun cl hc=>qqm fun tl ht=>fun hq => ?_
  subst hv hk hu
  obtain ⟨y,m,h1⟩:=qui ha hs
  obtain ⟨xk,zs,hxk,hzs,rfl⟩:=denL_cons.1 h1
  obtain ⟨xu,zs1,hxu,hzs1,rfl⟩:=denL_cons.1 hzs
  obtain ⟨xc,zs2,hxc,hzs2,rfl⟩:=denL_cons.1 hzs1
  obtain ⟨xt,zs3,hxt,hzs3,rfl⟩:=denL_cons.1 hzs2
  obtain ⟨y1,m1,hc'⟩:=qiq hc hxc
  obtain ⟨y2,m2,ht'⟩:=qiq ht hxt
  have ha':SV.denL β (sqA p.den v.den u.den y n m y1 cl m1 y2 tl m2)=some (xk::xu::xc::xt::zs3):=denL_cons.2 ⟨_,_,hxk,denL_cons.2 ⟨_,_,qoa rfl _ _ hxu,denL_cons.2 ⟨_,_,hc',denL_cons.2 ⟨_,_,ht',hzs3,rfl⟩,rfl⟩,rfl⟩,rfl⟩
  have key:∀ {us cs ds},CfgOK (cfgQ us)→outO [] (sqT us p.den v.den u.den y n m y1 cl m1 y2 tl m2) ds=(cs,some (sqV,[]))→(∀ q∈cs,q)→q3a Tryz.prog H β w base 12 (xk::xu::xc::xt::zs3) ⟨sqV,[],[]⟩:=by
    intro us cs ds hcf hr hc
    exact qob hcf rfl 400 hH ⟨[],[],sqA p.den v.den u.den y n m y1 cl m1 y2 tl m2⟩ ha' (qed rfl) [] (by simp) (by simp) hr hc fun _ _=>qmc rfl rfl rfl
  by_cases hval:usQ p.den v.den u.den n
  · have hcl:((cl:Int) != 16)=true:=by
      rcases hq with h | h
      · exact absurd hval h
      · rw [bne_iff_ne]; omega
    rcases hval.1.1 with ⟨h,_⟩ | ⟨h,_⟩
    · exact key cfgQ1 (jop p.den v.den u.den y n m y1 cl m1 y2 tl m2) (all_cons ⟨h,hval⟩ (q2c hcl 4))
    · exact key cfgQ2 (jpp p.den v.den u.den y n m y1 cl m1 y2 tl m2) (all_cons ⟨h,hval⟩ (q2c hcl 4))
  · exact key cfgQ0 (j7t p.den v.den u.den y n m y1 cl m1 y2 tl m2) (all_cons hval qca)
section
variable (p v u sp sv:Int) (y:Option Addr) (l m:Nat) (y1:Option Addr) (l1 m1:Nat)
end
def versQ (v sv:Int):Prop:=sv=v∨sv=0∨v=0
end Go.Proofs.YtbmgahpjgefjaaaGreatDoor.Aes
