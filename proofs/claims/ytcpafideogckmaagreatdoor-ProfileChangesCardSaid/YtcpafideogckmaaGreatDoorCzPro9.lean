/-
  The profiles: the summary of usable.
-/
import Derived.Test.YtcpafideogckmaaGreatDoorPc14
namespace Go.Proofs.YtcpafideogckmaaGreatDoor.Aes
noncomputable section
open Go.Sim
open Go.Proofs
variable {α:Type}
set_option maxRecDepth 1000000
def qy9:Cfg:=qle (qbb [(29,qs9)])
theorem qe6:CfgOK qy9:=q8b (all1 jve)
def usT (p v u:Int) (o l m:Nat):Tree:=qca qy9 400 15 [fdK p v (.slice ⟨0,.sym o⟩ (.sym l) (.sym m)),.int .i64 (.sym u)] [.row (.lst [])]
def usN (p v u:Int):Tree:=qca qy9 400 15 [fdK p v .nilSlice,.int .i64 (.sym u)] []
def usV (k:SV) (e:Int):SV:=.tuple [k,.int .i64 (.lit e)]
section
variable (p v u:Int) (o l m:Nat)
theorem jzp:outO [] (usT p v u o l m) [false,false]=([(p == 1)=false,(p == 2)=false],some (usV kv0 2,[])):=by kernel_rfl
theorem j0p:outO [] (usN p v u) [false,false]=([(p == 1)=false,(p == 2)=false],some (usV kv0 2,[])):=by kernel_rfl
theorem j1p:outO [] (usN p v u) [true]=([(p == 1)=true],some (usV kv0 2,[])):=by kernel_rfl
theorem j2p:outO [] (usT p v u o l m) [true,false]=([(p == 1)=true,decide (l=16)=false],some (usV kv0 2,[])):=by kernel_rfl
theorem j3p:outO [] (usT p v u o l m) [true,true,false]=([(p == 1)=true,decide (l=16)=true,decide (0<=v)=false],some (usV kv0 2,[])):=by kernel_rfl
theorem j4p:outO [] (usT p v u o l m) [true,true,true,false]=([(p == 1)=true,decide (l=16)=true,decide (0<=v)=true,decide (v<=65535)=false],some (usV kv0 2,[])):=by kernel_rfl
theorem jqu:outO [] (usT p v u o l m) [true,true,true,true,true,true,true]=([(p == 1)=true,decide (l=16)=true,decide (0<=v)=true,decide (v<=65535)=true,decide (u<1)=true,decide (u<1)=true,decide (u<1)=true],some (usV kv0 2,[])):=by kernel_rfl
theorem jru:outO [] (usT p v u o l m) [true,true,true,true,false,true]=([(p == 1)=true,decide (l=16)=true,decide (0<=v)=true,decide (v<=65535)=true,decide (u<1)=false,decide (u > 1023)=true],some (usV kv0 2,[])):=by kernel_rfl
theorem jsu:outO [] (usT p v u o l m) [true,true,true,true,false,false]=([(p == 1)=true,decide (l=16)=true,decide (0<=v)=true,decide (v<=65535)=true,decide (u<1)=false,decide (u > 1023)=false],some (usV kv1 0,[])):=by kernel_rfl
theorem j5p:outO [] (usN p v u) [false,true]=([(p == 1)=false,(p == 2)=true],some (usV kv0 2,[])):=by kernel_rfl
theorem j6p:outO [] (usT p v u o l m) [false,true,false]=([(p == 1)=false,(p == 2)=true,decide (l=32)=false],some (usV kv0 2,[])):=by kernel_rfl
theorem j7p:outO [] (usT p v u o l m) [false,true,true,false]=([(p == 1)=false,(p == 2)=true,decide (l=32)=true,decide (0<=v)=false],some (usV kv0 2,[])):=by kernel_rfl
theorem j8p:outO [] (usT p v u o l m) [false,true,true,true,false]=([(p == 1)=false,(p == 2)=true,decide (l=32)=true,decide (0<=v)=true,decide (v<=65535)=false],some (usV kv0 2,[])):=by kernel_rfl
theorem jtu:outO [] (usT p v u o l m) [false,true,true,true,true,true,true,true]=([(p == 1)=false,(p == 2)=true,decide (l=32)=true,decide (0<=v)=true,decide (v<=65535)=true,decide (u<1)=true,decide (u<1)=true,decide (u<1)=true],some (usV kv0 2,[])):=by kernel_rfl
theorem juu:outO [] (usT p v u o l m) [false,true,true,true,true,false,true]=([(p == 1)=false,(p == 2)=true,decide (l=32)=true,decide (0<=v)=true,decide (v<=65535)=true,decide (u<1)=false,decide (u > 1023)=true],some (usV kv0 2,[])):=by kernel_rfl
theorem jvu:outO [] (usT p v u o l m) [false,true,true,true,true,false,false]=([(p == 1)=false,(p == 2)=true,decide (l=32)=true,decide (0<=v)=true,decide (v<=65535)=true,decide (u<1)=false,decide (u > 1023)=false],some (usV kv2 0,[])):=by kernel_rfl
end
def usR (k:SV) (e:Int):R SumRes:=.ok ⟨usV k e,[],[]⟩
def qex (k:SV) (n:Nat) (l:SN) (v u:SI):R SumRes:=qod l n (leI 0 v (fdOne.isLe v 65535 (leI 1 u (fdOne.isLe u 1023 (usR k 0) (usR kv0 2)) (usR kv0 2)) (usR kv0 2)) (usR kv0 2)) (usR kv0 2)
def qgt:Summ:=fun args H _=>qdd args fun k u=>k.asAgg (.stuck 791) fun l=>qoc l fun p v s=>i64O p fun p=>i64O v fun v=>i64O u fun u =>
 qob s (isI p 1 (usR kv0 2) (isI p 2 (usR kv0 2) (usR kv0 2))) fun a l=>boolC (quc (nth H a.nm)) (isI p 1 (qex kv1 16 l v u) (isI p 2 (qex kv2 32 l v u) (usR kv0 2))) (.stuck 791)
theorem q60 {I:Ifc} {base:Nat} {k:SV} {e:Int} (ho:q6b I.ents 0=[]) (hk:∀ g p,k.ren g=k/\k.uses p=true) (H:List SO):I.Ends base [] ⟨usV k e,[],[]⟩ (usV k e) H:=by
 refine ⟨?_,?_,by rw [ho]; trivial,trivial⟩
 . show (SV.tuple [k.ren _,_]).Imp _
   rw [(hk _ (fun _=>true)).1]
   exact .refl _
 . show (k.uses _ && (true && true))=true
   rw [(hk (fun n=>n) _).2]; rfl
theorem qz9 {f:Nat->Nat} {e:Option SO} (h:quc e=true):∃ e',e=some e'/\qrb f (.row (.lst [])) e':=q0r h
theorem qhq:q3a Tryz.prog 15 qgt:=by
 intro glob O w0 β H w base args vs hH hG ha
 refine qnb fun k uv hv => ?_
 rcases qmc k with ⟨l,rfl⟩ | hno
 case inr=>rw [hno]; trivial
 refine qcb fun p v s hl=>q2a fun p' hp=>q2a fun v' hv'=>q2a fun u hu => ?_
 subst hl hp hv' hu
 rw [hv] at ha
 have h0:=fun g p=>(qef g p).1
 have h1:=fun g p=>(qef g p).2.1
 have h2:=fun g p=>(qef g p).2.2
 refine qxa (fun hn => ?_) fun a len c hs=>qfa fun hpl => ?_
 . subst hn
   have ha':SV.denL β [fdK p'.den v'.den .nilSlice,.int .i64 (.sym u.den)]=some vs:=qoa (qek (qoa (qla rfl) (qoa (qla rfl) (qoa (.refl _) q9b)))) (qoa (qla rfl) q9b) _ _ ha
   have key:∀ {ds cs k e},outO [] (usN p'.den v'.den u.den) ds=(cs,some (usV k e,[]))->(∀ q∈cs,q)->(∀ g p,k.ren g=k/\k.uses p=true)->q4a Tryz.prog H β w base 15 vs ⟨usV k e,[],[]⟩:=by
    intro ds cs k e hr hc hk
    exact qqb qe6 rfl 400 hH ⟨[],[],[fdK p'.den v'.den .nilSlice,.int .i64 (.sym u.den)]⟩ ha' (q5c rfl) [] (by simp) (by simp) hr hc fun H2 _=>q60 rfl hk H2
   refine q1c (fun hp => ?_) fun hp=>q1c (fun hp2 => ?_) fun hp2 => ?_
   . exact key (j1p p'.den v'.den u.den) (all_cons (by simp [hp]) qaa) h0
   . exact key (j5p p'.den v'.den u.den) (all_cons (by simp [hp]) (all_cons (by simp [hp2]) qaa)) h0
   . exact key (j0p p'.den v'.den u.den) (all_cons (by simp [hp]) (all_cons (by simp [hp2]) qaa)) h0
 . subst hs
   obtain ⟨x,ys,hx,hys,rfl⟩:=denL_cons.1 ha
   simp only [SV.den,SV.denL,Option.map_eq_some_iff,Option.bind_eq_some_iff] at hx
   obtain ⟨us,⟨u1,hu1,us1,⟨u2,hu2,us2,⟨u3,hu3,us3,hus3,rfl⟩,rfl⟩,rfl⟩,rfl⟩:=hx
   have hu3':(SV.slice a len c).den β=some u3:=by simpa only [SV.den,Option.bind_eq_some_iff] using hu3
   obtain ⟨m,hlm,hd,_,_⟩:=q8a hu3'
   have hys':SV.denL β [.int .i64 (.sym u.den)]=some ys:=qoa (qla rfl) q9b _ _ hys
   have ha':SV.denL β [fdK p'.den v'.den (.slice ⟨a.nm,.sym a.off.den⟩ (.sym len.den) (.sym m)),.int .i64 (.sym u.den)]=some (.agg (u1::u2::u3::us3).toArray::ys):=by
    refine denL_cons.2 ⟨_,_,?_,hys',rfl⟩
    show (SV.agg _).den β=_
    rw [SV.den]
    simp only [Option.map_eq_some_iff]
    exact ⟨_,denL_cons.2 ⟨u1,_,hu1,denL_cons.2 ⟨u2,_,hu2,denL_cons.2 ⟨u3,_,hd,hus3,rfl⟩,rfl⟩,rfl⟩,rfl⟩
   have key:∀ {ds cs k e},outO [] (usT p'.den v'.den u.den a.off.den len.den m) ds=(cs,some (usV k e,[]))->(∀ q∈cs,q)->(∀ g p,k.ren g=k/\k.uses p=true)->q4a Tryz.prog H β w base 15 (.agg (u1::u2::u3::us3).toArray::ys) ⟨usV k e,[],[]⟩:=by
    intro ds cs k e hr hc hk
    refine qqb qe6 rfl 400 hH ⟨[a.nm],[.row (.lst [])],[fdK p'.den v'.den (.slice ⟨0,.sym a.off.den⟩ (.sym len.den) (.sym m)),.int .i64 (.sym u.den)]⟩ ha' (Ifc.fits (by simp) rfl ⟨⟨?_,rfl⟩,trivial⟩) [] (by simp) (by simp) hr hc fun H2 _=>q60 rfl hk H2
    rw [qga] at hpl
    exact qz9 hpl
   have t1:∀ {q:Prop},q->∀ p∈[q,q,q],p:=fun h=>all_cons h (all_cons h (all_cons h qaa))
   refine q1c (fun hp => ?_) fun hp=>q1c (fun hp2 => ?_) fun hp2 => ?_
   . refine qxb (fun hl=>qzl (fun hg=>qgk (fun hb=>qzl (fun hu=>qgk (fun hw => ?_) fun hw => ?_) fun hu => ?_) fun hb => ?_) fun hg => ?_) fun hl => ?_
     . exact key (jsu p'.den v'.den u.den a.off.den len.den m) (all_cons (by simp [hp]) (all_cons (decide_eq_true hl) (all_cons (decide_eq_true hg) (all_cons (decide_eq_true hb) (all_cons (decide_eq_false (by omega)) (all_cons (decide_eq_false (by omega)) qaa)))))) h1
     . exact key (jru p'.den v'.den u.den a.off.den len.den m) (all_cons (by simp [hp]) (all_cons (decide_eq_true hl) (all_cons (decide_eq_true hg) (all_cons (decide_eq_true hb) (all_cons (decide_eq_false (by omega)) (all_cons (decide_eq_true (by omega)) qaa)))))) h0
     . exact key (jqu p'.den v'.den u.den a.off.den len.den m) (all_cons (by simp [hp]) (all_cons (decide_eq_true hl) (all_cons (decide_eq_true hg) (all_cons (decide_eq_true hb) (t1 (decide_eq_true (by omega))))))) h0
     . exact key (j4p p'.den v'.den u.den a.off.den len.den m) (all_cons (by simp [hp]) (all_cons (decide_eq_true hl) (all_cons (decide_eq_true hg) (all_cons (decide_eq_false hb) qaa)))) h0
     . exact key (j3p p'.den v'.den u.den a.off.den len.den m) (all_cons (by simp [hp]) (all_cons (decide_eq_true hl) (all_cons (decide_eq_false hg) qaa))) h0
     . exact key (j2p p'.den v'.den u.den a.off.den len.den m) (all_cons (by simp [hp]) (all_cons (decide_eq_false hl) qaa)) h0
   . refine qxb (fun hl=>qzl (fun hg=>qgk (fun hb=>qzl (fun hu=>qgk (fun hw => ?_) fun hw => ?_) fun hu => ?_) fun hb => ?_) fun hg => ?_) fun hl => ?_
     . exact key (jvu p'.den v'.den u.den a.off.den len.den m) (all_cons (by simp [hp]) (all_cons (by simp [hp2]) (all_cons (decide_eq_true hl) (all_cons (decide_eq_true hg) (all_cons (decide_eq_true hb) (all_cons (decide_eq_false (by omega)) (all_cons (decide_eq_false (by omega)) qaa))))))) h2
     . exact key (juu p'.den v'.den u.den a.off.den len.den m) (all_cons (by simp [hp]) (all_cons (by simp [hp2]) (all_cons (decide_eq_true hl) (all_cons (decide_eq_true hg) (all_cons (decide_eq_true hb) (all_cons (decide_eq_false (by omega)) (all_cons (decide_eq_true (by omega)) qaa))))))) h0
     . exact key (jtu p'.den v'.den u.den a.off.den len.den m) (all_cons (by simp [hp]) (all_cons (by simp [hp2]) (all_cons (decide_eq_true hl) (all_cons (decide_eq_true hg) (all_cons (decide_eq_true hb) (t1 (decide_eq_true (by omega)))))))) h0
     . exact key (j8p p'.den v'.den u.den a.off.den len.den m) (all_cons (by simp [hp]) (all_cons (by simp [hp2]) (all_cons (decide_eq_true hl) (all_cons (decide_eq_true hg) (all_cons (decide_eq_false hb) qaa))))) h0
     . exact key (j7p p'.den v'.den u.den a.off.den len.den m) (all_cons (by simp [hp]) (all_cons (by simp [hp2]) (all_cons (decide_eq_true hl) (all_cons (decide_eq_false hg) qaa)))) h0
     . exact key (j6p p'.den v'.den u.den a.off.den len.den m) (all_cons (by simp [hp]) (all_cons (by simp [hp2]) (all_cons (decide_eq_false hl) qaa))) h0
   . exact key (jzp p'.den v'.den u.den a.off.den len.den m) (all_cons (by simp [hp]) (all_cons (by simp [hp2]) qaa)) h0
end
end Go.Proofs.YtcpafideogckmaaGreatDoor.Aes
