/-
  The profiles: the summary of usable.
-/
import Derived.Test.YtbmgahpjgefjaaaGreatDoorPo14
namespace Go.Proofs.YtbmgahpjgefjaaaGreatDoor.Aes
open Go.Sim
open Go.Proofs
variable {α:Type}
set_option maxRecDepth 1000000
noncomputable def qr9:Cfg:=qie (qbb [(48,ql9)])
theorem qa6:CfgOK qr9:=q8b (all1 jge)
noncomputable def usT (p v u:Int) (o l m:Nat):Tree:=qca qr9 400 37 [fdK p v (.slice ⟨0,.sym o⟩ (.sym l) (.sym m)),.int .i64 (.sym u)] [.row (.lst [])]
noncomputable def usN (p v u:Int):Tree:=qca qr9 400 37 [fdK p v .nilSlice,.int .i64 (.sym u)] []
noncomputable def usV (k:SV) (e:Int):SV:=.tuple [k,.int .i64 (.lit e)]
section
variable (p v u:Int) (o l m:Nat)
theorem jcp:outO [] (usT p v u o l m) [false,false]=([(p == 1)=false,(p == 2)=false],some (usV kv0 2,[])):=by kernel_rfl
theorem jdp:outO [] (usN p v u) [false,false]=([(p == 1)=false,(p == 2)=false],some (usV kv0 2,[])):=by kernel_rfl
theorem jep:outO [] (usN p v u) [true]=([(p == 1)=true],some (usV kv0 2,[])):=by kernel_rfl
theorem jfp:outO [] (usT p v u o l m) [true,false]=([(p == 1)=true,decide (l=16)=false],some (usV kv0 2,[])):=by kernel_rfl
theorem jgp:outO [] (usT p v u o l m) [true,true,false]=([(p == 1)=true,decide (l=16)=true,decide (0≤v)=false],some (usV kv0 2,[])):=by kernel_rfl
theorem jhp:outO [] (usT p v u o l m) [true,true,true,false]=([(p == 1)=true,decide (l=16)=true,decide (0≤v)=true,decide (v≤65535)=false],some (usV kv0 2,[])):=by kernel_rfl
theorem jst:outO [] (usT p v u o l m) [true,true,true,true,true,true,true]=([(p == 1)=true,decide (l=16)=true,decide (0≤v)=true,decide (v≤65535)=true,decide (u<1)=true,decide (u<1)=true,decide (u<1)=true],some (usV kv0 2,[])):=by kernel_rfl
theorem jtt:outO [] (usT p v u o l m) [true,true,true,true,false,true]=([(p == 1)=true,decide (l=16)=true,decide (0≤v)=true,decide (v≤65535)=true,decide (u<1)=false,decide (u > 1023)=true],some (usV kv0 2,[])):=by kernel_rfl
theorem jut:outO [] (usT p v u o l m) [true,true,true,true,false,false]=([(p == 1)=true,decide (l=16)=true,decide (0≤v)=true,decide (v≤65535)=true,decide (u<1)=false,decide (u > 1023)=false],some (usV kv1 0,[])):=by kernel_rfl
theorem jip:outO [] (usN p v u) [false,true]=([(p == 1)=false,(p == 2)=true],some (usV kv0 2,[])):=by kernel_rfl
theorem jjp:outO [] (usT p v u o l m) [false,true,false]=([(p == 1)=false,(p == 2)=true,decide (l=32)=false],some (usV kv0 2,[])):=by kernel_rfl
theorem jkp:outO [] (usT p v u o l m) [false,true,true,false]=([(p == 1)=false,(p == 2)=true,decide (l=32)=true,decide (0≤v)=false],some (usV kv0 2,[])):=by kernel_rfl
theorem jlp:outO [] (usT p v u o l m) [false,true,true,true,false]=([(p == 1)=false,(p == 2)=true,decide (l=32)=true,decide (0≤v)=true,decide (v≤65535)=false],some (usV kv0 2,[])):=by kernel_rfl
theorem jvt:outO [] (usT p v u o l m) [false,true,true,true,true,true,true,true]=([(p == 1)=false,(p == 2)=true,decide (l=32)=true,decide (0≤v)=true,decide (v≤65535)=true,decide (u<1)=true,decide (u<1)=true,decide (u<1)=true],some (usV kv0 2,[])):=by kernel_rfl
theorem jwt:outO [] (usT p v u o l m) [false,true,true,true,true,false,true]=([(p == 1)=false,(p == 2)=true,decide (l=32)=true,decide (0≤v)=true,decide (v≤65535)=true,decide (u<1)=false,decide (u > 1023)=true],some (usV kv0 2,[])):=by kernel_rfl
theorem jxt:outO [] (usT p v u o l m) [false,true,true,true,true,false,false]=([(p == 1)=false,(p == 2)=true,decide (l=32)=true,decide (0≤v)=true,decide (v≤65535)=true,decide (u<1)=false,decide (u > 1023)=false],some (usV kv2 0,[])):=by kernel_rfl
end
noncomputable def usR (k:SV) (e:Int):R SumRes:=.ok ⟨usV k e,[],[]⟩
noncomputable def q2w (k:SV) (n:Nat) (l:SN) (v u:SI):R SumRes:=qnd l n (leI 0 v (fdOne.isLe v 65535 (leI 1 u (fdOne.isLe u 1023 (usR k 0) (usR kv0 2)) (usR kv0 2)) (usR kv0 2)) (usR kv0 2)) (usR kv0 2)
noncomputable def q1s:Summ:=fun args H _=>qcd args fun k u=>k.asAgg (.stuck 791) fun l=>qmc l fun p v s=>i64O p fun p=>i64O v fun v=>i64O u fun u =>
  qob s (isI p 1 (usR kv0 2) (isI p 2 (usR kv0 2) (usR kv0 2))) fun a l=>boolC (qqc (nth H a.nm)) (isI p 1 (q2w kv1 16 l v u) (isI p 2 (q2w kv2 32 l v u) (usR kv0 2))) (.stuck 791)
theorem qy0 {I:Ifc} {base:Nat} {k:SV} {e:Int} (ho:q7b I.ents 0=[]) (hk:∀ g p,k.ren g=k∧k.uses p=true) (H:List SO):I.Ends base [] ⟨usV k e,[],[]⟩ (usV k e) H:=by
  refine ⟨?_,?_,by rw [ho]; trivial,trivial⟩
  · show (SV.tuple [k.ren _,_]).Imp _
    rw [(hk _ (fun _=>true)).1]
    exact .refl _
  · show (k.uses _ && (true && true))=true
    rw [(hk (fun n=>n) _).2]; rfl
theorem qs9 {f:Nat→Nat} {e:Option SO} (h:qqc e=true):∃ e',e=some e'∧qqb f (.row (.lst [])) e':=qrr h
theorem qbq:q2a Tryz.prog 37 q1s:=by
  intro glob O w0 β H w base args vs hH hG ha
  refine qnb fun k uv hv => ?_
  rcases quc k with ⟨l,rfl⟩ | hno
  case inr=>rw [hno]; trivial
  refine qab fun p v s hl=>q7a fun p' hp=>q7a fun v' hv'=>q7a fun u hu => ?_
  subst hl hp hv' hu
  rw [hv] at ha
  have h0:=fun g p=>(q9e g p).1
  have h1:=fun g p=>(q9e g p).2.1
  have h2:=fun g p=>(q9e g p).2.2
  refine qxa (fun hn => ?_) fun a len c hs=>qfa fun hpl => ?_
  · subst hn
    have ha':SV.denL β [fdK p'.den v'.den .nilSlice,.int .i64 (.sym u.den)]=some vs:=qma (q6j (qma (qoa rfl) (qma (qoa rfl) (qma (.refl _) q9b)))) (qma (qoa rfl) q9b) _ _ ha
    have key:∀ {ds cs k e},outO [] (usN p'.den v'.den u.den) ds=(cs,some (usV k e,[]))→(∀ q∈cs,q)→(∀ g p,k.ren g=k∧k.uses p=true)→q4a Tryz.prog H β w base 37 vs ⟨usV k e,[],[]⟩:=by
      intro ds cs k e hr hc hk
      exact qvb qa6 rfl 400 hH ⟨[],[],[fdK p'.den v'.den .nilSlice,.int .i64 (.sym u.den)]⟩ ha' (qgd rfl) [] (by simp) (by simp) hr hc fun H2 _=>qy0 rfl hk H2
    refine qzc (fun hp => ?_) fun hp=>qzc (fun hp2 => ?_) fun hp2 => ?_
    · exact key (jep p'.den v'.den u.den) (all_cons (by simp [hp]) qba) h0
    · exact key (jip p'.den v'.den u.den) (all_cons (by simp [hp]) (all_cons (by simp [hp2]) qba)) h0
    · exact key (jdp p'.den v'.den u.den) (all_cons (by simp [hp]) (all_cons (by simp [hp2]) qba)) h0
  · subst hs
    obtain ⟨x,ys,hx,hys,rfl⟩:=denL_cons.1 ha
    simp only [SV.den,SV.denL,Option.map_eq_some_iff,Option.bind_eq_some_iff] at hx
    obtain ⟨us,⟨u1,hu1,us1,⟨u2,hu2,us2,⟨u3,hu3,us3,hus3,rfl⟩,rfl⟩,rfl⟩,rfl⟩:=hx
    have hu3':(SV.slice a len c).den β=some u3:=by simpa only [SV.den,Option.bind_eq_some_iff] using hu3
    obtain ⟨m,hlm,hd,_,_⟩:=q8a hu3'
    have hys':SV.denL β [.int .i64 (.sym u.den)]=some ys:=qma (qoa rfl) q9b _ _ hys
    have ha':SV.denL β [fdK p'.den v'.den (.slice ⟨a.nm,.sym a.off.den⟩ (.sym len.den) (.sym m)),.int .i64 (.sym u.den)]=some (.agg (u1::u2::u3::us3).toArray::ys):=by
      refine denL_cons.2 ⟨_,_,?_,hys',rfl⟩
      show (SV.agg _).den β=_
      rw [SV.den]
      simp only [Option.map_eq_some_iff]
      exact ⟨_,denL_cons.2 ⟨u1,_,hu1,denL_cons.2 ⟨u2,_,hu2,denL_cons.2 ⟨u3,_,hd,hus3,rfl⟩,rfl⟩,rfl⟩,rfl⟩
    have key:∀ {ds cs k e},outO [] (usT p'.den v'.den u.den a.off.den len.den m) ds=(cs,some (usV k e,[]))→(∀ q∈cs,q)→(∀ g p,k.ren g=k∧k.uses p=true)→q4a Tryz.prog H β w base 37 (.agg (u1::u2::u3::us3).toArray::ys) ⟨usV k e,[],[]⟩:=by
      intro ds cs k e hr hc hk
      refine qvb qa6 rfl 400 hH ⟨[a.nm],[.row (.lst [])],[fdK p'.den v'.den (.slice ⟨0,.sym a.off.den⟩ (.sym len.den) (.sym m)),.int .i64 (.sym u.den)]⟩ ha' (Ifc.fits (by simp) rfl ⟨⟨?_,rfl⟩,trivial⟩) [] (by simp) (by simp) hr hc fun H2 _=>qy0 rfl hk H2
      rw [qga] at hpl
      exact qs9 hpl
    have t1:∀ {q:Prop},q→∀ p∈[q,q,q],p:=fun h=>all_cons h (all_cons h (all_cons h qba))
    refine qzc (fun hp => ?_) fun hp=>qzc (fun hp2 => ?_) fun hp2 => ?_
    · refine qwb (fun hl=>qul (fun hg=>q8j (fun hb=>qul (fun hu=>q8j (fun hw => ?_) fun hw => ?_) fun hu => ?_) fun hb => ?_) fun hg => ?_) fun hl => ?_
      · exact key (jut p'.den v'.den u.den a.off.den len.den m) (all_cons (by simp [hp]) (all_cons (decide_eq_true hl) (all_cons (decide_eq_true hg) (all_cons (decide_eq_true hb) (all_cons (decide_eq_false (by omega)) (all_cons (decide_eq_false (by omega)) qba)))))) h1
      · exact key (jtt p'.den v'.den u.den a.off.den len.den m) (all_cons (by simp [hp]) (all_cons (decide_eq_true hl) (all_cons (decide_eq_true hg) (all_cons (decide_eq_true hb) (all_cons (decide_eq_false (by omega)) (all_cons (decide_eq_true (by omega)) qba)))))) h0
      · exact key (jst p'.den v'.den u.den a.off.den len.den m) (all_cons (by simp [hp]) (all_cons (decide_eq_true hl) (all_cons (decide_eq_true hg) (all_cons (decide_eq_true hb) (t1 (decide_eq_true (by omega))))))) h0
      · exact key (jhp p'.den v'.den u.den a.off.den len.den m) (all_cons (by simp [hp]) (all_cons (decide_eq_true hl) (all_cons (decide_eq_true hg) (all_cons (decide_eq_false hb) qba)))) h0
      · exact key (jgp p'.den v'.den u.den a.off.den len.den m) (all_cons (by simp [hp]) (all_cons (decide_eq_true hl) (all_cons (decide_eq_false hg) qba))) h0
      · exact key (jfp p'.den v'.den u.den a.off.den len.den m) (all_cons (by simp [hp]) (all_cons (decide_eq_false hl) qba)) h0
    · refine qwb (fun hl=>qul (fun hg=>q8j (fun hb=>qul (fun hu=>q8j (fun hw => ?_) fun hw => ?_) fun hu => ?_) fun hb => ?_) fun hg => ?_) fun hl => ?_
      · exact key (jxt p'.den v'.den u.den a.off.den len.den m) (all_cons (by simp [hp]) (all_cons (by simp [hp2]) (all_cons (decide_eq_true hl) (all_cons (decide_eq_true hg) (all_cons (decide_eq_true hb) (all_cons (decide_eq_false (by omega)) (all_cons (decide_eq_false (by omega)) qba))))))) h2
      · exact key (jwt p'.den v'.den u.den a.off.den len.den m) (all_cons (by simp [hp]) (all_cons (by simp [hp2]) (all_cons (decide_eq_true hl) (all_cons (decide_eq_true hg) (all_cons (decide_eq_true hb) (all_cons (decide_eq_false (by omega)) (all_cons (decide_eq_true (by omega)) qba))))))) h0
      · exact key (jvt p'.den v'.den u.den a.off.den len.den m) (all_cons (by simp [hp]) (all_cons (by simp [hp2]) (all_cons (decide_eq_true hl) (all_cons (decide_eq_true hg) (all_cons (decide_eq_true hb) (t1 (decide_eq_true (by omega)))))))) h0
      · exact key (jlp p'.den v'.den u.den a.off.den len.den m) (all_cons (by simp [hp]) (all_cons (by simp [hp2]) (all_cons (decide_eq_true hl) (all_cons (decide_eq_true hg) (all_cons (decide_eq_false hb) qba))))) h0
      · exact key (jkp p'.den v'.den u.den a.off.den len.den m) (all_cons (by simp [hp]) (all_cons (by simp [hp2]) (all_cons (decide_eq_true hl) (all_cons (decide_eq_false hg) qba)))) h0
      · exact key (jjp p'.den v'.den u.den a.off.den len.den m) (all_cons (by simp [hp]) (all_cons (by simp [hp2]) (all_cons (decide_eq_false hl) qba))) h0
    · exact key (jcp p'.den v'.den u.den a.off.den len.den m) (all_cons (by simp [hp]) (all_cons (by simp [hp2]) qba)) h0
end Go.Proofs.YtbmgahpjgefjaaaGreatDoor.Aes
