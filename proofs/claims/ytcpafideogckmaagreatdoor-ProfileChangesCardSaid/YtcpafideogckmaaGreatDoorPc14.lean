/-
  Texts behind one another: the symbolic simulator and what it is told of the program.
-/
import Derived.Test.YtcpafideogckmaaGreatDoorCzHas7
import Derived.Test.YtcpafideogckmaaGreatDoorPc12
import Derived.Test.YtcpafideogckmaaGreatDoorPc6
import Derived.Test.YtcpafideogckmaaGreatDoorPc7
namespace Go.Proofs.YtcpafideogckmaaGreatDoor.Aes
noncomputable section
open Go.Sim
open Go.Proofs
variable {α:Type}
set_option maxRecDepth 1000000
theorem qtz (p:Nat->Bool) (g:Nat->Nat):∀ {l:List SV} {xs:List (BitVec 8)},unb l=some xs->SV.usesL p l=true/\SV.renL g l=l
 | [],_,_=>⟨rfl,rfl⟩
 | v::l,xs,h=>by
   obtain ⟨x,hx,h⟩:=qdf (show (optC (unb1 v) none fun x=>optC (unb l) none fun xs=>some (x::xs))=some xs from h)
   obtain ⟨ys,hy,h⟩:=qdf h
   obtain ⟨n,rfl,_⟩:=qg2 hx
   obtain ⟨h1,h2⟩:=qtz p g hy
   exact ⟨by show (true && SV.usesL p l)=true; rw [h1]; rfl,by show _::SV.renL g l=_; rw [h2]; rfl⟩
theorem qsl {p:Nat->Bool} {g:Nat->Nat} {E:Option SO} {S:HSt} (hE:E=some (macE S)):q5d p g E (macE S) :=
 qbc hE (q3d _ _) (by show SO.own (.lst (SV.renL _ (q2b _))) _ _=_; rw [qhf]; rfl)
theorem qax {p:Nat->Bool} {g:Nat->Nat} {E:Option SO} {l:List SV} {S:HSt} (hE:E=some (macL l S)) (hl:unb l=some (tabB S.K 128)):q5d p g E (macE S):=by
 obtain ⟨h1,h2⟩:=qtz p g hl
 refine q0k hE ?_ ?_
 . show SV.usesL p (app l (app (qfc S) [.bool (.lit true)]))=true
   rw [q3e,q3e,h1,qgh]; rfl
 . show SV.ImpL (SV.renL g (app l (app (qfc S) [.bool (.lit true)]))) (q2b S)
   rw [qof,qof,h2,qmi]
   unfold q2b
   exact qzi (qeh hl) (SV.ImpL.refl _)
def newR (base:Nat) (k:Nat->BitVec 8):SumRes:=⟨okV base,[],[macE (newH k)]⟩
def newS:Summ:=fun args H base=>qgd args fun v=>qbf H (qob v (.ok (newR base fun _=>0#8)) fun a l=>boolC (qeb a.nm) (q4b (nth H a.nm) fun X N=>.need (a.off.den+l.den<=N/\l.den<=4096) (.ok (newR base (keyP shaF (fun i=>X (a.off.den+i)) l.den)))) (.stuck 740))
theorem qbx {k k':Nat->BitVec 8} (h:∀ i,i<64->k i=k' i):macE (newH k)=macE (newH k'):=by
 have hK:∀ i,i<128->newK k i=newK k' i:=fun i hi=>by
  unfold newK
  by_cases c:i<64
  . rw [if_pos c,if_pos c,h i c]
  . rw [if_neg c,if_neg c,h _ (by omega)]
 have hw:q7a (newK k) 64=q7a (newK k') 64:=q1b fun i hi=>hK _ (by omega)
 unfold newH
 rw [hw]
 exact q1g hK rfl (fun _ _=>rfl) rfl
theorem newOK:SumAt Tryz.prog q3b 80 newS:=by
 intro O w0 β H w base args vs hH hG ha
 refine qub fun v hv=>qkc fun hT=>qxa (fun hn => ?_) fun a l c hs=>qfa fun hn=>q5a fun X N ht=>fun ⟨hle,h4⟩ => ?_
 . rw [hv,hn] at ha
   exact qka qm3 16000 hH (qqa [] [] [.nilSlice]) (qma hG) ha (Ifc.fits (by simp [qqa]) rfl (qdb hT trivial)) [7] (by simp [qqa]) (by simp) jcp (all_cons (by omega) (all_cons (by omega) qaa)) fun H2 hH2=>⟨SV.imp_of_eq rfl,rfl,trivial,⟨qax (List.cons.inj hH2).1 jci,trivial⟩⟩
 . rw [hv,hs] at ha
   rw [qga] at ht
   obtain ⟨x,ys,hx,hys,rfl⟩:=denL_cons.1 ha
   obtain ⟨m,hm,hd,_,_⟩:=q8a hx
   have hfit:Ifc.Fits (qqa [a.nm] [rowF X N] [.slice ⟨4,.sym a.off.den⟩ (.sym l.den) (.sym m)]) H:=Ifc.fits (nd5 hn) rfl (qdb hT ⟨⟨ht _,qya _ _ _⟩,trivial⟩)
   by_cases h64:l.den<=64
   . refine qka qm3 16000 hH (qqa [a.nm] [rowF X N] [.slice ⟨4,.sym a.off.den⟩ (.sym l.den) (.sym m)]) (qma hG) (denL_cons.2 ⟨_,_,hd,hys,rfl⟩) hfit [8] (by simp [qqa]) (by simp) (jei X N a.off.den l.den m) ?_ fun H2 hH2=>⟨SV.imp_of_eq rfl,rfl,trivial,⟨?_,trivial⟩⟩
     . exact all_cons (decide_eq_false (by omega)) (all_cons (decide_eq_false (by omega)) (all_cons ⟨hle,qda X⟩ (all_cons h64 (all_cons (by omega) (all_cons (by omega) (all_cons (by omega) qaa))))))
     . rw [← qbx (k:=key1 X a.off.den l.den) fun i hi => ?_]
       . exact qsl (List.cons.inj hH2).1
       . unfold key1 keyP
         rw [if_pos h64]
         by_cases c:i<l.den
         . rw [if_pos (by omega),if_pos c]
         . rw [if_neg (by omega),if_neg c]
   . refine qka qm3 16000 hH (qqa [a.nm] [rowF X N] [.slice ⟨4,.sym a.off.den⟩ (.sym l.den) (.sym m)]) (qma hG) (denL_cons.2 ⟨_,_,hd,hys,rfl⟩) hfit [9] (by simp [qqa]) (by simp) (jfi X N a.off.den l.den m) ?_ fun H2 hH2=>⟨SV.imp_of_eq rfl,rfl,trivial,⟨?_,trivial⟩⟩
     . exact all_cons (decide_eq_false (by omega)) (all_cons (decide_eq_true (by omega)) (all_cons (qda X) (all_cons hle (all_cons (by omega) (all_cons (by omega) qaa)))))
     . rw [← qbx (k:=key2 X a.off.den l.den) fun i hi => ?_]
       . exact qax (List.cons.inj hH2).1 (jdi X _ _)
       . unfold key2 keyP
         rw [if_neg h64]
def macO (e:Option SO) (f:HSt->R α):R α:=optC (ownE 142 e) (.stuck 760) fun l=>q7w l f
theorem jgi {e:Option SO} {f:HSt->R α} {φ:α->Prop} (h:∀ S:HSt,S.ws.length=8->(∀ g,∃ e',e=some e'/\qrb g (macE S) e')->(f S).Sat φ):(macO e f).Sat φ :=
 qja fun l hl=>qbn fun S h8 hi=>h S h8 fun g=>⟨_,qor hl,q0f (by rw [qhf]; exact hi)⟩
theorem quz (p:Nat->Bool) (S:HSt):(macE S).CUses p:=q3d p S
def mnT (S:HSt):Tree:=qca cfgW 4000 81 [.ptr ⟨4,.lit 0⟩,.nilSlice] (qpc [macE S])
theorem jdp (S:HSt):outO [4] (mnT S) [false,false]=([((S.n:Int) == 0)=false,qza ((S.n:Int)+0),decide (((S.n % 64:Nat):Int) > 0)=false],some (.int .i64 (.lit 0),[some (macE ⟨S.K,S.ws,S.R,S.n+0⟩)])):=by kernel_rfl
theorem jep (S:HSt):outO [4] (mnT S) [false,true,false,true,true]=([((S.n:Int) == 0)=false,qza ((S.n:Int)+0),decide (((S.n % 64:Nat):Int) > 0)=true,(0<=((S.n % 64:Nat):Int)/\((S.n % 64:Nat):Int)<=64),decide (64=S.n % 64)=false,true=true,apM (136+S.n % 64 * 1) 0,qza (((S.n % 64:Nat):Int)+0),decide (((S.n % 64:Nat):Int)+0<64)=true],
  some (.int .i64 (.lit 0),[some (macE ⟨kC (136+S.n % 64 * 1) 0 (fun _=>0#8) S.K,S.ws,qcn (136+S.n % 64 * 1) 0 (fun _=>0#8) S.R,S.n+0⟩)])):=by kernel_rfl
def mwR (nm:Nat) (S:HSt):SumRes:=⟨.int .i64 (.lit 0),[(nm,macE S)],[]⟩
def mwSm:Summ:=fun args H _=>qdd args fun p v=>optC (qeg p) (.stuck 761) fun nm=>qbf H (boolC (qeb nm) (macO (nth H nm) fun S=>.need (0<S.n)
 (qob v (.need (S.n<=1152921504606846976) (.ok (mwR nm (qoe S (fun _=>0#8) 0)))) fun a l=>boolC (qeb a.nm) (boolC (Nat.beq nm a.nm) (.stuck 761) (q4b (nth H a.nm) fun X N=>.need (a.off.den+l.den<=N/\S.n+l.den<=1152921504606846976) (.ok (mwR nm (qoe S (fun i=>X (a.off.den+i)) l.den))))) (.stuck 761))) (.stuck 761))
theorem jne {S:HSt}:macE (qoe S (fun _=>0#8) 0)=macE ⟨S.K,S.ws,S.R,S.n+0⟩:=by
 unfold qoe
 by_cases hu:S.n % 64=0
 . rw [if_pos hu]
   exact q1g (fun _ _=>rfl) rfl (fun i _=>by dsimp only; unfold qrl; rw [if_neg (by omega)]) rfl
 . rw [if_neg hu,if_pos (by omega)]
   exact q1g (fun _ _=>rfl) rfl (fun i _=>by dsimp only; unfold qok; rw [if_neg (by omega)]) rfl
theorem mwOK:SumAt Tryz.prog q3b 81 mwSm:=by
 intro O w0 β H w base args vs hH hG ha
 refine qnb fun p v hv=>qja fun nm hp=>qkc fun hT=>qfa fun hn=>jgi fun S h8 hm=>fun h0 => ?_
 rw [hv,q3c hp] at ha
 obtain ⟨x,ys,hx,hys,rfl⟩:=denL_cons.1 ha
 rw [qga] at hm
 refine qxa (fun hnil=>fun hb => ?_) fun a l c hs=>qfa fun hn2=>qna (fun _=>trivial) fun hne=>q5a fun X N ht=>fun ⟨hle,hb⟩ => ?_
 . rw [hnil] at hys
   unfold mwR
   rw [jne]
   have hfit:Ifc.Fits (qqa [nm] [macE S] [.ptr ⟨4,.lit 0⟩,.nilSlice]) H:=Ifc.fits (nd5 hn) rfl (qdb hT ⟨⟨hm _,quz _ _⟩,trivial⟩)
   by_cases hu:S.n % 64=0
   . refine qka q7k 4000 hH (qqa [nm] [macE S] [.ptr ⟨4,.lit 0⟩,.nilSlice]) (qma hG) (denL_cons.2 ⟨_,_,hx,hys,rfl⟩) hfit [] (by simp) (by simp) (jdp S) ?_ fun H2 hH2=>⟨SV.imp_of_eq rfl,rfl,⟨⟨rfl,qsl (List.cons.inj hH2).1⟩,trivial⟩,trivial⟩
     exact all_cons (by rw [beq_eq_false_iff_ne]; omega) (all_cons ⟨by omega,by omega⟩ (all_cons (decide_eq_false (by omega)) qaa))
   . refine qka q7k 4000 hH (qqa [nm] [macE S] [.ptr ⟨4,.lit 0⟩,.nilSlice]) (qma hG) (denL_cons.2 ⟨_,_,hx,hys,rfl⟩) hfit [] (by simp) (by simp) (jep S) ?_ fun H2 hH2=>⟨SV.imp_of_eq rfl,rfl,⟨⟨rfl,?_⟩,trivial⟩,trivial⟩
     . exact all_cons (by rw [beq_eq_false_iff_ne]; omega) (all_cons ⟨by omega,by omega⟩ (all_cons (decide_eq_true (by omega)) (all_cons ⟨by omega,by omega⟩ (all_cons (decide_eq_false (by omega)) (all_cons rfl (all_cons (q9w (by omega) (by omega)) (all_cons ⟨by omega,by omega⟩ (all_cons (decide_eq_true (by omega)) qaa))))))))
     . rw [show macE ⟨S.K,S.ws,S.R,S.n+0⟩=macE ⟨kC (136+S.n % 64 * 1) 0 (fun _=>0#8) S.K,S.ws,qcn (136+S.n % 64 * 1) 0 (fun _=>0#8) S.R,S.n+0⟩ from
        q1g (fun i _=>by dsimp only; unfold kC; rw [if_neg (by omega)]) rfl (fun i _=>by dsimp only; unfold qcn; rw [if_neg (by omega)]) rfl]
       exact qsl (List.cons.inj hH2).1
 . rw [hs] at hys
   rw [qga] at ht
   obtain ⟨y,zs,hy,hz,rfl⟩:=denL_cons.1 hys
   obtain ⟨m,hmm,hd⟩:=qpz hy
   exact Go.Sim.sum_runs (c:=cfgW) hH (qqa [nm,a.nm] [macE S,rowF X N] (qj3 a.off.den l.den m)) (qma hG) (denL_cons.2 ⟨_,_,hx,denL_cons.2 ⟨_,_,hd,hz,rfl⟩,rfl⟩) (Ifc.fits (nd6 hn hn2 (qmb hne)) rfl (qdb hT ⟨⟨hm _,quz _ _⟩,⟨ht _,qya _ _ _⟩,trivial⟩)) [] (by simp) (by simp)
    (q5f (j9o hle hmm h0 hb) fun v H2 ⟨hv,h4⟩=>⟨SV.imp_of_eq (by rw [hv]; rfl),by rw [hv]; rfl,⟨⟨rfl,qsl h4⟩,trivial⟩,trivial⟩)
end
noncomputable section
open Go.Sim
open Go.Proofs
variable {α:Type}
set_option maxRecDepth 1000000
def macC (e:Option SO) (f:HSt->R α):R α:=optC (qic e) (.stuck 762) fun l=>q7w l f
theorem qzu {e:Option SO} {f:HSt->R α} {φ:α->Prop} (h:∀ S:HSt,(∀ g,∃ e',e=some e'/\qrb g (.row (.lst (q2b S))) e')->(f S).Sat φ):(macC e f).Sat φ :=
 qja fun l hl=>qbn fun S h8 hi=>h S fun g=>q7b hl (by rw [qhf]; exact hi)
def hsF (S:HSt):List (BitVec 8):=if S.n % 64+9<=64 then qfe (q30 S) else qfe (q40 S)
def b32L (L:List (BitVec 8)):List SV:=bx (tabB (qba L) 32)
theorem qet {L:List (BitVec 8)} (h:L.length=32):b32L L=bx L:=by unfold b32L; rw [qpo L h]
theorem qdn (l:List W32):(qfe l).length=32:=rfl
def j6l:Summ:=fun args H _=>qgd args fun p=>optC (ptrL p) (.stuck 763) fun po=>boolC (Nat.beq po.2 128) (qbf H (boolC (qeb po.1) (macC (nth H po.1) fun S=>.need (0<S.n/\S.n<=1152921504606846976) (.ok ⟨.agg (b32L (hsF S)),[],[]⟩)) (.stuck 763))) (.stuck 763)
theorem qc6 {S:HSt} {b:Bool} {sz:Nat} {r:List Prop} (h0:0<S.n) (hb:S.n<=1152921504606846976) (hbb:decide (((S.n % 64:Nat):Int)+9 > 64)=b) (hs:S.n % 64+9<=sz) (hr:∀ p∈r,p):∀ p∈hsC S b sz r,p :=
 all_cons (by rw [beq_eq_false_iff_ne]; omega) (all_cons ⟨by omega,by omega⟩ (all_cons ⟨by omega,by omega⟩ (all_cons (decide_eq_false (by omega)) (all_cons ⟨by omega,by omega⟩ (all_cons hbb (all_cons (q9w (by omega) (by omega)) (all_cons (by omega) (all_cons (by omega) (all_cons ⟨by omega,by omega⟩ (all_cons (by omega) hr))))))))))
theorem jgu:SumAt Tryz.prog q3b 104 j6l:=by
 intro O w0 β H w base args vs hH hG ha
 refine qub fun p hv=>qja fun po hp=>qfa fun h128=>qkc fun hT=>qfa fun hn=>qzu fun S hm=>fun ⟨h0,hb⟩ => ?_
 rw [hv,q6r hp,qpa h128] at ha
 rw [qga] at hm
 obtain ⟨x,ys,hx,hys,rfl⟩:=denL_cons.1 ha
 have hfit:Ifc.Fits (qqa [po.1] [.row (.lst (q2b S))] [.ptr ⟨4,.lit 128⟩]) H:=Ifc.fits (nd5 hn) rfl (qdb hT ⟨⟨hm _,q3d _ _⟩,trivial⟩)
 by_cases h9:S.n % 64+9<=64
 . refine qka q7k 8000 hH (qqa [po.1] [.row (.lst (q2b S))] [.ptr ⟨4,.lit 128⟩]) (qma hG) (denL_cons.2 ⟨_,_,hx,hys,rfl⟩) hfit [] (by simp) (by simp) (jap S) (qc6 h0 hb (decide_eq_false (by omega)) h9 (all_cons (by omega) qaa)) fun _ _ => ?_
   unfold hsF
   rw [if_pos h9,qet (qdn _)]
   exact qaq rfl rfl
 . refine qka q7k 8000 hH (qqa [po.1] [.row (.lst (q2b S))] [.ptr ⟨4,.lit 128⟩]) (qma hG) (denL_cons.2 ⟨_,_,hx,hys,rfl⟩) hfit [] (by simp) (by simp) (jbp S) (qc6 h0 hb (decide_eq_true (by omega)) (by omega) (all_cons (by omega) (all_cons (by omega) qaa))) fun _ _ => ?_
   unfold hsF
   rw [if_neg h9,qet (qdn _)]
   exact qaq rfl rfl
def finS:Summ:=fun args H _=>qdd args fun p v=>optC (qeg p) (.stuck 764) fun nm=>qbf H (boolC (qeb nm) (macC (nth H nm) fun S=>v.asAgg (.stuck 764) fun l=>optC (unb l) (.stuck 764) fun xs=>boolC (Nat.beq (lenN xs) 32) (.ok ⟨.agg (b32L (qfe (finW S.K (qba xs)))),[],[]⟩) (.stuck 764)) (.stuck 764))
theorem qek {l m:List SV} (h:SV.ImpL l m):(SV.agg l).Imp (.agg m):=by
 intro γ x hx
 simp only [SV.den,Option.map_eq_some_iff] at hx ⊢
 obtain ⟨us,hus,rfl⟩:=hx
 exact ⟨us,h γ us hus,rfl⟩
theorem finOK:SumAt Tryz.prog q3b 103 finS:=by
 intro O w0 β H w base args vs hH hG ha
 refine qnb fun p v hv=>qja fun nm hp=>qkc fun hT=>qfa fun hn=>qzu fun S hm => ?_
 rcases qmc v with ⟨l,rfl⟩ | hno
 . refine qja fun xs hxs=>qfa fun h32 => ?_
   have h32:=qpa h32
   rw [qva] at h32
   rw [hv,q3c hp] at ha
   rw [qga] at hm
   obtain ⟨x,ys,hx,hys,rfl⟩:=denL_cons.1 ha
   have hy2:SV.denL β [.agg (bx (tabB (qba xs) 32))]=some ys:=q2m hys (qek (by rw [qpo xs h32]; exact qeh hxs))
   have hfit:Ifc.Fits (qqa [nm] [.row (.lst (q2b S))] [.ptr ⟨4,.lit 0⟩,.agg (bx (tabB (qba xs) 32))]) H:=Ifc.fits (nd5 hn) (by show (_ && (SV.usesL _ (bx _) && true))=true; rw [qfd]; rfl) (qdb hT ⟨⟨hm _,q3d _ _⟩,trivial⟩)
   refine qka q7k 8000 hH (qqa [nm] [.row (.lst (q2b S))] [.ptr ⟨4,.lit 0⟩,.agg (bx (tabB (qba xs) 32))]) (qma hG) ?_ hfit [] (by simp) (by simp) (jfu S (qba xs)) ?_ fun _ _ => ?_
   . refine denL_cons.2 ⟨_,_,hx,?_,rfl⟩
     show SV.denL β [.agg (SV.renL _ (bx (tabB (qba xs) 32)))]=_
     rw [q9d]; exact hy2
   . exact all_cons (by omega) (all_cons (by omega) (all_cons rfl (all_cons ⟨by omega,by omega⟩ (all_cons rfl (all_cons rfl (all_cons ⟨by omega,by omega⟩ (all_cons ⟨by omega,by omega⟩ (all_cons rfl (all_cons ⟨by omega,by omega⟩ (all_cons rfl (all_cons ⟨by omega,.inl (by omega),.inl (by omega),.inl (by omega),.inl (by omega),.inl (by omega),.inl (by omega),.inl (by omega),.inl (by omega),.inr (by omega),trivial⟩ (all_cons (by omega) (all_cons (by omega) (all_cons ⟨by omega,by omega⟩ (all_cons (by omega) (all_cons (by omega) qaa))))))))))))))))
   . rw [qet (qdn _)]
     exact qaq rfl rfl
 . rw [hno]; trivial
def macF (S:HSt):List (BitVec 8):=qfe (finW S.K (qba (tabB (qba (hsF S)) 32)))
def j7l:Cfg:=cfgG q3b (qbb [(104,j6l),(103,finS)])
theorem jfp:CfgOK j7l:=qwb (allS jgu (allS finOK (by simp)))
theorem jhu (S:HSt):outO [] (qca j7l 2000 82 [.ptr ⟨4,.lit 0⟩] (qpc [.row (.lst (q2b S))])) []=([0<=(S.n:Int),0<S.n/\S.n<=1152921504606846976,0<=(S.n:Int)],some (.tuple [.agg (b32L (macF S)),.int .i64 (.lit 0)],[])):=by kernel_rfl
end
noncomputable section
open Go.Sim
open Go.Proofs
variable {α:Type}
set_option maxRecDepth 1000000
def msSm:Summ:=fun args H _=>qgd args fun p=>optC (qeg p) (.stuck 765) fun nm=>qbf H (boolC (qeb nm) (macC (nth H nm) fun S=>.need (0<S.n/\S.n<=1152921504606846976) (.ok ⟨.tuple [.agg (b32L (macF S)),.int .i64 (.lit 0)],[],[]⟩)) (.stuck 765))
theorem j8l {I:Ifc} {base:Nat} {L:List (BitVec 8)} {v:SV} {H:List SO} (ho:q6b I.ents 0=[]) (h:v=.tuple [.agg (b32L L),.int .i64 (.lit 0)]):I.Ends base [] ⟨.tuple [.agg (b32L L),.int .i64 (.lit 0)],[],[]⟩ v H:=by
 subst h
 refine qkb ho ?_ ?_
 . show SV.tuple [.agg (b32L L),_]=.tuple [.agg (SV.renL _ (b32L L)),_]
   unfold b32L
   rw [q9d]; rfl
 . show (SV.usesL (I.seen []) (b32L L) && (true && true))=true
   unfold b32L
   rw [qfd]; rfl
theorem msOK:SumAt Tryz.prog q3b 82 msSm:=by
 intro O w0 β H w base args vs hH hG ha
 refine qub fun p hv=>qja fun nm hp=>qkc fun hT=>qfa fun hn=>qzu fun S hm=>fun ⟨h0,hb⟩ => ?_
 rw [hv,q3c hp] at ha
 rw [qga] at hm
 exact qka jfp 2000 hH (qqa [nm] [.row (.lst (q2b S))] [.ptr ⟨4,.lit 0⟩]) (qma hG) ha (Ifc.fits (nd5 hn) rfl (qdb hT ⟨⟨hm _,q3d _ _⟩,trivial⟩)) [] (by simp) (by simp) (jhu S) (all_cons (by omega) (all_cons ⟨h0,hb⟩ (all_cons (by omega) qaa))) fun _ _=>j8l rfl rfl
def j9l:Cfg:=cfgG q3b (qbb [(80,newS),(81,mwSm),(82,msSm)])
theorem qny:CfgOK j9l:=qwb (allS newOK (allS mwOK (allS msOK (by simp))))
def norm (S:HSt):HSt:=⟨qba (tabB S.K 128),q0a S.ws,qba (tabB S.R 64),S.n⟩
structure Sl where
 X:Nat->BitVec 8
 N:Nat
 o:Nat
 n:Nat
 b:Bool
 k:Nat
def Sl.row (s:Sl):SO:=rowF s.X s.N
def Sl.val (s:Sl) (nm:Nat):SV:=.slice ⟨nm,.sym s.o⟩ (.sym s.n) (boolC s.b (.rest nm s.k) (.sym s.k))
def Sl.F (s:Sl):Nat->BitVec 8:=fun i=>s.X (s.o+i)
def hmT (k:Sl) (ps:List SV) (rs:List SO):Tree:=qca j9l 4000 64 [k.val 4,.slice ⟨5,.lit 0⟩ (.lit (lenN ps)) (.lit (lenN ps))] (qpc (k.row::.row (.lst ps)::rs))
def q7c (S:HSt) (p:Option Sl):HSt:=match p with | none=>qoe (norm S) (fun _=>0#8) 0 | some a=>qoe (norm S) a.F a.n
def qpk (S:HSt) (p:Option Sl) (r:List Prop):List Prop:=(0<=((norm S).n:Int))::(0<(norm S).n)::(match p with | none=>((norm S).n<=1152921504606846976)::r | some a=>IsB (qea a.X)::(a.o+a.n<=a.N/\(norm S).n+a.n<=1152921504606846976)::r)
def hm0 (k:Sl):HSt:=newH (keyP shaF k.F k.n)
def hmC0 (k:Sl) (r:List Prop):List Prop:=IsB (qea k.X)::(k.o+k.n<=k.N/\k.n<=4096)::r
def hmE (S:HSt):List Prop:=[0<=((norm S).n:Int),0<(norm S).n/\(norm S).n<=1152921504606846976]
def hmV (S:HSt):Option (SV × List (Option SO)):=some (.tuple [.agg (b32L (macF (norm S))),.int .i64 (.lit 0)],[])
theorem jgp (k a:Sl):outO [] (hmT k [a.val 6] [a.row]) []=(hmC0 k (qpk (hm0 k) (some a) (hmE (q7c (hm0 k) (some a)))),hmV (q7c (hm0 k) (some a))):=by kernel_rfl
theorem jhp (k a b:Sl):outO [] (hmT k [a.val 6,b.val 7] [a.row,b.row]) []=(hmC0 k (qpk (hm0 k) (some a) (qpk (q7c (hm0 k) (some a)) (some b) (hmE (q7c (q7c (hm0 k) (some a)) (some b))))),hmV (q7c (q7c (hm0 k) (some a)) (some b))):=by kernel_rfl
theorem jip (k a b c d:Sl):outO [] (hmT k [a.val 6,b.val 7,c.val 8,.nilSlice,d.val 9] [a.row,b.row,c.row,d.row]) [] =
  (hmC0 k (qpk (hm0 k) (some a) (qpk (q7c (hm0 k) (some a)) (some b) (qpk (q7c (q7c (hm0 k) (some a)) (some b)) (some c) (qpk (q7c (q7c (q7c (hm0 k) (some a)) (some b)) (some c)) none (qpk (q7c (q7c (q7c (q7c (hm0 k) (some a)) (some b)) (some c)) none) (some d) (hmE (q7c (q7c (q7c (q7c (q7c (hm0 k) (some a)) (some b)) (some c)) none) (some d)))))))),
   hmV (q7c (q7c (q7c (q7c (q7c (hm0 k) (some a)) (some b)) (some c)) none) (some d))):=by kernel_rfl
end
noncomputable section
open Go.Sim
open Go.Proofs
variable {α:Type}
set_option maxRecDepth 100000
theorem qqc {X:Nat->BitVec 8} {n i:Nat} (h:i<n):qba (tabB X n) i=X i:=by
 unfold qba tabB
 rw [qwa,q2c,List.getElem?_map,List.getElem?_range' h]
 simp
theorem jiu (l:List W32):q0a (q0a l)=q0a l:=rfl
theorem qn3 {S:HSt} {Y:Nat->BitVec 8} {N:Nat} (h:Rep S Y N):Rep (norm S) Y N :=
 ⟨h.n,(jiu _).trans h.ws,fun i hi=>(qqc (by omega)).trans (h.rest i hi)⟩
theorem joe {S:HSt} {i:Nat} (h:i<128):(norm S).K i=S.K i:=qqc h
theorem jjp (S:HSt) (X:Nat->BitVec 8) (m:Nat):(qoe S X m).K=S.K:=by
 unfold qoe
 by_cases h1:S.n % 64=0
 . rw [if_pos h1]
 . rw [if_neg h1]
   by_cases h2:S.n % 64+m<64
   . rw [if_pos h2]
   . rw [if_neg h2]
theorem jju {S:HSt} {Y:Nat->BitVec 8} {N:Nat} (h:Rep S Y N):hsF S=shaF Y N:=by
 unfold hsF
 rw [h.n]
 by_cases c:N % 64+9<=64
 . rw [if_pos c]; exact j6h h c
 . rw [if_neg c]; exact j7h h (by omega)
theorem qo3 (Y:Nat->BitVec 8) (N:Nat):(shaF Y N).length=32:=qdn _
theorem jku {K K' Y:Nat->BitVec 8} (h:∀ i,i<64->K i=K' i):qfe (finW K Y)=shaF (catF K' 64 Y) 96:=by
 unfold shaF finW
 rw [show (96+72) / 64=0+1+1 from rfl,qac,qac]
 refine congrArg qfe (qkf (qkf rfl (q1b fun i hi => ?_)) (q1b fun i hi => ?_))
 . unfold padF
   rw [if_pos (by omega),qni (by omega),Nat.zero_add,h i hi]
 . rw [Nat.zero_add,q7p (by omega) hi]
   unfold padF lenP
   by_cases c1:i<32
   . rw [if_pos c1,if_pos (show 64 * (0+1)+i<96 by omega),qcj (by omega)]
     exact congrArg Y (by omega)
   . rw [if_neg c1,if_neg (show ¬ 64 * (0+1)+i<96 by omega)]
     by_cases c2:i=32
     . rw [if_pos c2,if_pos (show 64 * (0+1)+i=96 by omega)]
     . rw [if_neg c2,if_neg (show ¬ 64 * (0+1)+i=96 by omega)]
       by_cases c3:64<=i+8
       . rw [if_pos c3,if_pos (by omega),show 64 * ((96+72) / 64) - 1 - (64 * (0+1)+i)=64 - 1 - i from by omega]
       . rw [if_neg c3,if_neg (by omega)]
structure Mrep (S:HSt) (k:Nat->BitVec 8) (M:Nat->BitVec 8) (m:Nat):Prop where
 rep:Rep S (catF (fun i=>k i ^^^ 0x36#8) 64 M) (64+m)
 K:∀ i,i<64->S.K i=k i ^^^ 0x5c#8
theorem qeq (k M:Nat->BitVec 8):Mrep (newH k) k M 0:=by
 refine ⟨⟨rfl,?_,fun i hi=>by omega⟩,fun i hi => ?_⟩
 . rw [show (64+0) / 64=0+1 from rfl,qac]
   refine congrArg q0a (qkf rfl (q1b fun i hi => ?_))
   unfold newK
   rw [if_neg (by omega),qni (by omega),show 64+i - 64=64 * 0+i from by omega]
 . show newK k i=_
   unfold newK
   rw [if_pos hi]
theorem qn9 {X X' Y Y':Nat->BitVec 8} {n:Nat} (h:∀ i,i<n->X i=X' i) (h':∀ i,Y i=Y' i) (i:Nat):catF X n Y i=catF X' n Y' i:=by
 unfold catF
 by_cases c:i<n
 . rw [if_pos c,if_pos c,h i c]
 . rw [if_neg c,if_neg c,h']
theorem qvz {S:HSt} {Y Z:Nat->BitVec 8} {N:Nat} (h:Rep S Y N) (hz:∀ i,i<N->Y i=Z i):Rep S Z N :=
 ⟨h.n,h.ws.trans (congrArg q0a (qce _ fun i hi=>hz i (by omega))),fun i hi=>(h.rest i hi).trans (hz _ (by omega))⟩
theorem q8r {S:HSt} {k M X:Nat->BitVec 8} {m n:Nat} (h:Mrep S k M m):Mrep (qoe (norm S) X n) k (catF M m X) (m+n):=by
 refine ⟨?_,fun i hi=>by rw [jjp,joe (by omega)]; exact h.K i hi⟩
 have:=jle (qn3 h.rep) X n
 rw [Nat.add_assoc] at this
 refine qvz this fun i hi => ?_
 unfold catF
 by_cases c1:i<64
 . rw [if_pos (by omega),if_pos c1,if_pos c1]
 . by_cases c2:i<64+m
   . rw [if_pos c2,if_neg c1,if_neg c1,if_pos (by omega)]
   . rw [if_neg c2,if_neg c1,if_neg (by omega)]
     exact congrArg X (by omega)
theorem jlu {S:HSt} {K M:Nat->BitVec 8} {n m:Nat} (h:Mrep S (keyP shaF K n) M m):macF (norm S)=macB shaF K n M m:=by
 unfold macF macB
 rw [jju (qn3 h.rep),qpo _ (qo3 _ _)]
 exact jku fun i hi=>(joe (by omega)).trans (h.K i hi)
end
noncomputable section
open Go.Sim
open Go.Proofs
variable {α:Type}
set_option maxRecDepth 100000
def capL (nm:Nat) (c:SC):Option (Bool × Nat):=SC.rec (motive:=fun _=>Option (Bool × Nat)) (fun m=>some (false,m)) (fun m=>some (false,m)) (fun q k=>boolC (Nat.beq q nm) (some (true,k)) none) c
def qcc (H:List SO) (v:SV) (f:Sl->Nat->R α):R α:=v.asSlice (.stuck 770) fun a l c=>optC (capL a.nm c) (.stuck 771) fun bk=>boolC (qeb a.nm) (q4b (nth H a.nm) fun X N=>f ⟨X,N,a.off.den,l.den,bk.1,bk.2⟩ a.nm) (.stuck 772)
theorem q0u {nm:Nat} {c:SC} {bk:Bool × Nat} (h:capL nm c=some bk) (γ:Val):c.den γ=(boolC bk.1 (.rest nm bk.2) (.sym bk.2):SC).den γ:=by
 cases c with
 | lit m=>cases h; rfl
 | sym m=>cases h; rfl
 | rest q k =>
   obtain ⟨hq,h⟩:=qtb (show boolC (Nat.beq q nm) (some (true,k)) none=some bk from h)
   cases h
   rw [qpa hq]; rfl
theorem qab {H:List SO} {v:SV} {f:Sl->Nat->R α} {φ:α->Prop} (h:∀ t nm,qeb nm=true->(∀ g,∃ e',H[nm]? = some e'/\qrb g t.row e')->v.Imp (t.val nm)->(f t nm).Sat φ):(qcc H v f).Sat φ:=by
 unfold qcc
 rcases asSlice_cases v with ⟨a,l,c,rfl⟩ | hv
 . refine qja fun bk hbk=>qfa fun hn=>q5a fun X N ht=>h ⟨X,N,a.off.den,l.den,bk.1,bk.2⟩ a.nm hn (fun g=>by rw [← qga]; exact ht g) fun γ x hx => ?_
   rw [qra] at hx
   obtain ⟨A,C,hA,hC,hle,rfl⟩:=hx
   rw [show (Sl.val ⟨X,N,a.off.den,l.den,bk.1,bk.2⟩ a.nm)=.slice ⟨a.nm,.sym a.off.den⟩ (.sym l.den) (boolC bk.1 (.rest a.nm bk.2) (.sym bk.2)) from rfl,qra]
   exact ⟨A,C,hA,by rw [← q0u hbk]; exact hC,hle,rfl⟩
 . rw [hv]; trivial
theorem Sl.row_uses (t:Sl) (p:Nat->Bool):t.row.CUses p:=qya _ _ _
theorem Sl.val_ren (t:Sl) (f:Nat->Nat) (nm:Nat):(t.val nm).ren f=t.val (f nm):=by
 unfold Sl.val
 cases t.b <;> rfl
theorem Sl.val_uses (t:Sl) (p:Nat->Bool) (nm:Nat) (h:p nm=true):(t.val nm).uses p=true:=by
 unfold Sl.val
 cases t.b with
 | false=>show p nm && true=true; rw [h]; rfl
 | true=>show (p nm && p nm)=true; rw [h]; rfl
def q50 (x:Nat) (l:List Nat):Bool:=List.rec (motive:=fun _=>Bool) true (fun y _ ih=>boolC (Nat.beq x y) false ih) l
def qrc (l:List Nat):Bool:=List.rec (motive:=fun _=>Bool) true (fun x r ih=>boolC (q50 x r) ih false) l
theorem qwz {x:Nat}:∀ {l:List Nat},q50 x l=true->x ∉ l
 | [],_=>by simp
 | y::l,h=>by
   have h:boolC (Nat.beq x y) false (q50 x l)=true:=h
   cases hb:Nat.beq x y with
   | true=>rw [hb] at h; cases h
   | false =>
     rw [hb] at h
     rw [List.mem_cons,not_or]
     exact ⟨qmb hb,qwz h⟩
theorem q2g:∀ {l:List Nat},qrc l=true->l.Nodup
 | [],_=>List.nodup_nil
 | x::l,h=>by
   obtain ⟨h1,h2⟩:=q7h (show boolC (q50 x l) (qrc l) false=true from h)
   exact List.nodup_cons.2 ⟨qwz h1,q2g h2⟩
theorem nd4 {l:List Nat} (h:qrc l=true) (h4:∀ x∈l,qeb x=true):(0::1::2::3::l).Nodup:=by
 have hn:∀ x∈l,4<=x:=fun x hx=>Nat.le_of_ble_eq_true (h4 x hx)
 simp only [List.nodup_cons,List.mem_cons,not_or]
 refine ⟨⟨by omega,by omega,by omega,fun h => ?_⟩,⟨by omega,by omega,fun h => ?_⟩,⟨by omega,fun h => ?_⟩,fun h => ?_,q2g h⟩
 . have:=hn _ h; omega
 . have:=hn _ h; omega
 . have:=hn _ h; omega
 . have:=hn _ h; omega
def qcx (F:(Nat->BitVec 8)->Nat->List (BitVec 8)) (k:Sl) (M:Nat->BitVec 8) (m:Nat):SumRes:=⟨.tuple [.agg (b32L (macB F k.F k.n M m)),.int .i64 (.lit 0)],[],[]⟩
def okL (t:Sl):Prop:=t.o+t.n<=t.N/\t.n<=1099511627776
def two (a b:Sl):Nat->BitVec 8:=catF a.F a.n b.F
def four (a b c d:Sl):Nat->BitVec 8:=catF (catF (two a b) (a.n+b.n) c.F) (a.n+b.n+c.n) d.F
def hmS1 (F:(Nat->BitVec 8)->Nat->List (BitVec 8)) (H:List SO) (k:Sl) (kn pn:Nat) (l:List SV):R SumRes:=qgd l fun u=>qcc H u fun a an=>boolC (qrc [kn,pn,an]) (.need ((k.o+k.n<=k.N/\k.n<=4096)/\okL a) (.ok (qcx F k a.F a.n))) (.stuck 773)
def hmS2 (F:(Nat->BitVec 8)->Nat->List (BitVec 8)) (H:List SO) (k:Sl) (kn pn:Nat) (l:List SV):R SumRes:=qdd l fun u v=>qcc H u fun a an=>qcc H v fun b bn=>boolC (qrc [kn,pn,an,bn]) (.need ((k.o+k.n<=k.N/\k.n<=4096)/\okL a/\okL b) (.ok (qcx F k (two a b) (a.n+b.n)))) (.stuck 773)
def hmS5 (F:(Nat->BitVec 8)->Nat->List (BitVec 8)) (H:List SO) (k:Sl) (kn pn:Nat) (l:List SV):R SumRes:=List.rec (motive:=fun _=>R SumRes) (.stuck 774) (fun u r _=>qop r fun v x y z=>qcc H u fun a an=>qcc H v fun b bn=>qcc H x fun c cn=>qcc H z fun d dn=>qob y (boolC (qrc [kn,pn,an,bn,cn,dn]) (.need ((k.o+k.n<=k.N/\k.n<=4096)/\okL a/\okL b/\okL c/\okL d) (.ok (qcx F k (four a b c d) (a.n+b.n+c.n+d.n)))) (.stuck 773)) fun _ _=>.stuck 774) l
def hmS (F:(Nat->BitVec 8)->Nat->List (BitVec 8)):Summ:=fun args H _=>qdd args fun kv pv=>qbf H (qcc H kv fun k kn=>optC (slNm pv) (.stuck 775) fun pn=>boolC (qeb pn) (optC (qic (nth H pn)) (.stuck 775) fun l=>boolC (qxj pv pn 0 (lenN l))
 (boolC (Nat.beq (lenN l) 1) (hmS1 F H k kn pn l) (boolC (Nat.beq (lenN l) 2) (hmS2 F H k kn pn l) (hmS5 F H k kn pn l))) (.stuck 775)) (.stuck 775))
theorem Mrep.congr {S:HSt} {k M M':Nat->BitVec 8} {m:Nat} (h:Mrep S k M m) (hm:∀ i,i<m->M i=M' i):Mrep S k M' m :=
 ⟨qvz h.rep fun i hi=>by
  unfold catF
  by_cases c:i<64
  . rw [if_pos c,if_pos c]
  . rw [if_neg c,if_neg c,hm _ (by omega)],h.K⟩
theorem q1u (k:Sl) (a:Sl):Mrep (q7c (hm0 k) (some a)) (keyP shaF k.F k.n) a.F a.n:=by
 have h:=q8r (X:=a.F) (n:=a.n) (qeq (keyP shaF k.F k.n) (fun _=>0#8))
 rw [Nat.zero_add] at h
 exact h.congr fun i hi=>by rw [qcj (by omega)]; rfl
theorem jpe {S:HSt} {k M:Nat->BitVec 8} {m:Nat} (h:Mrep S k M m):Mrep (q7c S none) k M m :=
 (q8r (X:=fun _=>0#8) (n:=0) h).congr fun i hi=>qni (by omega)
theorem q8h {S:HSt} {k M:Nat->BitVec 8} {m:Nat} (h:Mrep S k M m) (hm:m<=9007199254740992) (a:Sl) (ha:okL a) {r:List Prop} (hr:∀ p∈r,p):∀ p∈qpk S (some a) r,p:=by
 have hn:(norm S).n=64+m:=h.rep.n
 obtain ⟨h1,h2⟩:=ha
 exact all_cons (by omega) (all_cons (by omega) (all_cons (qda _) (all_cons ⟨h1,by omega⟩ hr)))
theorem jqe {S:HSt} {k M:Nat->BitVec 8} {m:Nat} (h:Mrep S k M m) (hm:m<=9007199254740992) {r:List Prop} (hr:∀ p∈r,p):∀ p∈qpk S none r,p:=by
 have hn:(norm S).n=64+m:=h.rep.n
 exact all_cons (by omega) (all_cons (by omega) (all_cons (by omega) hr))
theorem qoy {S:HSt} {k M:Nat->BitVec 8} {m:Nat} (h:Mrep S k M m) (hm:m<=9007199254740992):∀ p∈hmE S,p:=by
 have hn:(norm S).n=64+m:=h.rep.n
 exact all_cons (by omega) (all_cons ⟨by omega,by omega⟩ qaa)
theorem qfq {S:HSt} {k M:Nat->BitVec 8} {m:Nat} (h:Mrep S k M m) (b:Sl):Mrep (q7c S (some b)) k (catF M m b.F) (m+b.n):=q8r h
theorem qo9 {I:Ifc} {base:Nat} {S:HSt} {k:Sl} {M:Nat->BitVec 8} {m:Nat} {H:List SO} {v:SV} (hr:Mrep S (keyP shaF k.F k.n) M m) (ho:q6b I.ents 0=[]) (h:v=.tuple [.agg (b32L (macF (norm S))),.int .i64 (.lit 0)]):I.Ends base [] (qcx shaF k M m) v H:=by
 unfold qcx
 rw [← jlu hr]
 exact j8l ho h
end
noncomputable section
open Go.Sim
open Go.Proofs
variable {α:Type}
set_option maxRecDepth 100000
theorem q2u {β:Val} {k:Sl} {kn pn n:Nat} {kv pv:SV} {vs:List Value} (names:List Nat) (ents:List SO) (ha:SV.denL β [kv,pv]=some vs) (hk:kv.Imp (k.val kn)) (hp:qxj pv pn 0 n=true) :
  SV.denL β (SV.renL (qqa (kn::pn::names) ents [k.val 4,.slice ⟨5,.lit 0⟩ (.lit n) (.lit n)]).big (qqa (kn::pn::names) ents [k.val 4,.slice ⟨5,.lit 0⟩ (.lit n) (.lit n)]).args)=some vs:=by
 have h1:=qoa hk (SV.ImpL.refl [pv]) _ _ ha
 rw [qyj hp] at h1
 show SV.denL β [(k.val 4).ren _,.slice ⟨pn,.lit 0⟩ (.lit n) (.lit n)]=_
 rw [Sl.val_ren]
 exact h1
theorem q3u {k:Sl} {kn pn n:Nat} (names:List Nat) (ents:List SO):SV.usesL (qqa (kn::pn::names) ents [k.val 4,.slice ⟨5,.lit 0⟩ (.lit n) (.lit n)]).known [k.val 4,.slice ⟨5,.lit 0⟩ (.lit n) (.lit n)]=true:=by
 show ((k.val 4).uses _ && _)=true
 rw [Sl.val_uses _ _ _ rfl]; rfl
theorem jkp {O:Nat->Prop} {w0:World} {β:Val} {H:List SO} {w:World} {base:Nat} {kv pv:SV} {vs:List Value} (hH:HeapRel0 Tryz.prog O w0 β H w) (hG:GlobRel q3b β) (ha:SV.denL β [kv,pv]=some vs) (hT:ShaTP H) {k:Sl} {kn pn:Nat}
  (hn:qeb kn=true) (ht:∀ g,∃ e',H[kn]? = some e'/\qrb g k.row e') (hk:kv.Imp (k.val kn)) (hn2:qeb pn=true) {l:List SV} (hl:qic (nth H pn)=some l) (hp:qxj pv pn 0 (lenN l)=true) :
  (hmS1 shaF H k kn pn l).Sat (q4a Tryz.prog H β w base 64 vs):=by
 refine qub fun u hu=>qab fun a an hna hta hia=>qfa fun hd=>fun ⟨⟨h1,h2⟩,hok⟩ => ?_
 subst hu
 rw [qga] at hl
 have hr:=q1u k a
 have:=hok.2
 refine qka qny 4000 hH (qqa [kn,pn,an] [k.row,.row (.lst [a.val 6]),a.row] [k.val 4,.slice ⟨5,.lit 0⟩ (.lit 1) (.lit 1)]) (qma hG) (q2u _ _ ha hk hp) (Ifc.fits ?_ (q3u _ _) (qdb hT ⟨⟨ht _,k.row_uses _⟩,⟨q7b hl ?_,?_⟩,⟨hta _,a.row_uses _⟩,trivial⟩)) [] (by simp) (by simp) (jgp k a) ?_ fun _ _=>qo9 hr rfl rfl
 . exact nd4 hd (by simp only [List.mem_cons,List.not_mem_nil,or_false]; rintro x (rfl | rfl | rfl) <;> assumption)
 . show SV.ImpL _ [(a.val 6).ren _]
   rw [Sl.val_ren]
   exact qoa hia q9b
 . show ((a.val 6).uses _ && true)=true
   rw [Sl.val_uses _ _ _ rfl]; rfl
 . refine all_cons (qda _) (all_cons ⟨h1,h2⟩ (q8h (qeq _ (fun _=>0#8)) (by omega) a hok (qoy hr (by omega))))
theorem jlp {O:Nat->Prop} {w0:World} {β:Val} {H:List SO} {w:World} {base:Nat} {kv pv:SV} {vs:List Value} (hH:HeapRel0 Tryz.prog O w0 β H w) (hG:GlobRel q3b β) (ha:SV.denL β [kv,pv]=some vs) (hT:ShaTP H) {k:Sl} {kn pn:Nat}
  (hn:qeb kn=true) (ht:∀ g,∃ e',H[kn]? = some e'/\qrb g k.row e') (hk:kv.Imp (k.val kn)) (hn2:qeb pn=true) {l:List SV} (hl:qic (nth H pn)=some l) (hp:qxj pv pn 0 (lenN l)=true) :
  (hmS2 shaF H k kn pn l).Sat (q4a Tryz.prog H β w base 64 vs):=by
 refine qnb fun u v hu=>qab fun a an hna hta hia=>qab fun b bn hnb htb hib=>qfa fun hd=>fun ⟨⟨h1,h2⟩,hok,hokb⟩ => ?_
 subst hu
 rw [qga] at hl
 have hr:=q1u k a
 have hr2:=qfq hr b
 have:=hok.2
 have:=hokb.2
 refine qka qny 4000 hH (qqa [kn,pn,an,bn] [k.row,.row (.lst [a.val 6,b.val 7]),a.row,b.row] [k.val 4,.slice ⟨5,.lit 0⟩ (.lit 2) (.lit 2)]) (qma hG) (q2u _ _ ha hk hp) (Ifc.fits ?_ (q3u _ _) (qdb hT ⟨⟨ht _,k.row_uses _⟩,⟨q7b hl ?_,?_⟩,⟨hta _,a.row_uses _⟩,⟨htb _,b.row_uses _⟩,trivial⟩)) [] (by simp) (by simp) (jhp k a b) ?_ fun _ _=>qo9 hr2 rfl rfl
 . exact nd4 hd (by simp only [List.mem_cons,List.not_mem_nil,or_false]; rintro x (rfl | rfl | rfl | rfl) <;> assumption)
 . show SV.ImpL _ [(a.val 6).ren _,(b.val 7).ren _]
   rw [Sl.val_ren,Sl.val_ren]
   exact qoa hia (qoa hib q9b)
 . show ((a.val 6).uses _ && ((b.val 7).uses _ && true))=true
   rw [Sl.val_uses _ _ _ rfl,Sl.val_uses _ _ _ rfl]; rfl
 . exact all_cons (qda _) (all_cons ⟨h1,h2⟩ (q8h (qeq _ (fun _=>0#8)) (by omega) a hok (q8h hr (by omega) b hokb (qoy hr2 (by omega)))))
theorem jmp {O:Nat->Prop} {w0:World} {β:Val} {H:List SO} {w:World} {base:Nat} {kv pv:SV} {vs:List Value} (hH:HeapRel0 Tryz.prog O w0 β H w) (hG:GlobRel q3b β) (ha:SV.denL β [kv,pv]=some vs) (hT:ShaTP H) {k:Sl} {kn pn:Nat}
  (hn:qeb kn=true) (ht:∀ g,∃ e',H[kn]? = some e'/\qrb g k.row e') (hk:kv.Imp (k.val kn)) (hn2:qeb pn=true) {l:List SV} (hl:qic (nth H pn)=some l) (hp:qxj pv pn 0 (lenN l)=true) :
  (hmS5 shaF H k kn pn l).Sat (q4a Tryz.prog H β w base 64 vs):=by
 cases l with
 | nil=>trivial
 | cons u r =>
   refine q1h fun v x y z hr0=>qab fun a an hna hta hia=>qab fun b bn hnb htb hib=>qab fun c cn hnc htc hic=>qab fun d dn hnd htd hid=>qxa (fun hy=>qfa fun hd=>fun ⟨⟨h1,h2⟩,hok,hokb,hokc,hokd⟩ => ?_) fun _ _ _ _=>trivial
   subst hr0
   rw [qga] at hl
   rw [hy] at hl
   have hr:=q1u k a
   have hr2:=qfq hr b
   have hr3:=qfq hr2 c
   have hr4:=jpe hr3
   have hr5:=qfq hr4 d
   have:=hok.2
   have:=hokb.2
   have:=hokc.2
   have:=hokd.2
   refine qka qny 4000 hH (qqa [kn,pn,an,bn,cn,dn] [k.row,.row (.lst [a.val 6,b.val 7,c.val 8,.nilSlice,d.val 9]),a.row,b.row,c.row,d.row] [k.val 4,.slice ⟨5,.lit 0⟩ (.lit 5) (.lit 5)]) (qma hG) (q2u _ _ ha hk hp) (Ifc.fits ?_ (q3u _ _) (qdb hT ⟨⟨ht _,k.row_uses _⟩,⟨q7b hl ?_,?_⟩,⟨hta _,a.row_uses _⟩,⟨htb _,b.row_uses _⟩,⟨htc _,c.row_uses _⟩,⟨htd _,d.row_uses _⟩,trivial⟩)) [] (by simp) (by simp) (jip k a b c d) ?_ fun _ _=>qo9 hr5 rfl rfl
   . exact nd4 hd (by simp only [List.mem_cons,List.not_mem_nil,or_false]; rintro x (rfl | rfl | rfl | rfl | rfl | rfl) <;> assumption)
   . show SV.ImpL _ [(a.val 6).ren _,(b.val 7).ren _,(c.val 8).ren _,.nilSlice,(d.val 9).ren _]
     rw [Sl.val_ren,Sl.val_ren,Sl.val_ren,Sl.val_ren]
     exact qoa hia (qoa hib (qoa hic (qoa (.refl _) (qoa hid q9b))))
   . show ((a.val 6).uses _ && ((b.val 7).uses _ && ((c.val 8).uses _ && (true && ((d.val 9).uses _ && true)))))=true
     rw [Sl.val_uses _ _ _ rfl,Sl.val_uses _ _ _ rfl,Sl.val_uses _ _ _ rfl,Sl.val_uses _ _ _ rfl]; rfl
   . exact all_cons (qda _) (all_cons ⟨h1,h2⟩ (q8h (qeq _ (fun _=>0#8)) (by omega) a hok (q8h hr (by omega) b hokb (q8h hr2 (by omega) c hokc (jqe hr3 (by omega) (q8h hr4 (by omega) d hokd (qoy hr5 (by omega))))))))
theorem hmOK:SumAt Tryz.prog q3b 64 (hmS shaF):=by
 intro O w0 β H w base args vs hH hG ha
 refine qnb fun kv pv hv=>qkc fun hT=>qab fun k kn hn ht hk=>qja fun pn hpn=>qfa fun hn2=>qja fun l hl=>qfa fun hp => ?_
 rw [hv] at ha
 exact qna (fun _=>jkp hH hG ha hT hn ht hk hn2 hl hp) fun _=>qna (fun _=>jlp hH hG ha hT hn ht hk hn2 hl hp) fun _=>jmp hH hG ha hT hn ht hk hn2 hl hp
end
end Go.Proofs.YtcpafideogckmaaGreatDoor.Aes
namespace Go.Sim
noncomputable section
def qdx (p:Nat->Bool) (g:Nat->Nat) (E:Option SO) (e:SO):Prop:=q5d p g E e\/∃ o,E=some (.obj o)/\o.uses p=true/\e=.obj (o.ren g)
structure Ifc.OutO (I:Ifc) (base:Nat) (turn keep:List Nat) (r:SumRes) (v:SV) (H:List SO):Prop where
 val:(v.ren (I.out base keep)).Imp r.v
 uv:v.uses (I.seen keep)=true
 setsLen:r.sets.length=turn.length
 sets:∀ (i j:Nat),turn[i]? = some j->∃ e,r.sets[i]? = some (I.big j,e)/\q5d (I.seen keep) (I.out base keep) H[j]? e
 newsLen:r.news.length=keep.length
 news:∀ (i j:Nat),keep[i]? = some j->∃ e,r.news[i]? = some e/\qdx (I.seen keep) (I.out base keep) H[j]? e
theorem q34 {c:Cfg} {O:Nat->Prop} {w0 w:World} {β:Val} {H:List SO} {base:Nat} {f:FuncId} {vs:List Value} (hH:HeapRel0 c.P O w0 β H w)
  (I:Ifc) (hgl:∀ g j,c.glob g=some j->I.known j=true/\∃ l,β (I.big j)=some l/\l.blk=g/\l.off=0) (ha:SV.denL β (SV.renL I.big I.args)=some vs) (hI:I.Fits H) {r:SumRes} (turn keep:List Nat) (ht1:∀ (j:Nat) c w el,I.ents[j]? = some (.own c w el)->j∈turn) (ht2:∀ j∈turn,∃ c w el,I.ents[j]? = some (.own c w el)) (hk:∀ j∈keep,I.names.length<=j) (hkn:keep.Nodup) (htn:turn.Nodup:=by simp)
  (hbody:∃ fn,c.P.funcs[f]? = some fn/\fn.body.isSome=true)
  (hrun:HeapRel c.P (I.owns β) w (I.val β) I.ents w->GlobRel c.glob (I.val β)->SV.denL (I.val β) I.args=some vs->Calls c.P f vs.toArray w (Came c.P (I.owns β) w (I.val β) (I.OutO base turn keep r))):q4a c.P H β w base f vs r:=by
 intro hfree
 have hH':=Ifc.heap hH hI
 have ha':SV.denL (I.val β) I.args=some vs:=by
  rw [SV.denL_ren,SV.denL_uses Ifc.val_known _ hI.uargs] at ha; exact ha
 have hcalls:=hrun hH' (fun g j hg=>let ⟨hk,l,h1,h2⟩:=hgl g j hg; ⟨l,by rw [← Ifc.val_known j hk]; exact h1,h2⟩) ha'
 have hown:∀ j∈turn,∃ cb wb el l vs rest lo hi,H[I.big j]? = some (.own cb wb el)/\β (I.big j)=some l/\I.val β j=some l/\j<I.names.length/\w.heap[l.blk]? = some (.cells (vs++rest:List Value).toArray el (lo,hi)):=by
  intro j hj
  obtain ⟨cc,ww,el,he⟩:=ht2 j hj
  obtain ⟨e,he',ht⟩:=hI.ent j _ he
  obtain ⟨c1,rfl,_⟩:=ht
  obtain ⟨l,vs,rest,lo,hi,hl,_,_,hh,_⟩:=hH.entries _ _ he'
  have hjl:j<I.names.length:=by rw [← hI.len]; exact (List.getElem?_eq_some_iff.1 he).1
  exact ⟨_,_,_,l,vs,rest,lo,hi,he',hl,by rw [← Ifc.val_known j ((I.known_iff j).2 hjl)]; exact hl,hjl,hh⟩
 have hsets:∀ (v:SV) (H'':List SO),I.OutO base turn keep r v H''->∀ m e,(m,e)∈r.sets->∃ j∈turn,m=I.big j/\q5d (I.seen keep) (I.out base keep) H''[j]? e/\∃ i:Nat,turn[i]? = some j/\r.sets[i]? = some (m,e):=by
  intro v H'' hout m e hm
  obtain ⟨i,hi⟩:=List.mem_iff_getElem?.1 hm
  have hil:=(List.getElem?_eq_some_iff.1 hi).1
  rw [hout.setsLen] at hil
  obtain ⟨e',h1,h2⟩:=hout.sets i _ (List.getElem?_eq_getElem hil)
  rw [hi] at h1
  cases h1
  exact ⟨_,List.getElem_mem hil,rfl,h2,i,List.getElem?_eq_getElem hil,hi⟩
 refine ⟨?_,.inl ⟨hbody,?_⟩⟩
 . intro m e hm
   obtain ⟨e',w',fr,hcame,_⟩:=hcalls []
   obtain ⟨v,H'',x,β'',_,hout,_⟩:=hcame
   obtain ⟨j,hj,rfl,_⟩:=hsets v H'' hout m e hm
   obtain ⟨cb,wb,el,l,vs,rest,lo,hi,h1,_⟩:=hown j hj
   exact ⟨_,h1,rfl⟩
 . intro cs
   obtain ⟨e',w',fr,hcame,hst⟩:=hcalls cs
   refine ⟨e',w',fr,?_,hst⟩
   obtain ⟨v,H'',x,β'',rfl,hout,hle,hv,hH2⟩:=hcame
   let βb:Val:=fun n=>if base<=n/\n<base+keep.length then (keep[n - base]?).bind β'' else β n
   have hlenn:r.news.length=keep.length:=hout.newsLen
   have hfree':∀ i,i<keep.length->β (base+i)=none:=fun i hi=>hfree i (by rw [hlenn]; exact hi)
   have hβle:β.le βb:=by
    intro n l hn
    show (if _ then _ else _)=_
    rw [if_neg]
    . exact hn
    . rintro ⟨h1,h2⟩
      have:=hfree' (n - base) (by omega)
      rw [show base+(n - base)=n from by omega,hn] at this; cases this
   have hseen:∀ j,I.seen keep j=true->βb (I.out base keep j)=β'' j:=by
    intro j hj
    unfold Ifc.seen at hj
    unfold Ifc.out
    cases hkn':I.known j with
    | true =>
      rw [boolC_true]
      have hjl:=(I.known_iff j).1 hkn'
      obtain ⟨E,hE⟩:∃ E,I.ents[j]? = some E:=⟨_,List.getElem?_eq_getElem (by rw [hI.len]; exact hjl)⟩
      obtain ⟨e,he,htk⟩:=hI.ent j E hE
      have hsome:∃ l,β (I.big j)=some l:=by
       have h0:=hH.entries _ e he
       have hu:=hI.uent j E hE
       have hplaced:e.placed=true:=by
        cases E with
        | own cc ww el=>obtain ⟨c1,rfl,_⟩:=htk; rfl
        | row cc=>obtain ⟨c1,rfl | ⟨ww,el,rfl⟩,_⟩:=htk <;> rfl
        | loop=>exact hu.elim
        | deferred=>exact hu.elim
        | gone=>exact htk
        | obj=>exact hu.elim
       cases e with
       | own cc ww el=>obtain ⟨l,_,_,_,_,hl,_⟩:=h0; exact ⟨l,hl⟩
       | row cc=>obtain ⟨l,_,hl,_⟩:=h0; exact ⟨l,hl⟩
       | loop=>cases hplaced
       | deferred=>cases hplaced
       | gone=>cases hplaced
       | obj=>cases hplaced
      obtain ⟨l,hl⟩:=hsome
      rw [hβle _ _ hl]
      have:I.val β j=some l:=by rw [← Ifc.val_known j hkn']; exact hl
      rw [hle _ _ this]
    | false =>
      rw [hkn',boolC_false,memN_iff] at hj
      rw [boolC_false]
      have h1:=q1m hj
      have h2:=(List.getElem?_eq_some_iff.1 h1).1
      show (if _ then _ else _)=_
      rw [if_pos (by omega),show base+idxN j keep - base=idxN j keep from by omega,h1]; rfl
   have hren0:∀ (j:Nat) (e:SO),q5d (I.seen keep) (I.out base keep) H''[j]? e->I.seen keep j=true->e.owned=true/\OwnRel c.P βb w' (I.out base keep j) e:=by
    intro j e hg hs
    obtain ⟨cc,ww,el,c',he,hu,himp,rfl⟩:=hg
    obtain ⟨l,vs,rest,lo,hi,hl,h0,hcl,hh,hfz,hw,hcap⟩:=hH2.entries j _ he
    exact ⟨rfl,l,vs,rest,lo,hi,(hseen j hs).trans hl,h0,himp _ _ ((CellsRel.ren hu hseen).2 hcl),hh,hfz,hw,hcap⟩
   have hrenOwn:∀ (j:Nat) (e:SO),qdx (I.seen keep) (I.out base keep) H''[j]? e->I.seen keep j=true->e.owned=true/\OwnRel c.P βb w' (I.out base keep j) e:=by
    intro j e hg hs
    rcases hg with hg | ⟨o,he,hu,rfl⟩
    . exact hren0 j e hg hs
    . obtain ⟨l,y,hl,h0,hd,hh⟩:=hH2.entries j _ he
      exact ⟨rfl,l,y,(hseen j hs).trans hl,h0,by rw [SObj.den_ren,SObj.den_uses (β:=fun n=>βb (I.out base keep n)) (β':=β'') hseen hu]; exact hd,hh⟩
   have hatJ:∀ (j:Nat) (e:SO),qdx (I.seen keep) (I.out base keep) H''[j]? e->∃ e0 l,H''[j]? = some e0/\e0.owned=true/\β'' j=some l:=by
    intro j e hg
    rcases hg with ⟨cc,ww,el,c',he,_⟩ | ⟨o,he,_⟩
    . obtain ⟨l,vs2,rest,lo,hi2,hl,_⟩:=hH2.entries j _ he
      exact ⟨_,l,he,rfl,hl⟩
    . obtain ⟨l,y,hl,_⟩:=hH2.entries j _ he
      exact ⟨_,l,he,rfl,hl⟩
   have hseenT:∀ j∈turn,I.seen keep j=true/\I.out base keep j=I.big j:=by
    intro j hj
    obtain ⟨_,_,_,_,_,_,_,_,_,_,_,hjl,_⟩:=hown j hj
    have:=(I.known_iff j).2 hjl
    unfold Ifc.seen Ifc.out
    rw [this]; exact ⟨rfl,rfl⟩
   have hseenK:∀ j∈keep,I.seen keep j=true/\I.known j=false:=by
    intro j hj
    have hnk:I.known j=false:=by
     cases hx:I.known j with
     | false=>rfl
     | true=>have:=(I.known_iff j).1 hx; have:=hk j hj; omega
    unfold Ifc.seen
    rw [hnk]; exact ⟨qzm hj,rfl⟩
   have hnewsAt:∀ (i:Nat) (e:SO),r.news[i]? = some e->∃ j,keep[i]? = some j/\qdx (I.seen keep) (I.out base keep) H''[j]? e:=by
    intro i e hi
    have hil:=(List.getElem?_eq_some_iff.1 hi).1
    rw [hlenn] at hil
    obtain ⟨e',h1,h2⟩:=hout.news i _ (List.getElem?_eq_getElem hil)
    rw [hi] at h1; cases h1
    exact ⟨_,List.getElem?_eq_getElem hil,h2⟩
   refine ⟨x,βb,rfl,?_,⟨hβle,hH2.keep.os,hH2.keep.tape,hH2.keep.output,hH2.keep.size,?_,?_,?_,?_,?_,?_⟩⟩
   . refine hout.val _ _ ?_
     rw [SV.den_ren,SV.den_uses hseen _ hout.uv]; exact hv
   . intro n hn
     rw [hlenn] at hn
     show (if _ then _ else _)=_
     rw [if_neg (by omega)]
   . intro b hb hno
     refine hH2.keep.block b hb ?_
     rintro ⟨j,cc,ww,el,l,hj,hl,rfl⟩
     have hjt:=ht1 j cc ww el hj
     obtain ⟨i,hi⟩:=List.mem_iff_getElem?.1 hjt
     obtain ⟨e,he,_⟩:=hout.sets i j hi
     exact hno (I.big j) e l (List.mem_of_getElem? he) hl rfl
   . intro m e e' h1 h2
     obtain ⟨j,hj,hm1,hg1,i1,ht1',hs1⟩:=hsets v H'' hout m e h1
     obtain ⟨k,hk',hm2,hg2,i2,ht2',hs2⟩:=hsets v H'' hout m e' h2
     obtain ⟨_,_,_,_,_,_,_,_,_,_,_,hjl,_⟩:=hown j hj
     obtain ⟨_,_,_,_,_,_,_,_,_,_,_,hkl,_⟩:=hown k hk'
     have hjk:k=j:=hI.nodup k j (I.big k) (Ifc.big_get hkl) (by rw [← hm2,hm1]; exact Ifc.big_get hjl)
     subst hjk
     have:i1=i2:=(List.getElem?_inj (List.getElem?_eq_some_iff.1 ht1').1 htn).1 (ht1'.trans ht2'.symm)
     subst this
     rw [hs1] at hs2
     exact (Prod.mk.inj (Option.some.inj hs2)).2
   . intro m e hm
     obtain ⟨j,hj,rfl,hg,_⟩:=hsets v H'' hout m e hm
     obtain ⟨hs,hb⟩:=hseenT j hj
     rw [← hb]
     exact (hren0 j e hg hs).2
   . intro i e hi
     obtain ⟨j,hj,hg⟩:=hnewsAt i e hi
     have hjm:=List.mem_of_getElem? hj
     obtain ⟨hs,hnk⟩:=hseenK j hjm
     have hout':I.out base keep j=base+i:=by
      unfold Ifc.out
      rw [hnk,boolC_false]
      have h1:=q1m hjm
      have:idxN j keep=i:=(List.getElem?_inj (List.getElem?_eq_some_iff.1 h1).1 hkn).1 (h1.trans hj.symm)
      rw [this]
     obtain ⟨ho,hor⟩:=hrenOwn j e hg hs
     refine ⟨ho,hout'▸hor,?_⟩
     obtain ⟨e0,l,he,he0,hl⟩:=hatJ j e hg
     refine ⟨l,by rw [← hout',hseen j hs]; exact hl,.inl ?_⟩
     rcases hH2.fresh j _ l he he0 hl with h1 | ⟨k,ck,wk,ek,lk,hk1,hk2,hk3⟩
     . exact h1
     . exfalso
       have hkt:=ht1 k ck wk ek hk1
       obtain ⟨i3,hi3⟩:=List.mem_iff_getElem?.1 hkt
       obtain ⟨_,_,c2,w2,e2,_,he2,_⟩:=hout.sets i3 k hi3
       obtain ⟨_,_,_,l2,_,_,_,_,_,hb2,hv2,hkl,_⟩:=hown k hkt
       rw [hb2] at hk2; cases hk2
       refine hH2.sep k j _ _ lk l he2 he rfl he0 ?_ (hle _ _ hv2) hl hk3
       have:=hk j hjm; omega
   . intro i j l l' hij hi hj hl hl'
     rw [hlenn] at hi hj
     have hone:∀ i,i<keep.length->∀ l,βb (base+i)=some l->∃ k,keep[i]? = some k/\β'' k=some l:=by
      intro i hi l hl
      have hl:(if base<=base+i/\base+i<base+keep.length then (keep[base+i - base]?).bind β'' else β (base+i))=some l:=hl
      rw [if_pos (by omega),show base+i - base=i from by omega,List.getElem?_eq_getElem hi] at hl
      exact ⟨_,List.getElem?_eq_getElem hi,hl⟩
     obtain ⟨k1,hk1,hb1⟩:=hone i hi l hl
     obtain ⟨k2,hk2,hb2⟩:=hone j hj l' hl'
     obtain ⟨n1,_,hg1⟩:=hout.news i k1 hk1
     obtain ⟨n2,_,hg2⟩:=hout.news j k2 hk2
     obtain ⟨e1,_,he1,ho1,_⟩:=hatJ k1 n1 hg1
     obtain ⟨e2,_,he2,ho2,_⟩:=hatJ k2 n2 hg2
     refine hH2.sep k1 k2 _ _ l l' he1 he2 ho1 ho2 (fun h => ?_) hb1 hb2
     subst h
     exact hij ((List.getElem?_inj (List.getElem?_eq_some_iff.1 hk1).1 hkn).1 (hk1.trans hk2.symm))
theorem qp9 {c:Cfg} (hc:CfgOK c) {n:Nat} {O:Nat->Prop} {w0 w:World} {β:Val} {H:List SO} {base:Nat} {f:FuncId} {vs:List Value} (hH:HeapRel0 c.P O w0 β H w)
  (I:Ifc) (hgl:∀ g j,c.glob g=some j->I.known j=true/\∃ l,β (I.big j)=some l/\l.blk=g/\l.off=0) (ha:SV.denL β (SV.renL I.big I.args)=some vs) (hI:I.Fits H) {r:SumRes} (turn keep:List Nat) (ht1:∀ (j:Nat) c w el,I.ents[j]? = some (.own c w el)->j∈turn) (ht2:∀ j∈turn,∃ c w el,I.ents[j]? = some (.own c w el)) (hk:∀ j∈keep,I.names.length<=j) (hkn:keep.Nodup) (htn:turn.Nodup:=by simp)
  (hob:(qca c n f I.args I.ents).Ob (I.OutO base turn keep r) fun _=>False):q4a c.P H β w base f vs r:=by
 refine q34 hH I hgl ha hI turn keep ht1 ht2 hk hkn htn ?_ fun hH' hG ha'=>qqu hc hH' hG ha' hob
 unfold qca at hob
 cases hg:q7g c.P f I.args with
 | none=>rw [hg] at hob; exact hob.elim
 | some g=>exact qnn hg
end
end Go.Sim
namespace Go.Proofs.YtcpafideogckmaaGreatDoor.Aes
noncomputable section
open Go.Sim
open Go.Proofs
variable {α:Type}
set_option maxRecDepth 100000
def qq9 (args:List SV) (r:R α):R α:=List.rec (motive:=fun _=>R α) r (fun _ _ _=>.stuck 700) args
theorem qxz {args:List SV} {r:R α} {φ:α->Prop} (h:args=[]->r.Sat φ):(qq9 args r).Sat φ:=by
 cases args with
 | nil=>exact h rfl
 | cons=>trivial
def esOf (t:Tree):List (SV × SV × Nat):=Tree.rec (motive:=fun _=>List (SV × SV × Nat)) (fun _ H=>match H with | [.obj (.map es _)]=>es | _=>[]) (fun _=>[]) (fun _ _ ih=>ih) (fun _ _ _ a _=>a) (fun _=>[]) (fun _ ih=>ih fun _=>0) t
def kindsT:Tree:=qca cfg0 400 26 [] []
def qfk:List (SV × SV × Nat):=esOf kindsT
theorem jre:outP [0] kindsT=([],some (.map 0,[some (.obj (.map qfk 2))])):=by kernel_rfl
theorem jse (g:Nat->Nat):(SObj.map qfk 2).ren g=.map qfk 2:=by kernel_rfl
theorem qr9 (p:Nat->Bool):(SObj.map qfk 2).uses p=true:=by kernel_rfl
def qp3:Summ:=fun args _ base=>qq9 args (.ok ⟨.map base,[],[.obj (.map qfk 2)]⟩)
theorem qd6:q3a Tryz.prog 26 qp3:=by
 intro glob O w0 β H w base args vs hH hG ha
 refine qxz fun hv => ?_
 rw [hv] at ha
 refine qp9 q4c hH ⟨[],[],[]⟩ (fun g j h=>by cases h) ha (q5c rfl) [] [0] (fun j c w el h=>by simp at h) (fun j h=>by cases h) (fun j h=>Nat.zero_le _) (by simp) (by simp)
  (qpp jre fun H2 hH2=>⟨SV.imp_of_eq rfl,rfl,rfl,fun i j h=>by simp at h,rfl,fun i j h => ?_⟩)
 match i,h with
 | 0,h =>
   cases h
   exact ⟨_,rfl,.inr ⟨.map qfk 2,(List.cons.inj hH2).1,qr9 _,by rw [jse]⟩⟩
end
noncomputable section
open Go.Sim
open Go.Proofs
variable {α:Type}
set_option maxRecDepth 1000000
def cfgF:Cfg:=qle (qbb [(26,qp3)])
theorem q9r:CfgOK cfgF:=q8b (all1 qd6)
def fdK (p v:Int) (s:SV):SV:=.agg [.int .i64 (.sym p),.int .i64 (.sym v),s]
def fdT (p v:Int) (o l m:Nat):Tree:=qca cfgF 400 29 [fdK p v (.slice ⟨0,.sym o⟩ (.sym l) (.sym m))] [.gone]
def fdN (p v:Int):Tree:=qca cfgF 400 29 [fdK p v .nilSlice] []
def jam (i:Nat):SV:=optC (nth qfk i) q9a fun e=>e.2.1.asAgg q9a fun l=>optC (nth l 0) q9a fun v=>v
def fnV (f:FuncId):SV:=.func (.fn (.func f)) [] []
def iL (n:Int):SV:=.int .i64 (.lit n)
def kv1:SV:=.agg [jam 0,iL 16,iL 16,iL 16,iL 16,fnV 41,fnV 42,fnV 43]
def kv2:SV:=.agg [jam 1,iL 32,iL 16,iL 32,iL 32,fnV 44,fnV 45,fnV 46]
def kv0:SV:=optC (outO [] (qca cfgF 400 29 [.agg [iL 3,iL 0,.nilSlice]] []) []).2 q9a fun r=>SV.rec (motive_1:=fun _=>SV) (motive_2:=fun _=>Unit) (fun _ _=>q9a) (fun _=>q9a) (fun _=>q9a) (fun _=>q9a) q9a (fun _ _ _=>q9a) q9a (fun _=>q9a) q9a (fun _ _ _ _ _=>q9a) q9a (fun _ _ _=>q9a) q9a (fun _ _=>q9a) (fun l _=>optC (nth l 0) q9a fun v=>v) (fun _=>q9a) (fun _ _ _ _=>q9a) () (fun _ _ _ _=>()) r.1
def fdV (k:SV) (b:SB):Option (SV × List (Option SO)):=some (.tuple [k,.bool b],[])
section
variable (p v:Int) (o l m:Nat)
theorem jnp:outO [] (fdT p v o l m) [false,false]=([(p == 1)=false,(p == 2)=false],fdV kv0 (.lit false)):=by kernel_rfl
theorem jop:outO [] (fdT p v o l m) [true,false,false,false,false]=([(p == 1)=true,((l:Int) == 16)=false,((l:Int) == 16)=false,((l:Int) == 16)=false,((l:Int) == 16)=false],fdV kv1 (.lit false)):=by kernel_rfl
theorem jpp:outO [] (fdT p v o l m) [true,true,false,false,false,false]=([(p == 1)=true,((l:Int) == 16)=true,decide (v>=0)=false,decide (v>=0)=false,decide (v>=0)=false,decide (v>=0)=false],fdV kv1 (.lit false)):=by kernel_rfl
theorem jte:outO [] (fdT p v o l m) [true,true,true]=([(p == 1)=true,((l:Int) == 16)=true,decide (v>=0)=true],fdV kv1 (.sym (decide (v<=65535)))):=by kernel_rfl
theorem jqp:outO [] (fdT p v o l m) [false,true,false,false,false,false]=([(p == 1)=false,(p == 2)=true,((l:Int) == 32)=false,((l:Int) == 32)=false,((l:Int) == 32)=false,((l:Int) == 32)=false],fdV kv2 (.lit false)):=by kernel_rfl
theorem jrp:outO [] (fdT p v o l m) [false,true,true,false,false,false,false]=([(p == 1)=false,(p == 2)=true,((l:Int) == 32)=true,decide (v>=0)=false,decide (v>=0)=false,decide (v>=0)=false,decide (v>=0)=false],fdV kv2 (.lit false)):=by kernel_rfl
theorem jue:outO [] (fdT p v o l m) [false,true,true,true]=([(p == 1)=false,(p == 2)=true,((l:Int) == 32)=true,decide (v>=0)=true],fdV kv2 (.sym (decide (v<=65535)))):=by kernel_rfl
theorem jsp:outO [] (fdN p v) [false,false]=([(p == 1)=false,(p == 2)=false],fdV kv0 (.lit false)):=by kernel_rfl
theorem jtp:outO [] (fdN p v) [true]=([(p == 1)=true],fdV kv1 (.lit false)):=by kernel_rfl
theorem jup:outO [] (fdN p v) [false,true]=([(p == 1)=false,(p == 2)=true],fdV kv2 (.lit false)):=by kernel_rfl
end
end
noncomputable section
open Go.Sim
open Go.Proofs
variable {α:Type}
set_option maxRecDepth 100000
def isI (x:SI) (n:Int) (t f:R α):R α:=x.asLit (.fork (x.den == n) t f) fun a=>boolC (eqI a n) t f
theorem q1c {x:SI} {n:Int} {t f:R α} {φ:α->Prop} (h:x.den=n->t.Sat φ) (h':x.den≠n->f.Sat φ):(isI x n t f).Sat φ:=by
 unfold isI
 cases x with
 | lit m =>
   refine qna (fun hm=>h (qhm hm)) fun hm=>h' fun e => ?_
   have e:m=n:=e
   subst e
   rw [qqi] at hm
   simp at hm
 | sym m=>exact ⟨fun hm=>h (by simpa using hm),fun hm=>h' (by simpa using hm)⟩
 | b8 m=>exact ⟨fun hm=>h (by simpa using hm),fun hm=>h' (by simpa using hm)⟩
 | b32 m=>exact ⟨fun hm=>h (by simpa using hm),fun hm=>h' (by simpa using hm)⟩
 | b64 m=>exact ⟨fun hm=>h (by simpa using hm),fun hm=>h' (by simpa using hm)⟩
def leI (n:Int) (x:SI) (t f:R α):R α:=x.asLit (.fork (decide (n<=x.den)) t f) fun a=>boolC (decide (n<=a)) t f
theorem qzl {x:SI} {n:Int} {t f:R α} {φ:α->Prop} (h:n<=x.den->t.Sat φ) (h':¬ n<=x.den->f.Sat φ):(leI n x t f).Sat φ:=by
 unfold leI
 cases x with
 | lit m=>exact qna (fun hm=>h (of_decide_eq_true hm)) fun hm=>h' (of_decide_eq_false hm)
 | sym m=>exact ⟨fun hm=>h (of_decide_eq_true hm),fun hm=>h' (of_decide_eq_false hm)⟩
 | b8 m=>exact ⟨fun hm=>h (of_decide_eq_true hm),fun hm=>h' (of_decide_eq_false hm)⟩
 | b32 m=>exact ⟨fun hm=>h (of_decide_eq_true hm),fun hm=>h' (of_decide_eq_false hm)⟩
 | b64 m=>exact ⟨fun hm=>h (of_decide_eq_true hm),fun hm=>h' (of_decide_eq_false hm)⟩
def i64O (v:SV) (f:SI->R α):R α:=v.asInt (.stuck 781) fun k x=>boolC (eqK k .i64) (f x) (.stuck 781)
theorem q2a {v:SV} {f:SI->R α} {φ:α->Prop} (h:∀ x,v=.int .i64 x->(f x).Sat φ):(i64O v f).Sat φ:=by
 unfold i64O
 rcases qxc v with ⟨k,x,rfl⟩ | hv
 . refine qfa fun hk=>h x ?_
   rw [qag hk]
 . rw [hv]; trivial
def fdR (k:SV) (b:Bool):R SumRes:=.ok ⟨.tuple [k,.bool (.lit b)],[],[]⟩
def fdOne (k:SV) (n:Nat) (l:SN) (v:SI):R SumRes:=qod l n (leI 0 v (isLe v 65535 (fdR k true) (fdR k false)) (fdR k false)) (fdR k false)
where isLe (x:SI) (n:Int) (t f:R SumRes):R SumRes:=x.asLit (.fork (decide (x.den<=n)) t f) fun a=>boolC (decide (a<=n)) t f
theorem qgk {x:SI} {n:Int} {t f:R SumRes} {φ:SumRes->Prop} (h:x.den<=n->t.Sat φ) (h':¬ x.den<=n->f.Sat φ):(fdOne.isLe x n t f).Sat φ:=by
 unfold fdOne.isLe
 cases x with
 | lit m=>exact qna (fun hm=>h (of_decide_eq_true hm)) fun hm=>h' (of_decide_eq_false hm)
 | sym m=>exact ⟨fun hm=>h (of_decide_eq_true hm),fun hm=>h' (of_decide_eq_false hm)⟩
 | b8 m=>exact ⟨fun hm=>h (of_decide_eq_true hm),fun hm=>h' (of_decide_eq_false hm)⟩
 | b32 m=>exact ⟨fun hm=>h (of_decide_eq_true hm),fun hm=>h' (of_decide_eq_false hm)⟩
 | b64 m=>exact ⟨fun hm=>h (of_decide_eq_true hm),fun hm=>h' (of_decide_eq_false hm)⟩
def qs9:Summ:=fun args H _=>qgd args fun k=>k.asAgg (.stuck 782) fun l=>qoc l fun p v s=>i64O p fun p=>i64O v fun v =>
 qob s (isI p 1 (fdR kv1 false) (isI p 2 (fdR kv2 false) (fdR kv0 false))) fun a l=>boolC (quc (nth H a.nm)) (isI p 1 (fdOne kv1 16 l v) (isI p 2 (fdOne kv2 32 l v) (fdR kv0 false))) (.stuck 783)
theorem qef (g:Nat->Nat) (p:Nat->Bool):(kv0.ren g=kv0/\kv0.uses p=true)/\(kv1.ren g=kv1/\kv1.uses p=true)/\(kv2.ren g=kv2/\kv2.uses p=true):=⟨⟨by kernel_rfl,by kernel_rfl⟩,⟨by kernel_rfl,by kernel_rfl⟩,⟨by kernel_rfl,by kernel_rfl⟩⟩
theorem qt9 {I:Ifc} {base:Nat} {k:SV} {b:SB} {c:Bool} (ho:q6b I.ents 0=[]) (hk:∀ g p,k.ren g=k/\k.uses p=true) (hb:b.den=c) (H:List SO):I.Ends base [] ⟨.tuple [k,.bool (.lit c)],[],[]⟩ (.tuple [k,.bool b]) H:=by
 refine ⟨?_,?_,by rw [ho]; trivial,trivial⟩
 . show (SV.tuple [k.ren _,.bool b]).Imp _
   rw [(hk _ (fun _=>true)).1]
   intro γ x hx
   subst hb
   cases b with
   | lit b=>exact hx
   | sym b=>exact hx
 . show (k.uses _ && (true && true))=true
   rw [(hk (fun n=>n) _).2]; rfl
theorem jve:q3a Tryz.prog 29 qs9:=by
 intro glob O w0 β H w base args vs hH hG ha
 refine qub fun k hv => ?_
 rcases qmc k with ⟨l,rfl⟩ | hno
 case inr=>rw [hno]; trivial
 refine qcb fun p v s hl=>q2a fun p' hp=>q2a fun v' hv' => ?_
 subst hl hp hv'
 rw [hv] at ha
 have h0:=fun g p=>(qef g p).1
 have h1:=fun g p=>(qef g p).2.1
 have h2:=fun g p=>(qef g p).2.2
 refine qxa (fun hn => ?_) fun a len c hs=>qfa fun hpl => ?_
 . subst hn
   have ha':SV.denL β [fdK p'.den v'.den .nilSlice]=some vs:=q2m ha (qek (qoa (qla rfl) (qoa (qla rfl) (qoa (.refl _) q9b))))
   have key:∀ {ds cs k},outO [] (fdN p'.den v'.den) ds=(cs,fdV k (.lit false))->(∀ q∈cs,q)->(∀ g p,k.ren g=k/\k.uses p=true)->q4a Tryz.prog H β w base 29 vs ⟨.tuple [k,.bool (.lit false)],[],[]⟩:=by
    intro ds cs k hr hc hk
    exact qqb q9r rfl 400 hH ⟨[],[],[fdK p'.den v'.den .nilSlice]⟩ ha' (q5c rfl) [] (by simp) (by simp) hr hc fun H2 _=>qt9 (b:=.lit false) (c:=false) rfl hk rfl H2
   refine q1c (fun hp => ?_) fun hp=>q1c (fun hp2 => ?_) fun hp2 => ?_
   . exact key (jtp p'.den v'.den) (all_cons (by simp [hp]) qaa) h1
   . exact key (jup p'.den v'.den) (all_cons (by simp [hp]) (all_cons (by simp [hp2]) qaa)) h2
   . exact key (jsp p'.den v'.den) (all_cons (by simp [hp]) (all_cons (by simp [hp2]) qaa)) h0
 . subst hs
   obtain ⟨x,ys,hx,hys,rfl⟩:=denL_cons.1 ha
   simp only [SV.den,SV.denL,Option.map_eq_some_iff,Option.bind_eq_some_iff] at hx
   obtain ⟨us,⟨u1,hu1,us1,⟨u2,hu2,us2,⟨u3,hu3,us3,hus3,rfl⟩,rfl⟩,rfl⟩,rfl⟩:=hx
   have hu3':(SV.slice a len c).den β=some u3:=by simpa only [SV.den,Option.bind_eq_some_iff] using hu3
   obtain ⟨m,hlm,hd,_,_⟩:=q8a hu3'
   have ha':SV.denL β [fdK p'.den v'.den (.slice ⟨a.nm,.sym a.off.den⟩ (.sym len.den) (.sym m))]=some (.agg (u1::u2::u3::us3).toArray::ys):=by
    refine denL_cons.2 ⟨_,_,?_,hys,rfl⟩
    show (SV.agg _).den β=_
    rw [SV.den]
    simp only [Option.map_eq_some_iff]
    exact ⟨_,denL_cons.2 ⟨u1,_,hu1,denL_cons.2 ⟨u2,_,hu2,denL_cons.2 ⟨u3,_,hd,hus3,rfl⟩,rfl⟩,rfl⟩,rfl⟩
   have key:∀ {ds cs k b c},outO [] (fdT p'.den v'.den a.off.den len.den m) ds=(cs,fdV k b)->(∀ q∈cs,q)->(∀ g p,k.ren g=k/\k.uses p=true)->b.den=c->q4a Tryz.prog H β w base 29 (.agg (u1::u2::u3::us3).toArray::ys) ⟨.tuple [k,.bool (.lit c)],[],[]⟩:=by
    intro ds cs k b c hr hc hk hb
    refine qqb q9r rfl 400 hH ⟨[a.nm],[.gone],[fdK p'.den v'.den (.slice ⟨0,.sym a.off.den⟩ (.sym len.den) (.sym m))]⟩ ha' (Ifc.fits (by simp) rfl ⟨⟨?_,trivial⟩,trivial⟩) [] (by simp) (by simp) hr hc fun H2 _=>qt9 rfl hk hb H2
    have:=qxe (f:=(Ifc.big ⟨[a.nm],[.gone],[fdK p'.den v'.den (.slice ⟨0,.sym a.off.den⟩ (.sym len.den) (.sym m))]⟩)) hpl
    rw [qga] at this
    exact this
   have f4:∀ {q:Prop},q->∀ p∈[q,q,q,q],p:=fun h=>all_cons h (all_cons h (all_cons h (all_cons h qaa)))
   refine q1c (fun hp => ?_) fun hp=>q1c (fun hp2 => ?_) fun hp2 => ?_
   . refine qxb (fun hl=>qzl (fun hg=>qgk (fun hle => ?_) fun hle => ?_) fun hg => ?_) fun hl => ?_
     . exact key (jte p'.den v'.den a.off.den len.den m) (all_cons (by simp [hp]) (all_cons (by simp [hl]) (all_cons (decide_eq_true hg) qaa))) h1 (decide_eq_true hle)
     . exact key (jte p'.den v'.den a.off.den len.den m) (all_cons (by simp [hp]) (all_cons (by simp [hl]) (all_cons (decide_eq_true hg) qaa))) h1 (decide_eq_false hle)
     . exact key (jpp p'.den v'.den a.off.den len.den m) (all_cons (by simp [hp]) (all_cons (by simp [hl]) (f4 (decide_eq_false hg)))) h1 rfl
     . exact key (jop p'.den v'.den a.off.den len.den m) (all_cons (by simp [hp]) (f4 (by rw [beq_eq_false_iff_ne]; omega))) h1 rfl
   . refine qxb (fun hl=>qzl (fun hg=>qgk (fun hle => ?_) fun hle => ?_) fun hg => ?_) fun hl => ?_
     . exact key (jue p'.den v'.den a.off.den len.den m) (all_cons (by simp [hp]) (all_cons (by simp [hp2]) (all_cons (by simp [hl]) (all_cons (decide_eq_true hg) qaa)))) h2 (decide_eq_true hle)
     . exact key (jue p'.den v'.den a.off.den len.den m) (all_cons (by simp [hp]) (all_cons (by simp [hp2]) (all_cons (by simp [hl]) (all_cons (decide_eq_true hg) qaa)))) h2 (decide_eq_false hle)
     . exact key (jrp p'.den v'.den a.off.den len.den m) (all_cons (by simp [hp]) (all_cons (by simp [hp2]) (all_cons (by simp [hl]) (f4 (decide_eq_false hg))))) h2 rfl
     . exact key (jqp p'.den v'.den a.off.den len.den m) (all_cons (by simp [hp]) (all_cons (by simp [hp2]) (f4 (by rw [beq_eq_false_iff_ne]; omega)))) h2 rfl
   . exact key (jnp p'.den v'.den a.off.den len.den m) (all_cons (by simp [hp]) (all_cons (by simp [hp2]) qaa)) h0 rfl
end
noncomputable section
open Go.Sim
open Go.Proofs
variable {α:Type}
set_option maxRecDepth 100000
def num4 (u:Int):List (BitVec 8):=[BitVec.ofInt 8 (u.fdiv (2 ^ 24)),BitVec.ofInt 8 (u.fdiv (2 ^ 16)),BitVec.ofInt 8 (u.fdiv (2 ^ 8)),BitVec.ofInt 8 u]
def numS:Summ:=fun args _ base=>qgd args fun v=>i64O v fun x=>.ok ⟨.slice ⟨base,.lit 0⟩ (.lit 4) (.lit 4),[],[.own (.lst (bx (num4 x.den))) true 5]⟩
theorem qu9 {f:FuncId} (hrun:∀ u:Int,outO [0] (qca cfg0 400 f [.int .i64 (.sym u)] []) []=([],some (.slice ⟨0,.lit 0⟩ (.lit 4) (.lit 4),[some (.own (.lst (bx (num4 u))) true 5)]))):q3a Tryz.prog f numS:=by
 intro glob O w0 β H w base args vs hH hG ha
 refine qub fun v hv=>q2a fun x hx => ?_
 subst hx
 rw [hv] at ha
 exact qqb q4c rfl 400 hH ⟨[],[],[.int .i64 (.sym x.den)]⟩ (q2m ha (qla rfl)) (q5c rfl) [0] (by simp) (by simp) (hrun x.den) qaa fun H2 hH2=>⟨SV.imp_of_eq rfl,rfl,trivial,⟨qbc (List.cons.inj hH2).1 (qfd _ _) (by show SO.own (.lst (SV.renL _ (bx _))) _ _=_; rw [q9d]),trivial⟩⟩
theorem qas:q3a Tryz.prog 32 numS:=qu9 fun u=>by kernel_rfl
theorem jmu:q3a Tryz.prog 65 numS:=qu9 fun u=>by kernel_rfl
def Sl.valN (s:Sl) (nm n:Nat):SV:=.slice ⟨nm,.sym s.o⟩ (.lit n) (boolC s.b (.rest nm s.k) (.sym s.k))
def qoi (H:List SO) (v:SV) (f:Sl->Nat->Nat->R α):R α:=v.asSlice (.stuck 770) fun a l c=>l.asLit (.stuck 788) fun n=>optC (capL a.nm c) (.stuck 771) fun bk=>boolC (qeb a.nm) (q4b (nth H a.nm) fun X N=>f ⟨X,N,a.off.den,n,bk.1,bk.2⟩ a.nm n) (.stuck 772)
theorem q6e {H:List SO} {v:SV} {f:Sl->Nat->Nat->R α} {φ:α->Prop} (h:∀ t nm n,qeb nm=true->(∀ g,∃ e',H[nm]? = some e'/\qrb g t.row e')->v.Imp (t.valN nm n)->t.n=n->(f t nm n).Sat φ):(qoi H v f).Sat φ:=by
 unfold qoi
 rcases asSlice_cases v with ⟨a,l,c,rfl⟩ | hv
 . cases l with
   | sym n=>trivial
   | byt o x=>trivial
   | lit n =>
     refine qja fun bk hbk=>qfa fun hn=>q5a fun X N ht=>h ⟨X,N,a.off.den,n,bk.1,bk.2⟩ a.nm n hn (fun g=>by rw [← qga]; exact ht g) (fun γ x hx => ?_) rfl
     rw [qra] at hx
     obtain ⟨A,C,hA,hC,hle,rfl⟩:=hx
     rw [show (Sl.valN ⟨X,N,a.off.den,n,bk.1,bk.2⟩ a.nm n)=.slice ⟨a.nm,.sym a.off.den⟩ (.lit n) (boolC bk.1 (.rest a.nm bk.2) (.sym bk.2)) from rfl,qra]
     exact ⟨A,C,hA,by rw [← q0u hbk]; exact hC,hle,rfl⟩
 . rw [hv]; trivial
theorem Sl.valN_ren (t:Sl) (f:Nat->Nat) (nm n:Nat):(t.valN nm n).ren f=t.valN (f nm) n:=by
 unfold Sl.valN
 cases t.b <;> rfl
theorem Sl.valN_uses (t:Sl) (p:Nat->Bool) (nm n:Nat) (h:p nm=true):(t.valN nm n).uses p=true:=by
 unfold Sl.valN
 cases t.b with
 | false=>show p nm && true=true; rw [h]; rfl
 | true=>show (p nm && p nm)=true; rw [h]; rfl
def joT (a b:Sl):Tree:=qca cfg0 4000 17 [.slice ⟨0,.lit 0⟩ (.lit 2) (.lit 2)] [.row (.lst [a.val 1,b.val 2]),a.row,b.row]
def q0e (nm n:Nat):SV:=.slice ⟨nm,.lit 0⟩ (.sym n) (.rest nm 0)
def jbm (a b:Sl):Nat->BitVec 8:=catF (fun i=>a.X (a.o+(0+i))) a.n b.F
theorem jhi (a b:Sl):outO [4] (joT a b) [false]=([a.o+a.n<=a.N,decide (a.n=0)=false,((a.n * 1<70368744177664/\a.n<70368744177664)/\1=1),(b.o+b.n<=b.N/\IsB (qea b.X)),(0+a.n<=a.n/\IsB (fun i=>qea a.X (a.o+i))),(((a.n+b.n) * 1<70368744177664/\a.n+b.n<70368744177664)/\1=1)],
 some (q0e 4 (a.n+b.n),[some (.own (.fn (qea (jbm a b)) (a.n+b.n)) false 5)])):=by kernel_rfl
def joN (a:Sl):Tree:=qca cfg0 4000 17 [.slice ⟨0,.lit 0⟩ (.lit 2) (.lit 2)] [.row (.lst [a.val 1,.nilSlice]),a.row]
def jo1 (a:Sl):Tree:=qca cfg0 4000 17 [.slice ⟨0,.lit 0⟩ (.lit 1) (.lit 1)] [.row (.lst [a.val 1]),a.row]
def qhd (a:Sl):Nat->BitVec 8:=fun i=>a.X (a.o+i)
def jcm (a:Sl):Nat->BitVec 8:=catF (fun i=>a.X (a.o+(0+i))) a.n (fun _=>0#8)
theorem jii (a:Sl):outO [3] (joN a) [false]=([a.o+a.n<=a.N,decide (a.n=0)=false,((a.n * 1<70368744177664/\a.n<70368744177664)/\1=1),(0+a.n<=a.n/\IsB (fun i=>qea a.X (a.o+i))),(((a.n+0) * 1<70368744177664/\a.n+0<70368744177664)/\1=1)],
 some (q0e 3 (a.n+0),[some (.own (.fn (qea (jcm a)) (a.n+0)) false 5)])):=by kernel_rfl
theorem jji (a:Sl):outO [2] (jo1 a) [false]=([a.o+a.n<=a.N,decide (a.n=0)=false,((a.n * 1<70368744177664/\a.n<70368744177664)/\1=1)],some (q0e 2 a.n,[some (.own (.fn (qea (qhd a)) a.n) false 5)])):=by kernel_rfl
theorem jwe (a:Sl):outO [] (jo1 a) [true]=([a.o+a.n<=a.N,decide (a.n=0)=true,1=1],some (.nilSlice,[])):=by kernel_rfl
theorem qke {a:SA} {l l':SN} {c:SC} (h:l.den=l'.den):(SV.slice a l c).Imp (.slice a l' c):=by
 intro γ x hx
 rw [qra] at hx ⊢
 rw [← h]; exact hx
def q8k (base n:Nat) (X:Nat->BitVec 8):SumRes:=⟨q0e base n,[],[.own (.fn (qea X) n) false 5]⟩
def qq3 (u:SV) (t f:R α):R α:=u.asSlice f fun _ l _=>l.asLit f fun _=>t
theorem qv9 {u:SV} {t f:R α} {φ:α->Prop} (h:t.Sat φ) (h':f.Sat φ):(qq3 u t f).Sat φ:=by
 unfold qq3
 rcases asSlice_cases u with ⟨a,l,c,rfl⟩ | hv
 . cases l with
   | lit n=>exact h
   | sym n=>exact h'
   | byt o x=>exact h'
 . rw [hv]; exact h'
def jo1S (H:List SO) (base pn:Nat) (l:List SV):R SumRes:=qgd l fun u=>qq3 u
 (qoi H u fun a an n=>boolC (qrc [pn,an]) (.need (okL a) (boolC (Nat.beq n 0) (.ok ⟨.nilSlice,[],[]⟩) (.ok ⟨.slice ⟨base,.lit 0⟩ (.lit n) (.rest base 0),[],[.own (.lst (bx (tabB a.F n))) false 5]⟩))) (.stuck 784))
 (qcc H u fun a an=>boolC (qrc [pn,an]) (.need (okL a) (isI (.sym a.n) 0 (.ok ⟨.nilSlice,[],[]⟩) (.ok (q8k base a.n a.F)))) (.stuck 784))
def jo2S (H:List SO) (base pn:Nat) (l:List SV):R SumRes:=qdd l fun u v=>qcc H u fun a an=>qob v (boolC (qrc [pn,an]) (.need (okL a/\a.n≠0) (.ok (q8k base a.n a.F))) (.stuck 784)) fun _ _ =>
 qcc H v fun b bn=>boolC (qrc [pn,an,bn]) (.need ((okL a/\a.n≠0)/\okL b) (.ok (q8k base (a.n+b.n) (two a b)))) (.stuck 784)
def qft:Summ:=fun args H base=>qgd args fun v=>optC (slNm v) (.stuck 785) fun pn=>optC (qic (nth H pn)) (.stuck 785) fun l=>boolC (qxj v pn 0 (lenN l)) (boolC (Nat.beq (lenN l) 1) (jo1S H base pn l) (jo2S H base pn l)) (.stuck 785)
theorem qgq {f g:Nat->SV} {n:Nat} (h:∀ i,i<n->(f i).Imp (g i)):(Cells.fn f n).Imp (.fn g n):=fun γ vs hv=>⟨hv.1,fun i x hx=>h i (by have:=(List.getElem?_eq_some_iff.1 hx).1; have:=hv.1; omega) γ x (hv.2 i x hx)⟩
theorem qpf {p:Nat->Bool} {g:Nat->Nat} {E:Option SO} {Y Z:Nat->BitVec 8} {n:Nat} {w:Bool} {el:TypeId} (hE:E=some (.own (.fn (qea Y) n) w el)) (h:∀ i,i<n->Y i=Z i):q5d p g E (.own (.fn (qea Z) n) w el) :=
 ⟨_,w,el,_,hE,fun _=>rfl,qgq fun i hi=>by show (SV.int .u8 (.b8 (Y i))).Imp (.int .u8 (.b8 (Z i))); rw [h i hi]; exact .refl _,rfl⟩
theorem qen {I:Ifc} {base j n n':Nat} {X X':Nat->BitVec 8} {H:List SO} (hj:I.known j=false) (ho:q6b I.ents 0=[]) (hE:H[j]? = some (.own (.fn (qea X) n) false 5)) (hn:n=n') (h:∀ i,i<n->X i=X' i):I.Ends base [j] (q8k base n' X') (q0e j n) H:=by
 subst hn
 have ho':I.out base [j] j=base:=by
  unfold Ifc.out
  rw [hj]
  show base+idxN j [j]=base
  rw [show idxN j [j]=boolC (Nat.beq j j) 0 _ from rfl,Nat.beq_refl]; rfl
 have hs:I.seen [j] j=true:=by
  unfold Ifc.seen
  rw [hj]
  exact (memN_iff (n:=j) (l:=[j])).2 List.mem_cons_self
 refine ⟨?_,?_,by rw [ho]; trivial,⟨qpf hE h,trivial⟩⟩
 . show (SV.slice ⟨I.out base [j] j,.lit 0⟩ (.sym n) (.rest (I.out base [j] j) 0)).Imp _
   rw [ho']; exact .refl _
 . show (I.seen [j] j && I.seen [j] j)=true
   rw [hs]; rfl
theorem qbs:q3a Tryz.prog 17 qft:=by
 intro glob O w0 β H w base args vs hH hG ha
 refine qub fun v hv=>qja fun pn hpn=>qja fun l hl=>qfa fun hp => ?_
 rw [hv,qyj hp] at ha
 rw [qga] at hl
 refine qna (fun h1 => ?_) fun h1 => ?_
 . rw [qpa h1] at ha
   refine qub fun u hu => ?_
   subst hu
   have one:∀ (a:Sl) (an:Nat),(∀ g,∃ e',H[an]? = some e'/\qrb g a.row e')->u.Imp (a.val an)->qrc [pn,an]=true->okL a ->
     (a.n=0->q4a Tryz.prog H β w base 17 vs ⟨.nilSlice,[],[]⟩)/\(a.n≠0->∀ r:SumRes,(∀ H2:List SO,H2[2]? = some (.own (.fn (qea (qhd a)) a.n) false 5)->Ifc.Ends ⟨[pn,an],[.row (.lst [a.val 1]),a.row],[.slice ⟨0,.lit 0⟩ (.lit 1) (.lit 1)]⟩ base [2] r (q0e 2 a.n) H2)->q4a Tryz.prog H β w base 17 vs r):=by
    intro a an hta hia hd hok
    have hfit:Ifc.Fits ⟨[pn,an],[.row (.lst [a.val 1]),a.row],[.slice ⟨0,.lit 0⟩ (.lit 1) (.lit 1)]⟩ H:=Ifc.fits (q2g hd) rfl ⟨⟨q7b hl (by show SV.ImpL _ [(a.val 1).ren _]; rw [Sl.val_ren]; exact qoa hia q9b),by show ((a.val 1).uses _ && true)=true; rw [Sl.val_uses _ _ _ rfl]; rfl⟩,⟨hta _,a.row_uses _⟩,trivial⟩
    obtain ⟨h2,h3⟩:=hok
    refine ⟨fun h0 => ?_,fun h0 r hr => ?_⟩
    . exact qqb q4c rfl 4000 hH ⟨[pn,an],[.row (.lst [a.val 1]),a.row],[.slice ⟨0,.lit 0⟩ (.lit 1) (.lit 1)]⟩ ha hfit [] (by simp) (by simp) (jwe a) (all_cons h2 (all_cons (decide_eq_true h0) (all_cons rfl qaa))) fun H2 _=>qkb rfl rfl rfl
    . exact qqb q4c rfl 4000 hH ⟨[pn,an],[.row (.lst [a.val 1]),a.row],[.slice ⟨0,.lit 0⟩ (.lit 1) (.lit 1)]⟩ ha hfit [2] (by simp) (by simp) (jji a) (all_cons h2 (all_cons (decide_eq_false h0) (all_cons ⟨⟨by omega,by omega⟩,rfl⟩ qaa))) fun H2 hH2=>hr H2 (List.cons.inj hH2).1
   refine qv9 (q6e fun a an n hna hta hia han=>qfa fun hd=>fun hok => ?_) (qab fun a an hna hta hia=>qfa fun hd=>fun hok => ?_)
   . obtain ⟨k0,k1⟩:=one a an hta (fun γ x hx=>qke (l:=.lit n) (l':=.sym a.n) han.symm γ x (hia γ x hx)) hd hok
     subst han
     refine qna (fun h0=>k0 (qpa h0)) fun h0=>k1 (qmb h0) _ fun H2 hE => ?_
     have h:=qen (I:=⟨[pn,an],[.row (.lst [a.val 1]),a.row],[.slice ⟨0,.lit 0⟩ (.lit 1) (.lit 1)]⟩) (base:=base) (X':=qhd a) rfl rfl hE rfl fun _ _=>rfl
     refine ⟨fun γ x hx=>qke (l:=.sym a.n) (l':=.lit a.n) rfl γ x (h.val γ x hx),h.uv,h.sets,⟨q0k hE (fun _=>rfl) ?_,trivial⟩⟩
     have:=qmw a.X a.o a.n
     exact this
   . obtain ⟨k0,k1⟩:=one a an hta hia hd hok
     refine q1c (fun h0=>k0 ?_) fun h0=>k1 ?_ _ fun H2 hE=>qen rfl rfl hE rfl fun _ _=>rfl
     . have h0:(a.n:Int)=0:=h0
       omega
     . have h0:(a.n:Int)≠0:=h0
       omega
 . refine qnb fun u v2 hu=>qab fun a an hna hta hia => ?_
   subst hu
   have ha:SV.denL β [.slice ⟨pn,.lit 0⟩ (.lit 2) (.lit 2)]=some vs:=ha
   refine qxa (fun hnil=>qfa fun hd=>fun ⟨⟨h2,h3⟩,h0⟩ => ?_) fun _ _ _ _=>qab fun b bn hnb htb hib=>qfa fun hd=>fun ⟨⟨⟨h2,h3⟩,h0⟩,⟨h4,h5⟩⟩ => ?_
   . subst hnil
     have hfit:Ifc.Fits ⟨[pn,an],[.row (.lst [a.val 1,.nilSlice]),a.row],[.slice ⟨0,.lit 0⟩ (.lit 2) (.lit 2)]⟩ H:=Ifc.fits (q2g hd) rfl ⟨⟨q7b hl (by show SV.ImpL _ [(a.val 1).ren _,.nilSlice]; rw [Sl.val_ren]; exact qoa hia (qoa (.refl _) q9b)),by show ((a.val 1).uses _ && (true && true))=true; rw [Sl.val_uses _ _ _ rfl]; rfl⟩,⟨hta _,a.row_uses _⟩,trivial⟩
     refine qqb q4c rfl 4000 hH ⟨[pn,an],[.row (.lst [a.val 1,.nilSlice]),a.row],[.slice ⟨0,.lit 0⟩ (.lit 2) (.lit 2)]⟩ ha hfit [3] (by simp) (by simp) (jii a) (all_cons h2 (all_cons (decide_eq_false h0) (all_cons ⟨⟨by omega,by omega⟩,rfl⟩ (all_cons ⟨by omega,qda fun i=>a.X (a.o+i)⟩ (all_cons ⟨⟨by omega,by omega⟩,rfl⟩ qaa))))) fun H2 hH2=>qen rfl rfl (List.cons.inj hH2).1 rfl fun i hi => ?_
     unfold jcm Sl.F
     rw [qni (by omega),Nat.zero_add]
   . have hfit:Ifc.Fits ⟨[pn,an,bn],[.row (.lst [a.val 1,b.val 2]),a.row,b.row],[.slice ⟨0,.lit 0⟩ (.lit 2) (.lit 2)]⟩ H:=Ifc.fits (q2g hd) rfl ⟨⟨q7b hl (by show SV.ImpL _ [(a.val 1).ren _,(b.val 2).ren _]; rw [Sl.val_ren,Sl.val_ren]; exact qoa hia (qoa hib q9b)),by show ((a.val 1).uses _ && ((b.val 2).uses _ && true))=true; rw [Sl.val_uses _ _ _ rfl,Sl.val_uses _ _ _ rfl]; rfl⟩,⟨hta _,a.row_uses _⟩,⟨htb _,b.row_uses _⟩,trivial⟩
     refine qqb q4c rfl 4000 hH ⟨[pn,an,bn],[.row (.lst [a.val 1,b.val 2]),a.row,b.row],[.slice ⟨0,.lit 0⟩ (.lit 2) (.lit 2)]⟩ ha hfit [4] (by simp) (by simp) (jhi a b) (all_cons h2 (all_cons (decide_eq_false h0) (all_cons ⟨⟨by omega,by omega⟩,rfl⟩ (all_cons ⟨h4,qda _⟩ (all_cons ⟨by omega,qda fun i=>a.X (a.o+i)⟩ (all_cons ⟨⟨by omega,by omega⟩,rfl⟩ qaa)))))) fun H2 hH2=>qen rfl rfl (List.cons.inj hH2).1 rfl fun i hi => ?_
     unfold jbm two
     refine qn9 (fun j hj => ?_) (fun _=>rfl) i
     unfold Sl.F
     rw [Nat.zero_add]
end
noncomputable section
open Go.Sim
open Go.Proofs
variable {α:Type}
set_option maxRecDepth 1000000
abbrev HashF:=(Nat->BitVec 8)->Nat->List (BitVec 8)
def jdm (F:HashF):Cfg:=cfgG q3b (qbb [(64,hmS F),(47,qvr),(65,numS)])
theorem jvp:CfgOK (jdm shaF):=qwb (allS hmOK (allS (qxs _) (allS (jmu _) (by simp))))
def Sl.pl (s:Sl) (m:Nat):Sl:=⟨s.X,s.N,s.o,s.n,false,m⟩
theorem Sl.val_den {t:Sl} {nm:Nat} {γ:Val} {x:Value} (h:(t.val nm).den γ=some x):∃ m,t.n<=m/\((t.pl m).val nm).den γ=some x:=by
 obtain ⟨m,hm,hd,_,_⟩:=q8a (show (SV.slice ⟨nm,.sym t.o⟩ (.sym t.n) (boolC t.b (.rest nm t.k) (.sym t.k))).den γ=some x from h)
 exact ⟨m,hm,hd⟩
def slL (L:List (BitVec 8)):Sl:=⟨qba L,lenN L,0,lenN L,false,lenN L⟩
def kdfM (lb:Sl) (n:Int):Nat->BitVec 8:=four (slL (num4 1)) lb (slL [0#8]) (slL (num4 (8 * n)))
def kdfB (F:HashF) (K:Nat->BitVec 8) (kn:Nat) (lb:Sl) (n:Int):List (BitVec 8):=macB F K kn (kdfM lb n) (4+lb.n+1+4)
def kdT (F:HashF) (k lb:Sl) (n:Int):Tree:=qca (jdm F) 4000 31 [k.val 4,lb.val 5,.nilSlice,.int .i64 (.lit n)] (qpc [k.row,lb.row])
def kdC (k lb:Sl) (n:Int):List Prop:=[decide ((k.n:Int) > 4096)=false,decide ((lb.n:Int) > 4096)=false,IsB (qea k.X),IsB (qea lb.X),((k.o+k.n<=k.N/\k.n<=4096)/\okL (slL (num4 1))/\okL lb/\okL (slL [0#8])/\okL (slL (num4 (8 * n)))),n.toNat<=32]
def kdE (F:HashF) (k lb:Sl) (n:Nat):SO:=.own (.lst (bx (tabB (qba (kdfB F k.F k.n lb n)) n))) false 5
def kdV (nm n:Nat):SV:=.tuple [.slice ⟨nm,.lit 0⟩ (.lit n) (.rest nm 0),.int .i64 (.lit 0)]
theorem jki (F:HashF) (k lb:Sl) (m m2:Nat):outO [22] (kdT F (k.pl m) (lb.pl m2) 16) [false,false]=(kdC k lb 16,some (kdV 22 16,[some (kdE F k lb 16)])):=by kernel_rfl
theorem jli (F:HashF) (k lb:Sl) (m m2:Nat):outO [22] (kdT F (k.pl m) (lb.pl m2) 32) [false,false]=(kdC k lb 32,some (kdV 22 32,[some (kdE F k lb 32)])):=by kernel_rfl
def qw9:Cfg:=qle (qbb [(47,qvr)])
theorem qpy:CfgOK qw9:=q8b (all1 qxs)
def cpT (X:Nat->BitVec 8) (p q:Int) (o n k m:Nat):Tree:=qca qw9 400 28 [fdK p q (.slice ⟨0,.sym o⟩ (.sym k) (.sym m))] [rowF X n]
theorem jnu (X:Nat->BitVec 8) (p q:Int) (o n k m:Nat):outO [3] (cpT X p q o n k m) [false]=([IsB (qea X),decide (k=0)=false,(o+k<=n/\q7e k 1)],some (fdK p q (.slice ⟨3,.lit 0⟩ (.sym k) (.rest 3 0)),[some (.own (.fn (qea (fun i=>X (o+i))) k) false 5)])):=by kernel_rfl
theorem jwp (X:Nat->BitVec 8) (p q:Int) (o n k m:Nat):outO [3] (cpT X p q o n k m) [true]=([IsB (qea X),decide (k=0)=true,o+k<=n],some (fdK p q (.slice ⟨3,.lit 0⟩ (.lit 0) (.lit 0)),[some (.own (.lst []) true 5)])):=by kernel_rfl
theorem jou (p q:Int):outO [] (qca qw9 400 28 [fdK p q .nilSlice] []) []=([],some (fdK p q .nilSlice,[])):=by kernel_rfl
end
noncomputable section
open Go.Sim
open Go.Proofs
variable {α:Type}
set_option maxRecDepth 100000
def kdR (F:HashF) (base:Nat) (k lb:Sl) (n:Nat):SumRes:=⟨kdV base n,[],[kdE F k lb n]⟩
def kdfS (F:HashF):Summ:=fun args H base=>qop args fun kv lv cv nv=>qbf H (qcc H kv fun k kn=>qcc H lv fun lb ln=>boolC (qrc [kn,ln]) (qob cv (.need ((k.o+k.n<=k.N/\k.n<=4096)/\lb.o+lb.n<=lb.N/\lb.n<=4096)
 (optC (litI nv) (.stuck 786) fun n=>boolC (Nat.beq n 16) (.ok (kdR F base k lb 16)) (boolC (Nat.beq n 32) (.ok (kdR F base k lb 32)) (.stuck 786)))) fun _ _=>.stuck 786) (.stuck 786))
theorem q9k {L:List (BitVec 8)} {n:Nat} (h:L.length=n) (hn:n<=64):okL (slL L):=by
 unfold slL okL
 rw [qva,h]
 exact ⟨by show 0+n<=n; omega,by show n<=_; omega⟩
theorem jxp {k lb:Sl} {n:Int} (h1:k.o+k.n<=k.N) (h2:k.n<=4096) (h3:lb.o+lb.n<=lb.N) (h4:lb.n<=4096) (hn:n.toNat<=32):∀ p∈kdC k lb n,p :=
 all_cons (decide_eq_false (by omega)) (all_cons (decide_eq_false (by omega)) (all_cons (qda _) (all_cons (qda _) (all_cons ⟨⟨h1,h2⟩,q9k (n:=4) rfl (by omega),⟨h3,by omega⟩,q9k (n:=1) rfl (by omega),q9k (n:=4) rfl (by omega)⟩ (all_cons hn qaa)))))
theorem endsK {I:Ifc} {base j n:Nat} {L:List (BitVec 8)} {E:SO} {H:List SO} (hj:I.known j=false) (ho:q6b I.ents 0=[]) (hE:H[j]? = some E) (he:E=.own (.lst (bx L)) false 5):I.Ends base [j] ⟨kdV base n,[],[E]⟩ (kdV j n) H:=by
 have ho':I.out base [j] j=base:=by
  unfold Ifc.out
  rw [hj]
  show base+idxN j [j]=base
  rw [show idxN j [j]=boolC (Nat.beq j j) 0 _ from rfl,Nat.beq_refl]; rfl
 have hs:I.seen [j] j=true:=by
  unfold Ifc.seen
  rw [hj]
  exact (memN_iff (n:=j) (l:=[j])).2 List.mem_cons_self
 subst he
 refine ⟨?_,?_,by rw [ho]; trivial,⟨qbc hE (qfd _ _) (by show SO.own (.lst (SV.renL _ (bx _))) _ _=_; rw [q9d]),trivial⟩⟩
 . show (SV.tuple [.slice ⟨I.out base [j] j,.lit 0⟩ (.lit n) (.rest (I.out base [j] j) 0),_]).Imp _
   rw [ho']; exact .refl _
 . show ((I.seen [j] j && I.seen [j] j) && _)=true
   rw [hs]; rfl
theorem kdfOK:SumAt Tryz.prog q3b 31 (kdfS shaF):=by
 intro O w0 β H w base args vs hH hG ha
 refine q1h fun kv lv cv nv hv=>qkc fun hT=>qab fun k kn hn ht hk=>qab fun lb ln hn2 ht2 hk2=>qfa fun hd=>qxa (fun hc=>fun ⟨⟨h1,h2⟩,h3,h4⟩=>qja fun n hln => ?_) fun _ _ _ _=>trivial
 rw [hv,hc,qjf hln] at ha
 obtain ⟨x,ys,hx,hys,rfl⟩:=denL_cons.1 ha
 obtain ⟨y,zs,hy,hzs,rfl⟩:=denL_cons.1 hys
 obtain ⟨m,_,hx'⟩:=Sl.val_den (hk _ _ hx)
 obtain ⟨m2,_,hy'⟩:=Sl.val_den (hk2 _ _ hy)
 have key:∀ (n:Nat),n<=32->SV.denL β [.nilSlice,.int .i64 (.lit n)]=some zs->outO [22] (kdT shaF (k.pl m) (lb.pl m2) n) [false,false]=(kdC k lb n,some (kdV 22 n,[some (kdE shaF k lb n)]))->q4a Tryz.prog H β w base 31 (x::y::zs) (kdR shaF base k lb n):=by
  intro n hn32 hz hrun
  refine qka jvp 4000 hH (qqa [kn,ln] [k.row,lb.row] [(k.pl m).val 4,(lb.pl m2).val 5,.nilSlice,.int .i64 (.lit n)]) (qma hG) ?_ (Ifc.fits (nd4 hd (by simp only [List.mem_cons,List.not_mem_nil,or_false]; rintro x (rfl | rfl) <;> assumption)) ?_ (qdb hT ⟨⟨ht _,k.row_uses _⟩,⟨ht2 _,lb.row_uses _⟩,trivial⟩)) [22] (by simp [qqa]) (by simp) hrun (jxp h1 h2 h3 h4 (by omega)) fun H2 hH2=>endsK rfl rfl (List.cons.inj hH2).1 rfl
  . show SV.denL β [((k.pl m).val 4).ren _,((lb.pl m2).val 5).ren _,.nilSlice,.int .i64 (.lit n)]=_
    rw [Sl.val_ren,Sl.val_ren]
    exact denL_cons.2 ⟨_,_,hx',denL_cons.2 ⟨_,_,hy',hz,rfl⟩,rfl⟩
  . show (((k.pl m).val 4).uses _ && (((lb.pl m2).val 5).uses _ && (true && (true && true))))=true
    rw [Sl.val_uses _ _ _ rfl,Sl.val_uses _ _ _ rfl]; rfl
 refine qna (fun h => ?_) fun _=>qfa fun h => ?_
 . rw [qpa h] at hzs
   exact key 16 (by omega) hzs (jki shaF k lb m m2)
 . rw [qpa h] at hzs
   exact key 32 (by omega) hzs (jli shaF k lb m m2)
def copyR (base:Nat) (p q:SI) (l:SN) (X:Nat->BitVec 8):SumRes:=⟨.agg [.int .i64 p,.int .i64 q,.slice ⟨base,.lit 0⟩ l (.rest base 0)],[],[.own (.fn (qea X) l.den) false 5]⟩
def jem:Summ:=fun args H base=>qgd args fun v=>v.asAgg (.stuck 787) fun l=>qoc l fun p q s=>i64O p fun p=>i64O q fun q=>qob s (.ok ⟨.agg [.int .i64 p,.int .i64 q,.nilSlice],[],[]⟩) fun a l=>q4b (nth H a.nm) fun X n=>.need (a.off.den+l.den<=n/\l.den<=1099511627776)
 (isI l.toI 0 (.ok ⟨.agg [.int .i64 p,.int .i64 q,.slice ⟨base,.lit 0⟩ (.lit 0) (.lit 0)],[],[.own (.lst []) true 5]⟩) (.ok (copyR base p q l fun i=>X (a.off.den+i))))
theorem toI_den (l:SN):l.toI.den=(l.den:Int):=by cases l <;> rfl
theorem jpu:q3a Tryz.prog 28 jem:=by
 intro glob O w0 β H w base args vs hH hG ha
 refine qub fun k hv => ?_
 rcases qmc k with ⟨l,rfl⟩ | hno
 case inr=>rw [hno]; trivial
 refine qcb fun p v s hl=>q2a fun p' hp=>q2a fun v' hv' => ?_
 subst hl hp hv'
 rw [hv] at ha
 refine qxa (fun hn => ?_) fun a len c hs=>q5a fun X N ht=>fun ⟨h1,h2⟩ => ?_
 . subst hn
   have ha':SV.denL β [fdK p'.den v'.den .nilSlice]=some vs:=q2m ha (qek (qoa (qla rfl) (qoa (qla rfl) (qoa (.refl _) q9b))))
   exact qqb qpy rfl 400 hH ⟨[],[],[fdK p'.den v'.den .nilSlice]⟩ ha' (q5c rfl) [] (by simp) (by simp) (jou p'.den v'.den) qaa fun H2 _=>⟨qek (qoa (qla rfl) (qoa (qla rfl) (qoa (.refl _) q9b))),rfl,trivial,trivial⟩
 . subst hs
   rw [qga] at ht
   obtain ⟨x,ys,hx,hys,rfl⟩:=denL_cons.1 ha
   simp only [SV.den,SV.denL,Option.map_eq_some_iff,Option.bind_eq_some_iff] at hx
   obtain ⟨us,⟨u1,hu1,us1,⟨u2,hu2,us2,⟨u3,hu3,us3,hus3,rfl⟩,rfl⟩,rfl⟩,rfl⟩:=hx
   have hu3':(SV.slice a len c).den β=some u3:=by simpa only [SV.den,Option.bind_eq_some_iff] using hu3
   obtain ⟨m,hlm,hd,_,_⟩:=q8a hu3'
   have ha':SV.denL β [fdK p'.den v'.den (.slice ⟨a.nm,.sym a.off.den⟩ (.sym len.den) (.sym m))]=some (.agg (u1::u2::u3::us3).toArray::ys):=by
    refine denL_cons.2 ⟨_,_,?_,hys,rfl⟩
    show (SV.agg _).den β=_
    rw [SV.den]
    simp only [Option.map_eq_some_iff]
    exact ⟨_,denL_cons.2 ⟨u1,_,hu1,denL_cons.2 ⟨u2,_,hu2,denL_cons.2 ⟨u3,_,hd,hus3,rfl⟩,rfl⟩,rfl⟩,rfl⟩
   have hfit:Ifc.Fits ⟨[a.nm],[rowF X N],[fdK p'.den v'.den (.slice ⟨0,.sym a.off.den⟩ (.sym len.den) (.sym m))]⟩ H:=Ifc.fits (by simp) rfl ⟨⟨ht _,qya _ _ _⟩,trivial⟩
   refine q1c (fun h0 => ?_) fun h0 => ?_
   . rw [toI_den] at h0
     exact qqb qpy rfl 400 hH ⟨[a.nm],[rowF X N],[fdK p'.den v'.den (.slice ⟨0,.sym a.off.den⟩ (.sym len.den) (.sym m))]⟩ ha' hfit [3] (by simp) (by simp) (jwp X p'.den v'.den a.off.den N len.den m) (all_cons (qda X) (all_cons (decide_eq_true (by omega)) (all_cons h1 qaa))) fun H2 hH2=>⟨qek (qoa (qla rfl) (qoa (qla rfl) (qoa (.refl _) q9b))),rfl,trivial,⟨qbc (List.cons.inj hH2).1 rfl rfl,trivial⟩⟩
   . rw [toI_den] at h0
     exact qqb qpy rfl 400 hH ⟨[a.nm],[rowF X N],[fdK p'.den v'.den (.slice ⟨0,.sym a.off.den⟩ (.sym len.den) (.sym m))]⟩ ha' hfit [3] (by simp) (by simp) (jnu X p'.den v'.den a.off.den N len.den m) (all_cons (qda X) (all_cons (decide_eq_false (by omega)) (all_cons ⟨h1,⟨by omega,by omega⟩⟩ qaa))) fun H2 hH2=>⟨qek (qoa (qla rfl) (qoa (qla rfl) (qoa (qke rfl) q9b))),rfl,trivial,⟨qpf (List.cons.inj hH2).1 fun _ _=>rfl,trivial⟩⟩
end
noncomputable section
open Go.Sim
open Go.Proofs
variable {α:Type}
set_option maxRecDepth 1000000
def jfm (F:HashF):Cfg:=cfgG q3b (qbb [(31,kdfS F),(32,numS),(17,qft)])
theorem jyp:CfgOK (jfm shaF):=qwb (allS kdfOK (allS (qas _) (allS (qbs _) (by simp))))
def lblS (u:Int) (x:BitVec 8):Sl:=⟨two (slL (num4 u)) (slL [x]),4+1,0,4+1,true,0⟩
def keyE (p v:Int) (s:SV):SO:=.row (.lst [.int .i64 (.sym p),.int .i64 (.sym v),s])
def deT (F:HashF) (k:Sl) (n:Nat) (p v u:Int) (x:BitVec 8):Tree:=qca (jfm F) 4000 30 [.int .u8 (.b8 x),.ptr ⟨4,.lit 0⟩,.ptr ⟨5,.lit 0⟩] (qpc [keyE p v (k.valN 6 n),.row (.lst [.int .i64 (.sym u)]),k.row])
def Sl.len (s:Sl) (n:Nat):Sl:=⟨s.X,s.N,s.o,n,s.b,s.k⟩
def deC (k:Sl) (n:Nat) (u:Int) (x:BitVec 8):List Prop:=[((okL (slL (num4 u))/\(slL (num4 u)).n≠0)/\okL (slL [x])),IsB (qea k.X),IsB (qea (two (slL (num4 u)) (slL [x]))),((k.o+n<=k.N/\n<=4096)/\0+(4+1)<=4+1/\4+1<=4096)]
def deV (nm n:Nat):SV:=.slice ⟨nm,.lit 0⟩ (.lit n) (.rest nm 0)
theorem jmi (F:HashF) (k:Sl) (p v u:Int) (x:BitVec 8):outO [11] (deT F k 16 p v u x) []=(deC k 16 u x,some (deV 11 16,[some (kdE F (k.len 16) (lblS u x) 16)])):=by
 cases k with
 | mk X N o n b kk=>cases b <;> kernel_rfl
theorem jni (F:HashF) (k:Sl) (p v u:Int) (x:BitVec 8):outO [11] (deT F k 32 p v u x) []=(deC k 32 u x,some (deV 11 32,[some (kdE F (k.len 32) (lblS u x) 32)])):=by
 cases k with
 | mk X N o n b kk=>cases b <;> kernel_rfl
end
noncomputable section
open Go.Sim
open Go.Proofs
variable {α:Type}
set_option maxRecDepth 100000
def deR (F:HashF) (base:Nat) (k:Sl) (n:Nat) (u:Int) (x:BitVec 8):SumRes:=⟨deV base n,[],[kdE F (k.len n) (lblS u x) n]⟩
def keyL (H:List SO) (kn:Nat) (f:Int->Int->Sl->Nat->Nat->R α):R α:=optC (qic (nth H kn)) (.stuck 789) fun l=>qoc l fun p v s=>i64O p fun p=>i64O v fun v=>qoi H s fun k nm n=>f p.den v.den k nm n
def intL (H:List SO) (un:Nat) (f:Int->R α):R α:=optC (qic (nth H un)) (.stuck 789) fun l=>qgd l fun u=>i64O u fun u=>f u.den
def deS (F:HashF):Summ:=fun args H base=>qoc args fun xv kv uv=>optC (unb1 xv) (.stuck 790) fun x=>optC (qeg kv) (.stuck 790) fun kn=>optC (qeg uv) (.stuck 790) fun un=>qbf H (boolC (qeb kn) (boolC (qeb un)
 (keyL H kn fun _ _ k nm n=>intL H un fun u=>boolC (qrc [kn,un,nm]) (.need (k.o+n<=k.N) (boolC (Nat.beq n 16) (.ok (deR F base k 16 u x)) (boolC (Nat.beq n 32) (.ok (deR F base k 32 u x)) (.stuck 790)))) (.stuck 790)) (.stuck 790)) (.stuck 790))
theorem joi {H:List SO} {kn:Nat} {f:Int->Int->Sl->Nat->Nat->R α} {φ:α->Prop} (h:∀ p v k nm n,qeb nm=true->(∀ g,∃ e',H[nm]? = some e'/\qrb g k.row e')->k.n=n->(∀ g:Nat->Nat,∀ j,g j=nm->∃ e',H[kn]? = some e'/\qrb g (keyE p v (k.valN j n)) e')->(f p v k nm n).Sat φ):(keyL H kn f).Sat φ:=by
 refine qja fun l hl=>qcb fun p v s hls=>q2a fun p' hp=>q2a fun v' hv=>q6e fun k nm n hn ht hi hkn=>h p'.den v'.den k nm n hn ht hkn fun g j hj => ?_
 subst hls hp hv
 rw [qga] at hl
 refine q7b hl ?_
 show SV.ImpL _ [.int .i64 (.sym p'.den),.int .i64 (.sym v'.den),(k.valN j n).ren g]
 rw [Sl.valN_ren,hj]
 exact qoa (qla rfl) (qoa (qla rfl) (qoa hi q9b))
theorem jpi {H:List SO} {un:Nat} {f:Int->R α} {φ:α->Prop} (h:∀ u,(∀ g:Nat->Nat,∃ e',H[un]? = some e'/\qrb g (.row (.lst [.int .i64 (.sym u)])) e')->(f u).Sat φ):(intL H un f).Sat φ:=by
 refine qja fun l hl=>qub fun u hlu=>q2a fun u' hu=>h u'.den fun g => ?_
 subst hlu hu
 rw [qga] at hl
 exact q7b hl (qoa (qla rfl) q9b)
theorem qx9 {I:Ifc} {base j n:Nat} {L:List (BitVec 8)} {E:SO} {H:List SO} (hj:I.known j=false) (ho:q6b I.ents 0=[]) (hE:H[j]? = some E) (he:E=.own (.lst (bx L)) false 5):I.Ends base [j] ⟨deV base n,[],[E]⟩ (deV j n) H:=by
 have ho':I.out base [j] j=base:=by
  unfold Ifc.out
  rw [hj]
  show base+idxN j [j]=base
  rw [show idxN j [j]=boolC (Nat.beq j j) 0 _ from rfl,Nat.beq_refl]; rfl
 have hs:I.seen [j] j=true:=by
  unfold Ifc.seen
  rw [hj]
  exact (memN_iff (n:=j) (l:=[j])).2 List.mem_cons_self
 subst he
 refine ⟨?_,?_,by rw [ho]; trivial,⟨qbc hE (qfd _ _) (by show SO.own (.lst (SV.renL _ (bx _))) _ _=_; rw [q9d]),trivial⟩⟩
 . show (SV.slice ⟨I.out base [j] j,.lit 0⟩ (.lit n) (.rest (I.out base [j] j) 0)).Imp _
   rw [ho']; exact .refl _
 . show (I.seen [j] j && I.seen [j] j)=true
   rw [hs]; rfl
theorem deOK:SumAt Tryz.prog q3b 30 (deS shaF):=by
 intro O w0 β H w base args vs hH hG ha
 refine qcb fun xv kv uv hv=>qja fun x hx=>qja fun kn hk=>qja fun un hu=>qkc fun hT=>qfa fun hn1=>qfa fun hn2=>joi fun p v k nm n hn3 ht hkn hE=>jpi fun u hU=>qfa fun hd=>fun hle => ?_
 rw [hv,q3c hk,q3c hu] at ha
 have ha':SV.denL β [.int .u8 (.b8 x),.ptr ⟨kn,.lit 0⟩,.ptr ⟨un,.lit 0⟩]=some vs:=qoa (qtg hx) (SV.ImpL.refl _) _ _ ha
 have key:∀ n,n<=4096->k.o+n<=k.N->(∀ g:Nat->Nat,∀ j,g j=nm->∃ e',H[kn]? = some e'/\qrb g (keyE p v (k.valN j n)) e')->outO [11] (deT shaF k n p v u x) []=(deC k n u x,some (deV 11 n,[some (kdE shaF (k.len n) (lblS u x) n)]))->q4a Tryz.prog H β w base 30 vs (deR shaF base k n u x):=by
  intro n h4 hle hE hrun
  refine qka jyp 4000 hH (qqa [kn,un,nm] [keyE p v (k.valN 6 n),.row (.lst [.int .i64 (.sym u)]),k.row] [.int .u8 (.b8 x),.ptr ⟨4,.lit 0⟩,.ptr ⟨5,.lit 0⟩]) (qma hG) ha' (Ifc.fits (nd4 hd (by simp only [List.mem_cons,List.not_mem_nil,or_false]; rintro y (rfl | rfl | rfl) <;> assumption)) rfl (qdb hT ⟨⟨hE _ 6 rfl,?_⟩,⟨hU _,rfl⟩,⟨ht _,k.row_uses _⟩,trivial⟩)) [11] (by simp [qqa]) (by simp) hrun ?_ fun H2 hH2=>qx9 rfl rfl (List.cons.inj hH2).1 rfl
  . show (true && (true && ((k.valN 6 n).uses _ && true)))=true
    rw [Sl.valN_uses _ _ _ _ rfl]; rfl
  . exact all_cons ⟨⟨q9k (n:=4) rfl (by omega),by show (4:Nat)≠0; omega⟩,q9k (n:=1) rfl (by omega)⟩ (all_cons (qda _) (all_cons (qda _) (all_cons ⟨⟨hle,h4⟩,by omega,by omega⟩ qaa)))
 refine qna (fun h => ?_) fun _=>qfa fun h => ?_
 . have h:=qpa h
   subst h
   exact key 16 (by omega) hle hE (jmi shaF k p v u x)
 . have h:=qpa h
   subst h
   exact key 32 (by omega) hle hE (jni shaF k p v u x)
end
end Go.Proofs.YtcpafideogckmaaGreatDoor.Aes
