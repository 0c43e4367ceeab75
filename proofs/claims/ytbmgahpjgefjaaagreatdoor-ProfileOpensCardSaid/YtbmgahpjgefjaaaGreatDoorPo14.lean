/-
  Texts behind one another: the symbolic simulator and what it is told of the program.
-/
import Derived.Test.YtbmgahpjgefjaaaGreatDoorOzHas7
import Derived.Test.YtbmgahpjgefjaaaGreatDoorPo12
import Derived.Test.YtbmgahpjgefjaaaGreatDoorPo6
import Derived.Test.YtbmgahpjgefjaaaGreatDoorPo7
namespace Go.Proofs.YtbmgahpjgefjaaaGreatDoor.Aes
open Go.Sim
open Go.Proofs
variable {α:Type}
set_option maxRecDepth 1000000
theorem qlz (p:Nat→Bool) (g:Nat→Nat):∀ {l:List SV} {xs:List (BitVec 8)},unb l=some xs→SV.usesL p l=true∧SV.renL g l=l
  | [],_,_=>⟨rfl,rfl⟩
  | v::l,xs,h=>by
    obtain ⟨x,hx,h⟩:=q8e (show (optC (unb1 v) none fun x=>optC (unb l) none fun xs=>some (x::xs))=some xs from h)
    obtain ⟨ys,hy,h⟩:=q8e h
    obtain ⟨n,rfl,_⟩:=qa2 hx
    obtain ⟨h1,h2⟩:=qlz p g hy
    exact ⟨by show (true && SV.usesL p l)=true; rw [h1]; rfl,by show _::SV.renL g l=_; rw [h2]; rfl⟩
theorem qnl {p:Nat→Bool} {g:Nat→Nat} {E:Option SO} {S:HSt} (hE:E=some (macE S)):q4d p g E (macE S) :=
  qbc hE (q2d _ _) (by show SO.own (.lst (SV.renL _ (q1b _))) _ _=_; rw [qff]; rfl)
theorem qvw {p:Nat→Bool} {g:Nat→Nat} {E:Option SO} {l:List SV} {S:HSt} (hE:E=some (macL l S)) (hl:unb l=some (tabB S.K 128)):q4d p g E (macE S):=by
  obtain ⟨h1,h2⟩:=qlz p g hl
  refine quk hE ?_ ?_
  · show SV.usesL p (app l (app (qec S) [.bool (.lit true)]))=true
    rw [qze,qze,h1,qah]; rfl
  · show SV.ImpL (SV.renL g (app l (app (qec S) [.bool (.lit true)]))) (q1b S)
    rw [qnf,qnf,h2,qfi]
    unfold q1b
    exact qsi (q8g hl) (SV.ImpL.refl _)
noncomputable def newR (base:Nat) (k:Nat→BitVec 8):SumRes:=⟨okV base,[],[macE (newH k)]⟩
noncomputable def newS:Summ:=fun args H base=>qfd args fun v=>qdf H (qob v (.ok (newR base fun _=>0#8)) fun a l=>boolC (qib a.nm) (q3b (nth H a.nm) fun X N=>.need (a.off.den+l.den≤N∧l.den≤4096) (.ok (newR base (keyP shaF (fun i=>X (a.off.den+i)) l.den)))) (.stuck 740))
theorem qww {k k':Nat→BitVec 8} (h:∀ i,i<64→k i=k' i):macE (newH k)=macE (newH k'):=by
  have hK:∀ i,i<128→newK k i=newK k' i:=fun i hi=>by
    unfold newK
    by_cases c:i<64
    · rw [if_pos c,if_pos c,h i c]
    · rw [if_neg c,if_neg c,h _ (by omega)]
  have hw:q6a (newK k) 64=q6a (newK k') 64:=q0b fun i hi=>hK _ (by omega)
  unfold newH
  rw [hw]
  exact qug hK rfl (fun _ _=>rfl) rfl
theorem newOK:SumAt Tryz.prog q6b 77 newS:=by
  intro O w0 β H w base args vs hH hG ha
  refine qtb fun v hv=>qlc fun hT=>qxa (fun hn => ?_) fun a l c hs=>qfa fun hn=>q3a fun X N ht=>fun ⟨hle,h4⟩ => ?_
  · rw [hv,hn] at ha
    exact qka qh3 16000 hH (qta [] [] [.nilSlice]) (qqa hG) ha (Ifc.fits (by simp [qta]) rfl (qgb hT trivial)) [7] (by simp [qta]) (by simp) jpo (all_cons (by omega) (all_cons (by omega) qba)) fun H2 hH2=>⟨SV.imp_of_eq rfl,rfl,trivial,⟨qvw (List.cons.inj hH2).1 jwh,trivial⟩⟩
  · rw [hv,hs] at ha
    rw [qga] at ht
    obtain ⟨x,ys,hx,hys,rfl⟩:=denL_cons.1 ha
    obtain ⟨m,hm,hd,_,_⟩:=q8a hx
    have hfit:Ifc.Fits (qta [a.nm] [rowF X N] [.slice ⟨4,.sym a.off.den⟩ (.sym l.den) (.sym m)]) H:=Ifc.fits (nd5 hn) rfl (qgb hT ⟨⟨ht _,qya _ _ _⟩,trivial⟩)
    by_cases h64:l.den≤64
    · refine qka qh3 16000 hH (qta [a.nm] [rowF X N] [.slice ⟨4,.sym a.off.den⟩ (.sym l.den) (.sym m)]) (qqa hG) (denL_cons.2 ⟨_,_,hd,hys,rfl⟩) hfit [8] (by simp [qta]) (by simp) (jyh X N a.off.den l.den m) ?_ fun H2 hH2=>⟨SV.imp_of_eq rfl,rfl,trivial,⟨?_,trivial⟩⟩
      · exact all_cons (decide_eq_false (by omega)) (all_cons (decide_eq_false (by omega)) (all_cons ⟨hle,qea X⟩ (all_cons h64 (all_cons (by omega) (all_cons (by omega) (all_cons (by omega) qba))))))
      · rw [← qww (k:=key1 X a.off.den l.den) fun i hi => ?_]
        · exact qnl (List.cons.inj hH2).1
        · unfold key1 keyP
          rw [if_pos h64]
          by_cases c:i<l.den
          · rw [if_pos (by omega),if_pos c]
          · rw [if_neg (by omega),if_neg c]
    · refine qka qh3 16000 hH (qta [a.nm] [rowF X N] [.slice ⟨4,.sym a.off.den⟩ (.sym l.den) (.sym m)]) (qqa hG) (denL_cons.2 ⟨_,_,hd,hys,rfl⟩) hfit [9] (by simp [qta]) (by simp) (jzh X N a.off.den l.den m) ?_ fun H2 hH2=>⟨SV.imp_of_eq rfl,rfl,trivial,⟨?_,trivial⟩⟩
      · exact all_cons (decide_eq_false (by omega)) (all_cons (decide_eq_true (by omega)) (all_cons (qea X) (all_cons hle (all_cons (by omega) (all_cons (by omega) qba)))))
      · rw [← qww (k:=key2 X a.off.den l.den) fun i hi => ?_]
        · exact qvw (List.cons.inj hH2).1 (jxh X _ _)
        · unfold key2 keyP
          rw [if_neg h64]
noncomputable def macO (e:Option SO) (f:HSt→R α):R α:=optC (ownE 141 e) (.stuck 760) fun l=>qsw l f
theorem j0h {e:Option SO} {f:HSt→R α} {φ:α→Prop} (h:∀ S:HSt,S.ws.length=8→(∀ g,∃ e',e=some e'∧qqb g (macE S) e')→(f S).Sat φ):(macO e f).Sat φ :=
  qja fun l hl=>q9m fun S h8 hi=>h S h8 fun g=>⟨_,qgr hl,qtf (by rw [qff]; exact hi)⟩
theorem qmz (p:Nat→Bool) (S:HSt):(macE S).CUses p:=q2d p S
noncomputable def mnT (S:HSt):Tree:=qca cfgW 4000 80 [.ptr ⟨4,.lit 0⟩,.nilSlice] (q5c [macE S])
theorem jqo (S:HSt):outO [4] (mnT S) [false,false]=([((S.n:Int) == 0)=false,qza ((S.n:Int)+0),decide (((S.n % 64:Nat):Int) > 0)=false],some (.int .i64 (.lit 0),[some (macE ⟨S.K,S.ws,S.R,S.n+0⟩)])):=by kernel_rfl
theorem jro (S:HSt):outO [4] (mnT S) [false,true,false,true,true]=([((S.n:Int) == 0)=false,qza ((S.n:Int)+0),decide (((S.n % 64:Nat):Int) > 0)=true,(0≤((S.n % 64:Nat):Int)∧((S.n % 64:Nat):Int)≤64),decide (64=S.n % 64)=false,true=true,apM (136+S.n % 64 * 1) 0,qza (((S.n % 64:Nat):Int)+0),decide (((S.n % 64:Nat):Int)+0<64)=true],
    some (.int .i64 (.lit 0),[some (macE ⟨kC (136+S.n % 64 * 1) 0 (fun _=>0#8) S.K,S.ws,qan (136+S.n % 64 * 1) 0 (fun _=>0#8) S.R,S.n+0⟩)])):=by kernel_rfl
noncomputable def mwR (nm:Nat) (S:HSt):SumRes:=⟨.int .i64 (.lit 0),[(nm,macE S)],[]⟩
noncomputable def mwSm:Summ:=fun args H _=>qcd args fun p v=>optC (q7f p) (.stuck 761) fun nm=>qdf H (boolC (qib nm) (macO (nth H nm) fun S=>.need (0<S.n)
  (qob v (.need (S.n≤1152921504606846976) (.ok (mwR nm (qle S (fun _=>0#8) 0)))) fun a l=>boolC (qib a.nm) (boolC (Nat.beq nm a.nm) (.stuck 761) (q3b (nth H a.nm) fun X N=>.need (a.off.den+l.den≤N∧S.n+l.den≤1152921504606846976) (.ok (mwR nm (qle S (fun i=>X (a.off.den+i)) l.den))))) (.stuck 761))) (.stuck 761))
theorem j8d {S:HSt}:macE (qle S (fun _=>0#8) 0)=macE ⟨S.K,S.ws,S.R,S.n+0⟩:=by
  unfold qle
  by_cases hu:S.n % 64=0
  · rw [if_pos hu]
    exact qug (fun _ _=>rfl) rfl (fun i _=>by dsimp only; unfold qml; rw [if_neg (by omega)]) rfl
  · rw [if_neg hu,if_pos (by omega)]
    exact qug (fun _ _=>rfl) rfl (fun i _=>by dsimp only; unfold qhk; rw [if_neg (by omega)]) rfl
theorem mwOK:SumAt Tryz.prog q6b 80 mwSm:=by
  intro O w0 β H w base args vs hH hG ha
  refine qnb fun p v hv=>qja fun nm hp=>qlc fun hT=>qfa fun hn=>j0h fun S h8 hm=>fun h0 => ?_
  rw [hv,q1c hp] at ha
  obtain ⟨x,ys,hx,hys,rfl⟩:=denL_cons.1 ha
  rw [qga] at hm
  refine qxa (fun hnil=>fun hb => ?_) fun a l c hs=>qfa fun hn2=>qla (fun _=>trivial) fun hne=>q3a fun X N ht=>fun ⟨hle,hb⟩ => ?_
  · rw [hnil] at hys
    unfold mwR
    rw [j8d]
    have hfit:Ifc.Fits (qta [nm] [macE S] [.ptr ⟨4,.lit 0⟩,.nilSlice]) H:=Ifc.fits (nd5 hn) rfl (qgb hT ⟨⟨hm _,qmz _ _⟩,trivial⟩)
    by_cases hu:S.n % 64=0
    · refine qka q2k 4000 hH (qta [nm] [macE S] [.ptr ⟨4,.lit 0⟩,.nilSlice]) (qqa hG) (denL_cons.2 ⟨_,_,hx,hys,rfl⟩) hfit [] (by simp) (by simp) (jqo S) ?_ fun H2 hH2=>⟨SV.imp_of_eq rfl,rfl,⟨⟨rfl,qnl (List.cons.inj hH2).1⟩,trivial⟩,trivial⟩
      exact all_cons (by rw [beq_eq_false_iff_ne]; omega) (all_cons ⟨by omega,by omega⟩ (all_cons (decide_eq_false (by omega)) qba))
    · refine qka q2k 4000 hH (qta [nm] [macE S] [.ptr ⟨4,.lit 0⟩,.nilSlice]) (qqa hG) (denL_cons.2 ⟨_,_,hx,hys,rfl⟩) hfit [] (by simp) (by simp) (jro S) ?_ fun H2 hH2=>⟨SV.imp_of_eq rfl,rfl,⟨⟨rfl,?_⟩,trivial⟩,trivial⟩
      · exact all_cons (by rw [beq_eq_false_iff_ne]; omega) (all_cons ⟨by omega,by omega⟩ (all_cons (decide_eq_true (by omega)) (all_cons ⟨by omega,by omega⟩ (all_cons (decide_eq_false (by omega)) (all_cons rfl (all_cons (quw (by omega) (by omega)) (all_cons ⟨by omega,by omega⟩ (all_cons (decide_eq_true (by omega)) qba))))))))
      · rw [show macE ⟨S.K,S.ws,S.R,S.n+0⟩=macE ⟨kC (136+S.n % 64 * 1) 0 (fun _=>0#8) S.K,S.ws,qan (136+S.n % 64 * 1) 0 (fun _=>0#8) S.R,S.n+0⟩ from
          qug (fun i _=>by dsimp only; unfold kC; rw [if_neg (by omega)]) rfl (fun i _=>by dsimp only; unfold qan; rw [if_neg (by omega)]) rfl]
        exact qnl (List.cons.inj hH2).1
  · rw [hs] at hys
    rw [qga] at ht
    obtain ⟨y,zs,hy,hz,rfl⟩:=denL_cons.1 hys
    obtain ⟨m,hmm,hd⟩:=qhz hy
    exact Go.Sim.sum_runs (c:=cfgW) hH (qta [nm,a.nm] [macE S,rowF X N] (qe3 a.off.den l.den m)) (qqa hG) (denL_cons.2 ⟨_,_,hx,denL_cons.2 ⟨_,_,hd,hz,rfl⟩,rfl⟩) (Ifc.fits (nd6 hn hn2 (qmb hne)) rfl (qgb hT ⟨⟨hm _,qmz _ _⟩,⟨ht _,qya _ _ _⟩,trivial⟩)) [] (by simp) (by simp)
      (qyf (jmo hle hmm h0 hb) fun v H2 ⟨hv,h4⟩=>⟨SV.imp_of_eq (by rw [hv]; rfl),by rw [hv]; rfl,⟨⟨rfl,qnl h4⟩,trivial⟩,trivial⟩)
end Go.Proofs.YtbmgahpjgefjaaaGreatDoor.Aes
namespace Go.Proofs.YtbmgahpjgefjaaaGreatDoor.Aes
open Go.Sim
open Go.Proofs
variable {α:Type}
set_option maxRecDepth 1000000
noncomputable def macC (e:Option SO) (f:HSt→R α):R α:=optC (qhc e) (.stuck 762) fun l=>qsw l f
theorem qgu {e:Option SO} {f:HSt→R α} {φ:α→Prop} (h:∀ S:HSt,(∀ g,∃ e',e=some e'∧qqb g (.row (.lst (q1b S))) e')→(f S).Sat φ):(macC e f).Sat φ :=
  qja fun l hl=>q9m fun S h8 hi=>h S fun g=>q5b hl (by rw [qff]; exact hi)
noncomputable def hsF (S:HSt):List (BitVec 8):=if S.n % 64+9≤64 then qde (qv0 S) else qde (qw0 S)
noncomputable def b32L (L:List (BitVec 8)):List SV:=bx (tabB (qaa L) 32)
theorem q0s {L:List (BitVec 8)} (h:L.length=32):b32L L=bx L:=by unfold b32L; rw [qlo L h]
theorem qbn (l:List W32):(qde l).length=32:=rfl
noncomputable def jnl:Summ:=fun args H _=>qfd args fun p=>optC (ptrL p) (.stuck 763) fun po=>boolC (Nat.beq po.2 128) (qdf H (boolC (qib po.1) (macC (nth H po.1) fun S=>.need (0<S.n∧S.n≤1152921504606846976) (.ok ⟨.agg (b32L (hsF S)),[],[]⟩)) (.stuck 763))) (.stuck 763)
theorem q85 {S:HSt} {b:Bool} {sz:Nat} {r:List Prop} (h0:0<S.n) (hb:S.n≤1152921504606846976) (hbb:decide (((S.n % 64:Nat):Int)+9 > 64)=b) (hs:S.n % 64+9≤sz) (hr:∀ p∈r,p):∀ p∈hsC S b sz r,p :=
  all_cons (by rw [beq_eq_false_iff_ne]; omega) (all_cons ⟨by omega,by omega⟩ (all_cons ⟨by omega,by omega⟩ (all_cons (decide_eq_false (by omega)) (all_cons ⟨by omega,by omega⟩ (all_cons hbb (all_cons (quw (by omega) (by omega)) (all_cons (by omega) (all_cons (by omega) (all_cons ⟨by omega,by omega⟩ (all_cons (by omega) hr))))))))))
theorem jit:SumAt Tryz.prog q6b 107 jnl:=by
  intro O w0 β H w base args vs hH hG ha
  refine qtb fun p hv=>qja fun po hp=>qfa fun h128=>qlc fun hT=>qfa fun hn=>qgu fun S hm=>fun ⟨h0,hb⟩ => ?_
  rw [hv,qxr hp,qna h128] at ha
  rw [qga] at hm
  obtain ⟨x,ys,hx,hys,rfl⟩:=denL_cons.1 ha
  have hfit:Ifc.Fits (qta [po.1] [.row (.lst (q1b S))] [.ptr ⟨4,.lit 128⟩]) H:=Ifc.fits (nd5 hn) rfl (qgb hT ⟨⟨hm _,q2d _ _⟩,trivial⟩)
  by_cases h9:S.n % 64+9≤64
  · refine qka q2k 8000 hH (qta [po.1] [.row (.lst (q1b S))] [.ptr ⟨4,.lit 128⟩]) (qqa hG) (denL_cons.2 ⟨_,_,hx,hys,rfl⟩) hfit [] (by simp) (by simp) (jno S) (q85 h0 hb (decide_eq_false (by omega)) h9 (all_cons (by omega) qba)) fun _ _ => ?_
    unfold hsF
    rw [if_pos h9,q0s (qbn _)]
    exact q4p rfl rfl
  · refine qka q2k 8000 hH (qta [po.1] [.row (.lst (q1b S))] [.ptr ⟨4,.lit 128⟩]) (qqa hG) (denL_cons.2 ⟨_,_,hx,hys,rfl⟩) hfit [] (by simp) (by simp) (joo S) (q85 h0 hb (decide_eq_true (by omega)) (by omega) (all_cons (by omega) (all_cons (by omega) qba))) fun _ _ => ?_
    unfold hsF
    rw [if_neg h9,q0s (qbn _)]
    exact q4p rfl rfl
noncomputable def finS:Summ:=fun args H _=>qcd args fun p v=>optC (q7f p) (.stuck 764) fun nm=>qdf H (boolC (qib nm) (macC (nth H nm) fun S=>v.asAgg (.stuck 764) fun l=>optC (unb l) (.stuck 764) fun xs=>boolC (Nat.beq (lenN xs) 32) (.ok ⟨.agg (b32L (qde (finW S.K (qaa xs)))),[],[]⟩) (.stuck 764)) (.stuck 764))
theorem q6j {l m:List SV} (h:SV.ImpL l m):(SV.agg l).Imp (.agg m):=by
  intro γ x hx
  simp only [SV.den,Option.map_eq_some_iff] at hx ⊢
  obtain ⟨us,hus,rfl⟩:=hx
  exact ⟨us,h γ us hus,rfl⟩
theorem finOK:SumAt Tryz.prog q6b 106 finS:=by
  intro O w0 β H w base args vs hH hG ha
  refine qnb fun p v hv=>qja fun nm hp=>qlc fun hT=>qfa fun hn=>qgu fun S hm => ?_
  rcases quc v with ⟨l,rfl⟩ | hno
  · refine qja fun xs hxs=>qfa fun h32 => ?_
    have h32:=qna h32
    rw [qva] at h32
    rw [hv,q1c hp] at ha
    rw [qga] at hm
    obtain ⟨x,ys,hx,hys,rfl⟩:=denL_cons.1 ha
    have hy2:SV.denL β [.agg (bx (tabB (qaa xs) 32))]=some ys:=q0m hys (q6j (by rw [qlo xs h32]; exact q8g hxs))
    have hfit:Ifc.Fits (qta [nm] [.row (.lst (q1b S))] [.ptr ⟨4,.lit 0⟩,.agg (bx (tabB (qaa xs) 32))]) H:=Ifc.fits (nd5 hn) (by show (_ && (SV.usesL _ (bx _) && true))=true; rw [qed]; rfl) (qgb hT ⟨⟨hm _,q2d _ _⟩,trivial⟩)
    refine qka q2k 8000 hH (qta [nm] [.row (.lst (q1b S))] [.ptr ⟨4,.lit 0⟩,.agg (bx (tabB (qaa xs) 32))]) (qqa hG) ?_ hfit [] (by simp) (by simp) (jht S (qaa xs)) ?_ fun _ _ => ?_
    · refine denL_cons.2 ⟨_,_,hx,?_,rfl⟩
      show SV.denL β [.agg (SV.renL _ (bx (tabB (qaa xs) 32)))]=_
      rw [q7d]; exact hy2
    · exact all_cons (by omega) (all_cons (by omega) (all_cons rfl (all_cons ⟨by omega,by omega⟩ (all_cons rfl (all_cons rfl (all_cons ⟨by omega,by omega⟩ (all_cons ⟨by omega,by omega⟩ (all_cons rfl (all_cons ⟨by omega,by omega⟩ (all_cons rfl (all_cons ⟨by omega,.inl (by omega),.inl (by omega),.inl (by omega),.inl (by omega),.inl (by omega),.inl (by omega),.inl (by omega),.inl (by omega),.inr (by omega),trivial⟩ (all_cons (by omega) (all_cons (by omega) (all_cons ⟨by omega,by omega⟩ (all_cons (by omega) (all_cons (by omega) qba))))))))))))))))
    · rw [q0s (qbn _)]
      exact q4p rfl rfl
  · rw [hno]; trivial
noncomputable def macF (S:HSt):List (BitVec 8):=qde (finW S.K (qaa (tabB (qaa (hsF S)) 32)))
noncomputable def jol:Cfg:=cfgG q6b (qbb [(107,jnl),(106,finS)])
theorem jso:CfgOK jol:=q2b (allS jit (allS finOK (by simp)))
theorem jjt (S:HSt):outO [] (qca jol 2000 81 [.ptr ⟨4,.lit 0⟩] (q5c [.row (.lst (q1b S))])) []=([0≤(S.n:Int),0<S.n∧S.n≤1152921504606846976,0≤(S.n:Int)],some (.tuple [.agg (b32L (macF S)),.int .i64 (.lit 0)],[])):=by kernel_rfl
end Go.Proofs.YtbmgahpjgefjaaaGreatDoor.Aes
namespace Go.Proofs.YtbmgahpjgefjaaaGreatDoor.Aes
open Go.Sim
open Go.Proofs
variable {α:Type}
set_option maxRecDepth 1000000
noncomputable def msSm:Summ:=fun args H _=>qfd args fun p=>optC (q7f p) (.stuck 765) fun nm=>qdf H (boolC (qib nm) (macC (nth H nm) fun S=>.need (0<S.n∧S.n≤1152921504606846976) (.ok ⟨.tuple [.agg (b32L (macF S)),.int .i64 (.lit 0)],[],[]⟩)) (.stuck 765))
theorem jpl {I:Ifc} {base:Nat} {L:List (BitVec 8)} {v:SV} {H:List SO} (ho:q7b I.ents 0=[]) (h:v=.tuple [.agg (b32L L),.int .i64 (.lit 0)]):I.Ends base [] ⟨.tuple [.agg (b32L L),.int .i64 (.lit 0)],[],[]⟩ v H:=by
  subst h
  refine qkb ho ?_ ?_
  · show SV.tuple [.agg (b32L L),_]=.tuple [.agg (SV.renL _ (b32L L)),_]
    unfold b32L
    rw [q7d]; rfl
  · show (SV.usesL (I.seen []) (b32L L) && (true && true))=true
    unfold b32L
    rw [qed]; rfl
theorem msOK:SumAt Tryz.prog q6b 81 msSm:=by
  intro O w0 β H w base args vs hH hG ha
  refine qtb fun p hv=>qja fun nm hp=>qlc fun hT=>qfa fun hn=>qgu fun S hm=>fun ⟨h0,hb⟩ => ?_
  rw [hv,q1c hp] at ha
  rw [qga] at hm
  exact qka jso 2000 hH (qta [nm] [.row (.lst (q1b S))] [.ptr ⟨4,.lit 0⟩]) (qqa hG) ha (Ifc.fits (nd5 hn) rfl (qgb hT ⟨⟨hm _,q2d _ _⟩,trivial⟩)) [] (by simp) (by simp) (jjt S) (all_cons (by omega) (all_cons ⟨h0,hb⟩ (all_cons (by omega) qba))) fun _ _=>jpl rfl rfl
noncomputable def jql:Cfg:=cfgG q6b (qbb [(77,newS),(80,mwSm),(81,msSm)])
theorem qcy:CfgOK jql:=q2b (allS newOK (allS mwOK (allS msOK (by simp))))
noncomputable def norm (S:HSt):HSt:=⟨qaa (tabB S.K 128),q0a S.ws,qaa (tabB S.R 64),S.n⟩
structure Sl where
  X:Nat→BitVec 8
  N:Nat
  o:Nat
  n:Nat
  b:Bool
  k:Nat
noncomputable def Sl.row (s:Sl):SO:=rowF s.X s.N
noncomputable def Sl.val (s:Sl) (nm:Nat):SV:=.slice ⟨nm,.sym s.o⟩ (.sym s.n) (boolC s.b (.rest nm s.k) (.sym s.k))
noncomputable def Sl.F (s:Sl):Nat→BitVec 8:=fun i=>s.X (s.o+i)
noncomputable def hmT (k:Sl) (ps:List SV) (rs:List SO):Tree:=qca jql 4000 73 [k.val 4,.slice ⟨5,.lit 0⟩ (.lit (lenN ps)) (.lit (lenN ps))] (q5c (k.row::.row (.lst ps)::rs))
noncomputable def q6c (S:HSt) (p:Option Sl):HSt:=match p with | none=>qle (norm S) (fun _=>0#8) 0 | some a=>qle (norm S) a.F a.n
noncomputable def qik (S:HSt) (p:Option Sl) (r:List Prop):List Prop:=(0≤((norm S).n:Int))::(0<(norm S).n)::(match p with | none=>((norm S).n≤1152921504606846976)::r | some a=>IsB (qda a.X)::(a.o+a.n≤a.N∧(norm S).n+a.n≤1152921504606846976)::r)
noncomputable def hm0 (k:Sl):HSt:=newH (keyP shaF k.F k.n)
noncomputable def hmC0 (k:Sl) (r:List Prop):List Prop:=IsB (qda k.X)::(k.o+k.n≤k.N∧k.n≤4096)::r
noncomputable def hmE (S:HSt):List Prop:=[0≤((norm S).n:Int),0<(norm S).n∧(norm S).n≤1152921504606846976]
noncomputable def hmV (S:HSt):Option (SV × List (Option SO)):=some (.tuple [.agg (b32L (macF (norm S))),.int .i64 (.lit 0)],[])
theorem jto (k a:Sl):outO [] (hmT k [a.val 6] [a.row]) []=(hmC0 k (qik (hm0 k) (some a) (hmE (q6c (hm0 k) (some a)))),hmV (q6c (hm0 k) (some a))):=by kernel_rfl
theorem juo (k a b:Sl):outO [] (hmT k [a.val 6,b.val 7] [a.row,b.row]) []=(hmC0 k (qik (hm0 k) (some a) (qik (q6c (hm0 k) (some a)) (some b) (hmE (q6c (q6c (hm0 k) (some a)) (some b))))),hmV (q6c (q6c (hm0 k) (some a)) (some b))):=by kernel_rfl
theorem jvo (k a b c d:Sl):outO [] (hmT k [a.val 6,b.val 7,c.val 8,.nilSlice,d.val 9] [a.row,b.row,c.row,d.row]) [] =
    (hmC0 k (qik (hm0 k) (some a) (qik (q6c (hm0 k) (some a)) (some b) (qik (q6c (q6c (hm0 k) (some a)) (some b)) (some c) (qik (q6c (q6c (q6c (hm0 k) (some a)) (some b)) (some c)) none (qik (q6c (q6c (q6c (q6c (hm0 k) (some a)) (some b)) (some c)) none) (some d) (hmE (q6c (q6c (q6c (q6c (q6c (hm0 k) (some a)) (some b)) (some c)) none) (some d)))))))),
      hmV (q6c (q6c (q6c (q6c (q6c (hm0 k) (some a)) (some b)) (some c)) none) (some d))):=by kernel_rfl
end Go.Proofs.YtbmgahpjgefjaaaGreatDoor.Aes
namespace Go.Proofs.YtbmgahpjgefjaaaGreatDoor.Aes
open Go.Sim
open Go.Proofs
variable {α:Type}
set_option maxRecDepth 100000
theorem qnc {X:Nat→BitVec 8} {n i:Nat} (h:i<n):qaa (tabB X n) i=X i:=by
  unfold qaa tabB
  rw [qwa,q0c,List.getElem?_map,List.getElem?_range' h]
  simp
theorem jkt (l:List W32):q0a (q0a l)=q0a l:=rfl
theorem qi3 {S:HSt} {Y:Nat→BitVec 8} {N:Nat} (h:Rep S Y N):Rep (norm S) Y N :=
  ⟨h.n,(jkt _).trans h.ws,fun i hi=>(qnc (by omega)).trans (h.rest i hi)⟩
theorem j9d {S:HSt} {i:Nat} (h:i<128):(norm S).K i=S.K i:=qnc h
theorem jwo (S:HSt) (X:Nat→BitVec 8) (m:Nat):(qle S X m).K=S.K:=by
  unfold qle
  by_cases h1:S.n % 64=0
  · rw [if_pos h1]
  · rw [if_neg h1]
    by_cases h2:S.n % 64+m<64
    · rw [if_pos h2]
    · rw [if_neg h2]
theorem jlt {S:HSt} {Y:Nat→BitVec 8} {N:Nat} (h:Rep S Y N):hsF S=shaF Y N:=by
  unfold hsF
  rw [h.n]
  by_cases c:N % 64+9≤64
  · rw [if_pos c]; exact jqh h c
  · rw [if_neg c]; exact jrh h (by omega)
theorem qj3 (Y:Nat→BitVec 8) (N:Nat):(shaF Y N).length=32:=qbn _
theorem jmt {K K' Y:Nat→BitVec 8} (h:∀ i,i<64→K i=K' i):qde (finW K Y)=shaF (catF K' 64 Y) 96:=by
  unfold shaF finW
  rw [show (96+72) / 64=0+1+1 from rfl,qac,qac]
  refine congrArg qde (qjf (qjf rfl (q0b fun i hi => ?_)) (q0b fun i hi => ?_))
  · unfold padF
    rw [if_pos (by omega),qgi (by omega),Nat.zero_add,h i hi]
  · rw [Nat.zero_add,q1p (by omega) hi]
    unfold padF lenP
    by_cases c1:i<32
    · rw [if_pos c1,if_pos (show 64 * (0+1)+i<96 by omega),q5i (by omega)]
      exact congrArg Y (by omega)
    · rw [if_neg c1,if_neg (show ¬ 64 * (0+1)+i<96 by omega)]
      by_cases c2:i=32
      · rw [if_pos c2,if_pos (show 64 * (0+1)+i=96 by omega)]
      · rw [if_neg c2,if_neg (show ¬ 64 * (0+1)+i=96 by omega)]
        by_cases c3:64≤i+8
        · rw [if_pos c3,if_pos (by omega),show 64 * ((96+72) / 64) - 1 - (64 * (0+1)+i)=64 - 1 - i from by omega]
        · rw [if_neg c3,if_neg (by omega)]
structure Mrep (S:HSt) (k:Nat→BitVec 8) (M:Nat→BitVec 8) (m:Nat):Prop where
  rep:Rep S (catF (fun i=>k i ^^^ 0x36#8) 64 M) (64+m)
  K:∀ i,i<64→S.K i=k i ^^^ 0x5c#8
theorem q8p (k M:Nat→BitVec 8):Mrep (newH k) k M 0:=by
  refine ⟨⟨rfl,?_,fun i hi=>by omega⟩,fun i hi => ?_⟩
  · rw [show (64+0) / 64=0+1 from rfl,qac]
    refine congrArg q0a (qjf rfl (q0b fun i hi => ?_))
    unfold newK
    rw [if_neg (by omega),qgi (by omega),show 64+i - 64=64 * 0+i from by omega]
  · show newK k i=_
    unfold newK
    rw [if_pos hi]
theorem qg9 {X X' Y Y':Nat→BitVec 8} {n:Nat} (h:∀ i,i<n→X i=X' i) (h':∀ i,Y i=Y' i) (i:Nat):catF X n Y i=catF X' n Y' i:=by
  unfold catF
  by_cases c:i<n
  · rw [if_pos c,if_pos c,h i c]
  · rw [if_neg c,if_neg c,h']
theorem qnz {S:HSt} {Y Z:Nat→BitVec 8} {N:Nat} (h:Rep S Y N) (hz:∀ i,i<N→Y i=Z i):Rep S Z N :=
  ⟨h.n,h.ws.trans (congrArg q0a (qae _ fun i hi=>hz i (by omega))),fun i hi=>(h.rest i hi).trans (hz _ (by omega))⟩
theorem qzr {S:HSt} {k M X:Nat→BitVec 8} {m n:Nat} (h:Mrep S k M m):Mrep (qle (norm S) X n) k (catF M m X) (m+n):=by
  refine ⟨?_,fun i hi=>by rw [jwo,j9d (by omega)]; exact h.K i hi⟩
  have:=j6d (qi3 h.rep) X n
  rw [Nat.add_assoc] at this
  refine qnz this fun i hi => ?_
  unfold catF
  by_cases c1:i<64
  · rw [if_pos (by omega),if_pos c1,if_pos c1]
  · by_cases c2:i<64+m
    · rw [if_pos c2,if_neg c1,if_neg c1,if_pos (by omega)]
    · rw [if_neg c2,if_neg c1,if_neg (by omega)]
      exact congrArg X (by omega)
theorem jnt {S:HSt} {K M:Nat→BitVec 8} {n m:Nat} (h:Mrep S (keyP shaF K n) M m):macF (norm S)=macB shaF K n M m:=by
  unfold macF macB
  rw [jlt (qi3 h.rep),qlo _ (qj3 _ _)]
  exact jmt fun i hi=>(j9d (by omega)).trans (h.K i hi)
end Go.Proofs.YtbmgahpjgefjaaaGreatDoor.Aes
namespace Go.Proofs.YtbmgahpjgefjaaaGreatDoor.Aes
open Go.Sim
open Go.Proofs
variable {α:Type}
set_option maxRecDepth 100000
noncomputable def capL (nm:Nat) (c:SC):Option (Bool × Nat):=SC.rec (motive:=fun _=>Option (Bool × Nat)) (fun m=>some (false,m)) (fun m=>some (false,m)) (fun q k=>boolC (Nat.beq q nm) (some (true,k)) none) c
noncomputable def qjc (H:List SO) (v:SV) (f:Sl→Nat→R α):R α:=v.asSlice (.stuck 770) fun a l c=>optC (capL a.nm c) (.stuck 771) fun bk=>boolC (qib a.nm) (q3b (nth H a.nm) fun X N=>f ⟨X,N,a.off.den,l.den,bk.1,bk.2⟩ a.nm) (.stuck 772)
theorem qhu {nm:Nat} {c:SC} {bk:Bool × Nat} (h:capL nm c=some bk) (γ:Val):c.den γ=(boolC bk.1 (.rest nm bk.2) (.sym bk.2):SC).den γ:=by
  cases c with
  | lit m=>cases h; rfl
  | sym m=>cases h; rfl
  | rest q k =>
    obtain ⟨hq,h⟩:=qsb (show boolC (Nat.beq q nm) (some (true,k)) none=some bk from h)
    cases h
    rw [qna hq]; rfl
theorem qcb {H:List SO} {v:SV} {f:Sl→Nat→R α} {φ:α→Prop} (h:∀ t nm,qib nm=true→(∀ g,∃ e',H[nm]? = some e'∧qqb g t.row e')→v.Imp (t.val nm)→(f t nm).Sat φ):(qjc H v f).Sat φ:=by
  unfold qjc
  rcases asSlice_cases v with ⟨a,l,c,rfl⟩ | hv
  · refine qja fun bk hbk=>qfa fun hn=>q3a fun X N ht=>h ⟨X,N,a.off.den,l.den,bk.1,bk.2⟩ a.nm hn (fun g=>by rw [← qga]; exact ht g) fun γ x hx => ?_
    rw [qpa] at hx
    obtain ⟨A,C,hA,hC,hle,rfl⟩:=hx
    rw [show (Sl.val ⟨X,N,a.off.den,l.den,bk.1,bk.2⟩ a.nm)=.slice ⟨a.nm,.sym a.off.den⟩ (.sym l.den) (boolC bk.1 (.rest a.nm bk.2) (.sym bk.2)) from rfl,qpa]
    exact ⟨A,C,hA,by rw [← qhu hbk]; exact hC,hle,rfl⟩
  · rw [hv]; trivial
theorem Sl.row_uses (t:Sl) (p:Nat→Bool):t.row.CUses p:=qya _ _ _
theorem Sl.val_ren (t:Sl) (f:Nat→Nat) (nm:Nat):(t.val nm).ren f=t.val (f nm):=by
  unfold Sl.val
  cases t.b <;> rfl
theorem Sl.val_uses (t:Sl) (p:Nat→Bool) (nm:Nat) (h:p nm=true):(t.val nm).uses p=true:=by
  unfold Sl.val
  cases t.b with
  | false=>show p nm && true=true; rw [h]; rfl
  | true=>show (p nm && p nm)=true; rw [h]; rfl
noncomputable def qx0 (x:Nat) (l:List Nat):Bool:=List.rec (motive:=fun _=>Bool) true (fun y _ ih=>boolC (Nat.beq x y) false ih) l
noncomputable def qvc (l:List Nat):Bool:=List.rec (motive:=fun _=>Bool) true (fun x r ih=>boolC (qx0 x r) ih false) l
theorem qoz {x:Nat}:∀ {l:List Nat},qx0 x l=true→x ∉ l
  | [],_=>by simp
  | y::l,h=>by
    have h:boolC (Nat.beq x y) false (qx0 x l)=true:=h
    cases hb:Nat.beq x y with
    | true=>rw [hb] at h; cases h
    | false =>
      rw [hb] at h
      rw [List.mem_cons,not_or]
      exact ⟨qmb hb,qoz h⟩
theorem qvg:∀ {l:List Nat},qvc l=true→l.Nodup
  | [],_=>List.nodup_nil
  | x::l,h=>by
    obtain ⟨h1,h2⟩:=qzh (show boolC (qx0 x l) (qvc l) false=true from h)
    exact List.nodup_cons.2 ⟨qoz h1,qvg h2⟩
theorem nd4 {l:List Nat} (h:qvc l=true) (h4:∀ x∈l,qib x=true):(0::1::2::3::l).Nodup:=by
  have hn:∀ x∈l,4≤x:=fun x hx=>Nat.le_of_ble_eq_true (h4 x hx)
  simp only [List.nodup_cons,List.mem_cons,not_or]
  refine ⟨⟨by omega,by omega,by omega,fun h => ?_⟩,⟨by omega,by omega,fun h => ?_⟩,⟨by omega,fun h => ?_⟩,fun h => ?_,qvg h⟩
  · have:=hn _ h; omega
  · have:=hn _ h; omega
  · have:=hn _ h; omega
  · have:=hn _ h; omega
noncomputable def qxw (F:(Nat→BitVec 8)→Nat→List (BitVec 8)) (k:Sl) (M:Nat→BitVec 8) (m:Nat):SumRes:=⟨.tuple [.agg (b32L (macB F k.F k.n M m)),.int .i64 (.lit 0)],[],[]⟩
noncomputable def okL (t:Sl):Prop:=t.o+t.n≤t.N∧t.n≤1099511627776
noncomputable def two (a b:Sl):Nat→BitVec 8:=catF a.F a.n b.F
noncomputable def four (a b c d:Sl):Nat→BitVec 8:=catF (catF (two a b) (a.n+b.n) c.F) (a.n+b.n+c.n) d.F
noncomputable def hmS1 (F:(Nat→BitVec 8)→Nat→List (BitVec 8)) (H:List SO) (k:Sl) (kn pn:Nat) (l:List SV):R SumRes:=qfd l fun u=>qjc H u fun a an=>boolC (qvc [kn,pn,an]) (.need ((k.o+k.n≤k.N∧k.n≤4096)∧okL a) (.ok (qxw F k a.F a.n))) (.stuck 773)
noncomputable def hmS2 (F:(Nat→BitVec 8)→Nat→List (BitVec 8)) (H:List SO) (k:Sl) (kn pn:Nat) (l:List SV):R SumRes:=qcd l fun u v=>qjc H u fun a an=>qjc H v fun b bn=>boolC (qvc [kn,pn,an,bn]) (.need ((k.o+k.n≤k.N∧k.n≤4096)∧okL a∧okL b) (.ok (qxw F k (two a b) (a.n+b.n)))) (.stuck 773)
noncomputable def hmS5 (F:(Nat→BitVec 8)→Nat→List (BitVec 8)) (H:List SO) (k:Sl) (kn pn:Nat) (l:List SV):R SumRes:=List.rec (motive:=fun _=>R SumRes) (.stuck 774) (fun u r _=>qyv r fun v x y z=>qjc H u fun a an=>qjc H v fun b bn=>qjc H x fun c cn=>qjc H z fun d dn=>qob y (boolC (qvc [kn,pn,an,bn,cn,dn]) (.need ((k.o+k.n≤k.N∧k.n≤4096)∧okL a∧okL b∧okL c∧okL d) (.ok (qxw F k (four a b c d) (a.n+b.n+c.n+d.n)))) (.stuck 773)) fun _ _=>.stuck 774) l
noncomputable def hmS (F:(Nat→BitVec 8)→Nat→List (BitVec 8)):Summ:=fun args H _=>qcd args fun kv pv=>qdf H (qjc H kv fun k kn=>optC (slNm pv) (.stuck 775) fun pn=>boolC (qib pn) (optC (qhc (nth H pn)) (.stuck 775) fun l=>boolC (qqj pv pn 0 (lenN l))
  (boolC (Nat.beq (lenN l) 1) (hmS1 F H k kn pn l) (boolC (Nat.beq (lenN l) 2) (hmS2 F H k kn pn l) (hmS5 F H k kn pn l))) (.stuck 775)) (.stuck 775))
theorem Mrep.congr {S:HSt} {k M M':Nat→BitVec 8} {m:Nat} (h:Mrep S k M m) (hm:∀ i,i<m→M i=M' i):Mrep S k M' m :=
  ⟨qnz h.rep fun i hi=>by
    unfold catF
    by_cases c:i<64
    · rw [if_pos c,if_pos c]
    · rw [if_neg c,if_neg c,hm _ (by omega)],h.K⟩
theorem qiu (k:Sl) (a:Sl):Mrep (q6c (hm0 k) (some a)) (keyP shaF k.F k.n) a.F a.n:=by
  have h:=qzr (X:=a.F) (n:=a.n) (q8p (keyP shaF k.F k.n) (fun _=>0#8))
  rw [Nat.zero_add] at h
  exact h.congr fun i hi=>by rw [q5i (by omega)]; rfl
theorem jae {S:HSt} {k M:Nat→BitVec 8} {m:Nat} (h:Mrep S k M m):Mrep (q6c S none) k M m :=
  (qzr (X:=fun _=>0#8) (n:=0) h).congr fun i hi=>qgi (by omega)
theorem q0h {S:HSt} {k M:Nat→BitVec 8} {m:Nat} (h:Mrep S k M m) (hm:m≤9007199254740992) (a:Sl) (ha:okL a) {r:List Prop} (hr:∀ p∈r,p):∀ p∈qik S (some a) r,p:=by
  have hn:(norm S).n=64+m:=h.rep.n
  obtain ⟨h1,h2⟩:=ha
  exact all_cons (by omega) (all_cons (by omega) (all_cons (qea _) (all_cons ⟨h1,by omega⟩ hr)))
theorem jbe {S:HSt} {k M:Nat→BitVec 8} {m:Nat} (h:Mrep S k M m) (hm:m≤9007199254740992) {r:List Prop} (hr:∀ p∈r,p):∀ p∈qik S none r,p:=by
  have hn:(norm S).n=64+m:=h.rep.n
  exact all_cons (by omega) (all_cons (by omega) (all_cons (by omega) hr))
theorem qdy {S:HSt} {k M:Nat→BitVec 8} {m:Nat} (h:Mrep S k M m) (hm:m≤9007199254740992):∀ p∈hmE S,p:=by
  have hn:(norm S).n=64+m:=h.rep.n
  exact all_cons (by omega) (all_cons ⟨by omega,by omega⟩ qba)
theorem q9p {S:HSt} {k M:Nat→BitVec 8} {m:Nat} (h:Mrep S k M m) (b:Sl):Mrep (q6c S (some b)) k (catF M m b.F) (m+b.n):=qzr h
theorem qh9 {I:Ifc} {base:Nat} {S:HSt} {k:Sl} {M:Nat→BitVec 8} {m:Nat} {H:List SO} {v:SV} (hr:Mrep S (keyP shaF k.F k.n) M m) (ho:q7b I.ents 0=[]) (h:v=.tuple [.agg (b32L (macF (norm S))),.int .i64 (.lit 0)]):I.Ends base [] (qxw shaF k M m) v H:=by
  unfold qxw
  rw [← jnt hr]
  exact jpl ho h
end Go.Proofs.YtbmgahpjgefjaaaGreatDoor.Aes
namespace Go.Proofs.YtbmgahpjgefjaaaGreatDoor.Aes
open Go.Sim
open Go.Proofs
variable {α:Type}
set_option maxRecDepth 100000
theorem qju {β:Val} {k:Sl} {kn pn n:Nat} {kv pv:SV} {vs:List Value} (names:List Nat) (ents:List SO) (ha:SV.denL β [kv,pv]=some vs) (hk:kv.Imp (k.val kn)) (hp:qqj pv pn 0 n=true) :
    SV.denL β (SV.renL (qta (kn::pn::names) ents [k.val 4,.slice ⟨5,.lit 0⟩ (.lit n) (.lit n)]).big (qta (kn::pn::names) ents [k.val 4,.slice ⟨5,.lit 0⟩ (.lit n) (.lit n)]).args)=some vs:=by
  have h1:=qma hk (SV.ImpL.refl [pv]) _ _ ha
  rw [qrj hp] at h1
  show SV.denL β [(k.val 4).ren _,.slice ⟨pn,.lit 0⟩ (.lit n) (.lit n)]=_
  rw [Sl.val_ren]
  exact h1
theorem qku {k:Sl} {kn pn n:Nat} (names:List Nat) (ents:List SO):SV.usesL (qta (kn::pn::names) ents [k.val 4,.slice ⟨5,.lit 0⟩ (.lit n) (.lit n)]).known [k.val 4,.slice ⟨5,.lit 0⟩ (.lit n) (.lit n)]=true:=by
  show ((k.val 4).uses _ && _)=true
  rw [Sl.val_uses _ _ _ rfl]; rfl
theorem jxo {O:Nat→Prop} {w0:World} {β:Val} {H:List SO} {w:World} {base:Nat} {kv pv:SV} {vs:List Value} (hH:HeapRel0 Tryz.prog O w0 β H w) (hG:GlobRel q6b β) (ha:SV.denL β [kv,pv]=some vs) (hT:ShaTP H) {k:Sl} {kn pn:Nat}
    (hn:qib kn=true) (ht:∀ g,∃ e',H[kn]? = some e'∧qqb g k.row e') (hk:kv.Imp (k.val kn)) (hn2:qib pn=true) {l:List SV} (hl:qhc (nth H pn)=some l) (hp:qqj pv pn 0 (lenN l)=true) :
    (hmS1 shaF H k kn pn l).Sat (q4a Tryz.prog H β w base 73 vs):=by
  refine qtb fun u hu=>qcb fun a an hna hta hia=>qfa fun hd=>fun ⟨⟨h1,h2⟩,hok⟩ => ?_
  subst hu
  rw [qga] at hl
  have hr:=qiu k a
  have:=hok.2
  refine qka qcy 4000 hH (qta [kn,pn,an] [k.row,.row (.lst [a.val 6]),a.row] [k.val 4,.slice ⟨5,.lit 0⟩ (.lit 1) (.lit 1)]) (qqa hG) (qju _ _ ha hk hp) (Ifc.fits ?_ (qku _ _) (qgb hT ⟨⟨ht _,k.row_uses _⟩,⟨q5b hl ?_,?_⟩,⟨hta _,a.row_uses _⟩,trivial⟩)) [] (by simp) (by simp) (jto k a) ?_ fun _ _=>qh9 hr rfl rfl
  · exact nd4 hd (by simp only [List.mem_cons,List.not_mem_nil,or_false]; rintro x (rfl | rfl | rfl) <;> assumption)
  · show SV.ImpL _ [(a.val 6).ren _]
    rw [Sl.val_ren]
    exact qma hia q9b
  · show ((a.val 6).uses _ && true)=true
    rw [Sl.val_uses _ _ _ rfl]; rfl
  · refine all_cons (qea _) (all_cons ⟨h1,h2⟩ (q0h (q8p _ (fun _=>0#8)) (by omega) a hok (qdy hr (by omega))))
theorem jyo {O:Nat→Prop} {w0:World} {β:Val} {H:List SO} {w:World} {base:Nat} {kv pv:SV} {vs:List Value} (hH:HeapRel0 Tryz.prog O w0 β H w) (hG:GlobRel q6b β) (ha:SV.denL β [kv,pv]=some vs) (hT:ShaTP H) {k:Sl} {kn pn:Nat}
    (hn:qib kn=true) (ht:∀ g,∃ e',H[kn]? = some e'∧qqb g k.row e') (hk:kv.Imp (k.val kn)) (hn2:qib pn=true) {l:List SV} (hl:qhc (nth H pn)=some l) (hp:qqj pv pn 0 (lenN l)=true) :
    (hmS2 shaF H k kn pn l).Sat (q4a Tryz.prog H β w base 73 vs):=by
  refine qnb fun u v hu=>qcb fun a an hna hta hia=>qcb fun b bn hnb htb hib=>qfa fun hd=>fun ⟨⟨h1,h2⟩,hok,hokb⟩ => ?_
  subst hu
  rw [qga] at hl
  have hr:=qiu k a
  have hr2:=q9p hr b
  have:=hok.2
  have:=hokb.2
  refine qka qcy 4000 hH (qta [kn,pn,an,bn] [k.row,.row (.lst [a.val 6,b.val 7]),a.row,b.row] [k.val 4,.slice ⟨5,.lit 0⟩ (.lit 2) (.lit 2)]) (qqa hG) (qju _ _ ha hk hp) (Ifc.fits ?_ (qku _ _) (qgb hT ⟨⟨ht _,k.row_uses _⟩,⟨q5b hl ?_,?_⟩,⟨hta _,a.row_uses _⟩,⟨htb _,b.row_uses _⟩,trivial⟩)) [] (by simp) (by simp) (juo k a b) ?_ fun _ _=>qh9 hr2 rfl rfl
  · exact nd4 hd (by simp only [List.mem_cons,List.not_mem_nil,or_false]; rintro x (rfl | rfl | rfl | rfl) <;> assumption)
  · show SV.ImpL _ [(a.val 6).ren _,(b.val 7).ren _]
    rw [Sl.val_ren,Sl.val_ren]
    exact qma hia (qma hib q9b)
  · show ((a.val 6).uses _ && ((b.val 7).uses _ && true))=true
    rw [Sl.val_uses _ _ _ rfl,Sl.val_uses _ _ _ rfl]; rfl
  · exact all_cons (qea _) (all_cons ⟨h1,h2⟩ (q0h (q8p _ (fun _=>0#8)) (by omega) a hok (q0h hr (by omega) b hokb (qdy hr2 (by omega)))))
theorem jzo {O:Nat→Prop} {w0:World} {β:Val} {H:List SO} {w:World} {base:Nat} {kv pv:SV} {vs:List Value} (hH:HeapRel0 Tryz.prog O w0 β H w) (hG:GlobRel q6b β) (ha:SV.denL β [kv,pv]=some vs) (hT:ShaTP H) {k:Sl} {kn pn:Nat}
    (hn:qib kn=true) (ht:∀ g,∃ e',H[kn]? = some e'∧qqb g k.row e') (hk:kv.Imp (k.val kn)) (hn2:qib pn=true) {l:List SV} (hl:qhc (nth H pn)=some l) (hp:qqj pv pn 0 (lenN l)=true) :
    (hmS5 shaF H k kn pn l).Sat (q4a Tryz.prog H β w base 73 vs):=by
  cases l with
  | nil=>trivial
  | cons u r =>
    refine qzm fun v x y z hr0=>qcb fun a an hna hta hia=>qcb fun b bn hnb htb hib=>qcb fun c cn hnc htc hic=>qcb fun d dn hnd htd hid=>qxa (fun hy=>qfa fun hd=>fun ⟨⟨h1,h2⟩,hok,hokb,hokc,hokd⟩ => ?_) fun _ _ _ _=>trivial
    subst hr0
    rw [qga] at hl
    rw [hy] at hl
    have hr:=qiu k a
    have hr2:=q9p hr b
    have hr3:=q9p hr2 c
    have hr4:=jae hr3
    have hr5:=q9p hr4 d
    have:=hok.2
    have:=hokb.2
    have:=hokc.2
    have:=hokd.2
    refine qka qcy 4000 hH (qta [kn,pn,an,bn,cn,dn] [k.row,.row (.lst [a.val 6,b.val 7,c.val 8,.nilSlice,d.val 9]),a.row,b.row,c.row,d.row] [k.val 4,.slice ⟨5,.lit 0⟩ (.lit 5) (.lit 5)]) (qqa hG) (qju _ _ ha hk hp) (Ifc.fits ?_ (qku _ _) (qgb hT ⟨⟨ht _,k.row_uses _⟩,⟨q5b hl ?_,?_⟩,⟨hta _,a.row_uses _⟩,⟨htb _,b.row_uses _⟩,⟨htc _,c.row_uses _⟩,⟨htd _,d.row_uses _⟩,trivial⟩)) [] (by simp) (by simp) (jvo k a b c d) ?_ fun _ _=>qh9 hr5 rfl rfl
    · exact nd4 hd (by simp only [List.mem_cons,List.not_mem_nil,or_false]; rintro x (rfl | rfl | rfl | rfl | rfl | rfl) <;> assumption)
    · show SV.ImpL _ [(a.val 6).ren _,(b.val 7).ren _,(c.val 8).ren _,.nilSlice,(d.val 9).ren _]
      rw [Sl.val_ren,Sl.val_ren,Sl.val_ren,Sl.val_ren]
      exact qma hia (qma hib (qma hic (qma (.refl _) (qma hid q9b))))
    · show ((a.val 6).uses _ && ((b.val 7).uses _ && ((c.val 8).uses _ && (true && ((d.val 9).uses _ && true)))))=true
      rw [Sl.val_uses _ _ _ rfl,Sl.val_uses _ _ _ rfl,Sl.val_uses _ _ _ rfl,Sl.val_uses _ _ _ rfl]; rfl
    · exact all_cons (qea _) (all_cons ⟨h1,h2⟩ (q0h (q8p _ (fun _=>0#8)) (by omega) a hok (q0h hr (by omega) b hokb (q0h hr2 (by omega) c hokc (jbe hr3 (by omega) (q0h hr4 (by omega) d hokd (qdy hr5 (by omega))))))))
theorem hmOK:SumAt Tryz.prog q6b 73 (hmS shaF):=by
  intro O w0 β H w base args vs hH hG ha
  refine qnb fun kv pv hv=>qlc fun hT=>qcb fun k kn hn ht hk=>qja fun pn hpn=>qfa fun hn2=>qja fun l hl=>qfa fun hp => ?_
  rw [hv] at ha
  exact qla (fun _=>jxo hH hG ha hT hn ht hk hn2 hl hp) fun _=>qla (fun _=>jyo hH hG ha hT hn ht hk hn2 hl hp) fun _=>jzo hH hG ha hT hn ht hk hn2 hl hp
end Go.Proofs.YtbmgahpjgefjaaaGreatDoor.Aes
namespace Go.Sim
def qyw (p:Nat→Bool) (g:Nat→Nat) (E:Option SO) (e:SO):Prop:=q4d p g E e∨∃ o,E=some (.obj o)∧o.uses p=true∧e=.obj (o.ren g)
structure Ifc.OutO (I:Ifc) (base:Nat) (turn keep:List Nat) (r:SumRes) (v:SV) (H:List SO):Prop where
  val:(v.ren (I.out base keep)).Imp r.v
  uv:v.uses (I.seen keep)=true
  setsLen:r.sets.length=turn.length
  sets:∀ (i j:Nat),turn[i]? = some j→∃ e,r.sets[i]? = some (I.big j,e)∧q4d (I.seen keep) (I.out base keep) H[j]? e
  newsLen:r.news.length=keep.length
  news:∀ (i j:Nat),keep[i]? = some j→∃ e,r.news[i]? = some e∧qyw (I.seen keep) (I.out base keep) H[j]? e
theorem qz4 {c:Cfg} {O:Nat→Prop} {w0 w:World} {β:Val} {H:List SO} {base:Nat} {f:FuncId} {vs:List Value} (hH:HeapRel0 c.P O w0 β H w)
    (I:Ifc) (hgl:∀ g j,c.glob g=some j→I.known j=true∧∃ l,β (I.big j)=some l∧l.blk=g∧l.off=0) (ha:SV.denL β (SV.renL I.big I.args)=some vs) (hI:I.Fits H) {r:SumRes} (turn keep:List Nat) (ht1:∀ (j:Nat) c w el,I.ents[j]? = some (.own c w el)→j∈turn) (ht2:∀ j∈turn,∃ c w el,I.ents[j]? = some (.own c w el)) (hk:∀ j∈keep,I.names.length≤j) (hkn:keep.Nodup) (htn:turn.Nodup:=by simp)
    (hbody:∃ fn,c.P.funcs[f]? = some fn∧fn.body.isSome=true)
    (hrun:HeapRel c.P (I.owns β) w (I.val β) I.ents w→GlobRel c.glob (I.val β)→SV.denL (I.val β) I.args=some vs→Calls c.P f vs.toArray w (Came c.P (I.owns β) w (I.val β) (I.OutO base turn keep r))):q4a c.P H β w base f vs r:=by
  intro hfree
  have hH':=Ifc.heap hH hI
  have ha':SV.denL (I.val β) I.args=some vs:=by
    rw [SV.denL_ren,SV.denL_uses Ifc.val_known _ hI.uargs] at ha; exact ha
  have hcalls:=hrun hH' (fun g j hg=>let ⟨hk,l,h1,h2⟩:=hgl g j hg; ⟨l,by rw [← Ifc.val_known j hk]; exact h1,h2⟩) ha'
  have hown:∀ j∈turn,∃ cb wb el l vs rest lo hi,H[I.big j]? = some (.own cb wb el)∧β (I.big j)=some l∧I.val β j=some l∧j<I.names.length∧w.heap[l.blk]? = some (.cells (vs++rest:List Value).toArray el (lo,hi)):=by
    intro j hj
    obtain ⟨cc,ww,el,he⟩:=ht2 j hj
    obtain ⟨e,he',ht⟩:=hI.ent j _ he
    obtain ⟨c1,rfl,_⟩:=ht
    obtain ⟨l,vs,rest,lo,hi,hl,_,_,hh,_⟩:=hH.entries _ _ he'
    have hjl:j<I.names.length:=by rw [← hI.len]; exact (List.getElem?_eq_some_iff.1 he).1
    exact ⟨_,_,_,l,vs,rest,lo,hi,he',hl,by rw [← Ifc.val_known j ((I.known_iff j).2 hjl)]; exact hl,hjl,hh⟩
  have hsets:∀ (v:SV) (H'':List SO),I.OutO base turn keep r v H''→∀ m e,(m,e)∈r.sets→∃ j∈turn,m=I.big j∧q4d (I.seen keep) (I.out base keep) H''[j]? e∧∃ i:Nat,turn[i]? = some j∧r.sets[i]? = some (m,e):=by
    intro v H'' hout m e hm
    obtain ⟨i,hi⟩:=List.mem_iff_getElem?.1 hm
    have hil:=(List.getElem?_eq_some_iff.1 hi).1
    rw [hout.setsLen] at hil
    obtain ⟨e',h1,h2⟩:=hout.sets i _ (List.getElem?_eq_getElem hil)
    rw [hi] at h1
    cases h1
    exact ⟨_,List.getElem_mem hil,rfl,h2,i,List.getElem?_eq_getElem hil,hi⟩
  refine ⟨?_,.inl ⟨hbody,?_⟩⟩
  · intro m e hm
    obtain ⟨e',w',fr,hcame,_⟩:=hcalls []
    obtain ⟨v,H'',x,β'',_,hout,_⟩:=hcame
    obtain ⟨j,hj,rfl,_⟩:=hsets v H'' hout m e hm
    obtain ⟨cb,wb,el,l,vs,rest,lo,hi,h1,_⟩:=hown j hj
    exact ⟨_,h1,rfl⟩
  · intro cs
    obtain ⟨e',w',fr,hcame,hst⟩:=hcalls cs
    refine ⟨e',w',fr,?_,hst⟩
    obtain ⟨v,H'',x,β'',rfl,hout,hle,hv,hH2⟩:=hcame
    let βb:Val:=fun n=>if base≤n∧n<base+keep.length then (keep[n - base]?).bind β'' else β n
    have hlenn:r.news.length=keep.length:=hout.newsLen
    have hfree':∀ i,i<keep.length→β (base+i)=none:=fun i hi=>hfree i (by rw [hlenn]; exact hi)
    have hβle:β.le βb:=by
      intro n l hn
      show (if _ then _ else _)=_
      rw [if_neg]
      · exact hn
      · rintro ⟨h1,h2⟩
        have:=hfree' (n - base) (by omega)
        rw [show base+(n - base)=n from by omega,hn] at this; cases this
    have hseen:∀ j,I.seen keep j=true→βb (I.out base keep j)=β'' j:=by
      intro j hj
      unfold Ifc.seen at hj
      unfold Ifc.out
      cases hkn':I.known j with
      | true =>
        rw [boolC_true]
        have hjl:=(I.known_iff j).1 hkn'
        obtain ⟨E,hE⟩:∃ E,I.ents[j]? = some E:=⟨_,List.getElem?_eq_getElem (by rw [hI.len]; exact hjl)⟩
        obtain ⟨e,he,htk⟩:=hI.ent j E hE
        have hsome:∃ l,β (I.big j)=some l:=by
          have h0:=hH.entries _ e he
          have hu:=hI.uent j E hE
          have hplaced:e.placed=true:=by
            cases E with
            | own cc ww el=>obtain ⟨c1,rfl,_⟩:=htk; rfl
            | row cc=>obtain ⟨c1,rfl | ⟨ww,el,rfl⟩,_⟩:=htk <;> rfl
            | loop=>exact hu.elim
            | deferred=>exact hu.elim
            | gone=>exact htk
            | obj=>exact hu.elim
          cases e with
          | own cc ww el=>obtain ⟨l,_,_,_,_,hl,_⟩:=h0; exact ⟨l,hl⟩
          | row cc=>obtain ⟨l,_,hl,_⟩:=h0; exact ⟨l,hl⟩
          | loop=>cases hplaced
          | deferred=>cases hplaced
          | gone=>cases hplaced
          | obj=>cases hplaced
        obtain ⟨l,hl⟩:=hsome
        rw [hβle _ _ hl]
        have:I.val β j=some l:=by rw [← Ifc.val_known j hkn']; exact hl
        rw [hle _ _ this]
      | false =>
        rw [hkn',boolC_false,memN_iff] at hj
        rw [boolC_false]
        have h1:=qym hj
        have h2:=(List.getElem?_eq_some_iff.1 h1).1
        show (if _ then _ else _)=_
        rw [if_pos (by omega),show base+idxN j keep - base=idxN j keep from by omega,h1]; rfl
    have hren0:∀ (j:Nat) (e:SO),q4d (I.seen keep) (I.out base keep) H''[j]? e→I.seen keep j=true→e.owned=true∧OwnRel c.P βb w' (I.out base keep j) e:=by
      intro j e hg hs
      obtain ⟨cc,ww,el,c',he,hu,himp,rfl⟩:=hg
      obtain ⟨l,vs,rest,lo,hi,hl,h0,hcl,hh,hfz,hw,hcap⟩:=hH2.entries j _ he
      exact ⟨rfl,l,vs,rest,lo,hi,(hseen j hs).trans hl,h0,himp _ _ ((CellsRel.ren hu hseen).2 hcl),hh,hfz,hw,hcap⟩
    have hrenOwn:∀ (j:Nat) (e:SO),qyw (I.seen keep) (I.out base keep) H''[j]? e→I.seen keep j=true→e.owned=true∧OwnRel c.P βb w' (I.out base keep j) e:=by
      intro j e hg hs
      rcases hg with hg | ⟨o,he,hu,rfl⟩
      · exact hren0 j e hg hs
      · obtain ⟨l,y,hl,h0,hd,hh⟩:=hH2.entries j _ he
        exact ⟨rfl,l,y,(hseen j hs).trans hl,h0,by rw [SObj.den_ren,SObj.den_uses (β:=fun n=>βb (I.out base keep n)) (β':=β'') hseen hu]; exact hd,hh⟩
    have hatJ:∀ (j:Nat) (e:SO),qyw (I.seen keep) (I.out base keep) H''[j]? e→∃ e0 l,H''[j]? = some e0∧e0.owned=true∧β'' j=some l:=by
      intro j e hg
      rcases hg with ⟨cc,ww,el,c',he,_⟩ | ⟨o,he,_⟩
      · obtain ⟨l,vs2,rest,lo,hi2,hl,_⟩:=hH2.entries j _ he
        exact ⟨_,l,he,rfl,hl⟩
      · obtain ⟨l,y,hl,_⟩:=hH2.entries j _ he
        exact ⟨_,l,he,rfl,hl⟩
    have hseenT:∀ j∈turn,I.seen keep j=true∧I.out base keep j=I.big j:=by
      intro j hj
      obtain ⟨_,_,_,_,_,_,_,_,_,_,_,hjl,_⟩:=hown j hj
      have:=(I.known_iff j).2 hjl
      unfold Ifc.seen Ifc.out
      rw [this]; exact ⟨rfl,rfl⟩
    have hseenK:∀ j∈keep,I.seen keep j=true∧I.known j=false:=by
      intro j hj
      have hnk:I.known j=false:=by
        cases hx:I.known j with
        | false=>rfl
        | true=>have:=(I.known_iff j).1 hx; have:=hk j hj; omega
      unfold Ifc.seen
      rw [hnk]; exact ⟨qwm hj,rfl⟩
    have hnewsAt:∀ (i:Nat) (e:SO),r.news[i]? = some e→∃ j,keep[i]? = some j∧qyw (I.seen keep) (I.out base keep) H''[j]? e:=by
      intro i e hi
      have hil:=(List.getElem?_eq_some_iff.1 hi).1
      rw [hlenn] at hil
      obtain ⟨e',h1,h2⟩:=hout.news i _ (List.getElem?_eq_getElem hil)
      rw [hi] at h1; cases h1
      exact ⟨_,List.getElem?_eq_getElem hil,h2⟩
    refine ⟨x,βb,rfl,?_,⟨hβle,hH2.keep.os,hH2.keep.tape,hH2.keep.output,hH2.keep.size,?_,?_,?_,?_,?_,?_⟩⟩
    · refine hout.val _ _ ?_
      rw [SV.den_ren,SV.den_uses hseen _ hout.uv]; exact hv
    · intro n hn
      rw [hlenn] at hn
      show (if _ then _ else _)=_
      rw [if_neg (by omega)]
    · intro b hb hno
      refine hH2.keep.block b hb ?_
      rintro ⟨j,cc,ww,el,l,hj,hl,rfl⟩
      have hjt:=ht1 j cc ww el hj
      obtain ⟨i,hi⟩:=List.mem_iff_getElem?.1 hjt
      obtain ⟨e,he,_⟩:=hout.sets i j hi
      exact hno (I.big j) e l (List.mem_of_getElem? he) hl rfl
    · intro m e e' h1 h2
      obtain ⟨j,hj,hm1,hg1,i1,ht1',hs1⟩:=hsets v H'' hout m e h1
      obtain ⟨k,hk',hm2,hg2,i2,ht2',hs2⟩:=hsets v H'' hout m e' h2
      obtain ⟨_,_,_,_,_,_,_,_,_,_,_,hjl,_⟩:=hown j hj
      obtain ⟨_,_,_,_,_,_,_,_,_,_,_,hkl,_⟩:=hown k hk'
      have hjk:k=j:=hI.nodup k j (I.big k) (Ifc.big_get hkl) (by rw [← hm2,hm1]; exact Ifc.big_get hjl)
      subst hjk
      have:i1=i2:=(List.getElem?_inj (List.getElem?_eq_some_iff.1 ht1').1 htn).1 (ht1'.trans ht2'.symm)
      subst this
      rw [hs1] at hs2
      exact (Prod.mk.inj (Option.some.inj hs2)).2
    · intro m e hm
      obtain ⟨j,hj,rfl,hg,_⟩:=hsets v H'' hout m e hm
      obtain ⟨hs,hb⟩:=hseenT j hj
      rw [← hb]
      exact (hren0 j e hg hs).2
    · intro i e hi
      obtain ⟨j,hj,hg⟩:=hnewsAt i e hi
      have hjm:=List.mem_of_getElem? hj
      obtain ⟨hs,hnk⟩:=hseenK j hjm
      have hout':I.out base keep j=base+i:=by
        unfold Ifc.out
        rw [hnk,boolC_false]
        have h1:=qym hjm
        have:idxN j keep=i:=(List.getElem?_inj (List.getElem?_eq_some_iff.1 h1).1 hkn).1 (h1.trans hj.symm)
        rw [this]
      obtain ⟨ho,hor⟩:=hrenOwn j e hg hs
      refine ⟨ho,hout'▸hor,?_⟩
      obtain ⟨e0,l,he,he0,hl⟩:=hatJ j e hg
      refine ⟨l,by rw [← hout',hseen j hs]; exact hl,.inl ?_⟩
      rcases hH2.fresh j _ l he he0 hl with h1 | ⟨k,ck,wk,ek,lk,hk1,hk2,hk3⟩
      · exact h1
      · exfalso
        have hkt:=ht1 k ck wk ek hk1
        obtain ⟨i3,hi3⟩:=List.mem_iff_getElem?.1 hkt
        obtain ⟨_,_,c2,w2,e2,_,he2,_⟩:=hout.sets i3 k hi3
        obtain ⟨_,_,_,l2,_,_,_,_,_,hb2,hv2,hkl,_⟩:=hown k hkt
        rw [hb2] at hk2; cases hk2
        refine hH2.sep k j _ _ lk l he2 he rfl he0 ?_ (hle _ _ hv2) hl hk3
        have:=hk j hjm; omega
    · intro i j l l' hij hi hj hl hl'
      rw [hlenn] at hi hj
      have hone:∀ i,i<keep.length→∀ l,βb (base+i)=some l→∃ k,keep[i]? = some k∧β'' k=some l:=by
        intro i hi l hl
        have hl:(if base≤base+i∧base+i<base+keep.length then (keep[base+i - base]?).bind β'' else β (base+i))=some l:=hl
        rw [if_pos (by omega),show base+i - base=i from by omega,List.getElem?_eq_getElem hi] at hl
        exact ⟨_,List.getElem?_eq_getElem hi,hl⟩
      obtain ⟨k1,hk1,hb1⟩:=hone i hi l hl
      obtain ⟨k2,hk2,hb2⟩:=hone j hj l' hl'
      obtain ⟨n1,_,hg1⟩:=hout.news i k1 hk1
      obtain ⟨n2,_,hg2⟩:=hout.news j k2 hk2
      obtain ⟨e1,_,he1,ho1,_⟩:=hatJ k1 n1 hg1
      obtain ⟨e2,_,he2,ho2,_⟩:=hatJ k2 n2 hg2
      refine hH2.sep k1 k2 _ _ l l' he1 he2 ho1 ho2 (fun h => ?_) hb1 hb2
      subst h
      exact hij ((List.getElem?_inj (List.getElem?_eq_some_iff.1 hk1).1 hkn).1 (hk1.trans hk2.symm))
theorem qi9 {c:Cfg} (hc:CfgOK c) {n:Nat} {O:Nat→Prop} {w0 w:World} {β:Val} {H:List SO} {base:Nat} {f:FuncId} {vs:List Value} (hH:HeapRel0 c.P O w0 β H w)
    (I:Ifc) (hgl:∀ g j,c.glob g=some j→I.known j=true∧∃ l,β (I.big j)=some l∧l.blk=g∧l.off=0) (ha:SV.denL β (SV.renL I.big I.args)=some vs) (hI:I.Fits H) {r:SumRes} (turn keep:List Nat) (ht1:∀ (j:Nat) c w el,I.ents[j]? = some (.own c w el)→j∈turn) (ht2:∀ j∈turn,∃ c w el,I.ents[j]? = some (.own c w el)) (hk:∀ j∈keep,I.names.length≤j) (hkn:keep.Nodup) (htn:turn.Nodup:=by simp)
    (hob:(qca c n f I.args I.ents).Ob (I.OutO base turn keep r) fun _=>False):q4a c.P H β w base f vs r:=by
  refine qz4 hH I hgl ha hI turn keep ht1 ht2 hk hkn htn ?_ fun hH' hG ha'=>q7t hc hH' hG ha' hob
  unfold qca at hob
  cases hg:q1g c.P f I.args with
  | none=>rw [hg] at hob; exact hob.elim
  | some g=>exact qjn hg
end Go.Sim
namespace Go.Proofs.YtbmgahpjgefjaaaGreatDoor.Aes
open Go.Sim
open Go.Proofs
variable {α:Type}
set_option maxRecDepth 100000
noncomputable def qj9 (args:List SV) (r:R α):R α:=List.rec (motive:=fun _=>R α) r (fun _ _ _=>.stuck 700) args
theorem qpz {args:List SV} {r:R α} {φ:α→Prop} (h:args=[]→r.Sat φ):(qj9 args r).Sat φ:=by
  cases args with
  | nil=>exact h rfl
  | cons=>trivial
noncomputable def esOf (t:Tree):List (SV × SV × Nat):=Tree.rec (motive:=fun _=>List (SV × SV × Nat)) (fun _ H=>match H with | [.obj (.map es _)]=>es | _=>[]) (fun _=>[]) (fun _ _ ih=>ih) (fun _ _ _ a _=>a) (fun _=>[]) (fun _ ih=>ih fun _=>0) t
noncomputable def kindsT:Tree:=qca cfg0 400 50 [] []
noncomputable def q7j:List (SV × SV × Nat):=esOf kindsT
theorem jce:outP [0] kindsT=([],some (.map 0,[some (.obj (.map q7j 2))])):=by kernel_rfl
theorem jde (g:Nat→Nat):(SObj.map q7j 2).ren g=.map q7j 2:=by kernel_rfl
theorem qk9 (p:Nat→Bool):(SObj.map q7j 2).uses p=true:=by kernel_rfl
noncomputable def qk3:Summ:=fun args _ base=>qj9 args (.ok ⟨.map base,[],[.obj (.map q7j 2)]⟩)
theorem q95:q2a Tryz.prog 50 qk3:=by
  intro glob O w0 β H w base args vs hH hG ha
  refine qpz fun hv => ?_
  rw [hv] at ha
  refine qi9 q3c hH ⟨[],[],[]⟩ (fun g j h=>by cases h) ha (qgd rfl) [] [0] (fun j c w el h=>by simp at h) (fun j h=>by cases h) (fun j h=>Nat.zero_le _) (by simp) (by simp)
    (qkp jce fun H2 hH2=>⟨SV.imp_of_eq rfl,rfl,rfl,fun i j h=>by simp at h,rfl,fun i j h => ?_⟩)
  match i,h with
  | 0,h =>
    cases h
    exact ⟨_,rfl,.inr ⟨.map q7j 2,(List.cons.inj hH2).1,qk9 _,by rw [jde]⟩⟩
end Go.Proofs.YtbmgahpjgefjaaaGreatDoor.Aes
namespace Go.Proofs.YtbmgahpjgefjaaaGreatDoor.Aes
open Go.Sim
open Go.Proofs
variable {α:Type}
set_option maxRecDepth 1000000
noncomputable def cfgF:Cfg:=qie (qbb [(50,qk3)])
theorem q0r:CfgOK cfgF:=q8b (all1 q95)
noncomputable def fdK (p v:Int) (s:SV):SV:=.agg [.int .i64 (.sym p),.int .i64 (.sym v),s]
noncomputable def fdT (p v:Int) (o l m:Nat):Tree:=qca cfgF 400 48 [fdK p v (.slice ⟨0,.sym o⟩ (.sym l) (.sym m))] [.gone]
noncomputable def fdN (p v:Int):Tree:=qca cfgF 400 48 [fdK p v .nilSlice] []
noncomputable def jrl (i:Nat):SV:=optC (nth q7j i) q9a fun e=>e.2.1.asAgg q9a fun l=>optC (nth l 0) q9a fun v=>v
noncomputable def fnV (f:FuncId):SV:=.func (.fn (.func f)) [] []
noncomputable def iL (n:Int):SV:=.int .i64 (.lit n)
noncomputable def kv1:SV:=.agg [jrl 0,iL 16,iL 16,iL 16,iL 16,fnV 67,fnV 68,fnV 69]
noncomputable def kv2:SV:=.agg [jrl 1,iL 32,iL 16,iL 32,iL 32,fnV 70,fnV 71,fnV 72]
noncomputable def kv0:SV:=optC (outO [] (qca cfgF 400 48 [.agg [iL 3,iL 0,.nilSlice]] []) []).2 q9a fun r=>SV.rec (motive_1:=fun _=>SV) (motive_2:=fun _=>Unit) (fun _ _=>q9a) (fun _=>q9a) (fun _=>q9a) (fun _=>q9a) q9a (fun _ _ _=>q9a) q9a (fun _=>q9a) q9a (fun _ _ _ _ _=>q9a) q9a (fun _ _ _=>q9a) q9a (fun _ _=>q9a) (fun l _=>optC (nth l 0) q9a fun v=>v) (fun _=>q9a) (fun _ _ _ _=>q9a) () (fun _ _ _ _=>()) r.1
noncomputable def fdV (k:SV) (b:SB):Option (SV × List (Option SO)):=some (.tuple [k,.bool b],[])
section
variable (p v:Int) (o l m:Nat)
theorem j0o:outO [] (fdT p v o l m) [false,false]=([(p == 1)=false,(p == 2)=false],fdV kv0 (.lit false)):=by kernel_rfl
theorem j1o:outO [] (fdT p v o l m) [true,false,false,false,false]=([(p == 1)=true,((l:Int) == 16)=false,((l:Int) == 16)=false,((l:Int) == 16)=false,((l:Int) == 16)=false],fdV kv1 (.lit false)):=by kernel_rfl
theorem j2o:outO [] (fdT p v o l m) [true,true,false,false,false,false]=([(p == 1)=true,((l:Int) == 16)=true,decide (v≥0)=false,decide (v≥0)=false,decide (v≥0)=false,decide (v≥0)=false],fdV kv1 (.lit false)):=by kernel_rfl
theorem jee:outO [] (fdT p v o l m) [true,true,true]=([(p == 1)=true,((l:Int) == 16)=true,decide (v≥0)=true],fdV kv1 (.sym (decide (v≤65535)))):=by kernel_rfl
theorem j3o:outO [] (fdT p v o l m) [false,true,false,false,false,false]=([(p == 1)=false,(p == 2)=true,((l:Int) == 32)=false,((l:Int) == 32)=false,((l:Int) == 32)=false,((l:Int) == 32)=false],fdV kv2 (.lit false)):=by kernel_rfl
theorem j4o:outO [] (fdT p v o l m) [false,true,true,false,false,false,false]=([(p == 1)=false,(p == 2)=true,((l:Int) == 32)=true,decide (v≥0)=false,decide (v≥0)=false,decide (v≥0)=false,decide (v≥0)=false],fdV kv2 (.lit false)):=by kernel_rfl
theorem jfe:outO [] (fdT p v o l m) [false,true,true,true]=([(p == 1)=false,(p == 2)=true,((l:Int) == 32)=true,decide (v≥0)=true],fdV kv2 (.sym (decide (v≤65535)))):=by kernel_rfl
theorem j5o:outO [] (fdN p v) [false,false]=([(p == 1)=false,(p == 2)=false],fdV kv0 (.lit false)):=by kernel_rfl
theorem j6o:outO [] (fdN p v) [true]=([(p == 1)=true],fdV kv1 (.lit false)):=by kernel_rfl
theorem j7o:outO [] (fdN p v) [false,true]=([(p == 1)=false,(p == 2)=true],fdV kv2 (.lit false)):=by kernel_rfl
end
end Go.Proofs.YtbmgahpjgefjaaaGreatDoor.Aes
namespace Go.Proofs.YtbmgahpjgefjaaaGreatDoor.Aes
open Go.Sim
open Go.Proofs
variable {α:Type}
set_option maxRecDepth 100000
noncomputable def isI (x:SI) (n:Int) (t f:R α):R α:=x.asLit (.fork (x.den == n) t f) fun a=>boolC (eqI a n) t f
theorem qzc {x:SI} {n:Int} {t f:R α} {φ:α→Prop} (h:x.den=n→t.Sat φ) (h':x.den≠n→f.Sat φ):(isI x n t f).Sat φ:=by
  unfold isI
  cases x with
  | lit m =>
    refine qla (fun hm=>h (qem hm)) fun hm=>h' fun e => ?_
    have e:m=n:=e
    subst e
    rw [qki] at hm
    simp at hm
  | sym m=>exact ⟨fun hm=>h (by simpa using hm),fun hm=>h' (by simpa using hm)⟩
  | b8 m=>exact ⟨fun hm=>h (by simpa using hm),fun hm=>h' (by simpa using hm)⟩
  | b32 m=>exact ⟨fun hm=>h (by simpa using hm),fun hm=>h' (by simpa using hm)⟩
  | b64 m=>exact ⟨fun hm=>h (by simpa using hm),fun hm=>h' (by simpa using hm)⟩
noncomputable def leI (n:Int) (x:SI) (t f:R α):R α:=x.asLit (.fork (decide (n≤x.den)) t f) fun a=>boolC (decide (n≤a)) t f
theorem qul {x:SI} {n:Int} {t f:R α} {φ:α→Prop} (h:n≤x.den→t.Sat φ) (h':¬ n≤x.den→f.Sat φ):(leI n x t f).Sat φ:=by
  unfold leI
  cases x with
  | lit m=>exact qla (fun hm=>h (of_decide_eq_true hm)) fun hm=>h' (of_decide_eq_false hm)
  | sym m=>exact ⟨fun hm=>h (of_decide_eq_true hm),fun hm=>h' (of_decide_eq_false hm)⟩
  | b8 m=>exact ⟨fun hm=>h (of_decide_eq_true hm),fun hm=>h' (of_decide_eq_false hm)⟩
  | b32 m=>exact ⟨fun hm=>h (of_decide_eq_true hm),fun hm=>h' (of_decide_eq_false hm)⟩
  | b64 m=>exact ⟨fun hm=>h (of_decide_eq_true hm),fun hm=>h' (of_decide_eq_false hm)⟩
noncomputable def i64O (v:SV) (f:SI→R α):R α:=v.asInt (.stuck 781) fun k x=>boolC (eqK k .i64) (f x) (.stuck 781)
theorem q7a {v:SV} {f:SI→R α} {φ:α→Prop} (h:∀ x,v=.int .i64 x→(f x).Sat φ):(i64O v f).Sat φ:=by
  unfold i64O
  rcases qtc v with ⟨k,x,rfl⟩ | hv
  · refine qfa fun hk=>h x ?_
    rw [q3f hk]
  · rw [hv]; trivial
noncomputable def fdR (k:SV) (b:Bool):R SumRes:=.ok ⟨.tuple [k,.bool (.lit b)],[],[]⟩
noncomputable def fdOne (k:SV) (n:Nat) (l:SN) (v:SI):R SumRes:=qnd l n (leI 0 v (isLe v 65535 (fdR k true) (fdR k false)) (fdR k false)) (fdR k false)
where isLe (x:SI) (n:Int) (t f:R SumRes):R SumRes:=x.asLit (.fork (decide (x.den≤n)) t f) fun a=>boolC (decide (a≤n)) t f
theorem q8j {x:SI} {n:Int} {t f:R SumRes} {φ:SumRes→Prop} (h:x.den≤n→t.Sat φ) (h':¬ x.den≤n→f.Sat φ):(fdOne.isLe x n t f).Sat φ:=by
  unfold fdOne.isLe
  cases x with
  | lit m=>exact qla (fun hm=>h (of_decide_eq_true hm)) fun hm=>h' (of_decide_eq_false hm)
  | sym m=>exact ⟨fun hm=>h (of_decide_eq_true hm),fun hm=>h' (of_decide_eq_false hm)⟩
  | b8 m=>exact ⟨fun hm=>h (of_decide_eq_true hm),fun hm=>h' (of_decide_eq_false hm)⟩
  | b32 m=>exact ⟨fun hm=>h (of_decide_eq_true hm),fun hm=>h' (of_decide_eq_false hm)⟩
  | b64 m=>exact ⟨fun hm=>h (of_decide_eq_true hm),fun hm=>h' (of_decide_eq_false hm)⟩
noncomputable def ql9:Summ:=fun args H _=>qfd args fun k=>k.asAgg (.stuck 782) fun l=>qmc l fun p v s=>i64O p fun p=>i64O v fun v =>
  qob s (isI p 1 (fdR kv1 false) (isI p 2 (fdR kv2 false) (fdR kv0 false))) fun a l=>boolC (qqc (nth H a.nm)) (isI p 1 (fdOne kv1 16 l v) (isI p 2 (fdOne kv2 32 l v) (fdR kv0 false))) (.stuck 783)
theorem q9e (g:Nat→Nat) (p:Nat→Bool):(kv0.ren g=kv0∧kv0.uses p=true)∧(kv1.ren g=kv1∧kv1.uses p=true)∧(kv2.ren g=kv2∧kv2.uses p=true):=⟨⟨by kernel_rfl,by kernel_rfl⟩,⟨by kernel_rfl,by kernel_rfl⟩,⟨by kernel_rfl,by kernel_rfl⟩⟩
theorem qm9 {I:Ifc} {base:Nat} {k:SV} {b:SB} {c:Bool} (ho:q7b I.ents 0=[]) (hk:∀ g p,k.ren g=k∧k.uses p=true) (hb:b.den=c) (H:List SO):I.Ends base [] ⟨.tuple [k,.bool (.lit c)],[],[]⟩ (.tuple [k,.bool b]) H:=by
  refine ⟨?_,?_,by rw [ho]; trivial,trivial⟩
  · show (SV.tuple [k.ren _,.bool b]).Imp _
    rw [(hk _ (fun _=>true)).1]
    intro γ x hx
    subst hb
    cases b with
    | lit b=>exact hx
    | sym b=>exact hx
  · show (k.uses _ && (true && true))=true
    rw [(hk (fun n=>n) _).2]; rfl
theorem jge:q2a Tryz.prog 48 ql9:=by
  intro glob O w0 β H w base args vs hH hG ha
  refine qtb fun k hv => ?_
  rcases quc k with ⟨l,rfl⟩ | hno
  case inr=>rw [hno]; trivial
  refine qab fun p v s hl=>q7a fun p' hp=>q7a fun v' hv' => ?_
  subst hl hp hv'
  rw [hv] at ha
  have h0:=fun g p=>(q9e g p).1
  have h1:=fun g p=>(q9e g p).2.1
  have h2:=fun g p=>(q9e g p).2.2
  refine qxa (fun hn => ?_) fun a len c hs=>qfa fun hpl => ?_
  · subst hn
    have ha':SV.denL β [fdK p'.den v'.den .nilSlice]=some vs:=q0m ha (q6j (qma (qoa rfl) (qma (qoa rfl) (qma (.refl _) q9b))))
    have key:∀ {ds cs k},outO [] (fdN p'.den v'.den) ds=(cs,fdV k (.lit false))→(∀ q∈cs,q)→(∀ g p,k.ren g=k∧k.uses p=true)→q4a Tryz.prog H β w base 48 vs ⟨.tuple [k,.bool (.lit false)],[],[]⟩:=by
      intro ds cs k hr hc hk
      exact qvb q0r rfl 400 hH ⟨[],[],[fdK p'.den v'.den .nilSlice]⟩ ha' (qgd rfl) [] (by simp) (by simp) hr hc fun H2 _=>qm9 (b:=.lit false) (c:=false) rfl hk rfl H2
    refine qzc (fun hp => ?_) fun hp=>qzc (fun hp2 => ?_) fun hp2 => ?_
    · exact key (j6o p'.den v'.den) (all_cons (by simp [hp]) qba) h1
    · exact key (j7o p'.den v'.den) (all_cons (by simp [hp]) (all_cons (by simp [hp2]) qba)) h2
    · exact key (j5o p'.den v'.den) (all_cons (by simp [hp]) (all_cons (by simp [hp2]) qba)) h0
  · subst hs
    obtain ⟨x,ys,hx,hys,rfl⟩:=denL_cons.1 ha
    simp only [SV.den,SV.denL,Option.map_eq_some_iff,Option.bind_eq_some_iff] at hx
    obtain ⟨us,⟨u1,hu1,us1,⟨u2,hu2,us2,⟨u3,hu3,us3,hus3,rfl⟩,rfl⟩,rfl⟩,rfl⟩:=hx
    have hu3':(SV.slice a len c).den β=some u3:=by simpa only [SV.den,Option.bind_eq_some_iff] using hu3
    obtain ⟨m,hlm,hd,_,_⟩:=q8a hu3'
    have ha':SV.denL β [fdK p'.den v'.den (.slice ⟨a.nm,.sym a.off.den⟩ (.sym len.den) (.sym m))]=some (.agg (u1::u2::u3::us3).toArray::ys):=by
      refine denL_cons.2 ⟨_,_,?_,hys,rfl⟩
      show (SV.agg _).den β=_
      rw [SV.den]
      simp only [Option.map_eq_some_iff]
      exact ⟨_,denL_cons.2 ⟨u1,_,hu1,denL_cons.2 ⟨u2,_,hu2,denL_cons.2 ⟨u3,_,hd,hus3,rfl⟩,rfl⟩,rfl⟩,rfl⟩
    have key:∀ {ds cs k b c},outO [] (fdT p'.den v'.den a.off.den len.den m) ds=(cs,fdV k b)→(∀ q∈cs,q)→(∀ g p,k.ren g=k∧k.uses p=true)→b.den=c→q4a Tryz.prog H β w base 48 (.agg (u1::u2::u3::us3).toArray::ys) ⟨.tuple [k,.bool (.lit c)],[],[]⟩:=by
      intro ds cs k b c hr hc hk hb
      refine qvb q0r rfl 400 hH ⟨[a.nm],[.gone],[fdK p'.den v'.den (.slice ⟨0,.sym a.off.den⟩ (.sym len.den) (.sym m))]⟩ ha' (Ifc.fits (by simp) rfl ⟨⟨?_,trivial⟩,trivial⟩) [] (by simp) (by simp) hr hc fun H2 _=>qm9 rfl hk hb H2
      have:=qve (f:=(Ifc.big ⟨[a.nm],[.gone],[fdK p'.den v'.den (.slice ⟨0,.sym a.off.den⟩ (.sym len.den) (.sym m))]⟩)) hpl
      rw [qga] at this
      exact this
    have f4:∀ {q:Prop},q→∀ p∈[q,q,q,q],p:=fun h=>all_cons h (all_cons h (all_cons h (all_cons h qba)))
    refine qzc (fun hp => ?_) fun hp=>qzc (fun hp2 => ?_) fun hp2 => ?_
    · refine qwb (fun hl=>qul (fun hg=>q8j (fun hle => ?_) fun hle => ?_) fun hg => ?_) fun hl => ?_
      · exact key (jee p'.den v'.den a.off.den len.den m) (all_cons (by simp [hp]) (all_cons (by simp [hl]) (all_cons (decide_eq_true hg) qba))) h1 (decide_eq_true hle)
      · exact key (jee p'.den v'.den a.off.den len.den m) (all_cons (by simp [hp]) (all_cons (by simp [hl]) (all_cons (decide_eq_true hg) qba))) h1 (decide_eq_false hle)
      · exact key (j2o p'.den v'.den a.off.den len.den m) (all_cons (by simp [hp]) (all_cons (by simp [hl]) (f4 (decide_eq_false hg)))) h1 rfl
      · exact key (j1o p'.den v'.den a.off.den len.den m) (all_cons (by simp [hp]) (f4 (by rw [beq_eq_false_iff_ne]; omega))) h1 rfl
    · refine qwb (fun hl=>qul (fun hg=>q8j (fun hle => ?_) fun hle => ?_) fun hg => ?_) fun hl => ?_
      · exact key (jfe p'.den v'.den a.off.den len.den m) (all_cons (by simp [hp]) (all_cons (by simp [hp2]) (all_cons (by simp [hl]) (all_cons (decide_eq_true hg) qba)))) h2 (decide_eq_true hle)
      · exact key (jfe p'.den v'.den a.off.den len.den m) (all_cons (by simp [hp]) (all_cons (by simp [hp2]) (all_cons (by simp [hl]) (all_cons (decide_eq_true hg) qba)))) h2 (decide_eq_false hle)
      · exact key (j4o p'.den v'.den a.off.den len.den m) (all_cons (by simp [hp]) (all_cons (by simp [hp2]) (all_cons (by simp [hl]) (f4 (decide_eq_false hg))))) h2 rfl
      · exact key (j3o p'.den v'.den a.off.den len.den m) (all_cons (by simp [hp]) (all_cons (by simp [hp2]) (f4 (by rw [beq_eq_false_iff_ne]; omega)))) h2 rfl
    · exact key (j0o p'.den v'.den a.off.den len.den m) (all_cons (by simp [hp]) (all_cons (by simp [hp2]) qba)) h0 rfl
end Go.Proofs.YtbmgahpjgefjaaaGreatDoor.Aes
namespace Go.Proofs.YtbmgahpjgefjaaaGreatDoor.Aes
open Go.Sim
open Go.Proofs
variable {α:Type}
set_option maxRecDepth 100000
noncomputable def num4 (u:Int):List (BitVec 8):=[BitVec.ofInt 8 (u.fdiv (2 ^ 24)),BitVec.ofInt 8 (u.fdiv (2 ^ 16)),BitVec.ofInt 8 (u.fdiv (2 ^ 8)),BitVec.ofInt 8 u]
noncomputable def numS:Summ:=fun args _ base=>qfd args fun v=>i64O v fun x=>.ok ⟨.slice ⟨base,.lit 0⟩ (.lit 4) (.lit 4),[],[.own (.lst (bx (num4 x.den))) true 5]⟩
theorem qn9 {f:FuncId} (hrun:∀ u:Int,outO [0] (qca cfg0 400 f [.int .i64 (.sym u)] []) []=([],some (.slice ⟨0,.lit 0⟩ (.lit 4) (.lit 4),[some (.own (.lst (bx (num4 u))) true 5)]))):q2a Tryz.prog f numS:=by
  intro glob O w0 β H w base args vs hH hG ha
  refine qtb fun v hv=>q7a fun x hx => ?_
  subst hx
  rw [hv] at ha
  exact qvb q3c rfl 400 hH ⟨[],[],[.int .i64 (.sym x.den)]⟩ (q0m ha (qoa rfl)) (qgd rfl) [0] (by simp) (by simp) (hrun x.den) qba fun H2 hH2=>⟨SV.imp_of_eq rfl,rfl,trivial,⟨qbc (List.cons.inj hH2).1 (qed _ _) (by show SO.own (.lst (SV.renL _ (bx _))) _ _=_; rw [q7d]),trivial⟩⟩
theorem qzw:q2a Tryz.prog 61 numS:=qn9 fun u=>by kernel_rfl
theorem jot:q2a Tryz.prog 83 numS:=qn9 fun u=>by kernel_rfl
noncomputable def Sl.valN (s:Sl) (nm n:Nat):SV:=.slice ⟨nm,.sym s.o⟩ (.lit n) (boolC s.b (.rest nm s.k) (.sym s.k))
noncomputable def qhi (H:List SO) (v:SV) (f:Sl→Nat→Nat→R α):R α:=v.asSlice (.stuck 770) fun a l c=>l.asLit (.stuck 788) fun n=>optC (capL a.nm c) (.stuck 771) fun bk=>boolC (qib a.nm) (q3b (nth H a.nm) fun X N=>f ⟨X,N,a.off.den,n,bk.1,bk.2⟩ a.nm n) (.stuck 772)
theorem q2e {H:List SO} {v:SV} {f:Sl→Nat→Nat→R α} {φ:α→Prop} (h:∀ t nm n,qib nm=true→(∀ g,∃ e',H[nm]? = some e'∧qqb g t.row e')→v.Imp (t.valN nm n)→t.n=n→(f t nm n).Sat φ):(qhi H v f).Sat φ:=by
  unfold qhi
  rcases asSlice_cases v with ⟨a,l,c,rfl⟩ | hv
  · cases l with
    | sym n=>trivial
    | byt o x=>trivial
    | lit n =>
      refine qja fun bk hbk=>qfa fun hn=>q3a fun X N ht=>h ⟨X,N,a.off.den,n,bk.1,bk.2⟩ a.nm n hn (fun g=>by rw [← qga]; exact ht g) (fun γ x hx => ?_) rfl
      rw [qpa] at hx
      obtain ⟨A,C,hA,hC,hle,rfl⟩:=hx
      rw [show (Sl.valN ⟨X,N,a.off.den,n,bk.1,bk.2⟩ a.nm n)=.slice ⟨a.nm,.sym a.off.den⟩ (.lit n) (boolC bk.1 (.rest a.nm bk.2) (.sym bk.2)) from rfl,qpa]
      exact ⟨A,C,hA,by rw [← qhu hbk]; exact hC,hle,rfl⟩
  · rw [hv]; trivial
theorem Sl.valN_ren (t:Sl) (f:Nat→Nat) (nm n:Nat):(t.valN nm n).ren f=t.valN (f nm) n:=by
  unfold Sl.valN
  cases t.b <;> rfl
theorem Sl.valN_uses (t:Sl) (p:Nat→Bool) (nm n:Nat) (h:p nm=true):(t.valN nm n).uses p=true:=by
  unfold Sl.valN
  cases t.b with
  | false=>show p nm && true=true; rw [h]; rfl
  | true=>show (p nm && p nm)=true; rw [h]; rfl
noncomputable def joT (a b:Sl):Tree:=qca cfg0 4000 39 [.slice ⟨0,.lit 0⟩ (.lit 2) (.lit 2)] [.row (.lst [a.val 1,b.val 2]),a.row,b.row]
noncomputable def qgf (nm n:Nat):SV:=.slice ⟨nm,.lit 0⟩ (.sym n) (.rest nm 0)
noncomputable def jsl (a b:Sl):Nat→BitVec 8:=catF (fun i=>a.X (a.o+(0+i))) a.n b.F
theorem j1h (a b:Sl):outO [4] (joT a b) [false]=([a.o+a.n≤a.N,decide (a.n=0)=false,((a.n * 1<70368744177664∧a.n<70368744177664)∧1=1),(b.o+b.n≤b.N∧IsB (qda b.X)),(0+a.n≤a.n∧IsB (fun i=>qda a.X (a.o+i))),(((a.n+b.n) * 1<70368744177664∧a.n+b.n<70368744177664)∧1=1)],
  some (qgf 4 (a.n+b.n),[some (.own (.fn (qda (jsl a b)) (a.n+b.n)) false 5)])):=by kernel_rfl
noncomputable def joN (a:Sl):Tree:=qca cfg0 4000 39 [.slice ⟨0,.lit 0⟩ (.lit 2) (.lit 2)] [.row (.lst [a.val 1,.nilSlice]),a.row]
noncomputable def jo1 (a:Sl):Tree:=qca cfg0 4000 39 [.slice ⟨0,.lit 0⟩ (.lit 1) (.lit 1)] [.row (.lst [a.val 1]),a.row]
noncomputable def qhd (a:Sl):Nat→BitVec 8:=fun i=>a.X (a.o+i)
noncomputable def jtl (a:Sl):Nat→BitVec 8:=catF (fun i=>a.X (a.o+(0+i))) a.n (fun _=>0#8)
theorem j2h (a:Sl):outO [3] (joN a) [false]=([a.o+a.n≤a.N,decide (a.n=0)=false,((a.n * 1<70368744177664∧a.n<70368744177664)∧1=1),(0+a.n≤a.n∧IsB (fun i=>qda a.X (a.o+i))),(((a.n+0) * 1<70368744177664∧a.n+0<70368744177664)∧1=1)],
  some (qgf 3 (a.n+0),[some (.own (.fn (qda (jtl a)) (a.n+0)) false 5)])):=by kernel_rfl
theorem j3h (a:Sl):outO [2] (jo1 a) [false]=([a.o+a.n≤a.N,decide (a.n=0)=false,((a.n * 1<70368744177664∧a.n<70368744177664)∧1=1)],some (qgf 2 a.n,[some (.own (.fn (qda (qhd a)) a.n) false 5)])):=by kernel_rfl
theorem jhe (a:Sl):outO [] (jo1 a) [true]=([a.o+a.n≤a.N,decide (a.n=0)=true,1=1],some (.nilSlice,[])):=by kernel_rfl
theorem qhe {a:SA} {l l':SN} {c:SC} (h:l.den=l'.den):(SV.slice a l c).Imp (.slice a l' c):=by
  intro γ x hx
  rw [qpa] at hx ⊢
  rw [← h]; exact hx
noncomputable def q3k (base n:Nat) (X:Nat→BitVec 8):SumRes:=⟨qgf base n,[],[.own (.fn (qda X) n) false 5]⟩
noncomputable def ql3 (u:SV) (t f:R α):R α:=u.asSlice f fun _ l _=>l.asLit f fun _=>t
theorem qo9 {u:SV} {t f:R α} {φ:α→Prop} (h:t.Sat φ) (h':f.Sat φ):(ql3 u t f).Sat φ:=by
  unfold ql3
  rcases asSlice_cases u with ⟨a,l,c,rfl⟩ | hv
  · cases l with
    | lit n=>exact h
    | sym n=>exact h'
    | byt o x=>exact h'
  · rw [hv]; exact h'
noncomputable def jo1S (H:List SO) (base pn:Nat) (l:List SV):R SumRes:=qfd l fun u=>ql3 u
  (qhi H u fun a an n=>boolC (qvc [pn,an]) (.need (okL a) (boolC (Nat.beq n 0) (.ok ⟨.nilSlice,[],[]⟩) (.ok ⟨.slice ⟨base,.lit 0⟩ (.lit n) (.rest base 0),[],[.own (.lst (bx (tabB a.F n))) false 5]⟩))) (.stuck 784))
  (qjc H u fun a an=>boolC (qvc [pn,an]) (.need (okL a) (isI (.sym a.n) 0 (.ok ⟨.nilSlice,[],[]⟩) (.ok (q3k base a.n a.F)))) (.stuck 784))
noncomputable def jo2S (H:List SO) (base pn:Nat) (l:List SV):R SumRes:=qcd l fun u v=>qjc H u fun a an=>qob v (boolC (qvc [pn,an]) (.need (okL a∧a.n≠0) (.ok (q3k base a.n a.F))) (.stuck 784)) fun _ _ =>
  qjc H v fun b bn=>boolC (qvc [pn,an,bn]) (.need ((okL a∧a.n≠0)∧okL b) (.ok (q3k base (a.n+b.n) (two a b)))) (.stuck 784)
noncomputable def q0w:Summ:=fun args H base=>qfd args fun v=>optC (slNm v) (.stuck 785) fun pn=>optC (qhc (nth H pn)) (.stuck 785) fun l=>boolC (qqj v pn 0 (lenN l)) (boolC (Nat.beq (lenN l) 1) (jo1S H base pn l) (jo2S H base pn l)) (.stuck 785)
theorem qaq {f g:Nat→SV} {n:Nat} (h:∀ i,i<n→(f i).Imp (g i)):(Cells.fn f n).Imp (.fn g n):=fun γ vs hv=>⟨hv.1,fun i x hx=>h i (by have:=(List.getElem?_eq_some_iff.1 hx).1; have:=hv.1; omega) γ x (hv.2 i x hx)⟩
theorem qgg {p:Nat→Bool} {g:Nat→Nat} {E:Option SO} {Y Z:Nat→BitVec 8} {n:Nat} {w:Bool} {el:TypeId} (hE:E=some (.own (.fn (qda Y) n) w el)) (h:∀ i,i<n→Y i=Z i):q4d p g E (.own (.fn (qda Z) n) w el) :=
  ⟨_,w,el,_,hE,fun _=>rfl,qaq fun i hi=>by show (SV.int .u8 (.b8 (Y i))).Imp (.int .u8 (.b8 (Z i))); rw [h i hi]; exact .refl _,rfl⟩
theorem qcn {I:Ifc} {base j n n':Nat} {X X':Nat→BitVec 8} {H:List SO} (hj:I.known j=false) (ho:q7b I.ents 0=[]) (hE:H[j]? = some (.own (.fn (qda X) n) false 5)) (hn:n=n') (h:∀ i,i<n→X i=X' i):I.Ends base [j] (q3k base n' X') (qgf j n) H:=by
  subst hn
  have ho':I.out base [j] j=base:=by
    unfold Ifc.out
    rw [hj]
    show base+idxN j [j]=base
    rw [show idxN j [j]=boolC (Nat.beq j j) 0 _ from rfl,Nat.beq_refl]; rfl
  have hs:I.seen [j] j=true:=by
    unfold Ifc.seen
    rw [hj]
    exact (memN_iff (n:=j) (l:=[j])).2 List.mem_cons_self
  refine ⟨?_,?_,by rw [ho]; trivial,⟨qgg hE h,trivial⟩⟩
  · show (SV.slice ⟨I.out base [j] j,.lit 0⟩ (.sym n) (.rest (I.out base [j] j) 0)).Imp _
    rw [ho']; exact .refl _
  · show (I.seen [j] j && I.seen [j] j)=true
    rw [hs]; rfl
theorem q1w:q2a Tryz.prog 39 q0w:=by
  intro glob O w0 β H w base args vs hH hG ha
  refine qtb fun v hv=>qja fun pn hpn=>qja fun l hl=>qfa fun hp => ?_
  rw [hv,qrj hp] at ha
  rw [qga] at hl
  refine qla (fun h1 => ?_) fun h1 => ?_
  · rw [qna h1] at ha
    refine qtb fun u hu => ?_
    subst hu
    have one:∀ (a:Sl) (an:Nat),(∀ g,∃ e',H[an]? = some e'∧qqb g a.row e')→u.Imp (a.val an)→qvc [pn,an]=true→okL a →
        (a.n=0→q4a Tryz.prog H β w base 39 vs ⟨.nilSlice,[],[]⟩)∧(a.n≠0→∀ r:SumRes,(∀ H2:List SO,H2[2]? = some (.own (.fn (qda (qhd a)) a.n) false 5)→Ifc.Ends ⟨[pn,an],[.row (.lst [a.val 1]),a.row],[.slice ⟨0,.lit 0⟩ (.lit 1) (.lit 1)]⟩ base [2] r (qgf 2 a.n) H2)→q4a Tryz.prog H β w base 39 vs r):=by
      intro a an hta hia hd hok
      have hfit:Ifc.Fits ⟨[pn,an],[.row (.lst [a.val 1]),a.row],[.slice ⟨0,.lit 0⟩ (.lit 1) (.lit 1)]⟩ H:=Ifc.fits (qvg hd) rfl ⟨⟨q5b hl (by show SV.ImpL _ [(a.val 1).ren _]; rw [Sl.val_ren]; exact qma hia q9b),by show ((a.val 1).uses _ && true)=true; rw [Sl.val_uses _ _ _ rfl]; rfl⟩,⟨hta _,a.row_uses _⟩,trivial⟩
      obtain ⟨h2,h3⟩:=hok
      refine ⟨fun h0 => ?_,fun h0 r hr => ?_⟩
      · exact qvb q3c rfl 4000 hH ⟨[pn,an],[.row (.lst [a.val 1]),a.row],[.slice ⟨0,.lit 0⟩ (.lit 1) (.lit 1)]⟩ ha hfit [] (by simp) (by simp) (jhe a) (all_cons h2 (all_cons (decide_eq_true h0) (all_cons rfl qba))) fun H2 _=>qkb rfl rfl rfl
      · exact qvb q3c rfl 4000 hH ⟨[pn,an],[.row (.lst [a.val 1]),a.row],[.slice ⟨0,.lit 0⟩ (.lit 1) (.lit 1)]⟩ ha hfit [2] (by simp) (by simp) (j3h a) (all_cons h2 (all_cons (decide_eq_false h0) (all_cons ⟨⟨by omega,by omega⟩,rfl⟩ qba))) fun H2 hH2=>hr H2 (List.cons.inj hH2).1
    refine qo9 (q2e fun a an n hna hta hia han=>qfa fun hd=>fun hok => ?_) (qcb fun a an hna hta hia=>qfa fun hd=>fun hok => ?_)
    · obtain ⟨k0,k1⟩:=one a an hta (fun γ x hx=>qhe (l:=.lit n) (l':=.sym a.n) han.symm γ x (hia γ x hx)) hd hok
      subst han
      refine qla (fun h0=>k0 (qna h0)) fun h0=>k1 (qmb h0) _ fun H2 hE => ?_
      have h:=qcn (I:=⟨[pn,an],[.row (.lst [a.val 1]),a.row],[.slice ⟨0,.lit 0⟩ (.lit 1) (.lit 1)]⟩) (base:=base) (X':=qhd a) rfl rfl hE rfl fun _ _=>rfl
      refine ⟨fun γ x hx=>qhe (l:=.sym a.n) (l':=.lit a.n) rfl γ x (h.val γ x hx),h.uv,h.sets,⟨quk hE (fun _=>rfl) ?_,trivial⟩⟩
      have:=q6v a.X a.o a.n
      exact this
    · obtain ⟨k0,k1⟩:=one a an hta hia hd hok
      refine qzc (fun h0=>k0 ?_) fun h0=>k1 ?_ _ fun H2 hE=>qcn rfl rfl hE rfl fun _ _=>rfl
      · have h0:(a.n:Int)=0:=h0
        omega
      · have h0:(a.n:Int)≠0:=h0
        omega
  · refine qnb fun u v2 hu=>qcb fun a an hna hta hia => ?_
    subst hu
    have ha:SV.denL β [.slice ⟨pn,.lit 0⟩ (.lit 2) (.lit 2)]=some vs:=ha
    refine qxa (fun hnil=>qfa fun hd=>fun ⟨⟨h2,h3⟩,h0⟩ => ?_) fun _ _ _ _=>qcb fun b bn hnb htb hib=>qfa fun hd=>fun ⟨⟨⟨h2,h3⟩,h0⟩,⟨h4,h5⟩⟩ => ?_
    · subst hnil
      have hfit:Ifc.Fits ⟨[pn,an],[.row (.lst [a.val 1,.nilSlice]),a.row],[.slice ⟨0,.lit 0⟩ (.lit 2) (.lit 2)]⟩ H:=Ifc.fits (qvg hd) rfl ⟨⟨q5b hl (by show SV.ImpL _ [(a.val 1).ren _,.nilSlice]; rw [Sl.val_ren]; exact qma hia (qma (.refl _) q9b)),by show ((a.val 1).uses _ && (true && true))=true; rw [Sl.val_uses _ _ _ rfl]; rfl⟩,⟨hta _,a.row_uses _⟩,trivial⟩
      refine qvb q3c rfl 4000 hH ⟨[pn,an],[.row (.lst [a.val 1,.nilSlice]),a.row],[.slice ⟨0,.lit 0⟩ (.lit 2) (.lit 2)]⟩ ha hfit [3] (by simp) (by simp) (j2h a) (all_cons h2 (all_cons (decide_eq_false h0) (all_cons ⟨⟨by omega,by omega⟩,rfl⟩ (all_cons ⟨by omega,qea fun i=>a.X (a.o+i)⟩ (all_cons ⟨⟨by omega,by omega⟩,rfl⟩ qba))))) fun H2 hH2=>qcn rfl rfl (List.cons.inj hH2).1 rfl fun i hi => ?_
      unfold jtl Sl.F
      rw [qgi (by omega),Nat.zero_add]
    · have hfit:Ifc.Fits ⟨[pn,an,bn],[.row (.lst [a.val 1,b.val 2]),a.row,b.row],[.slice ⟨0,.lit 0⟩ (.lit 2) (.lit 2)]⟩ H:=Ifc.fits (qvg hd) rfl ⟨⟨q5b hl (by show SV.ImpL _ [(a.val 1).ren _,(b.val 2).ren _]; rw [Sl.val_ren,Sl.val_ren]; exact qma hia (qma hib q9b)),by show ((a.val 1).uses _ && ((b.val 2).uses _ && true))=true; rw [Sl.val_uses _ _ _ rfl,Sl.val_uses _ _ _ rfl]; rfl⟩,⟨hta _,a.row_uses _⟩,⟨htb _,b.row_uses _⟩,trivial⟩
      refine qvb q3c rfl 4000 hH ⟨[pn,an,bn],[.row (.lst [a.val 1,b.val 2]),a.row,b.row],[.slice ⟨0,.lit 0⟩ (.lit 2) (.lit 2)]⟩ ha hfit [4] (by simp) (by simp) (j1h a b) (all_cons h2 (all_cons (decide_eq_false h0) (all_cons ⟨⟨by omega,by omega⟩,rfl⟩ (all_cons ⟨h4,qea _⟩ (all_cons ⟨by omega,qea fun i=>a.X (a.o+i)⟩ (all_cons ⟨⟨by omega,by omega⟩,rfl⟩ qba)))))) fun H2 hH2=>qcn rfl rfl (List.cons.inj hH2).1 rfl fun i hi => ?_
      unfold jsl two
      refine qg9 (fun j hj => ?_) (fun _=>rfl) i
      unfold Sl.F
      rw [Nat.zero_add]
end Go.Proofs.YtbmgahpjgefjaaaGreatDoor.Aes
namespace Go.Proofs.YtbmgahpjgefjaaaGreatDoor.Aes
open Go.Sim
open Go.Proofs
variable {α:Type}
set_option maxRecDepth 1000000
abbrev HashF:=(Nat→BitVec 8)→Nat→List (BitVec 8)
noncomputable def jul (F:HashF):Cfg:=cfgG q6b (qbb [(73,hmS F),(47,qmr),(83,numS)])
theorem j8o:CfgOK (jul shaF):=q2b (allS hmOK (allS (qks _) (allS (jot _) (by simp))))
noncomputable def Sl.pl (s:Sl) (m:Nat):Sl:=⟨s.X,s.N,s.o,s.n,false,m⟩
theorem Sl.val_den {t:Sl} {nm:Nat} {γ:Val} {x:Value} (h:(t.val nm).den γ=some x):∃ m,t.n≤m∧((t.pl m).val nm).den γ=some x:=by
  obtain ⟨m,hm,hd,_,_⟩:=q8a (show (SV.slice ⟨nm,.sym t.o⟩ (.sym t.n) (boolC t.b (.rest nm t.k) (.sym t.k))).den γ=some x from h)
  exact ⟨m,hm,hd⟩
noncomputable def slL (L:List (BitVec 8)):Sl:=⟨qaa L,lenN L,0,lenN L,false,lenN L⟩
noncomputable def kdfM (lb:Sl) (n:Int):Nat→BitVec 8:=four (slL (num4 1)) lb (slL [0#8]) (slL (num4 (8 * n)))
noncomputable def kdfB (F:HashF) (K:Nat→BitVec 8) (kn:Nat) (lb:Sl) (n:Int):List (BitVec 8):=macB F K kn (kdfM lb n) (4+lb.n+1+4)
noncomputable def kdT (F:HashF) (k lb:Sl) (n:Int):Tree:=qca (jul F) 4000 54 [k.val 4,lb.val 5,.nilSlice,.int .i64 (.lit n)] (q5c [k.row,lb.row])
noncomputable def kdC (k lb:Sl) (n:Int):List Prop:=[decide ((k.n:Int) > 4096)=false,decide ((lb.n:Int) > 4096)=false,IsB (qda k.X),IsB (qda lb.X),((k.o+k.n≤k.N∧k.n≤4096)∧okL (slL (num4 1))∧okL lb∧okL (slL [0#8])∧okL (slL (num4 (8 * n)))),n.toNat≤32]
noncomputable def kdE (F:HashF) (k lb:Sl) (n:Nat):SO:=.own (.lst (bx (tabB (qaa (kdfB F k.F k.n lb n)) n))) false 5
noncomputable def kdV (nm n:Nat):SV:=.tuple [.slice ⟨nm,.lit 0⟩ (.lit n) (.rest nm 0),.int .i64 (.lit 0)]
theorem j4h (F:HashF) (k lb:Sl) (m m2:Nat):outO [22] (kdT F (k.pl m) (lb.pl m2) 16) [false,false]=(kdC k lb 16,some (kdV 22 16,[some (kdE F k lb 16)])):=by kernel_rfl
theorem j5h (F:HashF) (k lb:Sl) (m m2:Nat):outO [22] (kdT F (k.pl m) (lb.pl m2) 32) [false,false]=(kdC k lb 32,some (kdV 22 32,[some (kdE F k lb 32)])):=by kernel_rfl
noncomputable def qp9:Cfg:=qie (qbb [(47,qmr)])
theorem qey:CfgOK qp9:=q8b (all1 qks)
noncomputable def cpT (X:Nat→BitVec 8) (p q:Int) (o n k m:Nat):Tree:=qca qp9 400 17 [fdK p q (.slice ⟨0,.sym o⟩ (.sym k) (.sym m))] [rowF X n]
theorem jpt (X:Nat→BitVec 8) (p q:Int) (o n k m:Nat):outO [3] (cpT X p q o n k m) [false]=([IsB (qda X),decide (k=0)=false,(o+k≤n∧q3e k 1)],some (fdK p q (.slice ⟨3,.lit 0⟩ (.sym k) (.rest 3 0)),[some (.own (.fn (qda (fun i=>X (o+i))) k) false 5)])):=by kernel_rfl
theorem j9o (X:Nat→BitVec 8) (p q:Int) (o n k m:Nat):outO [3] (cpT X p q o n k m) [true]=([IsB (qda X),decide (k=0)=true,o+k≤n],some (fdK p q (.slice ⟨3,.lit 0⟩ (.lit 0) (.lit 0)),[some (.own (.lst []) true 5)])):=by kernel_rfl
theorem jqt (p q:Int):outO [] (qca qp9 400 17 [fdK p q .nilSlice] []) []=([],some (fdK p q .nilSlice,[])):=by kernel_rfl
end Go.Proofs.YtbmgahpjgefjaaaGreatDoor.Aes
namespace Go.Proofs.YtbmgahpjgefjaaaGreatDoor.Aes
open Go.Sim
open Go.Proofs
variable {α:Type}
set_option maxRecDepth 100000
noncomputable def kdR (F:HashF) (base:Nat) (k lb:Sl) (n:Nat):SumRes:=⟨kdV base n,[],[kdE F k lb n]⟩
noncomputable def kdfS (F:HashF):Summ:=fun args H base=>qyv args fun kv lv cv nv=>qdf H (qjc H kv fun k kn=>qjc H lv fun lb ln=>boolC (qvc [kn,ln]) (qob cv (.need ((k.o+k.n≤k.N∧k.n≤4096)∧lb.o+lb.n≤lb.N∧lb.n≤4096)
  (optC (litI nv) (.stuck 786) fun n=>boolC (Nat.beq n 16) (.ok (kdR F base k lb 16)) (boolC (Nat.beq n 32) (.ok (kdR F base k lb 32)) (.stuck 786)))) fun _ _=>.stuck 786) (.stuck 786))
theorem q4k {L:List (BitVec 8)} {n:Nat} (h:L.length=n) (hn:n≤64):okL (slL L):=by
  unfold slL okL
  rw [qva,h]
  exact ⟨by show 0+n≤n; omega,by show n≤_; omega⟩
theorem jap {k lb:Sl} {n:Int} (h1:k.o+k.n≤k.N) (h2:k.n≤4096) (h3:lb.o+lb.n≤lb.N) (h4:lb.n≤4096) (hn:n.toNat≤32):∀ p∈kdC k lb n,p :=
  all_cons (decide_eq_false (by omega)) (all_cons (decide_eq_false (by omega)) (all_cons (qea _) (all_cons (qea _) (all_cons ⟨⟨h1,h2⟩,q4k (n:=4) rfl (by omega),⟨h3,by omega⟩,q4k (n:=1) rfl (by omega),q4k (n:=4) rfl (by omega)⟩ (all_cons hn qba)))))
theorem endsK {I:Ifc} {base j n:Nat} {L:List (BitVec 8)} {E:SO} {H:List SO} (hj:I.known j=false) (ho:q7b I.ents 0=[]) (hE:H[j]? = some E) (he:E=.own (.lst (bx L)) false 5):I.Ends base [j] ⟨kdV base n,[],[E]⟩ (kdV j n) H:=by
  have ho':I.out base [j] j=base:=by
    unfold Ifc.out
    rw [hj]
    show base+idxN j [j]=base
    rw [show idxN j [j]=boolC (Nat.beq j j) 0 _ from rfl,Nat.beq_refl]; rfl
  have hs:I.seen [j] j=true:=by
    unfold Ifc.seen
    rw [hj]
    exact (memN_iff (n:=j) (l:=[j])).2 List.mem_cons_self
  subst he
  refine ⟨?_,?_,by rw [ho]; trivial,⟨qbc hE (qed _ _) (by show SO.own (.lst (SV.renL _ (bx _))) _ _=_; rw [q7d]),trivial⟩⟩
  · show (SV.tuple [.slice ⟨I.out base [j] j,.lit 0⟩ (.lit n) (.rest (I.out base [j] j) 0),_]).Imp _
    rw [ho']; exact .refl _
  · show ((I.seen [j] j && I.seen [j] j) && _)=true
    rw [hs]; rfl
theorem kdfOK:SumAt Tryz.prog q6b 54 (kdfS shaF):=by
  intro O w0 β H w base args vs hH hG ha
  refine qzm fun kv lv cv nv hv=>qlc fun hT=>qcb fun k kn hn ht hk=>qcb fun lb ln hn2 ht2 hk2=>qfa fun hd=>qxa (fun hc=>fun ⟨⟨h1,h2⟩,h3,h4⟩=>qja fun n hln => ?_) fun _ _ _ _=>trivial
  rw [hv,hc,qif hln] at ha
  obtain ⟨x,ys,hx,hys,rfl⟩:=denL_cons.1 ha
  obtain ⟨y,zs,hy,hzs,rfl⟩:=denL_cons.1 hys
  obtain ⟨m,_,hx'⟩:=Sl.val_den (hk _ _ hx)
  obtain ⟨m2,_,hy'⟩:=Sl.val_den (hk2 _ _ hy)
  have key:∀ (n:Nat),n≤32→SV.denL β [.nilSlice,.int .i64 (.lit n)]=some zs→outO [22] (kdT shaF (k.pl m) (lb.pl m2) n) [false,false]=(kdC k lb n,some (kdV 22 n,[some (kdE shaF k lb n)]))→q4a Tryz.prog H β w base 54 (x::y::zs) (kdR shaF base k lb n):=by
    intro n hn32 hz hrun
    refine qka j8o 4000 hH (qta [kn,ln] [k.row,lb.row] [(k.pl m).val 4,(lb.pl m2).val 5,.nilSlice,.int .i64 (.lit n)]) (qqa hG) ?_ (Ifc.fits (nd4 hd (by simp only [List.mem_cons,List.not_mem_nil,or_false]; rintro x (rfl | rfl) <;> assumption)) ?_ (qgb hT ⟨⟨ht _,k.row_uses _⟩,⟨ht2 _,lb.row_uses _⟩,trivial⟩)) [22] (by simp [qta]) (by simp) hrun (jap h1 h2 h3 h4 (by omega)) fun H2 hH2=>endsK rfl rfl (List.cons.inj hH2).1 rfl
    · show SV.denL β [((k.pl m).val 4).ren _,((lb.pl m2).val 5).ren _,.nilSlice,.int .i64 (.lit n)]=_
      rw [Sl.val_ren,Sl.val_ren]
      exact denL_cons.2 ⟨_,_,hx',denL_cons.2 ⟨_,_,hy',hz,rfl⟩,rfl⟩
    · show (((k.pl m).val 4).uses _ && (((lb.pl m2).val 5).uses _ && (true && (true && true))))=true
      rw [Sl.val_uses _ _ _ rfl,Sl.val_uses _ _ _ rfl]; rfl
  refine qla (fun h => ?_) fun _=>qfa fun h => ?_
  · rw [qna h] at hzs
    exact key 16 (by omega) hzs (j4h shaF k lb m m2)
  · rw [qna h] at hzs
    exact key 32 (by omega) hzs (j5h shaF k lb m m2)
noncomputable def copyR (base:Nat) (p q:SI) (l:SN) (X:Nat→BitVec 8):SumRes:=⟨.agg [.int .i64 p,.int .i64 q,.slice ⟨base,.lit 0⟩ l (.rest base 0)],[],[.own (.fn (qda X) l.den) false 5]⟩
noncomputable def jvl:Summ:=fun args H base=>qfd args fun v=>v.asAgg (.stuck 787) fun l=>qmc l fun p q s=>i64O p fun p=>i64O q fun q=>qob s (.ok ⟨.agg [.int .i64 p,.int .i64 q,.nilSlice],[],[]⟩) fun a l=>q3b (nth H a.nm) fun X n=>.need (a.off.den+l.den≤n∧l.den≤1099511627776)
  (isI l.toI 0 (.ok ⟨.agg [.int .i64 p,.int .i64 q,.slice ⟨base,.lit 0⟩ (.lit 0) (.lit 0)],[],[.own (.lst []) true 5]⟩) (.ok (copyR base p q l fun i=>X (a.off.den+i))))
theorem toI_den (l:SN):l.toI.den=(l.den:Int):=by cases l <;> rfl
theorem jrt:q2a Tryz.prog 17 jvl:=by
  intro glob O w0 β H w base args vs hH hG ha
  refine qtb fun k hv => ?_
  rcases quc k with ⟨l,rfl⟩ | hno
  case inr=>rw [hno]; trivial
  refine qab fun p v s hl=>q7a fun p' hp=>q7a fun v' hv' => ?_
  subst hl hp hv'
  rw [hv] at ha
  refine qxa (fun hn => ?_) fun a len c hs=>q3a fun X N ht=>fun ⟨h1,h2⟩ => ?_
  · subst hn
    have ha':SV.denL β [fdK p'.den v'.den .nilSlice]=some vs:=q0m ha (q6j (qma (qoa rfl) (qma (qoa rfl) (qma (.refl _) q9b))))
    exact qvb qey rfl 400 hH ⟨[],[],[fdK p'.den v'.den .nilSlice]⟩ ha' (qgd rfl) [] (by simp) (by simp) (jqt p'.den v'.den) qba fun H2 _=>⟨q6j (qma (qoa rfl) (qma (qoa rfl) (qma (.refl _) q9b))),rfl,trivial,trivial⟩
  · subst hs
    rw [qga] at ht
    obtain ⟨x,ys,hx,hys,rfl⟩:=denL_cons.1 ha
    simp only [SV.den,SV.denL,Option.map_eq_some_iff,Option.bind_eq_some_iff] at hx
    obtain ⟨us,⟨u1,hu1,us1,⟨u2,hu2,us2,⟨u3,hu3,us3,hus3,rfl⟩,rfl⟩,rfl⟩,rfl⟩:=hx
    have hu3':(SV.slice a len c).den β=some u3:=by simpa only [SV.den,Option.bind_eq_some_iff] using hu3
    obtain ⟨m,hlm,hd,_,_⟩:=q8a hu3'
    have ha':SV.denL β [fdK p'.den v'.den (.slice ⟨a.nm,.sym a.off.den⟩ (.sym len.den) (.sym m))]=some (.agg (u1::u2::u3::us3).toArray::ys):=by
      refine denL_cons.2 ⟨_,_,?_,hys,rfl⟩
      show (SV.agg _).den β=_
      rw [SV.den]
      simp only [Option.map_eq_some_iff]
      exact ⟨_,denL_cons.2 ⟨u1,_,hu1,denL_cons.2 ⟨u2,_,hu2,denL_cons.2 ⟨u3,_,hd,hus3,rfl⟩,rfl⟩,rfl⟩,rfl⟩
    have hfit:Ifc.Fits ⟨[a.nm],[rowF X N],[fdK p'.den v'.den (.slice ⟨0,.sym a.off.den⟩ (.sym len.den) (.sym m))]⟩ H:=Ifc.fits (by simp) rfl ⟨⟨ht _,qya _ _ _⟩,trivial⟩
    refine qzc (fun h0 => ?_) fun h0 => ?_
    · rw [toI_den] at h0
      exact qvb qey rfl 400 hH ⟨[a.nm],[rowF X N],[fdK p'.den v'.den (.slice ⟨0,.sym a.off.den⟩ (.sym len.den) (.sym m))]⟩ ha' hfit [3] (by simp) (by simp) (j9o X p'.den v'.den a.off.den N len.den m) (all_cons (qea X) (all_cons (decide_eq_true (by omega)) (all_cons h1 qba))) fun H2 hH2=>⟨q6j (qma (qoa rfl) (qma (qoa rfl) (qma (.refl _) q9b))),rfl,trivial,⟨qbc (List.cons.inj hH2).1 rfl rfl,trivial⟩⟩
    · rw [toI_den] at h0
      exact qvb qey rfl 400 hH ⟨[a.nm],[rowF X N],[fdK p'.den v'.den (.slice ⟨0,.sym a.off.den⟩ (.sym len.den) (.sym m))]⟩ ha' hfit [3] (by simp) (by simp) (jpt X p'.den v'.den a.off.den N len.den m) (all_cons (qea X) (all_cons (decide_eq_false (by omega)) (all_cons ⟨h1,⟨by omega,by omega⟩⟩ qba))) fun H2 hH2=>⟨q6j (qma (qoa rfl) (qma (qoa rfl) (qma (qhe rfl) q9b))),rfl,trivial,⟨qgg (List.cons.inj hH2).1 fun _ _=>rfl,trivial⟩⟩
end Go.Proofs.YtbmgahpjgefjaaaGreatDoor.Aes
namespace Go.Proofs.YtbmgahpjgefjaaaGreatDoor.Aes
open Go.Sim
open Go.Proofs
variable {α:Type}
set_option maxRecDepth 1000000
noncomputable def jwl (F:HashF):Cfg:=cfgG q6b (qbb [(54,kdfS F),(61,numS),(39,q0w)])
theorem jbp:CfgOK (jwl shaF):=q2b (allS kdfOK (allS (qzw _) (allS (q1w _) (by simp))))
noncomputable def lblS (u:Int) (x:BitVec 8):Sl:=⟨two (slL (num4 u)) (slL [x]),4+1,0,4+1,true,0⟩
noncomputable def keyE (p v:Int) (s:SV):SO:=.row (.lst [.int .i64 (.sym p),.int .i64 (.sym v),s])
noncomputable def deT (F:HashF) (k:Sl) (n:Nat) (p v u:Int) (x:BitVec 8):Tree:=qca (jwl F) 4000 60 [.int .u8 (.b8 x),.ptr ⟨4,.lit 0⟩,.ptr ⟨5,.lit 0⟩] (q5c [keyE p v (k.valN 6 n),.row (.lst [.int .i64 (.sym u)]),k.row])
noncomputable def Sl.len (s:Sl) (n:Nat):Sl:=⟨s.X,s.N,s.o,n,s.b,s.k⟩
noncomputable def deC (k:Sl) (n:Nat) (u:Int) (x:BitVec 8):List Prop:=[((okL (slL (num4 u))∧(slL (num4 u)).n≠0)∧okL (slL [x])),IsB (qda k.X),IsB (qda (two (slL (num4 u)) (slL [x]))),((k.o+n≤k.N∧n≤4096)∧0+(4+1)≤4+1∧4+1≤4096)]
noncomputable def deV (nm n:Nat):SV:=.slice ⟨nm,.lit 0⟩ (.lit n) (.rest nm 0)
theorem j6h (F:HashF) (k:Sl) (p v u:Int) (x:BitVec 8):outO [11] (deT F k 16 p v u x) []=(deC k 16 u x,some (deV 11 16,[some (kdE F (k.len 16) (lblS u x) 16)])):=by
  cases k with
  | mk X N o n b kk=>cases b <;> kernel_rfl
theorem j7h (F:HashF) (k:Sl) (p v u:Int) (x:BitVec 8):outO [11] (deT F k 32 p v u x) []=(deC k 32 u x,some (deV 11 32,[some (kdE F (k.len 32) (lblS u x) 32)])):=by
  cases k with
  | mk X N o n b kk=>cases b <;> kernel_rfl
end Go.Proofs.YtbmgahpjgefjaaaGreatDoor.Aes
namespace Go.Proofs.YtbmgahpjgefjaaaGreatDoor.Aes
open Go.Sim
open Go.Proofs
variable {α:Type}
set_option maxRecDepth 100000
noncomputable def deR (F:HashF) (base:Nat) (k:Sl) (n:Nat) (u:Int) (x:BitVec 8):SumRes:=⟨deV base n,[],[kdE F (k.len n) (lblS u x) n]⟩
noncomputable def keyL (H:List SO) (kn:Nat) (f:Int→Int→Sl→Nat→Nat→R α):R α:=optC (qhc (nth H kn)) (.stuck 789) fun l=>qmc l fun p v s=>i64O p fun p=>i64O v fun v=>qhi H s fun k nm n=>f p.den v.den k nm n
noncomputable def intL (H:List SO) (un:Nat) (f:Int→R α):R α:=optC (qhc (nth H un)) (.stuck 789) fun l=>qfd l fun u=>i64O u fun u=>f u.den
noncomputable def deS (F:HashF):Summ:=fun args H base=>qmc args fun xv kv uv=>optC (unb1 xv) (.stuck 790) fun x=>optC (q7f kv) (.stuck 790) fun kn=>optC (q7f uv) (.stuck 790) fun un=>qdf H (boolC (qib kn) (boolC (qib un)
  (keyL H kn fun _ _ k nm n=>intL H un fun u=>boolC (qvc [kn,un,nm]) (.need (k.o+n≤k.N) (boolC (Nat.beq n 16) (.ok (deR F base k 16 u x)) (boolC (Nat.beq n 32) (.ok (deR F base k 32 u x)) (.stuck 790)))) (.stuck 790)) (.stuck 790)) (.stuck 790))
theorem j8h {H:List SO} {kn:Nat} {f:Int→Int→Sl→Nat→Nat→R α} {φ:α→Prop} (h:∀ p v k nm n,qib nm=true→(∀ g,∃ e',H[nm]? = some e'∧qqb g k.row e')→k.n=n→(∀ g:Nat→Nat,∀ j,g j=nm→∃ e',H[kn]? = some e'∧qqb g (keyE p v (k.valN j n)) e')→(f p v k nm n).Sat φ):(keyL H kn f).Sat φ:=by
  refine qja fun l hl=>qab fun p v s hls=>q7a fun p' hp=>q7a fun v' hv=>q2e fun k nm n hn ht hi hkn=>h p'.den v'.den k nm n hn ht hkn fun g j hj => ?_
  subst hls hp hv
  rw [qga] at hl
  refine q5b hl ?_
  show SV.ImpL _ [.int .i64 (.sym p'.den),.int .i64 (.sym v'.den),(k.valN j n).ren g]
  rw [Sl.valN_ren,hj]
  exact qma (qoa rfl) (qma (qoa rfl) (qma hi q9b))
theorem j9h {H:List SO} {un:Nat} {f:Int→R α} {φ:α→Prop} (h:∀ u,(∀ g:Nat→Nat,∃ e',H[un]? = some e'∧qqb g (.row (.lst [.int .i64 (.sym u)])) e')→(f u).Sat φ):(intL H un f).Sat φ:=by
  refine qja fun l hl=>qtb fun u hlu=>q7a fun u' hu=>h u'.den fun g => ?_
  subst hlu hu
  rw [qga] at hl
  exact q5b hl (qma (qoa rfl) q9b)
theorem qq9 {I:Ifc} {base j n:Nat} {L:List (BitVec 8)} {E:SO} {H:List SO} (hj:I.known j=false) (ho:q7b I.ents 0=[]) (hE:H[j]? = some E) (he:E=.own (.lst (bx L)) false 5):I.Ends base [j] ⟨deV base n,[],[E]⟩ (deV j n) H:=by
  have ho':I.out base [j] j=base:=by
    unfold Ifc.out
    rw [hj]
    show base+idxN j [j]=base
    rw [show idxN j [j]=boolC (Nat.beq j j) 0 _ from rfl,Nat.beq_refl]; rfl
  have hs:I.seen [j] j=true:=by
    unfold Ifc.seen
    rw [hj]
    exact (memN_iff (n:=j) (l:=[j])).2 List.mem_cons_self
  subst he
  refine ⟨?_,?_,by rw [ho]; trivial,⟨qbc hE (qed _ _) (by show SO.own (.lst (SV.renL _ (bx _))) _ _=_; rw [q7d]),trivial⟩⟩
  · show (SV.slice ⟨I.out base [j] j,.lit 0⟩ (.lit n) (.rest (I.out base [j] j) 0)).Imp _
    rw [ho']; exact .refl _
  · show (I.seen [j] j && I.seen [j] j)=true
    rw [hs]; rfl
theorem deOK:SumAt Tryz.prog q6b 60 (deS shaF):=by
  intro O w0 β H w base args vs hH hG ha
  refine qab fun xv kv uv hv=>qja fun x hx=>qja fun kn hk=>qja fun un hu=>qlc fun hT=>qfa fun hn1=>qfa fun hn2=>j8h fun p v k nm n hn3 ht hkn hE=>j9h fun u hU=>qfa fun hd=>fun hle => ?_
  rw [hv,q1c hk,q1c hu] at ha
  have ha':SV.denL β [.int .u8 (.b8 x),.ptr ⟨kn,.lit 0⟩,.ptr ⟨un,.lit 0⟩]=some vs:=qma (qmg hx) (SV.ImpL.refl _) _ _ ha
  have key:∀ n,n≤4096→k.o+n≤k.N→(∀ g:Nat→Nat,∀ j,g j=nm→∃ e',H[kn]? = some e'∧qqb g (keyE p v (k.valN j n)) e')→outO [11] (deT shaF k n p v u x) []=(deC k n u x,some (deV 11 n,[some (kdE shaF (k.len n) (lblS u x) n)]))→q4a Tryz.prog H β w base 60 vs (deR shaF base k n u x):=by
    intro n h4 hle hE hrun
    refine qka jbp 4000 hH (qta [kn,un,nm] [keyE p v (k.valN 6 n),.row (.lst [.int .i64 (.sym u)]),k.row] [.int .u8 (.b8 x),.ptr ⟨4,.lit 0⟩,.ptr ⟨5,.lit 0⟩]) (qqa hG) ha' (Ifc.fits (nd4 hd (by simp only [List.mem_cons,List.not_mem_nil,or_false]; rintro y (rfl | rfl | rfl) <;> assumption)) rfl (qgb hT ⟨⟨hE _ 6 rfl,?_⟩,⟨hU _,rfl⟩,⟨ht _,k.row_uses _⟩,trivial⟩)) [11] (by simp [qta]) (by simp) hrun ?_ fun H2 hH2=>qq9 rfl rfl (List.cons.inj hH2).1 rfl
    · show (true && (true && ((k.valN 6 n).uses _ && true)))=true
      rw [Sl.valN_uses _ _ _ _ rfl]; rfl
    · exact all_cons ⟨⟨q4k (n:=4) rfl (by omega),by show (4:Nat)≠0; omega⟩,q4k (n:=1) rfl (by omega)⟩ (all_cons (qea _) (all_cons (qea _) (all_cons ⟨⟨hle,h4⟩,by omega,by omega⟩ qba)))
  refine qla (fun h => ?_) fun _=>qfa fun h => ?_
  · have h:=qna h
    subst h
    exact key 16 (by omega) hle hE (j6h shaF k p v u x)
  · have h:=qna h
    subst h
    exact key 32 (by omega) hle hE (j7h shaF k p v u x)
end Go.Proofs.YtbmgahpjgefjaaaGreatDoor.Aes
