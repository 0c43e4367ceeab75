/-
  Texts behind one another: the symbolic simulator and what it is told of the program.
-/
import Derived.Test.YthkgcljngalafaaDoorPs3
import Derived.Recover
import Derived.Orders
namespace Go.Sim
noncomputable section
variable {α:Type}
def SumSem (P:Program) (H:List SO) (β:Val) (w:World) (base:Nat) (f:FuncId) (vs:List Value) (r:SumRes):Prop :=
 (∀ i,i<r.news.length->β (base+i)=none) ->
 (∀ n e,(n,e)∈r.sets->∃ e0,H[n]? = some e0/\e0.owned=true) /\
 (((∃ fn,P.funcs[f]? = some fn/\fn.body.isSome=true)/\Calls P f vs.toArray w fun e w'=>∃ v' β',e=.returned v'/\r.v.den β'=some v'/\Eff P β w base r.sets r.news β' w') \/
   ∃ v' w' β',(callFunc f vs.toArray).run P w=.ok (.value v') w'/\r.v.den β'=some v'/\Eff P β w base r.sets r.news β' w')
def SumAt (P:Program) (glob:Nat->Option Nat) (f:FuncId) (s:Summ):Prop :=
 ∀ (O:Nat->Prop) (w0:World) (β:Val) (H:List SO) (w:World) (base:Nat) (args:List SV) (vs:List Value),HeapRel0 P O w0 β H w->GlobRel glob β->SV.denL β args=some vs ->
   (s args H base).Sat (SumSem P H β w base f vs)
def qdb (P:Program) (f:FuncId) (s:Summ):Prop:=∀ glob,SumAt P glob f s
structure ProgOK (P:Program):Prop where
 noNG:∀ (f:FuncId) (fn:Func),P.funcs[f]? = some fn->fn.body.isSome=true->(fn.name == "runtime.NumGoroutine")=false
 mixed:P.follows .mixedOrders=true
def q1x (P:Program) (H:List SO) (β:Val) (w:World) (base:Nat) (f:FuncId) (vs:List Value) (u:FrameMode) (r:SumRes):Prop :=
 (∀ i,i<r.news.length->β (base+i)=none) ->
 (∀ n e,(n,e)∈r.sets->∃ e0,H[n]? = some e0/\e0.owned=true)/\(∃ fn,P.funcs[f]? = some fn/\fn.body.isSome=true) /\
 CallsD P f vs.toArray u w fun e u' w'=>(∃ v',e=.returned v')/\settle u'=.returning/\∃ β',Eff P β w base r.sets r.news β' w'
structure DefAt (P:Program) (glob:Nat->Option Nat) (f:FuncId) (s:Summ × Summ):Prop where
 ret:∀ (O:Nat->Prop) (w0:World) (β:Val) (H:List SO) (w:World) (base:Nat) (args:List SV) (vs:List Value),HeapRel0 P O w0 β H w->GlobRel glob β->SV.denL β args=some vs ->
  (s.1 args H base).Sat (q1x P H β w base f vs .returning)
 pan:∀ (O:Nat->Prop) (w0:World) (β:Val) (H:List SO) (w:World) (base:Nat) (v:SV) (x:Value) (args:List SV) (vs:List Value),HeapRel0 P O w0 β H w->GlobRel glob β->v.den β=some x->SV.denL β args=some vs ->
  (s.2 (v::args) H base).Sat (q1x P H β w base f vs (.panicking [{ v:=x,recovered:=false }]))
structure CfgOK (c:Cfg):Prop where
 prog:ProgOK c.P
 sums:∀ f s,c.sums f=some s->SumAt c.P c.glob f s
 dsum:∀ f s,c.dsum f=some s->DefAt c.P c.glob f s
section
variable {c:Cfg} {B:Base} {go:SS->Tree} {D:SV->List SO->Prop} {S:SS->Prop}
theorem qod {P:Program} (hP:ProgOK P) {f:FuncId} {fn:Func} (h:P.funcs[f]? = some fn) (hb:fn.body.isSome=true) (args:Array Value) (w:World):(callFunc f args).run P w=.ok (.enter f args) w:=by
 have hn:fn.body.isNone=false:=by cases hx:fn.body <;> simp [hx] at hb ⊢
 unfold callFunc
 simp only [Sem.run_bind,run_program,Result.andThen_ok,h,hP.noNG f fn h hb,hn]
 rfl
theorem q3g {β:Val} {s s':SF} {f:Frame} (h:FrameRel β s f) {v:SV} {x:Value} (hv:v.den β=some x) (hs:s.finish v=some s'):FrameRel β s' (f.finish x)/\(f.finish x).fn=f.fn:=by
 obtain ⟨fn,T,td,ds,ro⟩:=s
 obtain ⟨hfn,hT,htd,hds,hm,hk,hr⟩:=h
 have h1:qvo td ⟨fn,T,td,ds,ro⟩ v=some s':=hs
 cases td with
 | nil=>cases h1
 | cons x k =>
   have h2:qi0 x k ⟨fn,T,x::k,ds,ro⟩ v=some s':=h1
   cases hft:f.todo with
   | nil=>rw [hft] at htd; exact htd.elim
   | cons y k' =>
     rw [hft] at htd
     obtain ⟨hxy,hkk⟩:=htd
     cases x <;> first | (cases h2; done) | skip
     case ops os l =>
      cases l with
      | nil=>cases h2
      | cons o l =>
        cases y <;> first | exact hxy.elim | skip
        rename_i os' idx
        obtain ⟨rfl,hat⟩:=hxy
        cases idx with
        | nil=>exact hat.elim
        | cons i is =>
        obtain ⟨ho,hat⟩:=hat
        have h3:s'=⟨fn,putT T o.dst v,.ops os' l::k,ds,ro⟩:=(Option.some.inj h2).symm
        subst h3
        have hfin:f.finish x=f.atR ((⟨f.tmps,f.defers⟩:Act).put o.dst x) (.inRegion os' is::k'):=by
         have:=Frame.finish_atR f ⟨f.tmps,f.defers⟩ os' i is k' x
         rw [ho] at this
         rw [← Option.bind_some (f:=fun x:Oper=>x.dst),← this,qqb hm]
         simp [hft,Frame.atR]
        rw [hfin]
        refine ⟨⟨hfn,qq9 (a:=⟨f.tmps,f.defers⟩) hT o.dst hv,⟨⟨rfl,hat⟩,hkk⟩,?_,rfl,hk,hr⟩,rfl⟩
        show SD.denL β ds=some (Act.put _ _ _).defers
        rw [hds]; cases o.dst <;> rfl
     case inRF nm =>
      cases y <;> first | exact hxy.elim | skip
      rename_i b
      have h3:s'=⟨fn,T,.endRF nm::k,ds,ro⟩:=(Option.some.inj h2).symm
      subst h3
      have hfin:f.finish x=f.atR ⟨f.tmps,f.defers⟩ (.endRangeFunc b::k'):=by
       rw [← finish_atR_inRangeFunc b x]
       congr 1
       rw [qqb hm]; simp [hft,Frame.atR]
      rw [hfin]
      exact ⟨⟨hfn,hT,⟨hxy,hkk⟩,hds,rfl,hk,hr⟩,rfl⟩
theorem qtn {P:Program} {β:Val} {f:FuncId} {args:List SV} {vs:List Value} {s:SF} (h:q7d P f args=some s) (ha:SV.denL β args=some vs) :
  FrameRel β s (Frame.enter P f vs.toArray .normal)/\∃ fn,P.funcs[f]? = some fn/\fn.body.isSome=true:=by
 unfold q7d at h
 rw [qca] at h
 have hf:P.funcs.toList[f]? = P.funcs[f]? := by simp
 rw [hf] at h
 cases hfn:P.funcs[f]? with
 | none=>rw [hfn] at h; cases h
 | some fn =>
   rw [hfn] at h
   simp only [optC_some] at h
   cases hb:fn.body with
   | none=>rw [hb] at h; cases h
   | some c =>
     rw [hb] at h
     simp only [optC_some,Option.some.injEq] at h
     subst h
     refine ⟨⟨rfl,?_,?_,rfl,rfl,rfl,trivial⟩,fn,rfl,by rw [hb]; rfl⟩
     . have hl:=qva ha
       simp only [Frame.enter,hfn,Option.map_some,Option.getD_some]
       rw [q1a,q9c,qha,← hl]
       simp only [Array.toList_append,Array.toList_replicate,List.size_toArray]
       exact qyd ha (qct (by simp [qua,SV.den,SV.denL,undef]) _)
     . simp only [Frame.enter,hfn,Option.bind_some,hb,Option.getD_some]
       exact ⟨rfl,trivial⟩
theorem q8e {f g:Frame} {frs:List Frame}:((f::g::frs).getLast?).map (·.fn)=((g::frs).getLast?).map (·.fn):=by
 rw [List.getLast?_cons_cons]
theorem qp3 {rest:List SF} {H:List SO} {v:SV} {x:Value} {β:Val} {fr:Frame} {frs:List Frame} {w:World} (hR:FramesRel β rest frs) (hH:HeapRel B.P B.O B.w0 β H w) (hG:BRel B β) (hv:v.den β=some x)
  (hl:((fr::frs).getLast?).map (·.fn)=some B.fn0) (hleave:fr.leaving B.P w (.returned x)) (hob:(qj2 rest H v go).Ob D S):After B go D S (lone fr (frs++B.cs) w):=by
 unfold qj2 at hob
 cases rest with
 | nil =>
   cases frs with
   | cons=>exact hR.elim
   | nil =>
     refine ⟨_,.refl _ _,.inr ⟨v,H,hob,⟨β,fr,x,w,rfl,by simpa using hl,hleave,hv,hH,hG⟩⟩⟩
 | cons s rest =>
   cases frs with
   | nil=>exact hR.elim
   | cons f frs =>
     simp only at hob
     cases hs:s.finish v with
     | none=>rw [hs] at hob; exact hob.elim
     | some s' =>
       rw [hs] at hob
       obtain ⟨h1,h2⟩:=q3g hR.1 hv hs
       refine ⟨_,.one (step_leave_returned hleave),.inl ⟨_,hob,⟨β,_,frs,w,rfl,⟨h1,hR.2⟩,hH,hG,?_⟩⟩⟩
       rw [q5b h2,← q8e (f:=fr)]; exact hl
theorem qun (hc:CfgOK c) (hP:B.P=c.P) (hgl:B.glob=c.glob) {f:FuncId} {args:List SV} {vs:List Value} {s:SF} {rest:List SF} {H:List SO} {β:Val} {fr:Frame} {frs:List Frame} {w:World} (hF:FrameRel β s fr) (hR:FramesRel β rest frs) (hH:HeapRel B.P B.O B.w0 β H w) (hG:BRel B β)
  (hl:((fr::frs).getLast?).map (·.fn)=some B.fn0) (ha:SV.denL β args=some vs) (hob:(qvk c f args s rest H go).Ob D S) {m0:Machine}
  (henter:(callFunc f vs.toArray).run B.P w=.ok (.enter f vs.toArray) w->Steps B.P m0 (lone (Frame.enter B.P f vs.toArray .normal) (fr::(frs++B.cs)) w))
  (hval:∀ v w',(callFunc f vs.toArray).run B.P w=.ok (.value v) w'->Steps B.P m0 (lone (fr.finish v) (frs++B.cs) w')):After B go D S m0:=by
 unfold qvk at hob
 cases hs:c.sums f with
 | some sm =>
   rw [hs] at hob
   simp only at hob
   rw [qha] at hob
   obtain ⟨r,hr,hob⟩:=R.tree_ob (hc.sums f sm hs B.O B.w0 β H w H.length args vs (hP▸hH.toHeapRel0) (hgl▸hG.glob) ha) hob
   cases hfin:s.finish r.v with
   | none=>rw [hfin] at hob; exact hob.elim
   | some s' =>
     rw [hfin] at hob
     obtain ⟨hown,hcall⟩:=hr fun i _=>hH.bound _ (Nat.le_add_right _ _)
     rw [← hP] at hcall
     have hend:∀ (v':Value) (β':Val) (w':World),r.v.den β'=some v'->Eff B.P β w H.length r.sets r.news β' w'->Steps B.P m0 (lone (fr.finish v') (frs++B.cs) w')->After B go D S m0:=by
      intro v' β' w' hv hE hst
      obtain ⟨h1,h2⟩:=q3g (hF.mono hE.le) hv hfin
      exact ⟨_,hst,.inl ⟨_,hob,⟨β',_,frs,w',rfl,⟨h1,hR.mono hE.le⟩,hH.apply hE hown,hG.mono hE.le,by rw [q5b h2]; exact hl⟩⟩⟩
     rcases hcall with ⟨⟨fn,hfn,hb⟩,hcall⟩ | ⟨v',w',β',hrun,hv,hE⟩
     . obtain ⟨e,w',fr',⟨v',β',rfl,hv,hE⟩,hcomes,_,hleave⟩:=hcall (fr::(frs++B.cs))
       refine hend v' β' w' hv hE ((henter (qod (hP▸hc.prog) hfn hb _ _)).trans (Steps.trans hcomes (.one ?_)))
       exact step_leave_returned hleave
     . exact hend v' β' w' hv hE (hval v' w' hrun)
 | none =>
   rw [hs] at hob
   simp only at hob
   rw [← hP] at hob
   cases he:q7d B.P f args with
   | none=>rw [he] at hob; exact hob.elim
   | some g =>
     rw [he] at hob
     obtain ⟨h1,fn,hfn,hb⟩:=qtn he ha
     refine ⟨_,henter (qod (hP▸hc.prog) hfn hb _ _),.inl ⟨_,hob,⟨β,_,fr::frs,w,rfl,⟨h1,hF,hR⟩,hH,hG,?_⟩⟩⟩
     rw [q8e]; exact hl
theorem q1f {H:List SO} {nm:Nat} {s p f T ps a b d} (h:qgj H nm=some (s,p,f,T,ps,a,b,d)):H[nm]? = some (.loop s p f T ps a b d):=by
 unfold qgj at h
 rw [qca] at h
 split at h
 . rename_i he; cases h; exact he
 . cases h
theorem qdi {P:Program} {O:Nat->Prop} {w0:World} {β:Val} {H:List SO} {w:World} (hH:HeapRel P O w0 β H w) {nm:Nat} {s p f T ps a b d} (h:H[nm]? = some (.loop s p f T ps a b d)) :
  ∃ l r,β nm=some l/\w.heap[l.blk]? = some (.loop r)/\r.state=s/\r.pending=p/\r.fn=f/\SV.denL β T=some r.tmps.toList/\r.params=ps/\r.assign=a/\r.body=b/\(∃ ld,β d=some ld/\r.defers=ld.blk) /\
    ∀ s' p',HeapRel P O w0 β (setN H nm (.loop s' p' f T ps a b d)) (w.putObj l.blk (.loop { r with state:=s',pending:=p' })):=by
 obtain ⟨l,ld,Ts,hl,hd,hT,hh⟩:=hH.entries _ _ h
 refine ⟨l,_,hl,hh,rfl,rfl,rfl,by simpa using hT,rfl,rfl,rfl,⟨ld,hd,rfl⟩,fun s' p' => ?_⟩
 have hlt:l.blk<w.heap.size:=(Array.getElem?_eq_some_iff.1 hh).1
 refine hH.apply (sets:=[(nm,.loop s' p' f T ps a b d)]) (news:=[]) (Eff.turn hl ?_) ?_
 . exact ⟨l,ld,Ts,hl,hd,hT,by simp [hlt]⟩
 . intro n e hn; simp at hn; obtain ⟨rfl,rfl⟩:=hn; exact ⟨_,h,rfl⟩
theorem q6k {H:List SO} {rest:List SF} {nm:Nat} {jump:Option Code} {β:Val} {fr:Frame} {frs:List Frame} {w:World} (hR:FramesRel β rest frs) (hH:HeapRel B.P B.O B.w0 β H w) (hG:BRel B β)
  (hl:((fr::frs).getLast?).map (·.fn)=some B.fn0) (hob:(q0j H rest nm jump go).Ob D S)
  (hst:∀ (l:Loc) (c:Frame) (cs:List Frame) (w':World),β nm=some l->(Instr.endRound l.blk jump).run B.P w=.ok (.bool jump.isNone) w'->step B.P (lone fr (c::cs) w)=.next (lone (c.finish (.bool jump.isNone)) cs w')) :
  After B go D S (lone fr (frs++B.cs) w):=by
 unfold q0j at hob
 split at hob
 . rename_i st p f T ps a b d s rest' hloop
   cases frs with
   | nil=>exact hR.elim
   | cons g frs =>
     cases hs:s.finish (.bool (.lit jump.isNone)) with
     | none=>rw [hs] at hob; exact hob.elim
     | some s' =>
       rw [hs] at hob
       obtain ⟨l,r,hb,hh,_,_,_,_,_,_,_,_,hturn⟩:=qdi hH (q1f hloop)
       obtain ⟨h1,h2⟩:=q3g hR.1 (x:=.bool jump.isNone) rfl hs
       refine ⟨_,.one (hst l g _ _ hb (run_endRound jump hh)),.inl ⟨_,hob,⟨β,_,frs,_,rfl,⟨h1,hR.2⟩,hturn _ _,hG,?_⟩⟩⟩
       rw [q5b h2,← q8e (f:=fr)]; exact hl
 . exact hob.elim
end
end
noncomputable section
variable {α:Type}
section
variable {c:Cfg} {B:Base} {go:SS->Tree} {D:SV->List SO->Prop} {S:SS->Prop}
theorem ql6 {P:Program} {fr:Frame} {cs:List Frame} {w w':World} {b:Nat} {ds calls:List Deferred} (hm:fr.mode=.returning) (hd:fr.defers={ target:=.collected b,args := #[] }::ds) (hr:(Instr.takeDeferred b).run P w=.ok calls w') :
  step P (lone fr cs w)=.next (lone { fr with defers:=calls++ds } cs w') :=
 step_lone_go (by simp [stepG,unwind,hm,hd,Sem.runT_eq,hr,GStep.bare_after])
theorem q2x {P:Program} {O:Nat->Prop} {w0:World} {β:Val} {H:List SO} {w:World} (hr:HeapRel0 P O w0 β H w) {T:List SV} {ts:Array Value} (hT:SV.denL β T=some ts.toList) {φ:α->Prop}:∀ (l:List ResultVar) (k:List SV->R α),
  (∀ svs vs,SV.denL β svs=some vs->(l.mapM (m:=Sem) fun
   | .tmp t=>pure (ts.getD t undef)
   | .cell a t=>do loadVar t (← asAddr (ts.getD a undef))).run P w=.ok vs w->(k svs).Sat φ)->(qfj P H T l k).Sat φ:=by
 have hget:∀ t,((nth T t).getD qua).den β=some (ts.getD t undef):=by
  intro t
  have:=qwe (glob:=fun _=>none) (a:=⟨ts,[]⟩) hT (fun _ _ h=>by cases h) (.tmp t)
  have e:evS (fun _=>none) T (.tmp t)=(nth T t).getD qua:=by
   show optC (nth T t) qua (fun v=>v)=_
   cases nth T t <;> rfl
  rw [e] at this; exact this
 intro l
 induction l with
 | nil=>intro k h; exact h [] [] rfl (by simp)
 | cons x l ih =>
   intro k h
   cases x with
   | tmp t =>
     refine ih _ fun svs vs h1 h2=>h _ _ (denL_cons.2 ⟨_,_,hget t,h1,rfl⟩) ?_
     rw [List.mapM_cons]
     simp only [Sem.run_bind,Sem.run_pure,Result.andThen_ok,h2]
   | cell a t =>
     refine qdg (hget a) fun a' A _ hA hx=>qiu hr hA fun v x hv hrun=>ih _ fun svs vs h1 h2=>h _ _ (denL_cons.2 ⟨_,_,hv,h1,rfl⟩) ?_
     have ha:asAddr (ts.getD a undef)=pure A:=by rw [hx]; rfl
     rw [List.mapM_cons]
     simp only [ha,Sem.run_bind,Sem.run_pure,Result.andThen_ok,hrun,h2]
theorem qq3 {β:Val} {svs:List SV} {vs:List Value} (h:SV.denL β svs=some vs):(q7m svs).den β=some (if h:vs.toArray.size=1 then vs.toArray[0] else .tuple vs.toArray):=by
 cases svs with
 | nil=>rw [denL_nil] at h; subst h; rfl
 | cons a l =>
   obtain ⟨x,xs,hx,hxs,rfl⟩:=denL_cons.1 h
   cases l with
   | nil=>rw [denL_nil] at hxs; subst hxs; simpa [q7m] using hx
   | cons b l =>
     obtain ⟨y,ys,hy,hys,rfl⟩:=denL_cons.1 hxs
     have:q7m (a::b::l)=.tuple (a::b::l):=rfl
     rw [this,dif_neg (by simp)]
     simp only [SV.den,h]; rfl
theorem qqz {P:Program} {O:Nat->Prop} {w0:World} {β:Val} {H:List SO} {w:World} (hr:HeapRel0 P O w0 β H w) {T:List SV} {ts:Array Value} (hT:SV.denL β T=some ts.toList) (fn:Func) :
  (qfj P H T fn.results.toList fun l=>.ok (q7m l)).Sat fun v=>∃ x,v.den β=some x/\(results fn ts).run P w=.ok x w:=by
 refine q2x hr hT _ _ fun svs vs h1 h2=>⟨_,qq3 h1,?_⟩
 unfold results
 rw [Array.mapM_eq_mapM_toList]
 simp only [Sem.run_bind,Sem.run_map,Sem.run_pure]
 exact congrArg (fun z:Result (List Value)=>(z.andThen fun a w'=>Result.ok a.toArray w').andThen fun a w'=>.ok (if h:a.size=1 then a[0] else .tuple a) w') h2
theorem qvn (hc:CfgOK c) (hP:B.P=c.P) {fn:SFn} {args captured:List SV} {pick:Summ × Summ->Summ} {H:List SO} {k:List SO->Tree} {β:Val} {w:World} {fr:Frame} {cs:List Frame} {d:Deferred} {ds:List Deferred} {az:List SV}
  (hH:HeapRel B.P B.O B.w0 β H w) (hG:BRel B β) (hd:fr.defers=d::ds) (hm:fr.mode≠.run) (hden:(SD.call fn args captured).den β=some d)
  (hpick:∀ f s,c.dsum f=some s->∀ vs,SV.denL β (app args captured)=some vs->(pick s az H H.length).Sat (q1x c.P H β w H.length f vs fr.mode))
  (hob:(qzw c fn az pick H k).Ob D S) :
  ∃ β' H' w',β.le β'/\Steps B.P (lone fr cs w) (lone { fr with defers:=ds,mode:=.returning } cs w')/\HeapRel B.P B.O B.w0 β' H' w'/\BRel B β'/\(k H').Ob D S:=by
 cases fn with
 | yield nm=>exact hob.elim
 | fn g =>
   cases g <;> try exact hob.elim
   rename_i f
   simp only [SD.den,SFn.den,Option.bind_some,Option.bind_eq_some_iff,Option.map_eq_some_iff] at hden
   obtain ⟨xs,hxs,ys,hys,rfl⟩:=hden
   replace hob:(optC (c.dsum f) (.stuck 405) fun s=>(pick s az H (lenN H)).tree fun r=>k (qyb H r.sets r.news)).Ob D S:=hob
   cases hs:c.dsum f with
   | none=>rw [hs] at hob; exact hob.elim
   | some s =>
     rw [hs] at hob
     simp only [optC_some] at hob
     rw [qha] at hob
     obtain ⟨r,hr,hob⟩:=R.tree_ob (hpick f s hs (xs++ys) (qae hxs hys)) hob
     obtain ⟨hown,⟨fn,hfn,hb⟩,hcall⟩:=hr fun i _=>hH.bound _ (Nat.le_add_right _ _)
     rw [← hP] at hcall hfn
     have hinv:(invoke (.fn (.func f) ys.toArray) xs.toArray).run B.P w=.ok (.enter f (xs++ys).toArray) w:=by
      have:=qod (hP▸hc.prog) hfn hb (xs++ys).toArray w
      simpa [invoke] using this
     have h1:=step_defer (cs:=cs) hm hd rfl hinv
     obtain ⟨e,u',w',frX,⟨⟨v',rfl⟩,hset,β',hE⟩,hcomes,hkX,hgo⟩:=hcall { fr with defers:=ds } cs rfl
     have h2:=step_going_returned (c:={ { fr with defers:=ds } with mode:=u' }) (cs:=cs) hkX hgo
     refine ⟨β',_,w',hE.le,Steps.head h1 (Steps.trans hcomes (.one ?_)),hH.apply hE hown,hG.mono hE.le,hob⟩
     rw [h2]
     simp [hset]
theorem qag (hc:CfgOK c) (hP:B.P=c.P) (hgl:B.glob=c.glob) {cs:List Frame}:∀ {ds:List SD} {H:List SO} {k:List SO->Tree} {β:Val} {w:World} {fr:Frame},fr.mode=.returning->SD.denL β ds=some fr.defers->HeapRel B.P B.O B.w0 β H w->BRel B β->(q2i c ds H k).Ob D S ->
  ∃ β' H' w',β.le β'/\Steps B.P (lone fr cs w) (lone { fr with defers:=[] } cs w')/\HeapRel B.P B.O B.w0 β' H' w'/\BRel B β'/\(k H').Ob D S
 | [],H,k,β,w,fr,_,hd,hH,hG,hob=>by
   cases hd':fr.defers with
   | nil =>
     have:{ fr with defers:=[] }=fr:=by cases fr; simp at hd'; subst hd'; rfl
     rw [this]; exact ⟨β,H,w,Val.le_refl β,.refl _ _,hH,hG,hob⟩
   | cons=>rw [hd'] at hd; cases hd
 | .call fn args captured::r,H,k,β,w,fr,hm,hd,hH,hG,hob=>by
   simp only [SD.denL,Option.bind_eq_some_iff,Option.map_eq_some_iff] at hd
   obtain ⟨d,hd1,ds',hr1,hr2⟩:=hd
   obtain ⟨β1,H1,w1,hle1,hst1,hH1,hG1,hob1⟩:=qvn hc hP (cs:=cs) (fr:=fr) (az:=app args captured) (pick:=fun s=>s.1) hH hG hr2.symm (by rw [hm]; simp) hd1
    (fun f s hs vs hvs=>by rw [hm]; exact (hc.dsum f s hs).ret B.O B.w0 β H w _ _ vs (hP▸hH.toHeapRel0) (hgl▸hG.glob) hvs) hob
   obtain ⟨β2,H2,w2,hle2,hst2,hH2,hG2,hob2⟩:=qag hc hP hgl (cs:=cs) (ds:=r) (fr:={ fr with defers:=ds',mode:=.returning }) rfl (SD.denL_mono hle1 hr1) hH1 hG1 hob1
   refine ⟨β2,H2,w2,Val.le_trans hle1 hle2,hst1.trans ?_,hH2,hG2,hob2⟩
   have e:({ fr with defers:=[],mode:=.returning }:Frame)={ fr with defers:=[] }:=by rw [← hm]
   rw [← e]; exact hst2
 | .coll nm::r,H,k,β,w,fr,hm,hd,hH,hG,hob=>by
   unfold q2i at hob
   simp only [SD.denL,SD.den,Option.bind_eq_some_iff,Option.map_eq_some_iff] at hd
   obtain ⟨dx,⟨l,hl1,rfl⟩,ds',hr1,hr2⟩:=hd
   rw [qca] at hob
   split at hob
   . rename_i he
     obtain ⟨l',ds2,hb,hd,hh⟩:=hH.entries _ _ he
     rw [hl1] at hb; cases hb
     have hd':ds2=some []:=by
      simp [SD.denO,SD.denL] at hd; exact hd.symm
     subst hd'
     have hlt:l.blk<w.heap.size:=(Array.getElem?_eq_some_iff.1 hh).1
     have hH':HeapRel B.P B.O B.w0 β (setN H nm (.deferred none)) (w.putObj l.blk (.deferred none)):=by
      refine hH.apply (sets:=[(nm,.deferred none)]) (news:=[]) (Eff.turn hl1 ?_) ?_
      . exact ⟨l,none,hl1,rfl,by simp [hlt]⟩
      . intro n e hn; simp at hn; obtain ⟨rfl,rfl⟩:=hn; exact ⟨_,he,rfl⟩
     have hstep:=ql6 (P:=B.P) (fr:=fr) (cs:=cs) (b:=l.blk) (ds:=ds') (calls:=[]) hm hr2.symm (run_takeDeferred hh)
     obtain ⟨β2,H2,w',hle,hst,hH2,hG2,hob2⟩:=qag hc hP hgl (ds:=r) (fr:={ fr with defers:=ds' }) (cs:=cs) hm hr1 hH' hG hob
     exact ⟨β2,H2,w',hle,(Steps.one hstep).trans hst,hH2,hG2,hob2⟩
   . exact hob.elim
theorem qwn (hP:B.P=c.P) {s:SF} {rest:List SF} {H:List SO} {β:Val} {fr:Frame} {frs:List Frame} {w:World} (hfn:fr.fn=s.fn) (hT:SV.denL β s.tmps=some fr.tmps.toList) (hm:fr.mode=.returning) (hd:fr.defers=[]) (hk:fr.kind=.normal)
  (hR:FramesRel β rest frs) (hH:HeapRel B.P B.O B.w0 β H w) (hG:BRel B β) (hl:((fr::frs).getLast?).map (·.fn)=some B.fn0) (hob:(qir c s rest H go).Ob D S):After B go D S (lone fr (frs++B.cs) w):=by
 unfold qir at hob
 rw [qca] at hob
 have hfn':B.P.funcs.toList[fr.fn]? = B.P.funcs[fr.fn]? := by simp
 rw [← hP,← hfn,hfn'] at hob
 cases hfun:B.P.funcs[fr.fn]? with
 | none=>rw [hfun] at hob; exact hob.elim
 | some fn =>
   rw [hfun] at hob
   simp only at hob
   obtain ⟨v,⟨x,hv,hrun⟩,hob⟩:=R.tree_ob (qqz hH.toHeapRel0 hT fn) hob
   exact qp3 hR hH hG hv hl ⟨hm,hd,hk,fn,hfun,hrun⟩ hob
theorem qxn (hc:CfgOK c) (hP:B.P=c.P) (hgl:B.glob=c.glob) {v:SV} {x:Value} {H:List SO} {β:Val} {w:World} (hv:v.den β=some x) (hH:HeapRel B.P B.O B.w0 β H w) (hG:BRel B β) :
  ∀ {ss:List SF} {fr:Frame} {frs:List Frame} {s:SF},FrameRel β s fr->FramesRel β ss frs->((fr::frs).getLast?).map (·.fn)=some B.fn0->(q1w c v H go (s::ss)).Ob D S ->
    After B go D S (lone { fr with mode:=.panicking [{ v:=x,recovered:=false }] } (frs++B.cs) w)
 | ss,fr,frs,s,hF,hR,hl,hob=>by
   replace hob:(q0w c v H go s ss (q1w c v H go ss)).Ob D S:=hob
   unfold q0w at hob
   split at hob
   . exact hob.elim
   . split at hob
     . rename_i hds
       rw [qca] at hob
       have hfn':B.P.funcs.toList[fr.fn]? = B.P.funcs[fr.fn]? := by simp
       rw [← hP,← hF.fn,hfn'] at hob
       have hd:=hF.defers
       rw [hds] at hd
       have hd0:fr.defers=[]:=by simpa [SD.denL] using hd.symm
       cases hfun:B.P.funcs[fr.fn]? with
       | none=>rw [hfun] at hob; exact hob.elim
       | some fn =>
         rw [hfun] at hob
         simp only [optC_some] at hob
         cases ss with
         | nil=>exact hob.elim
         | cons s2 ss =>
           cases frs with
           | nil=>exact hR.elim
           | cons f2 frs =>
             have hlv:({ fr with mode:=.panicking [{ v:=x,recovered:=false }] }:Frame).leaving B.P w (.panicked [{ v:=x,recovered:=false }]):=⟨rfl,hd0,fn,hfun⟩
             have hst:=step_leave_panicked (c:=f2) (cs:=frs++B.cs) hlv
             rw [Frame.raise_mode,hR.1.mode] at hst
             refine .step hst (qxn hc hP hgl hv hH hG hR.1 hR.2 ?_ hob)
             rw [← q8e (f:=fr)]; exact hl
     . rename_i fn args captured ds hds
       have hd:=hF.defers
       rw [hds] at hd
       simp only [SD.denL,Option.bind_eq_some_iff,Option.map_eq_some_iff] at hd
       obtain ⟨d,hd1,ds',hr1,hr2⟩:=hd
       obtain ⟨β1,H1,w1,hle1,hst1,hH1,hG1,hob1⟩:=qvn hc hP (cs:=frs++B.cs) (fr:={ fr with mode:=.panicking [{ v:=x,recovered:=false }] }) (az:=v::app args captured) (pick:=fun s=>s.2) hH hG hr2.symm (by simp) hd1
        (fun f s hs vs hvs=>(hc.dsum f s hs).pan B.O B.w0 β H w _ v x _ vs (hP▸hH.toHeapRel0) (hgl▸hG.glob) hv hvs) hob
       obtain ⟨β2,H2,w2,hle2,hst2,hH2,hG2,hob2⟩:=qag hc hP hgl (cs:=frs++B.cs) (fr:={ fr with defers:=ds',mode:=.returning }) rfl (SD.denL_mono hle1 hr1) hH1 hG1 hob1
       refine .of_steps (hst1.trans hst2) (qwn hP (fr:={ fr with defers:=[],mode:=.returning }) hF.fn (SV.denL_mono (Val.le_trans hle1 hle2) _ hF.tmps) rfl rfl hF.kind (hR.mono (Val.le_trans hle1 hle2)) hH2 hG2 ?_ hob2)
       exact (q5b (f:=fr) (f':={ fr with defers:=[],mode:=.returning }) (frs:=frs) rfl).trans hl
     . exact hob.elim
theorem qzm (hc:CfgOK c) (hP:B.P=c.P) (hgl:B.glob=c.glob) {s:SF} {rest:List SF} {H:List SO} {β:Val} {fr:Frame} {frs:List Frame} {w:World} (hF:FrameRel β s fr) (hR:FramesRel β rest frs) (hH:HeapRel B.P B.O B.w0 β H w) (hG:BRel B β)
  (hl:((fr::frs).getLast?).map (·.fn)=some B.fn0) (htd:s.todo=[]\/∃ k,s.todo=.code .ret::k) (hob:(qwo c s rest H go).Ob D S):After B go D S (lone fr (frs++B.cs) w):=by
 unfold qwo at hob
 have htd':fr.todo=[]\/∃ k,fr.todo=.code .ret::k:=by
  have:=hF.todo
  rcases htd with h | ⟨k,h⟩
  . rw [h] at this
    cases hf:fr.todo with
    | nil=>exact .inl rfl
    | cons y k'=>rw [hf] at this; exact this.elim
  . rw [h] at this
    cases hf:fr.todo with
    | nil=>rw [hf] at this; exact this.elim
    | cons y k' =>
      rw [hf] at this
      obtain ⟨h1,_⟩:=this
      cases y <;> first | exact h1.elim | skip
      exact .inr ⟨k',by rw [show _=Code.ret from h1]⟩
 cases hro:s.roundOf with
 | some nm =>
   rw [hro] at hob
   simp only at hob
   have hround:=hF.round
   rw [hro] at hround
   cases hfr:fr.roundOf with
   | none=>rw [hfr] at hround; exact hround.elim
   | some bl =>
     rw [hfr] at hround
     obtain ⟨l0,hl0,rfl⟩:=hround
     refine q6k hR hH hG hl hob fun l cc cs w' hb hrun => ?_
     rw [hl0] at hb; cases hb
     rw [qqb hF.mode]
     rcases htd with h | ⟨k,h⟩
     . have ht:fr.todo=[]:=by
        rcases htd' with h' | ⟨k',h'⟩
        . exact h'
        . have:=hF.todo; rw [h,h'] at this; exact this.elim
       rw [h] at hrun ⊢
       rw [ht]
       exact stepR_round_end hfr hF.kind hrun
     . obtain ⟨k',ht⟩:∃ k',fr.todo=.code .ret::k':=by
        rcases htd' with h' | h'
        . have:=hF.todo; rw [h,h'] at this; exact this.elim
        . exact h'
       rw [h] at hrun ⊢
       rw [ht]
       exact stepR_round_ret hfr hF.kind hrun
 | none =>
   rw [hro] at hob
   simp only at hob
   have hround:=hF.round
   rw [hro] at hround
   have hfr:fr.roundOf=none:=by
    cases hfr:fr.roundOf with
    | none=>rfl
    | some bl=>rw [hfr] at hround; exact hround.elim
   have hstep:step B.P (lone fr (frs++B.cs) w)=.next (lone { fr.atR ⟨fr.tmps,fr.defers⟩ fr.todo with mode:=.returning } (frs++B.cs) w):=by
    rw [qqb hF.mode]
    rcases htd' with h' | ⟨k',h'⟩
    . rw [h']; exact stepR_end hfr
    . rw [h']; exact stepR_ret hfr
   refine .step hstep ?_
   obtain ⟨β',H',w',hle,hst,hH',hG',hob⟩:=qag hc hP hgl (fr:={ fr.atR ⟨fr.tmps,fr.defers⟩ fr.todo with mode:=.returning }) (cs:=frs++B.cs) rfl hF.defers hH hG hob
   refine .of_steps hst (qwn hP (fr:={ ({ fr.atR ⟨fr.tmps,fr.defers⟩ fr.todo with mode:=.returning }:Frame) with defers:=[] }) hF.fn (SV.denL_mono hle _ hF.tmps) rfl rfl hF.kind (hR.mono hle) hH' hG' ((q5b (f:=fr) (f':={ ({ fr.atR ⟨fr.tmps,fr.defers⟩ fr.todo with mode:=.returning }:Frame) with defers:=[] }) (frs:=frs) rfl).trans hl) hob)
end
end
noncomputable section
variable {α:Type}
section
variable {c:Cfg} {B:Base} {go:SS->Tree} {D:SV->List SO->Prop} {S:SS->Prop}
theorem qmj (v:SV):(∃ b,v=.bool b)\/∀ {γ:Type} (d:γ) (f:SB->γ),v.asBool d f=d:=by
 cases v <;> first | exact .inl ⟨_,rfl⟩ | exact .inr fun _ _=>rfl
theorem q0m (v:SV):(∃ b,v=.tuple b)\/∀ {γ:Type} (d:γ) (f:List SV->γ),v.asTuple d f=d:=by
 cases v <;> first | exact .inl ⟨_,rfl⟩ | exact .inr fun _ _=>rfl
theorem qr9 {β:Val} {o:Oper} {os:Array Oper} {T:List SV} {ts:Array Value} (hT:SV.denL β T=some ts.toList) {yes:List SV->Tree} {no:Tree} (hob:(qkr o.guard os T yes no).Ob D S) :
  (Region.wanted o (yielded os ts)=true/\∃ T',SV.denL β T'=some ts.toList/\(yes T').Ob D S)\/(Region.wanted o (yielded os ts)=false/\no.Ob D S):=by
 cases hg:o.guard with
 | none =>
   rw [hg] at hob
   exact .inl ⟨by simp [Region.wanted,hg],T,hT,hob⟩
 | some p =>
   obtain ⟨j,want⟩:=p
   rw [hg] at hob
   replace hob:(optC (quh os j) no fun d=>optC (nth T d) (.stuck 410) fun v=>v.asBool (qwk v no) fun b=>qjr b want T d yes no).Ob D S:=hob
   have hdst:quh os j=(os[j]?).bind (·.dst):=by
    unfold quh
    rw [qca,show os.toList[j]? = os[j]? from by simp]
    cases os[j]? <;> rfl
   rw [hdst] at hob
   have hw:Region.wanted o (yielded os ts)=(yielded os ts j == some want):=by simp [Region.wanted,hg]
   rw [hw]
   cases hd:(os[j]?).bind (·.dst) with
   | none =>
     rw [hd] at hob
     exact .inr ⟨by simp [yielded,hd],hob⟩
   | some d =>
     rw [hd] at hob
     simp only [optC_some] at hob
     rw [qca] at hob
     cases hv:T[d]? with
     | none=>rw [hv] at hob; exact hob.elim
     | some v =>
       rw [hv] at hob
       simp only [optC_some] at hob
       obtain ⟨x,hx,hden⟩:=qed hT hv
       have hx':ts[d]? = some x:=by rw [← hx]; simp
       rcases qmj v with ⟨b,rfl⟩ | hnb
       . simp only [SV.den,Option.some.injEq] at hden
         subst hden
         have hy:yielded os ts j=some b.den:=by simp [yielded,hd,hx']
         rw [hy]
         replace hob:(qjr b want T d yes no).Ob D S:=hob
         cases b with
         | lit b =>
           cases b <;> cases want <;> first
            | exact .inl ⟨rfl,T,hT,hob⟩
            | exact .inr ⟨rfl,hob⟩
         | sym b =>
           have hset:∀ q:Bool,b=q->SV.denL β (setN T d (.bool (.lit q)))=some ts.toList:=by
            intro q hq
            rw [que]
            have h1:=qeq hT (n:=d) (v:=.bool (.lit q)) (x:=.bool b) (by simp [SV.den,SB.den,hq])
            rw [h1]
            congr 1
            apply List.ext_getElem?
            intro i
            rw [List.getElem?_set]
            split
            . rename_i hi; subst hi
              split
              . rw [hx]; rfl
              . rename_i hlt; rw [List.getElem?_eq_none (by omega)]
            . rfl
           cases b with
           | true =>
             have:=hob.1 rfl
             cases want
             . exact .inr ⟨rfl,this⟩
             . exact .inl ⟨rfl,_,hset true rfl,this⟩
           | false =>
             have:=hob.2 rfl
             cases want
             . exact .inl ⟨rfl,_,hset false rfl,this⟩
             . exact .inr ⟨rfl,this⟩
       . rw [hnb] at hob
         rcases q0m v with ⟨l,rfl⟩ | hnt
         . cases l with
           | cons=>exact hob.elim
           | nil =>
             simp only [SV.den,SV.denL,Option.map_some,Option.some.injEq] at hden
             subst hden
             exact .inr ⟨by simp [yielded,hd,hx'],hob⟩
         . unfold qwk at hob
           rw [hnt] at hob
           exact hob.elim
theorem qng {P:Program} {f:Frame} (hm:f.mode=.run) {os:Array Oper} {i:Nat} {rest:List Nat} {k:List Item} (htd:f.todo=.inRegion os (i::rest)::k) {o:Oper} (ho:os[i]? = some o) (hw:Region.wanted o (yielded os f.tmps)=true)
  (hnd:∀ c,o.op≠.defer c) {cs:List Frame} {w:World} :
  stepG P true { frame:=f,callers:=cs,status:=.running,dying:=none } w=stepG.apply P true f cs none (execOp (Act.eval ⟨f.tmps,f.defers⟩) o) w:=by
 have h:=stepGR_op (P:=P) (b:=f) (a:=⟨f.tmps,f.defers⟩) (k:=k) (cs:=cs) (w:=w) (rest:=rest) ho hw
 rw [Oper.semAt_eq _ _ _ hnd,← htd,← qqb hm] at h
 exact h
theorem qzd {P:Program} {f:Frame} {s:Sem Next} {cs:List Frame} {w w':World} {nx:Next} {v:Value}
  (h:stepG P true { frame:=f,callers:=cs,status:=.running,dying:=none } w=stepG.apply P true f cs none s w) (hr:s.run P w=.ok nx w') (hv:qgh nx=some v) :
  step P (lone f cs w)=.next (lone (f.finish v) cs w'):=by
 refine step_lone_go ?_
 rw [h]
 cases nx <;> simp [qgh] at hv <;> subst hv <;> simp [stepG.apply,Sem.runT_eq,hr,GStep.bare_after]
theorem qbm {P:Program} {f:Frame} {s:Sem Next} {cs:List Frame} {w w':World} {g:FuncId} {args:Array Value} (hk:∀ d a b c r,f.todo≠.call d a b c::r)
  (h:stepG P true { frame:=f,callers:=cs,status:=.running,dying:=none } w=stepG.apply P true f cs none s w) (hr:s.run P w=.ok (.enter g args) w') :
  step P (lone f cs w)=.next (lone (Frame.enter P g args .normal) (f::cs) w'):=by
 refine step_lone_go ?_
 rw [h]
 have:(match f.todo with | .call _ true _ _::_=>CallKind.wrapped | _=>CallKind.normal)=.normal:=by
  split
  . rename_i h'; exact absurd h' (hk _ _ _ _ _)
  . rfl
 simp [stepG.apply,Sem.runT_eq,hr,GStep.bare_after]
 exact congrArg (Frame.enter P g args) this
theorem qr3 {P:Program} {f:Frame} {s:Sem Next} {cs:List Frame} {w w':World} {l:Nat} {g:FuncId} {ts:Array Value} {a b:Code}
  (h:stepG P true { frame:=f,callers:=cs,status:=.running,dying:=none } w=stepG.apply P true f cs none s w) (hr:s.run P w=.ok (.round l g ts a b) w') :
  step P (lone f cs w)=.next (lone (Frame.round l g ts a b .normal) (f::cs) w'):=by
 refine step_lone_go ?_
 rw [h]
 simp [stepG.apply,Sem.runT_eq,hr,GStep.bare_after]
theorem qm6 {β:Val}:∀ (ps:List Tmp) (T args:List SV) (ts:Array Value) (vs:List Value),SV.denL β T=some ts.toList->SV.denL β args=some vs ->
  SV.denL β (qxo T ps args)=some ((ps.zip vs).foldl (fun (ts:Array Value) (x:Tmp × Value)=>ts.setIfInBounds x.1 x.2) ts).toList:=by
 intro ps
 induction ps with
 | nil=>intro T args ts vs hT _; simpa [qxo] using hT
 | cons p ps ih =>
   intro T args ts vs hT ha
   cases args with
   | nil=>rw [denL_nil] at ha; subst ha; simpa [qxo] using hT
   | cons a args =>
     obtain ⟨x,xs,hx,hxs,rfl⟩:=denL_cons.1 ha
     simp only [qxo,List.zip_cons_cons,List.foldl_cons]
     refine ih _ _ _ _ ?_ hxs
     rw [que,Array.toList_setIfInBounds]
     exact qeq hT hx
theorem qri {P:Program} {ev:Operand->SV} {H:List SO} {base:Nat} {o:Oper} {cc:Call} (hd:o.op=.defer cc):(∃ n,opS P ev H base o=.stuck n)\/∃ d,opS P ev H base o=.ok (.defer d):=by
 show (∃ n,opD o.op P ev H base=_)\/∃ d,opD o.op P ev H base=_
 rw [hd]
 show (∃ n,q6m cc P ev H base=_)\/∃ d,q6m cc P ev H base=_
 unfold q6m
 split
 . rename_i f _
   rcases q2g (ev f) with ⟨fn,xs,ys,h⟩ | h
   . rw [h]; exact .inr ⟨_,rfl⟩
   . rw [h]; exact .inl ⟨_,rfl⟩
 . exact .inl ⟨_,rfl⟩
theorem qn6 (hc:CfgOK c) (hP:B.P=c.P) (hgl:B.glob=c.glob) {o:Oper} {l:List Oper} {os:Array Oper} {k:List SItem} {s:SF} {rest:List SF} {H:List SO} {β:Val} {fr:Frame} {frs:List Frame} {w:World} (hF:FrameRel β s fr) (hR:FramesRel β rest frs) (hH:HeapRel B.P B.O B.w0 β H w) (hG:BRel B β)
  (hl:((fr::frs).getLast?).map (·.fn)=some B.fn0) (htd:s.todo=.ops os (o::l)::k) (hob:(opT o l os k s rest c H go).Ob D S):After B go D S (lone fr (frs++B.cs) w):=by
 have htd':=hF.todo
 rw [htd] at htd'
 cases hft:fr.todo with
 | nil=>rw [hft] at htd'; exact htd'.elim
 | cons y k' =>
   rw [hft] at htd'
   obtain ⟨hxy,hkk⟩:=htd'
   cases y <;> first | exact hxy.elim | skip
   rename_i os' idx
   obtain ⟨rfl,hat⟩:=hxy
   cases idx with
   | nil=>exact hat.elim
   | cons i0 is0 =>
   obtain ⟨ho,hat⟩:=hat
   have hbehind:∀ (β':Val) (T':List SV) (v:SV) (x:Value),β.le β'->SV.denL β' T'=some fr.tmps.toList->v.den β'=some x->FrameRel β' ⟨s.fn,putT T' o.dst v,.ops os' l::k,s.defers,s.roundOf⟩ (fr.finish x)/\(fr.finish x).fn=fr.fn:=by
    intro β' T' v x hle hT' hv
    have h1:FrameRel β' ⟨s.fn,T',s.todo,s.defers,s.roundOf⟩ fr:=by
     have:=hF.mono hle
     exact ⟨this.fn,hT',this.todo,this.defers,this.mode,this.kind,this.round⟩
    refine q3g h1 hv ?_
    show qvo s.todo _ v=_
    rw [htd]; rfl
   unfold opT at hob
   rcases qr9 hF.tmps hob with ⟨hw,T',hT',hob⟩ | ⟨hw,hob⟩
   . have hdefer:∀ d:SD,qea B.P H β w H.length ((execOp (Act.eval ⟨fr.tmps,fr.defers⟩) o).run B.P w) (.defer d)->(resD (.defer d) ⟨c,⟨s.fn,T',s.todo,s.defers,s.roundOf⟩,rest,H,os',l,k,o.dst,go⟩).Ob D S->After B go D S (lone fr (frs++B.cs) w):=by
      intro d hr hob
      obtain ⟨x,hx,hrun⟩:=hr
      replace hob:(optC s.roundOf (go ⟨⟨s.fn,putT T' o.dst qua,.ops os' l::k,d::s.defers,s.roundOf⟩::rest,H⟩) fun _=>.stuck 412).Ob D S:=hob
      cases hro:s.roundOf with
      | some nm=>rw [hro] at hob; exact hob.elim
      | none =>
        rw [hro] at hob
        have hround:=hF.round
        rw [hro] at hround
        have hfr:fr.roundOf=none:=by
         cases hfr:fr.roundOf with
         | none=>rfl
         | some bl=>rw [hfr] at hround; exact hround.elim
        have hsg:=stepGR_op (P:=B.P) (b:=fr) (a:=⟨fr.tmps,fr.defers⟩) (k:=k') (cs:=frs++B.cs) (w:=w) (rest:=is0) ho hw
        rw [hfr,Oper.semAt_none,← hft,← qqb hF.mode] at hsg
        have hF1:FrameRel β ⟨s.fn,T',s.todo,d::s.defers,s.roundOf⟩ { fr with defers:=x::fr.defers } :=
         ⟨hF.fn,hT',hF.todo,by simp only [SD.denL,hx,hF.defers,Option.bind_some,Option.map_some],hF.mode,hF.kind,hF.round⟩
        obtain ⟨h1,h2⟩:=q3g hF1 (v:=qua) (x:=undef) (s':=⟨s.fn,putT T' o.dst qua,.ops os' l::k,d::s.defers,s.roundOf⟩) (by simp [qua,SV.den,SV.denL,undef]) (by show qvo s.todo _ _=_; rw [htd]; rfl)
        rw [hro] at h1
        refine ⟨_,.one (step_lone_go ?_),.inl ⟨_,hob,⟨β,({ fr with defers:=x::fr.defers }:Frame).finish undef,frs,w,rfl,⟨h1,hR⟩,hH,hG,by rw [q5b h2]; exact (q5b (f:=fr) (f':={ fr with defers:=x::fr.defers }) (frs:=frs) rfl).trans hl⟩⟩⟩
        rw [hsg]
        simp [stepG.apply,Sem.runT_eq,hrun,GStep.bare_after]
     by_cases hd:∃ cc,o.op=.defer cc
     . obtain ⟨cc,hd⟩:=hd
       rw [qha] at hob
       have hev:∀ x∈o.op.operands,(evS c.glob T' x).den β=some (Act.eval ⟨fr.tmps,fr.defers⟩ x):=fun x _=>qwe (a:=⟨fr.tmps,fr.defers⟩) hT' (hgl▸hG.glob) x
       have hsat:=qmf (hP▸hH.toHeapRel0) o hev (base:=H.length)
       have hdef:=qri (P:=c.P) (ev:=evS c.glob T') (H:=H) (base:=H.length) hd
       rcases hdef with ⟨n,hn⟩ | ⟨d,hdd⟩
       . rw [hn] at hob; exact hob.elim
       rw [hdd] at hsat hob
       have hr:=hsat
       replace hr:qea c.P H β w H.length _ (.defer d):=hr
       rw [← hP] at hr
       exact hdefer d hr hob
     . have hnd:∀ cc,o.op≠.defer cc:=fun cc h=>hd ⟨cc,h⟩
       have hsg:=qng (P:=B.P) hF.mode hft ho hw hnd (cs:=frs++B.cs) (w:=w)
       rw [qha] at hob
       have hev:∀ x∈o.op.operands,(evS c.glob T' x).den β=some (Act.eval ⟨fr.tmps,fr.defers⟩ x):=fun x _=>qwe (a:=⟨fr.tmps,fr.defers⟩) hT' (hgl▸hG.glob) x
       obtain ⟨r,hr,hob⟩:=R.tree_ob (qmf (hP▸hH.toHeapRel0) o hev) hob
       rw [← hP] at hr
       cases r with
       | val v sets news =>
         obtain ⟨nx,x,w',β',hrun,hnx,hv,hE,hown⟩:=hr fun i _=>hH.bound _ (Nat.le_add_right _ _)
         obtain ⟨h1,h2⟩:=hbehind β' T' v x hE.le (SV.denL_mono hE.le _ hT') hv
         exact ⟨_,.one (qzd hsg hrun hnx),.inl ⟨_,hob,⟨β',_,frs,w',rfl,⟨h1,hR.mono hE.le⟩,hH.apply hE hown,hG.mono hE.le,by rw [q5b h2]; exact hl⟩⟩⟩
       | enter f args =>
         obtain ⟨vs,ha,hrun⟩:=hr
         have hF':FrameRel β ⟨s.fn,T',s.todo,s.defers,s.roundOf⟩ fr:=⟨hF.fn,hT',hF.todo,hF.defers,hF.mode,hF.kind,hF.round⟩
         refine qun hc hP hgl hF' hR hH hG hl ha hob (fun he => ?_) fun v w' he => ?_
         . exact .one (qbm (by rw [hft]; intros; simp) hsg (hrun.trans he))
         . exact .one (qzd hsg (hrun.trans he) rfl)
       | round nm args =>
         obtain ⟨ll,vs,hb,ha,hrun⟩:=hr
         replace hob:(q2w nm args ⟨s.fn,T',s.todo,s.defers,s.roundOf⟩ rest H go).Ob D S:=hob
         unfold q2w at hob
         split at hob
         . rename_i st p f T ps a b d hloop
           split at hob
           . rename_i hlen
             obtain ⟨l',r',hb',hh,_,_,hfn,hTT,hps,hass,hbod,_,_⟩:=qdi hH (q1f hloop)
             rw [hb] at hb'; cases hb'
             have hsz:vs.toArray.size=r'.params.size:=by
              rw [qha,qha] at hlen
              rw [hps]; have:=qva ha; simp at hlen ⊢; omega
             have hy:=run_yield (P:=B.P) (args:=vs.toArray) hh hsz
             have hF':FrameRel β ⟨s.fn,T',s.todo,s.defers,s.roundOf⟩ fr:=⟨hF.fn,hT',hF.todo,hF.defers,hF.mode,hF.kind,hF.round⟩
             refine ⟨_,.one (qr3 hsg (hrun.trans hy)),.inl ⟨_,hob,⟨β,_,fr::frs,w,rfl,⟨⟨hfn,?_,?_,rfl,rfl,rfl,⟨ll,hb,rfl⟩⟩,hF',hR⟩,hH,hG,by rw [q8e]; exact hl⟩⟩⟩
             . have e:((r'.params.zip vs.toArray).foldl (fun (ts:Array Value) (x:Tmp × Value)=>ts.setIfInBounds x.1 x.2) r'.tmps)=(ps.toList.zip vs).foldl (fun (ts:Array Value) (x:Tmp × Value)=>ts.setIfInBounds x.1 x.2) r'.tmps:=by
                rw [← Array.foldl_toList,Array.toList_zip,hps]
               exact (qm6 ps.toList T args r'.tmps vs hTT ha).trans (congrArg (fun z:Array Value=>some z.toList) e.symm)
             . show TodoRel β [.code a,.beginRound,.code b] [.code r'.assign,.beginRound,.code r'.body]
               rw [hass,hbod]; exact ⟨rfl,trivial,rfl,trivial⟩
           . exact hob.elim
         . exact hob.elim
       | defer d=>exact hdefer d hr hob
       | panic v =>
         obtain ⟨x,hx,hrun⟩:=hr
         have hF':FrameRel β ⟨s.fn,T',s.todo,s.defers,s.roundOf⟩ fr:=⟨hF.fn,hT',hF.todo,hF.defers,hF.mode,hF.kind,hF.round⟩
         refine .step (m1:=lone { fr with mode:=.panicking [{ v:=x,recovered:=false }] } (frs++B.cs) w) (step_lone_go ?_) (qxn hc hP hgl hx hH hG hF' hR hl hob)
         rw [hsg]
         have:=Frame.raise_mode fr [{ v:=x,recovered:=false }]
         rw [hF.mode] at this
         simp [stepG.apply,Sem.runT_eq,hrun,GStep.bare_after,this,raised]
       | touch v nm =>
         obtain ⟨nx,x,w',e,hrun,hnx,hv,he,heo,hE⟩:=hr
         obtain ⟨h1,h2⟩:=hbehind β T' v x (Val.le_refl β) hT' hv
         have hH':HeapRel B.P B.O B.w0 β H w':=by
          have:=hH.apply (hE.rebase (b:=H.length)) (by intro n e' hn; simp at hn; obtain ⟨rfl,rfl⟩:=hn; exact ⟨e',he,heo⟩)
          rwa [qhc,List.append_nil,qqi he] at this
         exact ⟨_,.one (qzd hsg hrun hnx),.inl ⟨_,hob,⟨β,_,frs,w',rfl,⟨h1,hR⟩,hH',hG,by rw [q5b h2]; exact hl⟩⟩⟩
   ·
    obtain ⟨h1,h2⟩:=hbehind β s.tmps qua undef (Val.le_refl β) hF.tmps (by simp [qua,SV.den,SV.denL,undef])
    refine ⟨_,.one (step_lone_go ?_),.inl ⟨_,hob,⟨β,fr.finish undef,frs,w,rfl,⟨h1,hR⟩,hH,hG,by rw [q5b h2]; exact hl⟩⟩⟩
    have hg:((os'[i0]?).map (Region.wanted · (yielded os' fr.tmps))).getD false=false:=by rw [ho]; exact hw
    simp [stepG,stepG.exec,hft,hF.mode,hg]
end
end
noncomputable section
variable {α:Type}
def R.Leaf (r:R α) (a:α):Prop :=
 match r with
 | .ok b=>a=b
 | .need p r=>p/\r.Leaf a
 | .fork b t f=>(b=true/\t.Leaf a)\/(b=false/\f.Leaf a)
 | .stuck _=>False
 | .any _=>False
theorem R.leaf_of_ob {r:R α} {k:α->Tree} {D:SV->List SO->Prop} {S:SS->Prop} (ho:(r.treeD k).Ob D S):∃ a,r.Leaf a/\(k a).Ob D S:=by
 induction r with
 | ok a=>exact ⟨a,rfl,ho⟩
 | need p r ih=>obtain ⟨a,h1,h2⟩:=ih ho.2; exact ⟨a,⟨ho.1,h1⟩,h2⟩
 | fork b t f iht ihf =>
   cases b with
   | true=>obtain ⟨a,h1,h2⟩:=iht (ho.1 rfl); exact ⟨a,.inl ⟨rfl,h1⟩,h2⟩
   | false=>obtain ⟨a,h1,h2⟩:=ihf (ho.2 rfl); exact ⟨a,.inr ⟨rfl,h1⟩,h2⟩
 | stuck n=>exact ho.elim
 | any k ih=>exact ho.elim
theorem R.sat_leaf {r:R α} {φ:α->Prop} {a:α} (h:r.Sat φ) (hl:r.Leaf a):φ a:=by
 induction r with
 | ok b=>rw [show a=b from hl]; exact h
 | need p r ih=>exact ih (h hl.1) hl.2
 | fork b t f iht ihf =>
   rcases hl with ⟨hb,hl⟩ | ⟨hb,hl⟩
   . exact iht (h.1 hb) hl
   . exact ihf (h.2 hb) hl
 | stuck n=>exact hl.elim
 | any k ih=>exact hl.elim
def getT (T:List SV) (t:Nat):SV:=(nth T t).getD qua
structure AgreeOn (β:Val) (T:List SV) (ts:Array Value) (l:List Nat):Prop where
 size:ts.size=T.length
 at_:∀ t∈l,(getT T t).den β=some (ts.getD t undef)
structure SameDen (T T':List SV):Prop where
 len:T'.length=T.length
 den:∀ β t,(getT T' t).den β=(getT T t).den β
theorem SameDen.refl (T:List SV):SameDen T T:=⟨rfl,fun _ _=>rfl⟩
theorem qcm (T:List SV) (d t:Nat) (v:SV):getT (setN T d v) t=if t=d/\d<T.length then v else getT T t:=by
 unfold getT
 rw [qca,qca,que,List.getElem?_set]
 by_cases h:t=d
 . subst h
   by_cases h2:t<T.length
   . simp [h2]
   . simp [h2]
 . simp [h,Ne.symm h]
theorem qmt {l r:List Nat} {x:Nat}:x∈app l r↔x∈l\/x∈r:=by rw [q1a,List.mem_append]
theorem qrz {os:Array Oper} {o:Oper} {j:Nat} {want:Bool} {d:Nat} (hg:o.guard=some (j,want)) (hd:(os[j]?).bind (·.dst)=some d):d∈qpb os o:=by
 unfold qpb
 rw [qmt]
 left
 rw [hg]
 have:quh os j=some d:=by
  unfold quh
  rw [qca,show os.toList[j]? = os[j]? from by simp]
  cases h:os[j]? with
  | none=>rw [h] at hd; cases hd
  | some o'=>rw [h] at hd; exact hd
 simp [this]
theorem qli {os:Array Oper} {o:Oper} {t:Nat} (h:.tmp t∈o.op.operands):t∈qpb os o:=by
 unfold qpb
 rw [qmt]
 right
 have h':.tmp t∈o.op.operands.toList:=by simpa using h
 generalize o.op.operands.toList=l at h'
 induction l with
 | nil=>cases h'
 | cons x l ih =>
   show t∈app (qj0 x) _
   rw [qmt]
   rcases List.mem_cons.1 h' with rfl | h''
   . left; exact List.mem_cons_self
   . right; exact ih h''
theorem qog {ts:Array Value} {d:Nat} {x:Value} (h:d<ts.size) (hx:ts.getD d undef=x):ts[d]? = some x:=by
 rw [Array.getD_eq_getD_getElem?,Array.getElem?_eq_getElem h] at hx
 rw [Array.getElem?_eq_getElem h]; exact congrArg some hx
section
variable {c:Cfg} {D:SV->List SO->Prop} {S:SS->Prop}
theorem qcs {o:Oper} {os:Array Oper} {T:List SV} {yes:List SV->Tree} {no:Tree} (hob:(qkr o.guard os T yes no).Ob D S) :
  (∃ T',SameDen T T'/\(∀ β ts,AgreeOn β T' ts (qpb os o)->Region.wanted o (yielded os ts)=true)/\(yes T').Ob D S) \/
  ((∀ β ts,AgreeOn β T ts (qpb os o)->Region.wanted o (yielded os ts)=false)/\no.Ob D S):=by
 cases hg:o.guard with
 | none =>
   rw [hg] at hob
   exact .inl ⟨T,.refl T,fun β ts _=>by simp [Region.wanted,hg],hob⟩
 | some p =>
   obtain ⟨j,want⟩:=p
   rw [hg] at hob
   replace hob:(optC (quh os j) no fun d=>optC (nth T d) (.stuck 410) fun v=>v.asBool (qwk v no) fun b=>qjr b want T d yes no).Ob D S:=hob
   have hdst:quh os j=(os[j]?).bind (·.dst):=by
    unfold quh
    rw [qca,show os.toList[j]? = os[j]? from by simp]
    cases os[j]? <;> rfl
   rw [hdst] at hob
   have hw:∀ ts,Region.wanted o (yielded os ts)=(yielded os ts j == some want):=fun ts=>by simp [Region.wanted,hg]
   cases hd:(os[j]?).bind (·.dst) with
   | none =>
     rw [hd] at hob
     exact .inr ⟨fun β ts _=>by rw [hw]; simp [yielded,hd],hob⟩
   | some d =>
     have hmem:=qrz hg hd
     rw [hd] at hob
     simp only [optC_some] at hob
     cases hv:nth T d with
     | none=>rw [hv] at hob; exact hob.elim
     | some v =>
       rw [hv] at hob
       simp only [optC_some] at hob
       have hdlt:d<T.length:=by
        rw [qca] at hv; exact (List.getElem?_eq_some_iff.1 hv).1
       have hgv:getT T d=v:=by unfold getT; rw [hv]; rfl
       have hsee:∀ β ts (T':List SV) (x:Value),AgreeOn β T' ts (qpb os o)->T'.length=T.length->(getT T' d).den β=some x->ts[d]? = some x:=by
        intro β ts T' x ha hl hx
        have:=ha.at_ d hmem
        rw [hx] at this
        exact qog (by rw [ha.size,hl]; exact hdlt) (Option.some.inj this).symm
       rcases qmj v with ⟨b,rfl⟩ | hnb
       . replace hob:(qjr b want T d yes no).Ob D S:=hob
         have hy:∀ β ts (T':List SV) (q:Bool),AgreeOn β T' ts (qpb os o)->T'.length=T.length->(getT T' d).den β=some (.bool q)->yielded os ts j=some q:=by
          intro β ts T' q ha hl hx
          have:=hsee β ts T' _ ha hl hx
          simp [yielded,hd,this]
         cases b with
         | lit b =>
           have hyl:∀ β ts,AgreeOn β T ts (qpb os o)->yielded os ts j=some b:=fun β ts ha=>hy β ts T b ha rfl (by rw [hgv]; rfl)
           cases b <;> cases want <;> first
            | exact .inl ⟨T,.refl T,fun β ts ha=>by rw [hw,hyl β ts ha]; rfl,hob⟩
            | exact .inr ⟨fun β ts ha=>by rw [hw,hyl β ts ha]; rfl,hob⟩
         | sym b =>
           have hsd:∀ q:Bool,b=q->SameDen T (setN T d (.bool (.lit q))):=by
            intro q hq
            refine ⟨by rw [que]; simp,fun β t => ?_⟩
            rw [qcm]
            split
            . rename_i h; rw [h.1,hgv,hq]; rfl
            . rfl
           have hyq:∀ q:Bool,b=q->∀ β ts,AgreeOn β (setN T d (.bool (.lit q))) ts (qpb os o)->yielded os ts j=some q:=fun q hq β ts ha =>
            hy β ts _ q ha (hsd q hq).len (by rw [qcm,if_pos ⟨rfl,hdlt⟩]; rfl)
           have hyl:∀ q:Bool,b=q->∀ β ts,AgreeOn β T ts (qpb os o)->yielded os ts j=some q:=fun q hq β ts ha=>hy β ts T q ha rfl (by rw [hgv,← hq]; rfl)
           cases b with
           | true =>
             have:=hob.1 rfl
             cases want
             . exact .inr ⟨fun β ts ha=>by rw [hw,hyl true rfl β ts ha]; rfl,this⟩
             . exact .inl ⟨_,hsd true rfl,fun β ts ha=>by rw [hw,hyq true rfl β ts ha]; rfl,this⟩
           | false =>
             have:=hob.2 rfl
             cases want
             . exact .inl ⟨_,hsd false rfl,fun β ts ha=>by rw [hw,hyq false rfl β ts ha]; rfl,this⟩
             . exact .inr ⟨fun β ts ha=>by rw [hw,hyl false rfl β ts ha]; rfl,this⟩
       . rw [hnb] at hob
         rcases q0m v with ⟨l,rfl⟩ | hnt
         . cases l with
           | cons=>exact hob.elim
           | nil =>
             refine .inr ⟨fun β ts ha => ?_,hob⟩
             have:=hsee β ts T (.tuple #[]) ha rfl (by rw [hgv]; rfl)
             rw [hw]; simp [yielded,hd,this]
         . unfold qwk at hob
           rw [hnt] at hob
           exact hob.elim
inductive Fct where
 | skip
 | run (v:SV) (N:List SO) (base:Nat) (sets:List (Nat × SO))
 | touch (v:SV) (nm:Nat)
def Fct.val:Fct->SV
 | .skip=>qua
 | .run v _ _ _=>v
 | .touch v _=>v
def Fct.news:Fct->List SO
 | .skip=>[]
 | .run _ N _ _=>N
 | .touch _ _=>[]
def Fct.sets:Fct->List (Nat × SO)
 | .skip=>[]
 | .run _ _ _ s=>s
 | .touch _ _=>[]
def qnj (P:Program) (glob:Nat->Option Nat) (H:List SO) (os:Array Oper) (o:Oper) (T:List SV):Fct->Prop
 | .skip=>∀ β ts,AgreeOn β T ts (qpb os o)->Region.wanted o (yielded os ts)=false
 | .run v N base sets=>∀ β ts,AgreeOn β T ts (qpb os o)->Region.wanted o (yielded os ts)=true /\
   ∀ (O:Nat->Prop) (w0 w:World),HeapRel0 P O w0 β H w->GlobRel glob β->Free β base N ->
     ∀ (f:Frame) (cs:List Frame) (i:Nat) (rest:List Nat) (k:List Item),f.mode=.run->f.todo=.inRegion os (i::rest)::k->os[i]? = some o->f.tmps=ts ->
       ∃ x w' β',v.den β'=some x/\Eff P β w base sets N β' w'/\(∀ n e,(n,e)∈sets->∃ e0,H[n]? = some e0/\e0.owned=true)/\Steps P (lone f cs w) (lone (f.finish x) cs w')
 | .touch v nm=>∀ β ts,AgreeOn β T ts (qpb os o)->Region.wanted o (yielded os ts)=true /\
   ∀ (O:Nat->Prop) (w0 w:World),HeapRel0 P O w0 β H w->GlobRel glob β ->
     ∀ (f:Frame) (cs:List Frame) (i:Nat) (rest:List Nat) (k:List Item),f.mode=.run->f.todo=.inRegion os (i::rest)::k->os[i]? = some o->f.tmps=ts ->
       ∃ x w' e,v.den β=some x/\H[nm]? = some e/\e.owned=true/\Eff P β w 0 [(nm,e)] [] β w'/\Steps P (lone f cs w) (lone (f.finish x) cs w')
theorem qo6 {v:SV} {news:List SO} {p:DPos} {dst:Option Tmp} {T:List SV} {N:List (Nat × SO)} {next:List SV->List (Nat × SO)->Tree} (h:(q4w v news p dst T N next).Ob D S):news.length<=1/\(next (putT T dst v) (N++news.map fun e=>(p.i,e))).Ob D S:=by
 unfold q4w at h
 split at h
 . exact ⟨by simp,by rw [List.map_nil,List.append_nil]; exact h⟩
 . exact ⟨by simp,by rw [← q1a]; exact h⟩
 . exact h.elim
theorem qkh {α:Type} {p:α->Bool} {l:List α} (h:allN p l=true):∀ x∈l,p x=true:=by
 induction l with
 | nil=>intro x hx; cases hx
 | cons a r ih =>
   obtain ⟨h1,h2⟩:p a=true/\allN p r=true:=by
    replace h:boolC (p a) (allN p r) false=true:=h
    cases hp:p a with
    | true=>rw [hp] at h; exact ⟨rfl,h⟩
    | false=>rw [hp] at h; cases h
   intro x hx
   rcases List.mem_cons.1 hx with rfl | hx
   . exact h1
   . exact ih h2 x hx
def q0o (x:DCtx) (m last:Nat) (L:List (Nat × SO)) (n:Nat):Prop :=
 x.H.length<=n/\∃ j e0,L[n - x.H.length]? = some (j,e0)/\m.testBit j=true/\∀ i,i<last->m.testBit i=true\/(((qda x.os.toList [])[i]?).getD 0).testBit j=false
structure SetsLast (x:DCtx) (p:DPos) (N:List (Nat × SO)) (sets:List (Nat × SO)):Prop where
 last:p.last=true
 mL:x.mL=some p.m
 hid:∀ n e,(n,e)∈sets->hidN x.H n=true\/q0o x p.m p.i N n
theorem qsz {x:DCtx} {p:DPos} {N:List (Nat × SO)} {n:Nat} (h:qxk x p N n=true):q0o x p.m p.i N n:=by
 unfold qxk at h
 rw [qha] at h
 cases hb:Nat.ble x.H.length n with
 | false=>rw [hb] at h; cases h
 | true =>
   rw [hb,boolC_true,qca] at h
   have hle:=Nat.le_of_ble_eq_true hb
   have h:(optC N[n - x.H.length]? false fun q=>qlr (qda x.os.toList []) p.m p.i q.1)=true:=h
   cases hN:N[n - x.H.length]? with
   | none=>rw [hN] at h; cases h
   | some q =>
     rw [hN] at h
     have h:qlr (qda x.os.toList []) p.m p.i q.1=true:=h
     unfold qlr at h
     cases hj:bitN p.m q.1 with
     | false=>rw [hj] at h; cases h
     | true =>
       rw [hj,boolC_true] at h
       refine ⟨hle,q.1,q.2,hN,hj,fun i hi => ?_⟩
       have:=qkh h i (by rw [qya,List.mem_range'_1]; omega)
       have this:boolC (bitN p.m i) true (boolC (bitN (optC (nth (qda x.os.toList []) i) 0 fun k=>k) q.1) false true)=true:=this
       cases hi':bitN p.m i with
       | true=>exact .inl hi'
       | false =>
         right
         rw [hi',boolC_false,qca] at this
         have e:(optC (qda x.os.toList [])[i]? 0 fun k=>k)=((qda x.os.toList [])[i]?).getD 0:=by cases (qda x.os.toList [])[i]? <;> rfl
         rw [e] at this
         cases hk:bitN (((qda x.os.toList [])[i]?).getD 0) q.1 with
         | false=>exact hk
         | true=>rw [hk] at this; cases this
theorem qlq {v:SV} {sets:List (Nat × SO)} {news:List SO} {x:DCtx} {p:DPos} {dst:Option Tmp} {T:List SV} {N:List (Nat × SO)} {next:List SV->List (Nat × SO)->Tree} (h:(qql v sets news x p dst T N next).Ob D S) :
  (sets=[]/\news.length<=1/\(next (putT T dst v) (N++news.map fun e=>(p.i,e))).Ob D S)\/(sets≠[]/\news=[]/\SetsLast x p N sets/\(x.fin (putT T dst v) (N.map (·.2)) sets).Ob D S):=by
 unfold qql at h
 split at h
 . exact .inl ⟨rfl,qo6 h⟩
 . rename_i hne
   right
   unfold ql5 at h
   split at h
   . cases hl:p.last with
     | false=>rw [hl] at h; exact h.elim
     | true =>
       rw [hl] at h
       cases hm:x.mL with
       | none=>rw [hm] at h; exact h.elim
       | some m =>
         rw [hm] at h
         replace h:(boolC (Nat.beq m p.m) (boolC (allN (fun q=>boolC (hidN x.H q.1) true (qxk x p N q.1)) sets) (x.fin (putT T dst v) (mapN (fun p=>p.2) N) sets) (.stuck 436)) (.stuck 437)).Ob D S:=h
         cases hb:Nat.beq m p.m with
         | false=>rw [hb] at h; exact h.elim
         | true =>
           rw [hb] at h
           cases ha:allN (fun q=>boolC (hidN x.H q.1) true (qxk x p N q.1)) sets with
           | false=>rw [ha] at h; exact h.elim
           | true =>
             rw [ha] at h
             replace h:(x.fin (putT T dst v) (mapN (fun p=>p.2) N) sets).Ob D S:=h
             rw [qja] at h
             refine ⟨fun he=>hne he,rfl,⟨hl,by rw [Nat.eq_of_beq_eq_true hb] at hm; exact hm,fun n e hn => ?_⟩,h⟩
             have:=qkh ha _ hn
             have this:boolC (hidN x.H n) true (qxk x p N n)=true:=this
             cases hh:hidN x.H n with
             | true=>exact .inl rfl
             | false=>rw [hh,boolC_false] at this; exact .inr (qsz this)
   . exact h.elim
theorem qs9 (H:List SO) (m:Nat) (N:List (Nat × SO)):qyo H m N=H++q8v m N:=by
 cases N with
 | nil=>show H=H++[]; rw [List.append_nil]
 | cons a r=>show app H (q8v m (a::r))=_; rw [q1a]
theorem j6d {x:DCtx} (hc:CfgOK x.c) {o:Oper} {p:DPos} {T:List SV} {N:List (Nat × SO)} {next:List SV->List (Nat × SO)->Tree} (h:(drOp o x p T N next).Ob D S) :
  ∃ T' f,SameDen T T'/\qnj x.c.P x.c.glob (qyo (x.atI p.i p.last) p.m N) x.os o T' f/\((f.sets=[]/\(next (putT T' o.dst f.val) (N++f.news.map fun e=>(p.i,e))).Ob D S)\/(f.sets≠[]/\f.news=[]/\SetsLast x p N f.sets/\(x.fin (putT T' o.dst f.val) (N.map (·.2)) f.sets).Ob D S))/\f.news.length<=1/\∀ v M b s,f=.run v M b s->b=x.H.length+N.length:=by
 unfold drOp at h
 rcases qcs h with ⟨T',hsd,hwant,h⟩ | ⟨hwant,h⟩
 . obtain ⟨r,hleaf,h⟩:=R.leaf_of_ob h
   have hnd:∀ cc,o.op≠.defer cc:=by
    intro cc hd
    rcases qri (P:=x.c.P) hd with ⟨n,hn⟩ | ⟨d,hn⟩
    . rw [hn] at hleaf; exact hleaf
    . rw [hn] at hleaf
      obtain rfl:r=.defer d:=hleaf
      exact (show False from h)
   have hbase:Nat.add (lenN x.H) (lenN N)=x.H.length+N.length:=by rw [qha,qha]; rfl
   rw [hbase] at hleaf
   have hev:∀ (β:Val) (ts:Array Value) (ds:List Deferred),AgreeOn β T' ts (qpb x.os o)->GlobRel x.c.glob β->∀ y∈o.op.operands,(evS x.c.glob T' y).den β=some (Act.eval ⟨ts,ds⟩ y):=by
    intro β ts ds ha hG y hy
    cases y with
    | tmp t =>
      have h1:=ha.at_ t (qli hy)
      have e:evS x.c.glob T' (.tmp t)=getT T' t:=by
       show optC (nth T' t) qua (fun v=>v)=_
       unfold getT; cases nth T' t <;> rfl
      rw [e]; exact h1
    | const v=>exact q0g β v
    | global g =>
      show (qwg g x.c.glob T').den β=_
      unfold qwg
      split
      . rename_i nm h
        obtain ⟨l,h1,h2,h3⟩:=hG g nm h
        simp [SV.den,SA.den,h1,h2,h3,SN.den,Act.eval]
      . rfl
    | func f=>rfl
   cases r with
   | val v sets news =>
     have hor:=qlq (x:=x) (D:=D) (S:=S) (show (qql v sets news x p o.dst T' N next).Ob D S from h)
     have hn:news.length<=1:=by rcases hor with ⟨_,hn,_⟩ | ⟨_,hn,_⟩ <;> first | exact hn | (have hn:news=[]:=hn; simp [hn])
     refine ⟨T',.run v news (x.H.length+N.length) sets,hsd,?_,hor.imp (fun h=>⟨h.1,h.2.2⟩) id,hn,fun _ _ _ _ e=>by cases e; rfl⟩
     intro β ts ha
     refine ⟨hwant β ts ha,fun O w0 w hH hG hfree f cs i rest k hm htd ho hts => ?_⟩
     subst hts
     have hsg:=qng (P:=x.c.P) hm htd ho (hwant β f.tmps ha) hnd (cs:=cs) (w:=w)
     obtain ⟨nx,y,w',β',hrun,hnx,hv,hE,hso⟩:=R.sat_leaf (qmf hH o (hev β f.tmps f.defers ha hG)) hleaf hfree
     exact ⟨y,w',β',hv,hE,hso,.one (qzd hsg hrun hnx)⟩
   | enter g args =>
     replace h:(q9s g args x p o.dst T' N next).Ob D S:=h
     unfold q9s at h
     split at h
     . rename_i sm hsm
       obtain ⟨r,hleaf2,h⟩:=R.leaf_of_ob h
       rw [hbase] at hleaf2
       obtain ⟨v,sets,news⟩:=r
       have hor:=qlq (x:=x) (D:=D) (S:=S) h
       have hn:news.length<=1:=by rcases hor with ⟨_,hn,_⟩ | ⟨_,hn,_⟩ <;> first | exact hn | (have hn:news=[]:=hn; simp [hn])
       refine ⟨T',.run v news (x.H.length+N.length) sets,hsd,?_,hor.imp (fun h=>⟨h.1,h.2.2⟩) id,hn,fun _ _ _ _ e=>by cases e; rfl⟩
       intro β ts ha
       refine ⟨hwant β ts ha,fun O w0 w hH hG hfree f cs i rest k hm htd ho hts => ?_⟩
       subst hts
       have hsg:=qng (P:=x.c.P) hm htd ho (hwant β f.tmps ha) hnd (cs:=cs) (w:=w)
       obtain ⟨vs,hvs,hrun⟩:=R.sat_leaf (qmf hH o (hev β f.tmps f.defers ha hG)) hleaf
       obtain ⟨hso,hcall⟩:=R.sat_leaf (hc.sums g sm hsm O w0 β (qyo (x.atI p.i p.last) p.m N) w _ args vs hH hG hvs) hleaf2 hfree
       rcases hcall with ⟨⟨fn,hfn,hb⟩,hcall⟩ | ⟨v',w',β',hrun2,hv,hE⟩
       . obtain ⟨e,w',fr',⟨v',β',rfl,hv,hE⟩,hcomes,_,hleave⟩:=hcall (f::cs)
         exact ⟨v',w',β',hv,hE,hso,.trans (.one (qbm (by rw [htd]; intros; simp) hsg (hrun.trans (qod hc.prog hfn hb _ _)))) (.trans hcomes (.one (step_leave_returned hleave)))⟩
       . exact ⟨v',w',β',hv,hE,hso,.one (qzd hsg (hrun.trans hrun2) rfl)⟩
     . exact h.elim
   | round nm args=>exact h.elim
   | defer d=>exact h.elim
   | panic v=>exact h.elim
   | touch v nm =>
     have hor:=qlq (x:=x) (D:=D) (S:=S) (show (qql v [] [] x p o.dst T' N next).Ob D S from h)
     refine ⟨T',.touch v nm,hsd,?_,hor.imp (fun h=>⟨h.1,h.2.2⟩) (fun h=>absurd rfl h.1),by simp [Fct.news],fun _ _ _ _ e=>by cases e⟩
     intro β ts ha
     refine ⟨hwant β ts ha,fun O w0 w hH hG f cs i rest k hm htd ho hts => ?_⟩
     subst hts
     have hsg:=qng (P:=x.c.P) hm htd ho (hwant β f.tmps ha) hnd (cs:=cs) (w:=w)
     obtain ⟨nx,y,w',e,hrun,hnx,hv,he,heo,hE⟩:=R.sat_leaf (qmf (base:=x.H.length+N.length) hH o (hev β f.tmps f.defers ha hG)) hleaf
     exact ⟨y,w',e,hv,he,heo,hE.rebase,.one (qzd hsg hrun hnx)⟩
 . exact ⟨T,.skip,.refl T,hwant,.inl ⟨rfl,by rw [show Fct.news .skip=[] from rfl,List.map_nil,List.append_nil]; exact h⟩,by simp [Fct.news],fun _ _ _ _ e=>by cases e⟩
end
end
noncomputable section
variable {α:Type}
theorem qyn (acc:List Nat) (es:List Edge) (j:Nat) (h:(qmd acc es).testBit j=true):∃ e∈es,Region.binds .any e=true/\(j=e.on\/∃ m,acc[e.on]? = some m/\m.testBit j=true):=by
 induction es with
 | nil=>simp [qmd] at h
 | cons e es ih =>
   replace h:(boolC (Region.binds .any e) (Nat.lor (Nat.lor (Nat.pow 2 e.on) (optC (nth acc e.on) 0 fun m=>m)) (qmd acc es)) (qmd acc es)).testBit j=true:=h
   cases hb:Region.binds .any e with
   | false =>
     rw [hb,boolC_false] at h
     obtain ⟨e',h1,h2⟩:=ih h
     exact ⟨e',List.mem_cons_of_mem _ h1,h2⟩
   | true =>
     rw [hb,boolC_true] at h
     replace h:(2 ^ e.on ||| (optC (nth acc e.on) 0 fun m=>m) ||| qmd acc es).testBit j=true:=h
     rw [Nat.testBit_or,Nat.testBit_or,Bool.or_eq_true,Bool.or_eq_true] at h
     rcases h with (h | h) | h
     . rw [Nat.testBit_two_pow] at h
       exact ⟨e,List.mem_cons_self,hb,.inl (by simpa using (of_decide_eq_true h).symm)⟩
     . refine ⟨e,List.mem_cons_self,hb,.inr ?_⟩
       rw [qca] at h
       cases hm:acc[e.on]? with
       | none=>rw [hm] at h; simp [optC] at h
       | some m=>rw [hm] at h; exact ⟨m,rfl,h⟩
     . obtain ⟨e',h1,h2⟩:=ih h
       exact ⟨e',List.mem_cons_of_mem _ h1,h2⟩
theorem qhd:∀ (ops:List Oper) (acc:List Nat),(qda ops acc).take acc.length=acc/\(qda ops acc).length=acc.length+ops.length /\
  ∀ (i:Nat) (o:Oper),ops[i]? = some o->(qda ops acc)[acc.length+i]? = some (qmd ((qda ops acc).take (acc.length+i)) o.after.toList):=by
 intro ops
 induction ops with
 | nil=>intro acc; exact ⟨List.take_length,rfl,by simp⟩
 | cons o r ih =>
   intro acc
   have e:qda (o::r) acc=qda r (acc++[qmd acc o.after.toList]):=by
    show qda r (app acc _)=_
    rw [q1a]
   rw [e]
   obtain ⟨h1,h2,h3⟩:=ih (acc++[qmd acc o.after.toList])
   have h1':(qda r (acc++[qmd acc o.after.toList])).take acc.length=acc:=by
    have:=congrArg (List.take acc.length) h1
    rw [List.take_take,List.take_left] at this
    rw [show min acc.length (acc++[qmd acc o.after.toList]).length=acc.length from by simp] at this
    exact this
   refine ⟨h1',by rw [h2]; simp; omega,fun i o' ho => ?_⟩
   cases i with
   | zero =>
     simp at ho; subst ho
     rw [Nat.add_zero,h1']
     have:((qda r (acc++[qmd acc o.after.toList])).take (acc++[qmd acc o.after.toList]).length)[acc.length]? = (acc++[qmd acc o.after.toList])[acc.length]? := by rw [h1]
     rw [List.getElem?_take,if_pos (by simp)] at this
     rw [this]; simp
   | succ i =>
     have:=h3 i o' (by simpa using ho)
     rw [show acc.length+(i+1)=(acc++[qmd acc o.after.toList]).length+i from by simp; omega]
     exact this
theorem qnf {m i:Nat} (h:qig m i=true) {j:Nat} (hj:j<i):m.testBit j=true:=by
 have h':m &&& (2 ^ i - 1)=2 ^ i - 1:=Nat.eq_of_beq_eq_true h
 have:=congrArg (fun x=>x.testBit j) h'
 simp only [Nat.testBit_and,Nat.testBit_two_pow_sub_one,hj,decide_true,Bool.and_true] at this
 exact this
theorem q2a {a b:Bool} (h:boolC a b false=true):a=true/\b=true:=by cases a <;> cases b <;> simp_all
theorem qmi:∀ (ops:List Oper) (k:Nat),qib ops k=true->∀ (i:Nat) (o:Oper),ops[i]? = some o->∀ e∈o.after.toList,Region.binds .any e=true->e.on<k+i:=by
 intro ops
 induction ops with
 | nil=>intro k _ i o h; simp at h
 | cons a r ih =>
   intro k h i o ho e he hb
   obtain ⟨h1,h2⟩:=q2a (show boolC (qk0 k a.after.toList) (qib r (k+1)) false=true from h)
   cases i with
   | zero =>
     simp at ho; subst ho
     have:=q2j _ _ h1 e he
     rw [hb,boolC_true] at this
     have:=Nat.le_of_ble_eq_true this
     omega
   | succ i =>
     have:=ih (k+1) h2 i o (by simpa using ho) e he hb
     omega
theorem qmk:∀ (ms:List Nat) (k:Nat),q4e ms k=true->∀ (i m:Nat),ms[i]? = some m->qig m (k+i)=true:=by
 intro ms
 induction ms with
 | nil=>intro k _ i m h; simp at h
 | cons a r ih =>
   intro k h i m hm
   obtain ⟨h1,h2⟩:=q2a (show boolC (qig a k) (q4e r (k+1)) false=true from h)
   cases i with
   | zero=>simp at hm; subst hm; exact h1
   | succ i =>
     have:=ih (k+1) h2 i m (by simpa using hm)
     rw [show k+(i+1)=k+1+i from by omega]; exact this
theorem qpg {n:Nat} {l:List Nat} (h:n∈l):memN n l=true:=by
 induction l with
 | nil=>cases h
 | cons a l ih =>
   show boolC (Nat.beq a n) true (memN n l)=true
   by_cases ha:a=n
   . subst ha; rw [show Nat.beq a a=true from Nat.beq_refl a]; rfl
   . rw [show Nat.beq a n=false from Bool.eq_false_iff.2 fun h=>ha (Nat.eq_of_beq_eq_true h)]
     exact ih ((List.mem_cons.1 h).resolve_left fun e=>ha e.symm)
theorem qnt (m:Nat) (reads:List Nat):∀ (ops:List Oper) (k:Nat),q1j m reads ops k=true->∀ (j:Nat) (o:Oper) (d:Nat),ops[j]? = some o->o.dst=some d->d∈reads->m.testBit (k+j)=true:=by
 intro ops
 induction ops with
 | nil=>intro k _ j o d h; simp at h
 | cons a r ih =>
   intro k h j o d ho hd hr
   obtain ⟨h1,h2⟩:=q2a (show boolC (optC a.dst true fun d=>boolC (memN d reads) (bitN m k) true) (q1j m reads r (k+1)) false=true from h)
   cases j with
   | zero =>
     simp at ho; subst ho
     rw [hd,optC_some,qpg hr,boolC_true] at h1
     exact h1
   | succ j =>
     have:=ih (k+1) h2 j o d (by simpa using ho) hd hr
     rw [show k+(j+1)=k+1+j from by omega]; exact this
theorem q3x {d:Tmp} {ops:List Oper} (h:q8s (some d) ops=true) {o:Oper} (ho:o∈ops):o.dst≠some d:=by
 intro hd
 have:=q2j _ _ (show allN (fun o:Oper=>optC o.dst true fun e=>boolC (Nat.beq e d) false true) ops=true from h) o ho
 rw [hd,optC_some,show Nat.beq d d=true from Nat.beq_refl d] at this
 cases this
theorem qzh (os:Array Oper) (hd0:List Oper):∀ (ops:List Oper) (ms:List Nat) (k:Nat),qnd os hd0 ops ms k=true->∀ (i:Nat) (o:Oper),ops[i]? = some o ->
  (∀ (j:Nat) (o':Oper) (d:Nat),hd0[j]? = some o'->o'.dst=some d->d∈qpb os o->∃ m:Nat,ms[i]? = some m/\m.testBit j=true)/\(∀ d,o.dst=some d->∀ (j:Nat) (o':Oper),i<j->ops[j]? = some o'->o'.dst≠some d):=by
 intro ops
 induction ops with
 | nil=>intro ms k _ i o h; simp at h
 | cons a r ih =>
   intro ms k h i o ho
   have h':boolC (q1j (List.rec (motive:=fun _=>Nat) 0 (fun m _ _=>m) ms) (qpb os a) hd0 0) (boolC (q8s a.dst r) (qnd os hd0 r (List.rec (motive:=fun _=>List Nat) [] (fun _ r _=>r) ms) (k+1)) false) false=true:=h
   obtain ⟨h1,h2⟩:=q2a h'
   obtain ⟨h2,h3⟩:=q2a h2
   cases i with
   | zero =>
     simp at ho; subst ho
     refine ⟨fun j o' d hj hd hr => ?_,fun d hd j o' hj ho' => ?_⟩
     . have:=qnt _ _ hd0 0 h1 j o' d hj hd hr
       rw [Nat.zero_add] at this
       cases ms with
       | nil=>simp at this
       | cons m ms=>exact ⟨m,rfl,this⟩
     . cases j with
       | zero=>omega
       | succ j =>
         rw [hd] at h2
         exact q3x h2 (List.mem_of_getElem? (by simpa using ho'))
   | succ i =>
     obtain ⟨h4,h5⟩:=ih _ _ h3 i o (by simpa using ho)
     refine ⟨fun j o' d hj hd hr => ?_,fun d hd j o' hj ho' => ?_⟩
     . obtain ⟨m,hm,hb⟩:=h4 j o' d hj hd hr
       cases ms with
       | nil=>simp at hm
       | cons m0 ms=>exact ⟨m,by simpa using hm,hb⟩
     . cases j with
       | zero=>omega
       | succ j=>exact h5 d hd j o' (by omega) (by simpa using ho')
section
variable {c:Cfg} {D:SV->List SO->Prop} {S:SS->Prop}
structure SlotOf (slots:List (Nat × SO)) (i:Nat) (n0:Nat) (f:Fct):Prop where
 ex:(f.news=[]/\∀ e,(i,e) ∉ slots)\/∃ (e:SO) (p:Nat) (v:SV) (q:List (Nat × SO)),f=.run v [e] (n0+p) q/\slots[p]? = some (i,e)/\∀ (q:Nat) (e':SO),slots[q]? = some (i,e')->q=p
def qp6 (H:List SO) (slots:List (Nat × SO)) (m:Nat) (G:List SO):Prop :=
 ∀ n e,G[n]? = some e->e=.gone\/H[n]? = some e\/(H.length<=n/\∃ j,slots[n - H.length]? = some (j,e)/\m.testBit j=true)
theorem qs0 (H:List SO) (m:Nat) (N R:List (Nat × SO)):qp6 H (N++R) m (qyo H m N):=by
 intro n e hn
 rw [qs9] at hn
 rcases Nat.lt_or_ge n H.length with h | h
 . rw [List.getElem?_append_left h] at hn; exact .inr (.inl hn)
 . rw [List.getElem?_append_right h] at hn
   unfold q8v at hn
   rw [qja,List.getElem?_map] at hn
   cases hx:N[n - H.length]? with
   | none=>rw [hx] at hn; cases hn
   | some p =>
     rw [hx] at hn
     have hn:boolC (bitN m p.1) p.2 .gone=e:=Option.some.inj hn
     cases hb:bitN m p.1 with
     | false=>rw [hb] at hn; exact .inl hn.symm
     | true =>
       rw [hb] at hn
       refine .inr (.inr ⟨h,p.1,?_,hb⟩)
       rw [List.getElem?_append_left (List.getElem?_eq_some_iff.1 hx).1,hx,← hn]; rfl
structure Facts (x:DCtx) (ops:List Oper) (ms:List Nat) (T:List SV) (i0:Nat) (N:List (Nat × SO)) (TF:List SV) (Fs:List Fct) (slots:List (Nat × SO)) (sets:List (Nat × SO)):Prop where
 len:Fs.length=ops.length
 lenT:TF.length=T.length
 ge:∀ j e,(j,e)∈slots->i0<=j/\j<i0+ops.length
 same:∀ t,(∀ o∈ops,o.dst≠some t)->∀ β,(getT TF t).den β=(getT T t).den β
 none:ops=[]->sets=[]
 last:sets=[]\/(x.mL=some ((ms[ops.length - 1]?).getD 0)/\∀ n e,(n,e)∈sets->hidN x.H n=true\/q0o x ((ms[ops.length - 1]?).getD 0) (i0+ops.length - 1) (N++slots) n)
 good:∀ (i:Nat) (o:Oper) (f:Fct),ops[i]? = some o->Fs[i]? = some f->SlotOf slots (i0+i) (x.H.length+N.length) f /\
  (∀ d,o.dst=some d->d<T.length->(∀ (k:Nat) (o':Oper),i<k->ops[k]? = some o'->o'.dst≠some d)->∀ β,(getT TF d).den β=f.val.den β) /\
  (f.sets=(if i+1=ops.length then sets else [])/\(f.sets≠[]->f.news=[])) /\
  ∃ T' G,qnj x.c.P x.c.glob G x.os o T' f/\qp6 (x.atI (i0+i) (decide (i+1=ops.length))) (N++slots) ((ms[i]?).getD 0) G/\T'.length=T.length/\∀ t,(∀ (k:Nat) (o':Oper),i<=k->ops[k]? = some o'->o'.dst≠some t)->∀ β,(getT TF t).den β=(getT T' t).den β
theorem q0h (T:List SV) (dst:Option Tmp) (v:SV):(putT T dst v).length=T.length:=by
 cases dst with
 | none=>rfl
 | some d=>show (setN T d v).length=_; rw [que]; simp
theorem q0d {T:List SV} {dst:Option Tmp} {v:SV} {t:Nat} (h:dst≠some t):getT (putT T dst v) t=getT T t:=by
 cases dst with
 | none=>rfl
 | some d =>
   show getT (setN T d v) t=_
   rw [qcm,if_neg]
   rintro ⟨rfl,_⟩; exact h rfl
theorem q1h {T:List SV} {v:SV} {d:Nat} (h:d<T.length):getT (putT T (some d) v) d=v:=by
 show getT (setN T d v) d=_
 rw [qcm,if_pos ⟨rfl,h⟩]
theorem qtz {f:Fct} (h:f.news.length<=1):f.news=[]\/∃ e v b q,f=.run v [e] b q:=by
 cases f with
 | skip=>exact .inl rfl
 | touch=>exact .inl rfl
 | run v N b q =>
   cases N with
   | nil=>exact .inl rfl
   | cons e r =>
     cases r with
     | nil=>exact .inr ⟨e,v,b,q,rfl⟩
     | cons=>simp [Fct.news] at h
theorem qsi (x:DCtx) (i:Nat) (l:Bool):(x.atI i l).length=x.H.length:=by
 unfold DCtx.atI
 cases x.mL with
 | none=>rfl
 | some m =>
   show (boolC l x.H (boolC (bitN m i) x.H (mapN qxg x.H))).length=_
   cases l with
   | true=>rfl
   | false =>
     cases bitN m i with
     | true=>rfl
     | false=>show (mapN qxg x.H).length=_; rw [qja,List.length_map]
theorem qup {x:DCtx} (hc:CfgOK x.c):∀ (ops:List Oper) (ms:List Nat) (T:List SV) (N:List (Nat × SO)) (i0:Nat),(q9v ops x ms i0 T N).Ob D S ->
  ∃ TF Fs slots sets,Facts x ops ms T i0 N TF Fs slots sets/\(x.fin TF ((N++slots).map (·.2)) sets).Ob D S:=by
 intro ops
 induction ops with
 | nil =>
   intro ms T N i0 h
   have h:(x.fin T (mapN (fun p=>p.2) N) []).Ob D S:=h
   rw [qja] at h
   exact ⟨T,[],[],[],⟨rfl,rfl,by simp,fun _ _ _=>rfl,fun _=>rfl,.inl rfl,by simp⟩,by rw [List.append_nil]; exact h⟩
 | cons o r ih =>
   intro ms T N i0 h
   obtain ⟨T',f,hsd,hgood,hor,hn1,hbase⟩:=j6d hc (show (drOp o x ⟨i0,q8f ms,List.rec (motive:=fun _=>Bool) true (fun _ _ _=>false) r⟩ T N (q9v r x (q1d ms) (i0+1))).Ob D S from h)
   have hlast:(List.rec (motive:=fun _=>Bool) true (fun _ _ _=>false) r:Bool)=decide (0+1=(o::r).length):=by cases r <;> simp
   rw [hlast] at hgood hor
   have hm0:q8f ms=(ms[0]?).getD 0:=by cases ms <;> rfl
   have hms:∀ i:Nat,(q1d ms)[i]? = ms[i+1]? := by intro i; cases ms <;> simp [q1d]
   have hlen:T'.length=T.length:=hsd.len
   have hlenP:(putT T' o.dst f.val).length=T.length:=by rw [q0h,hlen]
   rcases hor with ⟨hs0,h⟩ | ⟨hs1,hnn,hsl,hfin⟩
   case inr =>
    have hr:r=[]:=by
     have:=of_decide_eq_true hsl.last
     cases r with
     | nil=>rfl
     | cons=>simp at this
    subst hr
    refine ⟨putT T' o.dst f.val,[f],[],f.sets,⟨rfl,hlenP,by simp,?_,by simp,.inr ⟨?_,fun n e hn => ?_⟩,?_⟩,by rw [List.append_nil]; exact hfin⟩
    . intro t ht β
      rw [q0d (ht o List.mem_cons_self),hsd.den β t]
    . rw [hsl.mL]; exact congrArg some hm0
    . rw [List.append_nil]
      show _\/q0o x ((ms[0]?).getD 0) i0 N n
      rw [← hm0]
      exact hsl.hid n e hn
    . intro i o' f' ho' hf'
      cases i with
      | succ i=>simp at ho'
      | zero =>
        simp at ho' hf'; subst ho'; subst hf'
        refine ⟨⟨.inl ⟨hnn,by simp⟩⟩,fun d hd hdl _ β => ?_,⟨by simp,fun _=>hnn⟩,T',_,hgood,?_,hlen,fun t ht β => ?_⟩
        . rw [hd,q1h (Nat.lt_of_lt_of_eq hdl hlen.symm)]
        . rw [← hm0]; exact qs0 _ _ _ _
        . rw [q0d (ht 0 o (Nat.le_refl _) rfl)]
   case inl =>
   obtain ⟨TF,Fs,slots,sets,hF,hfin⟩:=ih _ _ _ (i0+1) h
   have key:∀ (head:List (Nat × SO)),head=f.news.map (fun e=>(i0,e))->(∀ j e,(j,e)∈head->j=i0)->SlotOf (head++slots) i0 (x.H.length+N.length) f ->
     ∃ TF Fs slots sets,Facts x (o::r) ms T i0 N TF Fs slots sets/\(x.fin TF ((N++slots).map (·.2)) sets).Ob D S:=by
    intro head hmap hge hslot
    have hhl:head.length=f.news.length:=by rw [hmap]; simp
    have hall:N++(head++slots)=N++f.news.map (fun e=>(i0,e))++slots:=by rw [hmap,List.append_assoc]
    refine ⟨TF,f::Fs,head++slots,sets,⟨by simp [hF.len],hF.lenT.trans hlenP,?_,?_,by simp,?_,?_⟩,by rw [hall]; exact hfin⟩
    . intro j e hj
      rw [List.length_cons]
      rcases List.mem_append.1 hj with hj | hj
      . have:=hge j e hj; omega
      . have:=hF.ge j e hj; omega
    . intro t ht β
      rw [hF.same t (fun o' ho'=>ht o' (List.mem_cons_of_mem _ ho')) β,q0d (ht o List.mem_cons_self),hsd.den β t]
    . rcases hF.last with h | ⟨h1,h2⟩
      . exact .inl h
      . cases hr:r with
        | nil=>exact .inl (hF.none hr)
        | cons a r' =>
          have hmm:((q1d ms)[r.length - 1]?).getD 0=(ms[(o::r).length - 1]?).getD 0:=by rw [hms,hr]; rfl
          rw [← hr]
          refine .inr ⟨by rw [h1,hmm],fun n e hn=>(h2 n e hn).imp id fun h => ?_⟩
          rw [hmm,show i0+1+r.length - 1=i0+(o::r).length - 1 from by rw [List.length_cons]; omega,← hall] at h
          exact h
    . intro i o' f' ho' hf'
      cases i with
      | zero =>
        simp at ho' hf'; subst ho'; subst hf'
        refine ⟨by rw [Nat.add_zero]; exact hslot,fun d hd hdl hlate β => ?_,⟨?_,fun h=>absurd hs0 h⟩,T',_,hgood,by rw [← hm0]; exact qs0 _ _ _ _,hlen,fun t ht β => ?_⟩
        . rw [hF.same d (fun o' ho' => ?_) β,hd,q1h (Nat.lt_of_lt_of_eq hdl hlen.symm)]
          obtain ⟨k,hk⟩:=List.mem_iff_getElem?.1 ho'
          exact hlate (k+1) o' (by omega) (by simpa using hk)
        . rw [hs0]
          split
          . rename_i h1
            exact (hF.none (by cases hr:r with
             | nil=>rfl
             | cons a r'=>rw [hr] at h1; simp at h1)).symm
          . rfl
        . rw [hF.same t (fun o' ho' => ?_) β,q0d (ht 0 o (Nat.le_refl _) rfl)]
          obtain ⟨k,hk⟩:=List.mem_iff_getElem?.1 ho'
          exact ht (k+1) o' (by omega) (by simpa using hk)
      | succ i =>
        obtain ⟨h1,h2,⟨h6,h7⟩,T2,G,h3,hG,h4,h5⟩:=hF.good i o' f' (by simpa using ho') (by simpa using hf')
        have hii:(i+1+1=(o::r).length)↔(i+1=r.length):=by simp
        refine ⟨?_,fun d hd hdl hlate β=>h2 d hd (Nat.lt_of_lt_of_eq hdl hlenP.symm) (fun k o'' hk ho''=>hlate (k+1) o'' (by omega) (by simpa using ho'')) β,⟨by rw [h6]; simp only [hii],h7⟩,T2,G,h3,?_,h4.trans hlenP,fun t ht β=>h5 t (fun k o'' hk ho''=>ht (k+1) o'' (by omega) (by simpa using ho'')) β⟩
        . rw [show i0+(i+1)=i0+1+i from by omega]
          rcases h1.ex with ⟨hnil,hno⟩ | ⟨e,p,v,q,hf,hp,huniq⟩
          . refine ⟨.inl ⟨hnil,fun e he => ?_⟩⟩
            rcases List.mem_append.1 he with he | he
            . have:=hge _ _ he; omega
            . exact hno e he
          . refine ⟨.inr ⟨e,head.length+p,v,q,?_,?_,fun q e' hq => ?_⟩⟩
            . rw [hf,List.length_append,hhl,List.length_map]; congr 1; omega
            . rw [List.getElem?_append_right (by omega)]; simpa using hp
            . rcases Nat.lt_or_ge q head.length with hlt | hlt
              . rw [List.getElem?_append_left hlt] at hq
                have:=hge _ _ (List.mem_of_getElem? hq); omega
              . rw [List.getElem?_append_right hlt] at hq
                have:=huniq _ _ hq; omega
        . rw [hall,← hms,show i0+(i+1)=i0+1+i from by omega]
          simp only [hii]
          exact hG
   rcases qtz hn1 with hnil | ⟨e,v,b,q,rfl⟩
   . refine key [] (by rw [hnil]; rfl) (by simp) ⟨.inl ⟨hnil,fun e he => ?_⟩⟩
     have:=hF.ge _ _ he; omega
   . refine key [(i0,e)] rfl (by simp) ⟨.inr ⟨e,0,v,q,?_,rfl,fun q e' hq => ?_⟩⟩
     . rw [hbase v [e] b q rfl]; rfl
     . cases q with
       | zero=>rfl
       | succ q =>
         have:=hF.ge _ _ (List.mem_of_getElem? (show slots[q]? = some (i0,e') from by simpa using hq)); omega
end
theorem HeapRel0.less {P:Program} {O:Nat->Prop} {w0:World} {β:Val} {H G:List SO} {w:World} (h:HeapRel0 P O w0 β H w) (hin:∀ (n:Nat) (e:SO),G[n]? = some e->H[n]? = some e\/e=SO.gone):HeapRel0 P O w0 β G w:=by
 refine ⟨fun n e hn => ?_,fun n m e e' l l' hn hm ho ho' => ?_,fun n e l hn ho => ?_,h.keep⟩
 . rcases hin n e hn with h' | rfl
   . exact h.entries n e h'
   . trivial
 . rcases hin n e hn with h' | rfl
   . rcases hin m e' hm with h2 | rfl
     . exact h.sep n m e e' l l' h' h2 ho ho'
     . cases ho'
   . cases ho
 . rcases hin n e hn with h' | rfl
   . exact h.fresh n e l h' ho
   . cases ho
theorem HeapRel0.lay {P:Program} {O:Nat->Prop} {w0:World} {β β':Val} {G G':List SO} {w w':World} {base:Nat} {news:List SO} (h:HeapRel0 P O w0 β G w) (hE:Eff P β w base [] news β' w')
  (hG:∀ n e,G'[n]? = some e->(G[n]? = some e/\(n<base\/base+news.length<=n))\/(∃ i,n=base+i/\news[i]? = some e)):HeapRel0 P O w0 β' G' w':=by
 have hold:∀ n,(n<base\/base+news.length<=n)->β' n=β n:=fun n hn=>hE.dom n hn
 have hlt:∀ n e l,G[n]? = some e->e.owned=true->β n=some l->l.blk<w.heap.size:=by
  intro n e l he ho hl
  exact ((h.entries n e he).toOwn ho).lt ho hl
 have hfr:∀ b,b<w.heap.size->w'.heap[b]? = w.heap[b]? := fun b hb=>hE.frame b hb (by simp)
 have hnew:∀ i e l,news[i]? = some e->β' (base+i)=some l->w.heap.size<=l.blk:=by
  intro i e l hi hl
  obtain ⟨_,_,l2,hl2,hor⟩:=hE.made i e hi
  rw [hl] at hl2; cases hl2
  rcases hor with h | ⟨_,_,hm,_⟩
  . exact h
  . simp at hm
 have hkept:∀ n e,G[n]? = some e->EntryRel P O w0 β' w' n e:=by
  intro n e he
  have h0:=h.entries n e he
  cases e with
  | row c =>
    obtain ⟨l,vs,hl,hc,hx⟩:=h0
    exact ⟨l,vs,hE.le _ _ hl,hc.mono hE.le,hx⟩
  | own c wh el=>exact OwnRel.kept (P:=P) (e:=.own c wh el) h0 hE.le fun hw l hl=>hfr _ (hlt n _ l he hw hl)
  | loop s p f T ps a b d=>exact OwnRel.kept (P:=P) (e:=.loop s p f T ps a b d) h0 hE.le fun hw l hl=>hfr _ (hlt n _ l he hw hl)
  | deferred ds=>exact OwnRel.kept (P:=P) (e:=.deferred ds) h0 hE.le fun hw l hl=>hfr _ (hlt n _ l he hw hl)
  | gone=>trivial
  | obj o=>exact OwnRel.kept (P:=P) (e:=.obj o) h0 hE.le fun hw l hl=>hfr _ (hlt n _ l he hw hl)
 refine ⟨fun n e he => ?_,fun n m e e' l l' he he' hw hw' hnm hl hl' => ?_,fun n e l he hw hl => ?_,?_⟩
 . rcases hG n e he with ⟨h1,_⟩ | ⟨i,rfl,hi⟩
   . exact hkept n e h1
   . obtain ⟨hw,hr,_⟩:=hE.made i e hi
     cases e <;> first | exact hr | (cases hw; done)
 . rcases hG n e he with ⟨h1,hn⟩ | ⟨i,rfl,hi⟩ <;> rcases hG m e' he' with ⟨h2,hm⟩ | ⟨j,rfl,hj⟩
   . rw [hold n hn] at hl; rw [hold m hm] at hl'
     exact h.sep n m e e' l l' h1 h2 hw hw' hnm hl hl'
   . rw [hold n hn] at hl
     have:=hlt n e l h1 hw hl
     have:=hnew j e' l' hj hl'
     omega
   . rw [hold m hm] at hl'
     have:=hlt m e' l' h2 hw' hl'
     have:=hnew i e l hi hl
     omega
   . exact hE.apart i j l l' (by omega) (List.getElem?_eq_some_iff.1 hi).1 (List.getElem?_eq_some_iff.1 hj).1 hl hl'
 . rcases hG n e he with ⟨h1,hn⟩ | ⟨i,rfl,hi⟩
   . rw [hold n hn] at hl
     exact h.fresh n e l h1 hw hl
   . left
     have:=hnew i e l hi hl
     have:=h.keep.size
     omega
 . refine ⟨hE.os.trans h.keep.os,hE.tape.trans h.keep.tape,hE.output.trans h.keep.output,Nat.le_trans h.keep.drawn hE.drawn,Nat.le_trans h.keep.size hE.size,fun k hk hO => ?_⟩
   rw [hfr k (Nat.lt_of_lt_of_le hk h.keep.size),h.keep.block k hk hO]
theorem HeapRel0.turn {P:Program} {O:Nat->Prop} {w0:World} {β β':Val} {H:List SO} {w w':World} {base:Nat} {sets:List (Nat × SO)} (h:HeapRel0 P O w0 β H w) (hb:∀ n,H.length<=n->β n=none) (hE:Eff P β w base sets [] β' w')
  (hs:∀ n e,(n,e)∈sets->∃ e0,H[n]? = some e0/\e0.owned=true):HeapRel0 P O w0 β' (qgc H sets) w':=by
 have hE':Eff P β w H.length sets [] β' w':=⟨hE.le,hE.os,hE.tape,hE.output,hE.drawn,hE.size,fun n _=>hE.dom n (by simp; omega),hE.frame,hE.one,hE.turned,(by intro i e h; simp at h),(by intro i j l l' _ h; simp at h)⟩
 have:=(HeapRel.apply ⟨h,hb⟩ hE' hs).toHeapRel0
 rw [qhc,List.append_nil] at this
 exact this
end
noncomputable section
variable {α:Type}
theorem qoj {ops:Array Oper} {listed:Array Bool} (h:Region.ready .any ops listed=[]) (fuel t:Nat):Region.linearise.go .any ops fuel t listed []=[]:=by
 cases fuel with
 | zero=>rfl
 | succ fuel =>
   simp only [Region.linearise.go]
   change (match (Region.ready .any ops listed)[t % (Region.ready .any ops listed).length]? with
    | some i=>Region.linearise.go .any ops fuel (t / (Region.ready .any ops listed).length) (listed.setIfInBounds i true) [i]
    | none=>[].reverse)=[]
   rw [h]; rfl
theorem qqg {ops:Array Oper} {listed:Array Bool} (h:Region.ready .any ops listed≠[]) (fuel t:Nat) :
  ∃ i∈Region.ready .any ops listed,∃ t',Region.linearise.go .any ops (fuel+1) t listed []=i::Region.linearise.go .any ops fuel t' (listed.setIfInBounds i true) []:=by
 have hlt:t % (Region.ready .any ops listed).length<(Region.ready .any ops listed).length:=Nat.mod_lt _ (List.length_pos_iff.2 h)
 refine ⟨(Region.ready .any ops listed)[t % (Region.ready .any ops listed).length],List.getElem_mem hlt,t / (Region.ready .any ops listed).length,?_⟩
 have e:Region.linearise.go .any ops (fuel+1) t listed []=match (Region.ready .any ops listed)[t % (Region.ready .any ops listed).length]? with
   | some i=>Region.linearise.go .any ops fuel (t / (Region.ready .any ops listed).length) (listed.setIfInBounds i true) [i]
   | none=>[].reverse:=by
  simp only [Region.linearise.go]; rfl
 rw [e,List.getElem?_eq_getElem hlt]
 show Region.linearise.go .any ops fuel _ _ [_]=_
 rw [linearise_go_acc]; rfl
def unl (listed:Array Bool):Nat->Nat
 | 0=>0
 | k+1=>unl listed k+if listed.getD k true then 0 else 1
theorem q7i {listed:Array Bool} {i:Nat} (hi:listed.getD i true=false):∀ k,unl (listed.setIfInBounds i true) k+(if i<k then 1 else 0)=unl listed k:=by
 have hlt:i<listed.size:=by
  rcases Nat.lt_or_ge i listed.size with h | h
  . exact h
  . rw [Array.getD_eq_getD_getElem?,Array.getElem?_eq_none h] at hi; cases hi
 intro k
 induction k with
 | zero=>rfl
 | succ k ih =>
   simp only [unl]
   by_cases hk:i=k
   . subst hk
     have h1:(listed.setIfInBounds i true).getD i true=true:=by simp [Array.getD_eq_getD_getElem?,hlt]
     rw [h1,hi]
     simp at ih ⊢
     omega
   . rw [getD_set_ne true hk]
     have:(if i<k+1 then 1 else 0)=(if i<k then 1 else 0):=by
      by_cases h:i<k
      . rw [if_pos h,if_pos (by omega)]
      . rw [if_neg h,if_neg (by omega)]
     rw [this]
     omega
theorem q4x {listed:Array Bool} {s n:Nat} (h:∀ j,s<=j->j<n->listed.getD j true=false):∀ k,s+k=n->k<=unl listed n:=by
 intro k hk
 subst hk
 induction k with
 | zero=>exact Nat.zero_le _
 | succ k ih =>
   have:=ih fun j h1 h2=>h j h1 (by omega)
   show k+1<=unl listed (s+k)+_
   rw [show s.add k=s+k from rfl,h (s+k) (by omega) (by omega)]
   simp; omega
theorem q7k {listed:Array Bool} {n i:Nat} (hi:i<n) (h:listed.getD i true=false):1<=unl listed n:=by
 have:=q7i h n
 rw [if_pos hi] at this; omega
section
variable {os:Array Oper} {s:Nat}
theorem q1o (he:qib os.toList 0=true):∀ (i:Nat) (m:Nat),(qda os.toList [])[i]? = some m->∀ j,m.testBit j=true->j<i:=by
 intro i
 induction i using Nat.strongRecOn with
 | ind i ih =>
   intro m hm j hj
   obtain ⟨_,h2,h3⟩:=qhd os.toList []
   have hlt:=(List.getElem?_eq_some_iff.1 hm).1
   rw [h2] at hlt
   simp only [List.length_nil,Nat.zero_add] at hlt h3
   have ho:=h3 i _ (List.getElem?_eq_getElem hlt)
   rw [hm] at ho
   obtain ⟨e,hmem,hb,hor⟩:=qyn _ _ j (by rw [← Option.some.inj ho]; exact hj)
   have hon:=qmi _ 0 he i _ (List.getElem?_eq_getElem hlt) e hmem hb
   rw [Nat.zero_add] at hon
   rcases hor with rfl | ⟨m',hm',hb'⟩
   . exact hon
   . rw [List.getElem?_take,if_pos hon] at hm'
     have:=ih e.on hon m' hm' j hb'
     omega
theorem qrb {listed:Array Bool} (hcl:∀ (i m:Nat),listed.getD i false=true->(qda os.toList [])[i]? = some m->∀ j,m.testBit j=true->listed.getD j false=true)
  {i:Nat} (hi:i∈Region.ready .any os listed) {m:Nat} (hm:(qda os.toList [])[i]? = some m) {j:Nat} (hj:m.testBit j=true):listed.getD j false=true:=by
 rw [mem_ready] at hi
 obtain ⟨_,o,ho,hall⟩:=hi
 obtain ⟨_,_,h3⟩:=qhd os.toList []
 have h4:=h3 i o (by rw [Array.getElem?_toList]; exact ho)
 simp only [List.length_nil,Nat.zero_add] at h4
 rw [hm] at h4
 obtain ⟨e,hmem,hb,hor⟩:=qyn _ _ j (by rw [← Option.some.inj h4]; exact hj)
 have hl:=hall e (by simpa using hmem) hb
 rcases hor with rfl | ⟨m',hm',hb'⟩
 . exact hl
 . rw [List.getElem?_take] at hm'
   split at hm'
   . exact hcl e.on m' hl hm' j hb'
   . cases hm'
theorem qxe (he:qib os.toList 0=true) {listed:Array Bool} {i:Nat} (hi:i<os.size) (hl:listed.getD i true=false) (hb:∀ j,j<i->listed.getD j false=true):i∈Region.ready .any os listed:=by
 rw [mem_ready]
 refine ⟨hl,os[i],Array.getElem?_eq_getElem hi,fun e hmem hbi=>hb _ ?_⟩
 have:=qmi _ 0 he i os[i] (by simp [hi]) e (by simpa using hmem) hbi
 omega
theorem qia {listed:Array Bool} {i:Nat} (hi:i<listed.size):listed.getD i false=listed.getD i true:=by
 simp [Array.getD_eq_getD_getElem?,hi]
theorem qdm (he:qib os.toList 0=true) (ht:∀ (i m:Nat),s<=i->(qda os.toList [])[i]? = some m->∀ j,j<i->m.testBit j=true):∀ (k fuel t s':Nat) (listed:Array Bool),listed.size=os.size->s<=s'->s'+k=os.size ->
  (∀ j,j<os.size->listed.getD j true=decide (j<s'))->k<=fuel->Region.linearise.go .any os fuel t listed []=List.range' s' k:=by
 intro k
 induction k with
 | zero =>
   intro fuel t s' listed hsz hs hk hl _
   rw [qoj]
   . rfl
   . apply List.eq_nil_iff_forall_not_mem.2
     intro j hj
     rw [mem_ready] at hj
     obtain ⟨h1,o,ho,_⟩:=hj
     have hlt:=(Array.getElem?_eq_some_iff.1 ho).1
     rw [hl j hlt] at h1
     have:=of_decide_eq_false h1; omega
 | succ k ih =>
   intro fuel t s' listed hsz hs hk hl hf
   cases fuel with
   | zero=>omega
   | succ fuel =>
     have hlt:s'<os.size:=by omega
     have hin:s'∈Region.ready .any os listed:=qxe he hlt (by rw [hl s' hlt]; simp) fun j hj=>by
      rw [qia (by omega),hl j (by omega)]; simp [hj]
     obtain ⟨i,hi,t',heq⟩:=qqg (List.ne_nil_of_mem hin) fuel t
     have his:i=s':=by
      have hi':=hi
      rw [mem_ready] at hi'
      obtain ⟨h1,o,ho,hall⟩:=hi'
      have hio:=(Array.getElem?_eq_some_iff.1 ho).1
      rw [hl i hio] at h1
      have hge:=of_decide_eq_false h1
      by_cases hlt':s'<i
      . exfalso
        obtain ⟨_,_,h3⟩:=qhd os.toList []
        have h4:=h3 i o (by rw [Array.getElem?_toList]; exact ho)
        simp only [List.length_nil,Nat.zero_add] at h4
        obtain ⟨e,hmem,hb,hor⟩:=qyn _ _ s' (ht i _ (by omega) h4 s' hlt')
        have hon:=qmi _ 0 he i o (by rw [Array.getElem?_toList]; exact ho) e hmem hb
        have hlon:=hall e (by simpa using hmem) hb
        rw [qia (by omega),hl e.on (by omega)] at hlon
        have hons:=of_decide_eq_true hlon
        rcases hor with rfl | ⟨m',hm',hb'⟩
        . omega
        . rw [List.getElem?_take] at hm'
          split at hm'
          . have:=q1o he e.on m' hm' s' hb'; omega
          . cases hm'
      . omega
     subst his
     rw [heq,ih fuel t' (i+1) _ (by simp [hsz]) (by omega) (by omega) ?_ (by omega),List.range'_succ]
     intro j hj
     by_cases hji:i=j
     . subst hji
       simp [Array.getD_eq_getD_getElem?,hsz,hlt]
     . rw [getD_set_ne true hji,hl j hj]
       congr 1; simp; omega
end
section
variable {x:DCtx} {s:Nat} {T TF:List SV} {Fs:List Fct} {slots sets:List (Nat × SO)} {O:Nat->Prop} {w0:World}
def q0a (listed:Array Bool) (slots:List (Nat × SO)):List SO:=slots.map fun p=>if listed.getD p.1 false then p.2 else .gone
theorem q5x {n:Nat} {e:SO}:∀ {sets:List (Nat × SO)} {A B:List SO},A.length=B.length->(n,e)∈sets->(qgc A sets)[n]? = (qgc B sets)[n]?
 | [],_,_,_,h=>by simp at h
 | a::r,A,B,hl,h=>by
   rw [qgf,qgf]
   by_cases hr:∃ e',(n,e')∈r
   . obtain ⟨e',hr⟩:=hr
     exact q5x (by rw [List.length_set,List.length_set,hl]) hr
   . have hno:∀ e',(n,e') ∉ r:=fun e' he'=>hr ⟨e',he'⟩
     rw [qzf _ _ _ hno,qzf _ _ _ hno]
     rcases List.mem_cons.1 h with h | h
     . subst h
       rw [List.getElem?_set,List.getElem?_set,hl,if_pos rfl,if_pos rfl]
     . exact absurd h (hno e)
def qab (x:DCtx) (s:Nat) (slots sets:List (Nat × SO)) (listed:Array Bool):List SO:=if listed.getD ((x.os.toList.take s).length - 1) false then qgc (x.H++q0a listed slots) sets else x.H++q0a listed slots
theorem qvv (x:DCtx) (s:Nat) (slots sets:List (Nat × SO)) (listed:Array Bool):(qab x s slots sets listed).length=x.H.length+slots.length:=by
 have h:(x.H++q0a listed slots).length=x.H.length+slots.length:=by rw [List.length_append,q0a,List.length_map]
 unfold qab; split
 . rw [q8d,h]
 . exact h
theorem qof (x:DCtx) (s:Nat) (slots:List (Nat × SO)) (listed:Array Bool):qab x s slots [] listed=x.H++q0a listed slots:=by unfold qab; split <;> rfl
theorem j3g (x:DCtx) (i:Nat) (l:Bool) {k:Nat} {e:SO} (h:(x.atI i l)[k]? = some e):e=.gone\/x.H[k]? = some e:=by
 have hid:(mapN qxg x.H)[k]? = some e->e=.gone\/x.H[k]? = some e:=by
  intro h
  rw [qja,List.getElem?_map] at h
  cases hx:x.H[k]? with
  | none=>rw [hx] at h; cases h
  | some e0 =>
    rw [hx] at h
    have h:qxg e0=e:=Option.some.inj h
    unfold qxg at h
    cases hh:q3i e0 with
    | true=>rw [hh] at h; exact .inl h.symm
    | false=>rw [hh] at h; exact .inr (congrArg some h)
 unfold DCtx.atI at h
 cases hm:x.mL with
 | none=>rw [hm] at h; exact .inr h
 | some m =>
   rw [hm] at h
   replace h:(boolC l x.H (boolC (bitN m i) x.H (mapN qxg x.H)))[k]? = some e:=h
   cases l with
   | true=>exact .inr h
   | false =>
     cases hb:bitN m i with
     | true=>rw [hb] at h; exact .inr h
     | false=>rw [hb] at h; exact hid h
structure DInv (x:DCtx) (s:Nat) (TF:List SV) (slots sets:List (Nat × SO)) (O:Nat->Prop) (w0:World) (listed:Array Bool) (β:Val) (ts:Array Value) (w:World):Prop where
 size:listed.size=x.os.size
 tsz:ts.size=TF.length
 tmps:∀ t,(∀ (j:Nat) (o:Oper),(x.os.toList.take s)[j]? = some o->o.dst=some t->listed.getD j false=true)->(getT TF t).den β=some (ts.getD t undef)
 heap:HeapRel0 x.c.P O w0 β (qab x s slots sets listed) w
 free:∀ n,x.H.length<=n->(∀ (j:Nat) (e:SO),slots[n - x.H.length]? = some (j,e)->listed.getD j false=false)->β n=none
 closed:∀ (i m:Nat),listed.getD i false=true->(qda x.os.toList [])[i]? = some m->∀ j,m.testBit j=true->listed.getD j false=true
 tail:∀ i,s<=i->listed.getD i false=false
 glob:GlobRel x.c.glob β
theorem qlh {ts:Array Value} {ds:List Deferred} {dst:Option Tmp} {y:Value} (t:Nat):((Act.put ⟨ts,ds⟩ dst y).tmps).getD t undef=if dst=some t/\t<ts.size then y else ts.getD t undef:=by
 cases dst with
 | none=>simp [Act.put]
 | some d =>
   simp only [Act.put,Array.getD_eq_getD_getElem?,Array.getElem?_setIfInBounds,Option.some.injEq]
   by_cases h:d=t
   . subst h
     by_cases h2:d<ts.size
     . simp [h2]
     . simp [h2]
   . simp [h]
theorem qds (ts:Array Value) (ds:List Deferred) (dst:Option Tmp) (y:Value):Act.put ⟨ts,ds⟩ dst y=⟨(Act.put ⟨ts,ds⟩ dst y).tmps,ds⟩:=by cases dst <;> rfl
theorem qpj (ts:Array Value) (ds:List Deferred) (dst:Option Tmp) (y:Value):(Act.put ⟨ts,ds⟩ dst y).tmps.size=ts.size:=by cases dst <;> simp [Act.put]
theorem qxu (he:qib x.os.toList 0=true) (hh:qnd x.os (qsa x.os.toList s) (qsa x.os.toList s) (qda x.os.toList []) 0=true) (hF:Facts x (x.os.toList.take s) (qda x.os.toList []) T 0 [] TF Fs slots sets)
  {listed:Array Bool} {β:Val} {ts:Array Value} {w:World} (hI:DInv x s TF slots sets O w0 listed β ts w) {i:Nat} (hi:i∈Region.ready .any x.os listed) (his:i<s) (fr:Frame) (ds:List Deferred) (rest:List Nat) (k:List Item) (cs:List Frame) :
  ∃ β' ts' w',β.le β'/\DInv x s TF slots sets O w0 (listed.setIfInBounds i true) β' ts' w'/\Steps x.c.P (lone (fr.atR ⟨ts,ds⟩ (.inRegion x.os (i::rest)::k)) cs w) (lone (fr.atR ⟨ts',ds⟩ (.inRegion x.os rest::k)) cs w'):=by
 have hr:=mem_ready.1 hi
 obtain ⟨hun,o,ho,hall⟩:=hr
 have hio:=(Array.getElem?_eq_some_iff.1 ho).1
 have hunf:listed.getD i false=false:=by rw [qia (by rw [hI.size]; exact hio)]; exact hun
 have hhd:(x.os.toList.take s)[i]? = some o:=by rw [List.getElem?_take,if_pos his,Array.getElem?_toList]; exact ho
 obtain ⟨f,hf⟩:∃ f,Fs[i]? = some f:=by
  have:=(List.getElem?_eq_some_iff.1 hhd).1
  rw [← hF.len] at this
  exact ⟨_,List.getElem?_eq_getElem this⟩
 obtain ⟨hslot,hval,⟨hfs,hfn⟩,T',G,hgood,hseen,hT'l,hT'⟩:=hF.good i o f hhd hf
 rw [Nat.zero_add] at hslot hseen
 simp only [List.length_nil,Nat.add_zero,List.nil_append] at hslot hseen
 rw [qoc] at hh
 obtain ⟨hread,hdst⟩:=qzh _ _ _ _ _ hh i o hhd
 have hset:∀ j,(listed.setIfInBounds i true).getD j false=if i=j then true else listed.getD j false:=by
  intro j
  by_cases hij:i=j
  . subst hij; rw [if_pos rfl]; simp [Array.getD_eq_getD_getElem?,hI.size,hio]
  . rw [if_neg hij,getD_set_ne false hij]
 have hagree:AgreeOn β T' ts (qpb x.os o):=by
  refine ⟨by rw [hI.tsz,hT'l,hF.lenT],fun t ht => ?_⟩
  rw [← hT' t (fun j o' hij ho' hd => ?_) β]
  . refine hI.tmps t fun j o' ho' hd => ?_
    obtain ⟨m,hm,hb⟩:=hread j o' t ho' hd ht
    exact qrb hI.closed hi hm hb
  . obtain ⟨m,hm,hb⟩:=hread j o' t ho' hd ht
    have:=q1o he i m hm j hb
    omega
 have hfree:∀ (v:SV) (N:List SO) (b:Nat) (q:List (Nat × SO)),f=.run v N b q->Free β b N:=by
  intro v N b q hfe
  rcases hslot.ex with ⟨hnil,_⟩ | ⟨e,p,v',q',hfe',hp,_⟩
  . rw [hfe] at hnil
    have:N=[]:=hnil
    subst this
    intro j hj; simp at hj
  . rw [hfe] at hfe'; cases hfe'
    intro j hj
    have:j=0:=by simp at hj; exact hj
    subst this
    refine hI.free _ (by omega) fun j' e' hje => ?_
    rw [show x.H.length+p+0 - x.H.length=p from by omega,hp] at hje
    cases hje; exact hunf
 have hunl:∀ (hL:listed.getD ((x.os.toList.take s).length - 1) false=true) (j:Nat),(((qda x.os.toList [])[(x.os.toList.take s).length - 1]?).getD 0).testBit j=true->listed.getD j false=true:=by
  intro hL j hb
  have hmi:(qda x.os.toList [])[(x.os.toList.take s).length - 1]? = some (((qda x.os.toList [])[(x.os.toList.take s).length - 1]?).getD 0):=by
   cases hm:(qda x.os.toList [])[(x.os.toList.take s).length - 1]? with
   | none=>rw [hm] at hb; simp at hb
   | some m=>rfl
  exact hI.closed _ _ hL hmi j hb
 have hhlen:i<(x.os.toList.take s).length:=(List.getElem?_eq_some_iff.1 hhd).1
 have hsee:∀ (n:Nat) (e:SO),G[n]? = some e->e=.gone\/(qab x s slots sets listed)[n]? = some e:=by
  intro n e hn
  have hA:e=.gone\/(x.H++q0a listed slots)[n]? = some e:=by
   rcases hseen n e hn with h | h | ⟨hge,j,hj,hb⟩
   . exact .inl h
   . rcases j3g x _ _ h with h | h
     . exact .inl h
     . right
       rw [List.getElem?_append_left (List.getElem?_eq_some_iff.1 h).1]; exact h
   . right
     rw [qsi] at hge hj
     rw [List.getElem?_append_right hge]
     have hmi:(qda x.os.toList [])[i]? = some (((qda x.os.toList [])[i]?).getD 0):=by
      cases hm:(qda x.os.toList [])[i]? with
      | none=>rw [hm] at hb; simp at hb
      | some m=>rfl
     have hl:=qrb hI.closed hi hmi hb
     simp only [q0a,List.getElem?_map,hj,Option.map_some]
     rw [hl]; rfl
  rcases hF.last with h0 | ⟨hmL,hhid⟩
  . rw [h0,qof]; exact hA
  . cases hL:listed.getD ((x.os.toList.take s).length - 1) false with
    | false =>
      have:qab x s slots sets listed=x.H++q0a listed slots:=by unfold qab; rw [hL]; rfl
      rw [this]; exact hA
    | true =>
      have hcu:qab x s slots sets listed=qgc (x.H++q0a listed slots) sets:=by unfold qab; rw [hL]; rfl
      rw [hcu]
      have hne:¬ (i+1=(x.os.toList.take s).length):=by
       intro h
       rw [← h,Nat.add_sub_cancel] at hL
       rw [hunf] at hL; cases hL
      rcases hA with hA | hA
      . exact .inl hA
      by_cases hno:∀ e',(n,e') ∉ sets
      . exact .inr (by rw [qzf _ _ _ hno]; exact hA)
      . obtain ⟨e',he'⟩:∃ e',(n,e')∈sets:=by
         refine Classical.byContradiction fun h=>hno fun e' he'=>h ⟨e',he'⟩
        left
        rcases hhid n e' he' with hh | ⟨hge,j,e0,hj,hb,hall'⟩
        ·
         have hnl:n<x.H.length:=by
          rcases Nat.lt_or_ge n x.H.length with h | h
          . exact h
          . unfold hidN at hh
            rw [qca,List.getElem?_eq_none h] at hh; cases hh
         have hat:x.atI i (decide (i+1=(x.os.toList.take s).length))=mapN qxg x.H:=by
          unfold DCtx.atI
          rw [hmL,decide_eq_false hne]
          show boolC (bitN _ i) x.H (mapN qxg x.H)=_
          cases hb:bitN (((qda x.os.toList [])[(x.os.toList.take s).length - 1]?).getD 0) i with
          | false=>rfl
          | true =>
            exfalso
            have:=hunl hL i hb
            rw [hunf] at this; cases this
         rcases hseen n e hn with h | h | ⟨h,_⟩
         . exact h
         . rw [hat,qja,List.getElem?_map] at h
           unfold hidN at hh
           rw [qca] at hh
           cases hx:x.H[n]? with
           | none=>rw [hx] at h; cases h
           | some e1 =>
             rw [hx] at h hh
             have h:qxg e1=e:=Option.some.inj h
             have hh:q3i e1=true:=hh
             unfold qxg at h
             rw [hh] at h
             exact h.symm
         . rw [qsi] at h; omega
        ·
         rcases hseen n e hn with h | h | ⟨h,j',hj',hb'⟩
         . exact h
         . have:=(List.getElem?_eq_some_iff.1 h).1
           rw [qsi] at this
           omega
         . exfalso
           rw [qsi] at hj'
           simp only [List.nil_append] at hj
           rw [hj] at hj'
           have hjj:j'=j:=((Prod.mk.inj (Option.some.inj hj')).1).symm
           subst hjj
           rcases hall' i (by simp only [Nat.zero_add]; omega) with h1 | h1
           . have:=hunl hL i h1
             rw [hunf] at this; cases this
           . rw [hb'] at h1; cases h1
 have hcl:=qvv x s slots sets listed
 have hG0:HeapRel0 x.c.P O w0 β G w:=hI.heap.less fun n e hn=>(hsee n e hn).symm
 have hlastEq:sets=[]\/i+1≠(x.os.toList.take s).length->(∀ e,(i,e) ∉ slots)->qab x s slots sets (listed.setIfInBounds i true)=qab x s slots sets listed:=by
  intro hor hno
  have h3:q0a (listed.setIfInBounds i true) slots=q0a listed slots:=by
   unfold q0a
   apply List.map_congr_left
   intro p hp
   have h1:(listed.setIfInBounds i true).getD p.1 false=listed.getD p.1 false:=by
    rw [hset]; exact if_neg fun h=>hno p.2 (by rw [h]; exact hp)
   rw [h1]
  rcases hor with h0 | hil
  . rw [h0,qof,qof,h3]
  . have h1:(listed.setIfInBounds i true).getD ((x.os.toList.take s).length - 1) false=listed.getD ((x.os.toList.take s).length - 1) false:=by
     rw [hset]; exact if_neg (by omega)
    unfold qab
    rw [h1,h3]
 have hstep:∃ y w' β' b SS,f.val.den β'=some y/\Eff x.c.P β w b SS f.news β' w'/\(∀ n e,(n,e)∈SS->∃ e0,G[n]? = some e0/\e0.owned=true)/\(SS=f.sets\/(f.sets=[]/\f.news=[]/\∃ nm e,SS=[(nm,e)]/\G[nm]? = some e/\e.owned=true))/\(∀ e p v q,f=.run v [e] (x.H.length+p) q->b=x.H.length+p) /\
   Steps x.c.P (lone (fr.atR ⟨ts,ds⟩ (.inRegion x.os (i::rest)::k)) cs w) (lone (fr.atR (Act.put ⟨ts,ds⟩ o.dst y) (.inRegion x.os rest::k)) cs w'):=by
  cases f with
  | skip =>
    have hw:=hgood β ts hagree
    refine ⟨undef,w,β,0,[],by simp [Fct.val,qua,SV.den,SV.denL,undef],Eff.refl _ _ _ _,(by intro n e h; simp at h),.inl rfl,(by intro e p v q h; cases h),.one ?_⟩
    have:=stepR_op_skip (P:=x.c.P) (b:=fr) (a:=⟨ts,ds⟩) (k:=k) (cs:=cs) (w:=w) (ops:=x.os) (i:=i) (rest:=rest) (by rw [ho]; exact hw)
    rw [ho] at this; exact this
  | run v N b q =>
    obtain ⟨hw,hrun⟩:=hgood β ts hagree
    obtain ⟨y,w',β',hv,hE,hso,hst⟩:=hrun O w0 w hG0 hI.glob (hfree v N b q rfl) (fr.atR ⟨ts,ds⟩ (.inRegion x.os (i::rest)::k)) cs i rest k rfl rfl ho rfl
    rw [Frame.finish_atR,ho] at hst
    exact ⟨y,w',β',b,q,hv,hE,hso,.inl rfl,(by intro e p v q h; cases h; rfl),hst⟩
  | touch v nm =>
    obtain ⟨hw,hrun⟩:=hgood β ts hagree
    obtain ⟨y,w',e,hv,he,heo,hE,hst⟩:=hrun O w0 w hG0 hI.glob (fr.atR ⟨ts,ds⟩ (.inRegion x.os (i::rest)::k)) cs i rest k rfl rfl ho rfl
    rw [Frame.finish_atR,ho] at hst
    exact ⟨y,w',β,0,[(nm,e)],hv,hE,(by intro n e' hn; simp at hn; obtain ⟨rfl,rfl⟩:=hn; exact ⟨e',he,heo⟩),.inr ⟨rfl,rfl,nm,e,rfl,he,heo⟩,(by intro e p v q h; cases h),hst⟩
 obtain ⟨y,w',β',b,SS,hv,hE,hso,hSS,hbase,hst⟩:=hstep
 rw [qds] at hst
 refine ⟨β',_,w',hE.le,⟨by simp [hI.size],by rw [qpj]; exact hI.tsz,?_,?_,?_,?_,?_,hI.glob.mono hE.le⟩,hst⟩
 ·
  intro t ht
  rw [qlh]
  by_cases hd:o.dst=some t
  . by_cases hlt:t<ts.size
    . rw [if_pos ⟨hd,hlt⟩,hval t hd (by rw [← hF.lenT,← hI.tsz]; exact hlt) (fun j o' hij ho'=>hdst t hd j o' hij ho')]
      exact hv
    . rw [if_neg (fun h=>hlt h.2)]
      have h1:nth TF t=none:=by rw [qca,List.getElem?_eq_none]; rw [← hI.tsz]; exact Nat.not_lt.1 hlt
      have h2:ts.getD t undef=undef:=by rw [Array.getD_eq_getD_getElem?,Array.getElem?_eq_none (Nat.not_lt.1 hlt)]; rfl
      rw [h2]; unfold getT; rw [h1]; simp [qua,SV.den,SV.denL,undef]
  . rw [if_neg (fun h=>hd h.1)]
    refine SV.den_mono hE.le _ (hI.tmps t fun j o' ho' hd' => ?_)
    have:=ht j o' ho' hd'
    rw [hset] at this
    by_cases hij:i=j
    . subst hij; rw [hhd] at ho'; cases ho'; exact absurd hd' hd
    . rwa [if_neg hij] at this
 ·
  rcases hSS with rfl | ⟨hs0,hn0,nm,e,rfl,hge,heo⟩
  case inr =>
   have hno:∀ e,(i,e) ∉ slots:=by
    rcases hslot.ex with ⟨_,hno⟩ | ⟨e',p,v,q,hfe,_,_⟩
    . exact hno
    . rw [hfe] at hn0; cases hn0
   have hcu:=hlastEq (by
    by_cases hil:i+1=(x.os.toList.take s).length
    . rw [if_pos hil,hs0] at hfs
      exact .inl hfs.symm
    . exact .inr hil) hno
   rw [hn0] at hE
   have hin:(qab x s slots sets listed)[nm]? = some e:=by
    rcases hsee nm e hge with rfl | h
    . cases heo
    . exact h
   rw [hcu,← qqi hin]
   refine hI.heap.turn (fun n hn => ?_) hE fun n e' hn => ?_
   . rw [hcl] at hn
     refine hI.free n (by omega) fun j e hj => ?_
     have:=(List.getElem?_eq_some_iff.1 hj).1
     omega
   . simp at hn
     obtain ⟨rfl,rfl⟩:=hn
     exact ⟨e',hin,heo⟩
  by_cases hse:f.sets=[]
  . rw [hse] at hE
    have hor:sets=[]\/i+1≠(x.os.toList.take s).length:=by
     by_cases hil:i+1=(x.os.toList.take s).length
     . rw [if_pos hil,hse] at hfs
       exact .inl hfs.symm
     . exact .inr hil
    have hplain:∀ n e,(x.H++q0a (listed.setIfInBounds i true) slots)[n]? = some e->((x.H++q0a listed slots)[n]? = some e/\(n<b\/b+f.news.length<=n))\/(∃ i,n=b+i/\f.news[i]? = some e):=by
     intro n e hn
     rcases Nat.lt_or_ge n x.H.length with hlt | hge
     . rw [List.getElem?_append_left hlt] at hn
       left
       refine ⟨by rw [List.getElem?_append_left hlt]; exact hn,?_⟩
       rcases hslot.ex with ⟨hnil,_⟩ | ⟨e',p,v,q,hfe,_,_⟩
       . rw [hnil]; simp; omega
       . rw [hbase e' p v q hfe]; left; omega
     . rw [List.getElem?_append_right hge] at hn
       simp only [q0a,List.getElem?_map,Option.map_eq_some_iff] at hn
       obtain ⟨⟨j,e0⟩,hj,hje⟩:=hn
       by_cases hij:i=j
       . subst hij
         rw [hset,if_pos rfl] at hje
         simp only [if_true] at hje
         subst hje
         right
         rcases hslot.ex with ⟨_,hno⟩ | ⟨e',p,v,q,hfe,hp,hu⟩
         . exact absurd (List.mem_of_getElem? hj) (hno e0)
         . have:=hu _ _ hj
           rw [this,hp] at hj; cases hj
           exact ⟨0,by rw [hbase _ p v q hfe]; omega,by rw [hfe]; rfl⟩
       . left
         rw [List.getElem?_append_right hge]
         refine ⟨?_,?_⟩
         . simp only [q0a,List.getElem?_map,hj,Option.map_some]
           rw [hset,if_neg hij] at hje
           exact congrArg some hje
         . rcases hslot.ex with ⟨hnil,_⟩ | ⟨e',p,v,q,hfe,hp,_⟩
           . rw [hnil]; simp; omega
           . have hne:n - x.H.length≠p:=by
              intro h; rw [h,hp] at hj; cases hj; exact hij rfl
             rw [hbase e' p v q hfe,hfe]
             simp only [Fct.news,List.length_cons,List.length_nil]
             omega
    refine hI.heap.lay hE fun n e hn => ?_
    rcases hor with h0 | hil
    . rw [h0,qof] at hn ⊢
      exact hplain n e hn
    . have h1:(listed.setIfInBounds i true).getD ((x.os.toList.take s).length - 1) false=listed.getD ((x.os.toList.take s).length - 1) false:=by
       rw [hset]; exact if_neg (by omega)
      cases hL:listed.getD ((x.os.toList.take s).length - 1) false with
      | false =>
        have e1:qab x s slots sets (listed.setIfInBounds i true)=x.H++q0a (listed.setIfInBounds i true) slots:=by unfold qab; rw [h1,hL]; rfl
        have e2:qab x s slots sets listed=x.H++q0a listed slots:=by unfold qab; rw [hL]; rfl
        rw [e1] at hn
        rw [e2]
        exact hplain n e hn
      | true =>
        have e1:qab x s slots sets (listed.setIfInBounds i true)=qgc (x.H++q0a (listed.setIfInBounds i true) slots) sets:=by unfold qab; rw [h1,hL]; rfl
        have e2:qab x s slots sets listed=qgc (x.H++q0a listed slots) sets:=by unfold qab; rw [hL]; rfl
        rw [e1] at hn
        rw [e2]
        by_cases hno:∀ e',(n,e') ∉ sets
        . rw [qzf _ _ _ hno] at hn ⊢
          exact hplain n e hn
        . obtain ⟨e',he'⟩:∃ e',(n,e')∈sets:=Classical.byContradiction fun h=>hno fun e' he'=>h ⟨e',he'⟩
          left
          refine ⟨?_,?_⟩
          . rw [← q5x (A:=x.H++q0a (listed.setIfInBounds i true) slots) (B:=x.H++q0a listed slots) (by rw [List.length_append,List.length_append,q0a,q0a,List.length_map,List.length_map]) he']
            exact hn
          . rcases hslot.ex with ⟨hnil,_⟩ | ⟨e1,p,v,q,hfe,hp,_⟩
            . rw [hnil]; simp; omega
            . rw [hbase e1 p v q hfe,hfe]
              simp only [Fct.news,List.length_cons,List.length_nil]
              rcases hF.last with h0 | ⟨_,hhid⟩
              . rw [h0] at he'; simp at he'
              . rcases hhid n e' he' with hh | ⟨hge,j,e0,hj,hb,_⟩
                . have hnl:n<x.H.length:=by
                   rcases Nat.lt_or_ge n x.H.length with h | h
                   . exact h
                   . unfold hidN at hh
                     rw [qca,List.getElem?_eq_none h] at hh; cases hh
                  left; omega
                . simp only [List.nil_append] at hj
                  have hne:n - x.H.length≠p:=by
                   intro h
                   rw [h,hp] at hj; cases hj
                   have:=hunl hL i hb
                   rw [hunf] at this; cases this
                  omega
  . have hil:i+1=(x.os.toList.take s).length:=by
     by_cases h:i+1=(x.os.toList.take s).length
     . exact h
     . rw [if_neg h] at hfs; exact absurd hfs hse
    rw [if_pos hil] at hfs
    have hnn:=hfn hse
    rw [hnn,hfs] at hE
    have hLi:(x.os.toList.take s).length - 1=i:=by omega
    have hno:∀ e,(i,e) ∉ slots:=by
     rcases hslot.ex with ⟨_,hno⟩ | ⟨e',p,v,q,hfe,_,_⟩
     . exact hno
     . rw [hfe] at hnn; cases hnn
    have h3:q0a (listed.setIfInBounds i true) slots=q0a listed slots:=by
     unfold q0a
     apply List.map_congr_left
     intro p hp
     have h1:(listed.setIfInBounds i true).getD p.1 false=listed.getD p.1 false:=by
      rw [hset]; exact if_neg fun h=>hno p.2 (by rw [h]; exact hp)
     rw [h1]
    have h1:qab x s slots sets listed=x.H++q0a listed slots:=by unfold qab; rw [hLi,hunf]; rfl
    have h2:qab x s slots sets (listed.setIfInBounds i true)=qgc (x.H++q0a listed slots) sets:=by unfold qab; rw [hLi,hset,if_pos rfl,h3]; rfl
    have hH:=hI.heap
    rw [h1] at hH
    rw [h2]
    refine hH.turn (fun n hn => ?_) hE fun n e hn => ?_
    . rw [List.length_append,q0a,List.length_map] at hn
      refine hI.free n (by omega) fun j e hj => ?_
      have:=(List.getElem?_eq_some_iff.1 hj).1
      omega
    . obtain ⟨e0,hg,ho⟩:=hso n e (by rw [hfs]; exact hn)
      refine ⟨e0,?_,ho⟩
      rcases hsee n e0 hg with rfl | h
      . cases ho
      . rw [h1] at h; exact h
 ·
  intro n hge hn
  have hold:β n=none:=hI.free n hge fun j e hj=>by
   have:=hn j e hj
   rw [hset] at this
   split at this
   . cases this
   . exact this
  rcases hslot.ex with ⟨hnil,_⟩ | ⟨e',p,v,q,hfe,hp,_⟩
  . rw [hE.dom n (by rw [hnil]; simp; omega)]; exact hold
  . rw [hE.dom n ?_]; · exact hold
    rw [hbase e' p v q hfe,hfe]
    simp only [Fct.news,List.length_cons,List.length_nil]
    by_cases hnp:n=x.H.length+p
    . exfalso
      have:=hn i e' (by rw [hnp]; simpa using hp)
      rw [hset,if_pos rfl] at this; cases this
    . omega
 . intro j m hj hm l hl
   rw [hset] at hj ⊢
   split
   . rfl
   . by_cases hij:i=j
     . subst hij; exact qrb hI.closed hi hm hl
     . rw [if_neg hij] at hj; exact hI.closed j m hj hm l hl
 . intro j hj
   rw [hset,if_neg (by omega)]; exact hI.tail j hj
theorem quz (he:qib x.os.toList 0=true) (hh:qnd x.os (qsa x.os.toList s) (qsa x.os.toList s) (qda x.os.toList []) 0=true) (ht:q4e (qhb (qda x.os.toList []) s) s=true) (hF:Facts x (x.os.toList.take s) (qda x.os.toList []) T 0 [] TF Fs slots sets)
  (fr:Frame) (ds:List Deferred) (k:List Item) (cs:List Frame):∀ (fuel t:Nat) (listed:Array Bool) (β:Val) (ts:Array Value) (w:World),DInv x s TF slots sets O w0 listed β ts w->unl listed x.os.size<=fuel ->
  ∃ β' ts' w' listed',β.le β'/\DInv x s TF slots sets O w0 listed' β' ts' w'/\(∀ j,j<s->j<x.os.size->listed'.getD j false=true) /\
    Steps x.c.P (lone (fr.atR ⟨ts,ds⟩ (.inRegion x.os (Region.linearise.go .any x.os fuel t listed [])::k)) cs w) (lone (fr.atR ⟨ts',ds⟩ (.inRegion x.os (List.range' s (x.os.size - s))::k)) cs w'):=by
 have htm:∀ (i m:Nat),s<=i->(qda x.os.toList [])[i]? = some m->∀ j,j<i->m.testBit j=true:=by
  intro i m hi hm j hj
  rw [qdd] at ht
  have:=qmk _ _ ht (i - s) m (by rw [List.getElem?_drop,show s+(i - s)=i from by omega]; exact hm)
  rw [show s+(i - s)=i from by omega] at this
  exact qnf this hj
 intro fuel
 induction fuel with
 | zero =>
   intro t listed β ts w hI hf
   have hall:∀ j,j<x.os.size->listed.getD j true=true:=by
    intro j hj
    cases h:listed.getD j true with
    | true=>rfl
    | false=>have:=q7k hj h; omega
   have hs:x.os.size<=s:=by
    rcases Nat.lt_or_ge s x.os.size with h | h
    . have h1:=hI.tail s (Nat.le_refl _)
      rw [qia (by rw [hI.size]; exact h),hall s h] at h1; cases h1
    . exact h
   refine ⟨β,ts,w,listed,Val.le_refl β,hI,fun j _ hj=>by rw [qia (by rw [hI.size]; exact hj)]; exact hall j hj,?_⟩
   rw [show x.os.size - s=0 from by omega]
   exact .refl _ _
 | succ fuel ih =>
   intro t listed β ts w hI hf
   by_cases hall:∀ j,j<s->j<x.os.size->listed.getD j false=true
   . refine ⟨β,ts,w,listed,Val.le_refl β,hI,hall,?_⟩
     rcases Nat.lt_or_ge x.os.size s with h | h
     . rw [show x.os.size - s=0 from by omega]
       rw [qoj]
       . exact .refl _ _
       . apply List.eq_nil_iff_forall_not_mem.2
         intro j hj
         rw [mem_ready] at hj
         obtain ⟨h1,o,ho,_⟩:=hj
         have hlt:=(Array.getElem?_eq_some_iff.1 ho).1
         rw [← qia (by rw [hI.size]; exact hlt),hall j (by omega) hlt] at h1
         cases h1
     . have hdec:∀ j,j<x.os.size->listed.getD j true=decide (j<s):=by
        intro j hj
        rw [← qia (by rw [hI.size]; exact hj)]
        by_cases hjs:j<s
        . rw [hall j hjs hj]; simp [hjs]
        . rw [hI.tail j (by omega)]; simp [hjs]
       rw [qdm he htm (x.os.size - s) (fuel+1) t s listed hI.size (Nat.le_refl _) (by omega) hdec ?_]
       . exact .refl _ _
       . exact Nat.le_trans (q4x (s:=s) (n:=x.os.size) (fun j h1 h2=>by rw [hdec j h2]; simp; omega) _ (by omega)) hf
   ·
    have hex:∃ i,i<s/\i<x.os.size/\listed.getD i true=false/\∀ j,j<i->listed.getD j false=true:=by
     have hgen:∀ n,(∃ i,i<n/\i<s/\i<x.os.size/\listed.getD i true=false/\∀ j,j<i->listed.getD j false=true)\/(∀ j,j<n->j<s->j<x.os.size->listed.getD j false=true):=by
      intro n
      induction n with
      | zero=>exact .inr fun j hj=>by omega
      | succ n ih2 =>
        rcases ih2 with ⟨i,h1,h2⟩ | h
        . exact .inl ⟨i,by omega,h2⟩
        . by_cases hn:n<s/\n<x.os.size/\listed.getD n false=false
          . refine .inl ⟨n,by omega,hn.1,hn.2.1,?_,fun j hj=>h j hj (by omega) (by omega)⟩
            rw [← qia (by rw [hI.size]; exact hn.2.1)]; exact hn.2.2
          . refine .inr fun j hj h1 h2 => ?_
            by_cases hjn:j=n
            . subst hjn
              cases hx:listed.getD j false with
              | true=>rfl
              | false=>exact absurd ⟨h1,h2,hx⟩ hn
            . exact h j (by omega) h1 h2
     rcases hgen s with ⟨i,_,h⟩ | h
     . exact ⟨i,h⟩
     . exact absurd (fun j h1 h2=>h j h1 h1 h2) hall
    obtain ⟨i0,h1,h2,h3,h4⟩:=hex
    have hin:=qxe he h2 h3 h4
    obtain ⟨i,hi,t',heq⟩:=qqg (List.ne_nil_of_mem hin) fuel t
    have hio:i<x.os.size:=by
     obtain ⟨_,o,ho,_⟩:=mem_ready.1 hi
     exact (Array.getElem?_eq_some_iff.1 ho).1
    have his:i<s:=by
     rcases Nat.lt_or_ge i s with h | h
     . exact h
     . exfalso
       obtain ⟨_,hml,_⟩:=qhd x.os.toList []
       have hlt:i<(qda x.os.toList []).length:=by rw [hml]; simpa using hio
       have:=qrb hI.closed hi (List.getElem?_eq_getElem hlt) (htm i _ h (List.getElem?_eq_getElem hlt) i0 (by omega))
       rw [qia (by rw [hI.size]; exact h2),h3] at this; cases this
    obtain ⟨β1,ts1,w1,hle,hI1,hst⟩:=qxu he hh hF hI hi his fr ds (Region.linearise.go .any x.os fuel t' (listed.setIfInBounds i true) []) k cs
    have hu:=q7i (mem_ready.1 hi).1 x.os.size
    rw [if_pos hio] at hu
    obtain ⟨β2,ts2,w2,l2,hle2,hI2,hall2,hst2⟩:=ih t' (listed.setIfInBounds i true) β1 ts1 w1 hI1 (by omega)
    exact ⟨β2,ts2,w2,l2,Val.le_trans hle hle2,hI2,hall2,by rw [heq]; exact hst.trans hst2⟩
end
section
variable {os:Array Oper} {s:Nat}
theorem q5j {P:Program} {Inv:Array Bool->Val->Array Value->World->Prop} (he:qib os.toList 0=true) (ht:q4e (qhb (qda os.toList []) s) s=true)
  (fr:Frame) (ds:List Deferred) (k:List Item) (cs:List Frame)
  (hsz:∀ {l β ts w},Inv l β ts w->l.size=os.size) (htl:∀ {l β ts w},Inv l β ts w->∀ i,s<=i->l.getD i false=false)
  (hcl:∀ {l β ts w},Inv l β ts w->∀ (i m:Nat),l.getD i false=true->(qda os.toList [])[i]? = some m->∀ j,m.testBit j=true->l.getD j false=true)
  (hturn:∀ {l:Array Bool} {β ts w} {i:Nat},Inv l β ts w->i∈Region.ready .any os l->i<s->∀ rest:List Nat,∃ β' ts' w',β.le β'/\Inv (l.setIfInBounds i true) β' ts' w' /\
   Steps P (lone (fr.atR ⟨ts,ds⟩ (.inRegion os (i::rest)::k)) cs w) (lone (fr.atR ⟨ts',ds⟩ (.inRegion os rest::k)) cs w')) :
  ∀ (fuel t:Nat) (listed:Array Bool) (β:Val) (ts:Array Value) (w:World),Inv listed β ts w->unl listed os.size<=fuel ->
  ∃ β' ts' w' listed',β.le β'/\Inv listed' β' ts' w'/\(∀ j,j<s->j<os.size->listed'.getD j false=true) /\
    Steps P (lone (fr.atR ⟨ts,ds⟩ (.inRegion os (Region.linearise.go .any os fuel t listed [])::k)) cs w) (lone (fr.atR ⟨ts',ds⟩ (.inRegion os (List.range' s (os.size - s))::k)) cs w'):=by
 have htm:∀ (i m:Nat),s<=i->(qda os.toList [])[i]? = some m->∀ j,j<i->m.testBit j=true:=by
  intro i m hi hm j hj
  rw [qdd] at ht
  have:=qmk _ _ ht (i - s) m (by rw [List.getElem?_drop,show s+(i - s)=i from by omega]; exact hm)
  rw [show s+(i - s)=i from by omega] at this
  exact qnf this hj
 intro fuel
 induction fuel with
 | zero =>
   intro t listed β ts w hI hf
   have hall:∀ j,j<os.size->listed.getD j true=true:=by
    intro j hj
    cases h:listed.getD j true with
    | true=>rfl
    | false=>have:=q7k hj h; omega
   have hs:os.size<=s:=by
    rcases Nat.lt_or_ge s os.size with h | h
    . have h1:=htl hI s (Nat.le_refl _)
      rw [qia (by rw [(hsz hI)]; exact h),hall s h] at h1; cases h1
    . exact h
   refine ⟨β,ts,w,listed,Val.le_refl β,hI,fun j _ hj=>by rw [qia (by rw [(hsz hI)]; exact hj)]; exact hall j hj,?_⟩
   rw [show os.size - s=0 from by omega]
   exact .refl _ _
 | succ fuel ih =>
   intro t listed β ts w hI hf
   by_cases hall:∀ j,j<s->j<os.size->listed.getD j false=true
   . refine ⟨β,ts,w,listed,Val.le_refl β,hI,hall,?_⟩
     rcases Nat.lt_or_ge os.size s with h | h
     . rw [show os.size - s=0 from by omega]
       rw [qoj]
       . exact .refl _ _
       . apply List.eq_nil_iff_forall_not_mem.2
         intro j hj
         rw [mem_ready] at hj
         obtain ⟨h1,o,ho,_⟩:=hj
         have hlt:=(Array.getElem?_eq_some_iff.1 ho).1
         rw [← qia (by rw [(hsz hI)]; exact hlt),hall j (by omega) hlt] at h1
         cases h1
     . have hdec:∀ j,j<os.size->listed.getD j true=decide (j<s):=by
        intro j hj
        rw [← qia (by rw [(hsz hI)]; exact hj)]
        by_cases hjs:j<s
        . rw [hall j hjs hj]; simp [hjs]
        . rw [htl hI j (by omega)]; simp [hjs]
       rw [qdm he htm (os.size - s) (fuel+1) t s listed (hsz hI) (Nat.le_refl _) (by omega) hdec ?_]
       . exact .refl _ _
       . exact Nat.le_trans (q4x (s:=s) (n:=os.size) (fun j h1 h2=>by rw [hdec j h2]; simp; omega) _ (by omega)) hf
   ·
    have hex:∃ i,i<s/\i<os.size/\listed.getD i true=false/\∀ j,j<i->listed.getD j false=true:=by
     have hgen:∀ n,(∃ i,i<n/\i<s/\i<os.size/\listed.getD i true=false/\∀ j,j<i->listed.getD j false=true)\/(∀ j,j<n->j<s->j<os.size->listed.getD j false=true):=by
      intro n
      induction n with
      | zero=>exact .inr fun j hj=>by omega
      | succ n ih2 =>
        rcases ih2 with ⟨i,h1,h2⟩ | h
        . exact .inl ⟨i,by omega,h2⟩
        . by_cases hn:n<s/\n<os.size/\listed.getD n false=false
          . refine .inl ⟨n,by omega,hn.1,hn.2.1,?_,fun j hj=>h j hj (by omega) (by omega)⟩
            rw [← qia (by rw [(hsz hI)]; exact hn.2.1)]; exact hn.2.2
          . refine .inr fun j hj h1 h2 => ?_
            by_cases hjn:j=n
            . subst hjn
              cases hx:listed.getD j false with
              | true=>rfl
              | false=>exact absurd ⟨h1,h2,hx⟩ hn
            . exact h j (by omega) h1 h2
     rcases hgen s with ⟨i,_,h⟩ | h
     . exact ⟨i,h⟩
     . exact absurd (fun j h1 h2=>h j h1 h1 h2) hall
    obtain ⟨i0,h1,h2,h3,h4⟩:=hex
    have hin:=qxe he h2 h3 h4
    obtain ⟨i,hi,t',heq⟩:=qqg (List.ne_nil_of_mem hin) fuel t
    have hio:i<os.size:=by
     obtain ⟨_,o,ho,_⟩:=mem_ready.1 hi
     exact (Array.getElem?_eq_some_iff.1 ho).1
    have his:i<s:=by
     rcases Nat.lt_or_ge i s with h | h
     . exact h
     . exfalso
       obtain ⟨_,hml,_⟩:=qhd os.toList []
       have hlt:i<(qda os.toList []).length:=by rw [hml]; simpa using hio
       have:=qrb (hcl hI) hi (List.getElem?_eq_getElem hlt) (htm i _ h (List.getElem?_eq_getElem hlt) i0 (by omega))
       rw [qia (by rw [(hsz hI)]; exact h2),h3] at this; cases this
    obtain ⟨β1,ts1,w1,hle,hI1,hst⟩:=hturn hI hi his (Region.linearise.go .any os fuel t' (listed.setIfInBounds i true) [])
    have hu:=q7i (mem_ready.1 hi).1 os.size
    rw [if_pos hio] at hu
    obtain ⟨β2,ts2,w2,l2,hle2,hI2,hall2,hst2⟩:=ih t' (listed.setIfInBounds i true) β1 ts1 w1 hI1 (by omega)
    exact ⟨β2,ts2,w2,l2,Val.le_trans hle hle2,hI2,hall2,by rw [heq]; exact hst.trans hst2⟩
end
theorem qti {P:Program} {i m:Nat}:∀ (ops:List Oper) (ms:List Nat) (k:Nat),qvh P i m ops ms k=true->∀ (j:Nat) (o:Oper),ops[j]? = some o->q4b P o=true->k+j≠i->(k+j<i->m.testBit (k+j)=true)/\(i<k+j->((ms[j]?).getD 0).testBit i=true):=by
 intro ops
 induction ops with
 | nil=>intro ms k _ j o h; simp at h
 | cons a r ih =>
   intro ms k h j o ho hm hne
   obtain ⟨h1,h2⟩:=q2a (show boolC (boolC (q4b P a) (boolC (Nat.beq k i) true (boolC (Nat.blt k i) (bitN m k) (bitN (q8f ms) i))) true) (qvh P i m r (q1d ms) (k+1)) false=true from h)
   cases j with
   | zero =>
     simp at ho; subst ho
     rw [hm,boolC_true,show Nat.beq k i=false from Bool.eq_false_iff.2 fun h=>hne (Nat.eq_of_beq_eq_true h),boolC_false] at h1
     rw [Nat.add_zero]
     refine ⟨fun hlt => ?_,fun hlt => ?_⟩
     . rw [show Nat.blt k i=true from Nat.ble_eq_true_of_le hlt,boolC_true] at h1; exact h1
     . rw [show Nat.blt k i=false from Bool.eq_false_iff.2 fun h=>by have:=Nat.le_of_ble_eq_true h; omega,boolC_false] at h1
       cases ms with
       | nil=>simp [q8f,bitN] at h1
       | cons m0 ms=>exact h1
   | succ j =>
     have:=ih (q1d ms) (k+1) h2 j o (by simpa using ho) hm (by omega)
     rw [show k+(j+1)=k+1+j from by omega]
     refine ⟨this.1,fun hlt => ?_⟩
     have h3:=this.2 hlt
     cases ms with
     | nil=>simp [q1d] at h3
     | cons m0 ms=>simpa [q1d] using h3
section
variable {D:SV->List SO->Prop} {S:SS->Prop}
theorem q6x {v:SV} {sets:List (Nat × SO)} {news:List SO} {mv:Bool} {x:CCtx} {dst:Option Tmp} {T:List SV} {H:List SO} {next:List SV->List SO->Tree} (h:(qnr v sets news mv x dst T H next).Ob D S) :
  (next (putT T dst v) (qyb H sets news)).Ob D S/\(mv=false->sets=[]/\news=[])/\∀ n e,(n,e)∈sets->visN x.hid x.H n=false:=by
 unfold qnr at h
 cases mv with
 | true =>
   rw [boolC_true] at h
   cases ha:allN (fun q=>boolC (visN x.hid x.H q.1) false true) sets with
   | false=>rw [ha] at h; exact h.elim
   | true =>
     rw [ha] at h
     refine ⟨h,(fun h=>by cases h),fun n e hn => ?_⟩
     have:=qkh ha _ hn
     cases hv:visN x.hid x.H n with
     | false=>rfl
     | true=>rw [show visN x.hid x.H (n,e).1=visN x.hid x.H n from rfl,hv] at this; cases this
 | false =>
   rw [boolC_false] at h
   unfold chNo at h
   split at h
   . exact ⟨h,fun _=>⟨rfl,rfl⟩,by simp⟩
   . exact h.elim
theorem q7x {x:CCtx} (hc:CfgOK x.c) {G:List SO} {mv:Bool} {o:Oper} {T:List SV} {H:List SO} {next:List SV->List SO->Tree} (h:(qaw G mv o x T H next).Ob D S) :
  ∃ T' f,SameDen T T'/\qnj x.c.P x.c.glob G x.os o T' f/\(next (putT T' o.dst f.val) (qyb H f.sets f.news)).Ob D S/\(mv=false->f.sets=[]/\f.news=[])/\(∀ n e,(n,e)∈f.sets->visN x.hid x.H n=false)/\∀ v M b s,f=.run v M b s->b=H.length:=by
 unfold qaw at h
 rcases qcs h with ⟨T',hsd,hwant,h⟩ | ⟨hwant,h⟩
 . obtain ⟨r,hleaf,h⟩:=R.leaf_of_ob h
   have hnd:∀ cc,o.op≠.defer cc:=by
    intro cc hd
    rcases qri (P:=x.c.P) hd with ⟨n,hn⟩ | ⟨d,hn⟩
    . rw [hn] at hleaf; exact hleaf
    . rw [hn] at hleaf
      obtain rfl:r=.defer d:=hleaf
      exact (show False from h)
   rw [qha] at hleaf
   have hev:∀ (β:Val) (ts:Array Value) (ds:List Deferred),AgreeOn β T' ts (qpb x.os o)->GlobRel x.c.glob β->∀ y∈o.op.operands,(evS x.c.glob T' y).den β=some (Act.eval ⟨ts,ds⟩ y):=by
    intro β ts ds ha hG y hy
    cases y with
    | tmp t =>
      have h1:=ha.at_ t (qli hy)
      have e:evS x.c.glob T' (.tmp t)=getT T' t:=by
       show optC (nth T' t) qua (fun v=>v)=_
       unfold getT; cases nth T' t <;> rfl
      rw [e]; exact h1
    | const v=>exact q0g β v
    | global g =>
      show (qwg g x.c.glob T').den β=_
      unfold qwg
      split
      . rename_i nm h
        obtain ⟨l,h1,h2,h3⟩:=hG g nm h
        simp [SV.den,SA.den,h1,h2,h3,SN.den,Act.eval]
      . rfl
    | func f=>rfl
   cases r with
   | val v sets news =>
     obtain ⟨h1,h2,h3⟩:=q6x (show (qnr v sets news mv x o.dst T' H next).Ob D S from h)
     refine ⟨T',.run v news H.length sets,hsd,?_,h1,h2,h3,fun _ _ _ _ e=>by cases e; rfl⟩
     intro β ts ha
     refine ⟨hwant β ts ha,fun O w0 w hH hG hfree f cs i rest k hm htd ho hts => ?_⟩
     subst hts
     have hsg:=qng (P:=x.c.P) hm htd ho (hwant β f.tmps ha) hnd (cs:=cs) (w:=w)
     obtain ⟨nx,y,w',β',hrun,hnx,hv,hE,hso⟩:=R.sat_leaf (qmf hH o (hev β f.tmps f.defers ha hG)) hleaf hfree
     exact ⟨y,w',β',hv,hE,hso,.one (qzd hsg hrun hnx)⟩
   | enter g args =>
     replace h:(qat g args mv x G o.dst T' H next).Ob D S:=h
     unfold qat at h
     split at h
     . rename_i sm hsm
       obtain ⟨r,hleaf2,h⟩:=R.leaf_of_ob h
       rw [qha] at hleaf2
       obtain ⟨v,sets,news⟩:=r
       obtain ⟨h1,h2,h3⟩:=q6x h
       refine ⟨T',.run v news H.length sets,hsd,?_,h1,h2,h3,fun _ _ _ _ e=>by cases e; rfl⟩
       intro β ts ha
       refine ⟨hwant β ts ha,fun O w0 w hH hG hfree f cs i rest k hm htd ho hts => ?_⟩
       subst hts
       have hsg:=qng (P:=x.c.P) hm htd ho (hwant β f.tmps ha) hnd (cs:=cs) (w:=w)
       obtain ⟨vs,hvs,hrun⟩:=R.sat_leaf (qmf hH o (hev β f.tmps f.defers ha hG)) hleaf
       obtain ⟨hso,hcall⟩:=R.sat_leaf (hc.sums g sm hsm O w0 β G w _ args vs hH hG hvs) hleaf2 hfree
       rcases hcall with ⟨⟨fn,hfn,hb⟩,hcall⟩ | ⟨v',w',β',hrun2,hv,hE⟩
       . obtain ⟨e,w',fr',⟨v',β',rfl,hv,hE⟩,hcomes,_,hleave⟩:=hcall (f::cs)
         exact ⟨v',w',β',hv,hE,hso,.trans (.one (qbm (by rw [htd]; intros; simp) hsg (hrun.trans (qod hc.prog hfn hb _ _)))) (.trans hcomes (.one (step_leave_returned hleave)))⟩
       . exact ⟨v',w',β',hv,hE,hso,.one (qzd hsg (hrun.trans hrun2) rfl)⟩
     . exact h.elim
   | round nm args=>exact h.elim
   | defer d=>exact h.elim
   | panic v=>exact h.elim
   | touch v nm =>
     refine ⟨T',.touch v nm,hsd,?_,h,fun _=>⟨rfl,rfl⟩,by simp [Fct.sets],fun _ _ _ _ e=>by cases e⟩
     intro β ts ha
     refine ⟨hwant β ts ha,fun O w0 w hH hG f cs i rest k hm htd ho hts => ?_⟩
     subst hts
     have hsg:=qng (P:=x.c.P) hm htd ho (hwant β f.tmps ha) hnd (cs:=cs) (w:=w)
     obtain ⟨nx,y,w',e,hrun,hnx,hv,he,heo,hE⟩:=R.sat_leaf (qmf (base:=H.length) hH o (hev β f.tmps f.defers ha hG)) hleaf
     exact ⟨y,w',e,hv,he,heo,hE.rebase,.one (qzd hsg hrun hnx)⟩
 . exact ⟨T,.skip,.refl T,hwant,h,fun _=>⟨rfl,rfl⟩,by simp [Fct.sets],fun _ _ _ _ e=>by cases e⟩
def StableH (hid:SO->Bool) (H0 H:List SO):Prop:=∀ (n:Nat) (e:SO),H0[n]? = some e->hid e=false->H[n]? = some e
theorem StableH.apply {hid:SO->Bool} {H0 H:List SO} (h:StableH hid H0 H) {sets:List (Nat × SO)} {news:List SO} (hs:∀ n e,(n,e)∈sets->visN hid H0 n=false):StableH hid H0 (qyb H sets news):=by
 intro n e hn he
 have h1:=h n e hn he
 rw [qhc,List.getElem?_append_left (by rw [q8d]; exact (List.getElem?_eq_some_iff.1 h1).1),qzf _ _ _ ?_]
 . exact h1
 . intro e' he'
   have:=hs n e' he'
   unfold visN at this
   rw [qca,hn] at this
   rw [show optC (some e) false (fun e=>boolC (hid e) false true)=boolC (hid e) false true from rfl,he] at this
   cases this
structure CFacts (x:CCtx) (ops:List Oper) (ms:List Nat) (i0:Nat) (T:List SV) (H:List SO) (TF:List SV) (Fs:List Fct) (hs:Nat->List SO):Prop where
 len:Fs.length=ops.length
 lenT:TF.length=T.length
 same:∀ t,(∀ o∈ops,o.dst≠some t)->∀ β,(getT TF t).den β=(getT T t).den β
 zero:hs 0=H
 stable:∀ i,i<=ops.length->StableH x.hid x.H (hs i)
 good:∀ (i:Nat) (o:Oper) (f:Fct),ops[i]? = some o->Fs[i]? = some f ->
  (∀ d,o.dst=some d->d<T.length->(∀ (k:Nat) (o':Oper),i<k->ops[k]? = some o'->o'.dst≠some d)->∀ β,(getT TF d).den β=f.val.den β) /\
  hs (i+1)=qyb (hs i) f.sets f.news/\(q4b x.c.P o=false->f.sets=[]/\f.news=[])/\(∀ v M b s,f=.run v M b s->b=(hs i).length) /\
  ∃ T' G,qnj x.c.P x.c.glob G x.os o T' f/\T'.length=T.length/\(∀ t,(∀ (k:Nat) (o':Oper),i<=k->ops[k]? = some o'->o'.dst≠some t)->∀ β,(getT TF t).den β=(getT T' t).den β) /\
    ((qvh x.c.P (i0+i) ((ms[i]?).getD 0) x.hd x.ms 0=true/\G=hs i)\/(q4b x.c.P o=false/\G=mapN (q2d x.hid) x.H))
theorem qzn {x:CCtx} (hc:CfgOK x.c):∀ (ops:List Oper) (ms:List Nat) (i0:Nat) (T:List SV) (H:List SO),StableH x.hid x.H H->(chP ops x ms i0 T H).Ob D S ->
  ∃ TF Fs hs,CFacts x ops ms i0 T H TF Fs hs/\(x.fin TF (hs ops.length)).Ob D S:=by
 intro ops
 induction ops with
 | nil =>
   intro ms i0 T H hst h
   exact ⟨T,[],fun _=>H,⟨rfl,rfl,fun _ _ _=>rfl,rfl,fun _ _=>hst,by simp⟩,h⟩
 | cons o r ih =>
   intro ms i0 T H hst h
   have hm0:q8f ms=(ms[0]?).getD 0:=by cases ms <;> rfl
   have hms:∀ i:Nat,(q1d ms)[i]? = ms[i+1]? := by intro i; cases ms <;> simp [q1d]
   replace h:(chOp o x i0 (q8f ms) T H (chP r x (q1d ms) (i0+1))).Ob D S:=h
   obtain ⟨T',f,G,hsd,hgood,hnx,hmv,hvis,hbase,hG⟩:∃ T' f G,SameDen T T'/\qnj x.c.P x.c.glob G x.os o T' f/\(chP r x (q1d ms) (i0+1) (putT T' o.dst f.val) (qyb H f.sets f.news)).Ob D S/\(q4b x.c.P o=false->f.sets=[]/\f.news=[]) /\
     (∀ n e,(n,e)∈f.sets->visN x.hid x.H n=false)/\(∀ v M b s,f=.run v M b s->b=H.length)/\((qvh x.c.P i0 (q8f ms) x.hd x.ms 0=true/\G=H)\/(q4b x.c.P o=false/\G=mapN (q2d x.hid) x.H)):=by
    unfold chOp at h
    cases hcm:qvh x.c.P i0 (q8f ms) x.hd x.ms 0 with
    | true =>
      rw [hcm,boolC_true] at h
      obtain ⟨T',f,h1,h2,h3,h4,h5,h6⟩:=q7x hc h
      exact ⟨T',f,H,h1,h2,h3,h4,h5,h6,.inl ⟨rfl,rfl⟩⟩
    | false =>
      rw [hcm,boolC_false] at h
      cases hmo:q4b x.c.P o with
      | true=>rw [hmo] at h; exact h.elim
      | false =>
        rw [hmo,boolC_false] at h
        obtain ⟨T',f,h1,h2,h3,h4,h5,h6⟩:=q7x hc h
        exact ⟨T',f,_,h1,h2,h3,fun _=>h4 rfl,h5,h6,.inr ⟨rfl,rfl⟩⟩
   have hlen:T'.length=T.length:=hsd.len
   have hlenP:(putT T' o.dst f.val).length=T.length:=by rw [q0h,hlen]
   obtain ⟨TF,Fs,hs,hF,hfin⟩:=ih _ _ _ _ (hst.apply hvis) hnx
   refine ⟨TF,f::Fs,fun k=>match k with | 0=>H | k+1=>hs k,⟨by simp [hF.len],hF.lenT.trans hlenP,?_,rfl,?_,?_⟩,hfin⟩
   . intro t ht β
     rw [hF.same t (fun o' ho'=>ht o' (List.mem_cons_of_mem _ ho')) β,q0d (ht o List.mem_cons_self),hsd.den β t]
   . intro i hi
     cases i with
     | zero=>exact hst
     | succ i=>exact hF.stable i (by simpa using hi)
   . intro i o' f' ho' hf'
     cases i with
     | zero =>
       simp at ho' hf'; subst ho'; subst hf'
       refine ⟨fun d hd hdl hlate β => ?_,hF.zero,hmv,hbase,T',G,hgood,hlen,fun t ht β => ?_,by rw [← hm0]; exact hG⟩
       . rw [hF.same d (fun o' ho' => ?_) β,hd,q1h (Nat.lt_of_lt_of_eq hdl hlen.symm)]
         obtain ⟨k,hk⟩:=List.mem_iff_getElem?.1 ho'
         exact hlate (k+1) o' (by omega) (by simpa using hk)
       . rw [hF.same t (fun o' ho' => ?_) β,q0d (ht 0 o (Nat.le_refl _) rfl)]
         obtain ⟨k,hk⟩:=List.mem_iff_getElem?.1 ho'
         exact ht (k+1) o' (by omega) (by simpa using hk)
     | succ i =>
       obtain ⟨h1,h2,h3,h4,T2,G2,h5,h6,h7,h8⟩:=hF.good i o' f' (by simpa using ho') (by simpa using hf')
       refine ⟨fun d hd hdl hlate β=>h1 d hd (Nat.lt_of_lt_of_eq hdl hlenP.symm) (fun k o'' hk ho''=>hlate (k+1) o'' (by omega) (by simpa using ho'')) β,h2,h3,h4,T2,G2,h5,h6.trans hlenP,
        fun t ht β=>h7 t (fun k o'' hk ho''=>ht (k+1) o'' (by omega) (by simpa using ho'')) β,?_⟩
       rw [← hms,show i0+(i+1)=i0+1+i from by omega]
       exact h8
end
section
variable {x:CCtx} {s:Nat} {T TF:List SV} {Fs:List Fct} {hs:Nat->List SO} {H0:List SO} {O:Bool->Nat->Prop} {w0:Bool->World}
structure CInv (x:CCtx) (s tl:Nat) (ex:Option Tmp) (TF:List SV) (hs:Nat->List SO) (O:Bool->Nat->Prop) (w0:Bool->World) (listed:Array Bool) (β:Val) (ts:Array Value) (w:World):Prop where
 size:listed.size=x.os.size
 tsz:ts.size=TF.length
 tmps:∀ t,ex≠some t->(∀ (j:Nat) (o:Oper),(x.os.toList.take s)[j]? = some o->o.dst=some t->listed.getD j false=true)->(getT TF t).den β=some (ts.getD t undef)
 heap:∃ c,c<=(x.os.toList.take s).length/\(∀ (j:Nat) (o:Oper),(x.os.toList.take s)[j]? = some o->q4b x.c.P o=true->(listed.getD j false=true↔j<c))/\∀ q,HeapRel x.c.P (O q) (w0 q) β (hs c) w
 closed:∀ (i m:Nat),listed.getD i false=true->(qda x.os.toList [])[i]? = some m->∀ j,m.testBit j=true->listed.getD j false=true
 tail:∀ i,tl<=i->listed.getD i false=false
 glob:GlobRel x.c.glob β
theorem qeg {ops:List Oper} {ms:List Nat} {i0:Nat} (hF:CFacts x ops ms i0 T H0 TF Fs hs) {a:Nat}:∀ (n:Nat),a+n<=ops.length->(∀ (j:Nat) (o:Oper),a<=j->j<a+n->ops[j]? = some o->q4b x.c.P o=false)->hs a=hs (a+n):=by
 intro n
 induction n with
 | zero=>intro _ _; rfl
 | succ n ih =>
   intro hl hm
   rw [ih (by omega) fun j o h1 h2=>hm j o h1 (by omega)]
   have hlt:a+n<ops.length:=by omega
   obtain ⟨_,h2,h3,_⟩:=hF.good (a+n) _ _ (List.getElem?_eq_getElem hlt) (List.getElem?_eq_getElem (by rw [hF.len]; exact hlt))
   obtain ⟨h4,h5⟩:=h3 (hm (a+n) _ (by omega) (by omega) (List.getElem?_eq_getElem hlt))
   rw [show a+(n+1)=a+n+1 from by omega,h2,h4,h5]; rfl
theorem qem {tl:Nat} {ex:Option Tmp} (hst0:s<=tl) (hex:∀ t,ex=some t->∃ j o,s<=j/\(x.os.toList.take tl)[j]? = some o/\o.dst=some t) (he:qib x.os.toList 0=true) (hh:qnd x.os (qsa x.os.toList tl) (qsa x.os.toList tl) (qda x.os.toList []) 0=true) (hF:CFacts x (x.os.toList.take s) (qda x.os.toList []) 0 T H0 TF Fs hs) (hxh:x.hd=x.os.toList.take s) (hxm:x.ms=qda x.os.toList [])
  {listed:Array Bool} {β:Val} {ts:Array Value} {w:World} (hI:CInv x s tl ex TF hs O w0 listed β ts w) {i:Nat} (hi:i∈Region.ready .any x.os listed) (his:i<s) (fr:Frame) (ds:List Deferred) (rest:List Nat) (k:List Item) (cs:List Frame) :
  ∃ β' ts' w',β.le β'/\CInv x s tl ex TF hs O w0 (listed.setIfInBounds i true) β' ts' w'/\(∀ t,ex=some t->ts'.getD t undef=ts.getD t undef)/\Steps x.c.P (lone (fr.atR ⟨ts,ds⟩ (.inRegion x.os (i::rest)::k)) cs w) (lone (fr.atR ⟨ts',ds⟩ (.inRegion x.os rest::k)) cs w'):=by
 have hr:=mem_ready.1 hi
 obtain ⟨hun,o,ho,hall⟩:=hr
 have hio:=(Array.getElem?_eq_some_iff.1 ho).1
 have hunf:listed.getD i false=false:=by rw [qia (by rw [hI.size]; exact hio)]; exact hun
 have hhd:(x.os.toList.take s)[i]? = some o:=by rw [List.getElem?_take,if_pos his,Array.getElem?_toList]; exact ho
 have hilt:=(List.getElem?_eq_some_iff.1 hhd).1
 obtain ⟨f,hf⟩:∃ f,Fs[i]? = some f:=⟨_,List.getElem?_eq_getElem (by rw [hF.len]; exact hilt)⟩
 obtain ⟨hval,hnext,hmv,hbase,T',G,hgood,hT'l,hT',hGc⟩:=hF.good i o f hhd hf
 rw [Nat.zero_add,hxh,hxm] at hGc
 rw [qoc] at hh
 have htk:∀ (j:Nat) (o':Oper),(x.os.toList.take s)[j]? = some o'->(x.os.toList.take tl)[j]? = some o':=fun j o' h=>by
  have hj:=(List.getElem?_eq_some_iff.1 h).1
  rw [List.length_take] at hj
  rw [List.getElem?_take,if_pos (by omega)] at h ⊢
  exact h
 obtain ⟨hread,hdst⟩:=qzh _ _ _ _ _ hh i o (htk _ _ hhd)
 have hset:∀ j,(listed.setIfInBounds i true).getD j false=if i=j then true else listed.getD j false:=by
  intro j
  by_cases hij:i=j
  . subst hij; rw [if_pos rfl]; simp [Array.getD_eq_getD_getElem?,hI.size,hio]
  . rw [if_neg hij,getD_set_ne false hij]
 have hmi:∀ j,(((qda x.os.toList [])[i]?).getD 0).testBit j=true->listed.getD j false=true:=by
  intro j hb
  refine qrb hI.closed hi (m:=((qda x.os.toList [])[i]?).getD 0) ?_ hb
  cases hm:(qda x.os.toList [])[i]? with
  | none=>rw [hm] at hb; simp at hb
  | some m=>rfl
 have hmj:∀ j,(((qda x.os.toList [])[j]?).getD 0).testBit i=true->listed.getD j false=true->False:=by
  intro j hb hl
  have:=hI.closed j (((qda x.os.toList [])[j]?).getD 0) hl (by
   cases hm:(qda x.os.toList [])[j]? with
   | none=>rw [hm] at hb; simp at hb
   | some m=>rfl) i hb
  rw [hunf] at this; cases this
 have hagree:AgreeOn β T' ts (qpb x.os o):=by
  refine ⟨by rw [hI.tsz,hT'l,hF.lenT],fun t ht => ?_⟩
  rw [← hT' t (fun j o' hij ho' hd => ?_) β]
  . refine hI.tmps t (fun hex' => ?_) fun j o' ho' hd => ?_
    . obtain ⟨j,o',hj,ho',hd⟩:=hex t hex'
      obtain ⟨m,hm,hb⟩:=hread j o' t ho' hd ht
      have:=q1o he i m hm j hb
      omega
    obtain ⟨m,hm,hb⟩:=hread j o' t (htk _ _ ho') hd ht
    exact qrb hI.closed hi hm hb
  . obtain ⟨m,hm,hb⟩:=hread j o' t (htk _ _ ho') hd ht
    have:=q1o he i m hm j hb
    omega
 obtain ⟨c,hcl,hcm,hH⟩:=hI.heap
 have hcase:(G=hs c/\hs c=hs i/\qvh x.c.P i (((qda x.os.toList [])[i]?).getD 0) (x.os.toList.take s) (qda x.os.toList []) 0=true)\/(q4b x.c.P o=false/\G=mapN (q2d x.hid) x.H):=by
  rcases hGc with ⟨hcmp,hGi⟩ | h
  . left
    have hspec:=qti _ _ _ hcmp
    have hci:hs c=hs i:=by
     rcases Nat.le_total c i with hle | hle
     . have:=qeg hF (a:=c) (i - c) (by omega) fun j o' h1 h2 ho'=>by
        cases hmo:q4b x.c.P o' with
        | false=>rfl
        | true =>
          exfalso
          have h3:=(hspec j o' ho' hmo (by omega)).1 (by omega)
          rw [Nat.zero_add] at h3
          have:=(hcm j o' ho' hmo).1 (hmi j h3)
          omega
       rw [show c+(i - c)=i from by omega] at this; exact this
     . have:=qeg hF (a:=i) (c - i) (by omega) fun j o' h1 h2 ho'=>by
        cases hmo:q4b x.c.P o' with
        | false=>rfl
        | true =>
          exfalso
          have hl:=(hcm j o' ho' hmo).2 (by omega)
          by_cases hij:j=i
          . subst hij; rw [hunf] at hl; cases hl
          . have h3:=(hspec j o' ho' hmo (by omega)).2 (by omega)
            exact hmj j h3 hl
       rw [show i+(c - i)=c from by omega] at this; exact this.symm
    exact ⟨hGi.trans hci.symm,hci,hcmp⟩
  . exact .inr h
 have hvisG:∀ (n:Nat) (e:SO),G[n]? = some e->e=SO.gone\/(hs c)[n]? = some e:=by
  intro n e hn
  rcases hcase with ⟨rfl,_⟩ | ⟨_,rfl⟩
  . exact .inr hn
  . rw [qja,List.getElem?_map] at hn
    cases hx:x.H[n]? with
    | none=>rw [hx] at hn; cases hn
    | some e0 =>
      rw [hx] at hn
      have hn:q2d x.hid e0=e:=Option.some.inj hn
      unfold q2d at hn
      cases hhe:x.hid e0 with
      | true=>rw [hhe] at hn; exact .inl hn.symm
      | false =>
        rw [hhe] at hn
        have hn:e0=e:=hn
        subst hn
        exact .inr (hF.stable c hcl n e0 hx hhe)
 have hG0:∀ q,HeapRel0 x.c.P (O q) (w0 q) β G w:=fun q=>(hH q).toHeapRel0.less fun n e hn=>(hvisG n e hn).symm
 have hown:∀ (n:Nat) (e:SO),G[n]? = some e->e.owned=true->(hs c)[n]? = some e:=by
  intro n e hn ho
  rcases hvisG n e hn with rfl | h
  . cases ho
  . exact h
 have hb0:f.news=[]/\f.sets=[]\/(hs c=hs i):=by
  rcases hcase with ⟨_,h,_⟩ | ⟨h,_⟩
  . exact .inr h
  . exact .inl ⟨(hmv h).2,(hmv h).1⟩
 have hstep:∃ y w' β',f.val.den β'=some y/\β.le β'/\(∀ q,HeapRel x.c.P (O q) (w0 q) β' (qyb (hs c) f.sets f.news) w') /\
   Steps x.c.P (lone (fr.atR ⟨ts,ds⟩ (.inRegion x.os (i::rest)::k)) cs w) (lone (fr.atR (Act.put ⟨ts,ds⟩ o.dst y) (.inRegion x.os rest::k)) cs w'):=by
  cases f with
  | skip =>
    have hw:=hgood β ts hagree
    refine ⟨undef,w,β,by simp [Fct.val,qua,SV.den,SV.denL,undef],Val.le_refl β,hH,.one ?_⟩
    have:=stepR_op_skip (P:=x.c.P) (b:=fr) (a:=⟨ts,ds⟩) (k:=k) (cs:=cs) (w:=w) (ops:=x.os) (i:=i) (rest:=rest) (by rw [ho]; exact hw)
    rw [ho] at this; exact this
  | run v N b q =>
    obtain ⟨hw,hrun⟩:=hgood β ts hagree
    have hb:=hbase v N b q rfl
    have hfree:Free β b N:=by
     rcases hb0 with ⟨h1,_⟩ | h
     . have h1:N=[]:=h1
       subst h1
       intro j hj; simp at hj
     . intro j _
       exact (hH true).bound _ (by rw [h,hb]; omega)
    obtain ⟨y,w',β',hv,hE,hso,hst⟩:=hrun (O true) (w0 true) w (hG0 true) hI.glob hfree (fr.atR ⟨ts,ds⟩ (.inRegion x.os (i::rest)::k)) cs i rest k rfl rfl ho rfl
    rw [Frame.finish_atR,ho] at hst
    refine ⟨y,w',β',hv,hE.le,?_,hst⟩
    have hso':∀ n e,(n,e)∈q->∃ e0,(hs c)[n]? = some e0/\e0.owned=true:=fun n e hn=>by
     obtain ⟨e0,h1,h2⟩:=hso n e hn
     exact ⟨e0,hown n e0 h1 h2,h2⟩
    rcases hb0 with ⟨h1,_⟩ | h
    . have h1:N=[]:=h1
      subst h1
      exact fun q=>(hH q).apply (hE.rebase (b:=(hs c).length)) hso'
    . rw [hb,← h] at hE
      exact fun q=>(hH q).apply hE hso'
  | touch v nm =>
    obtain ⟨hw,hrun⟩:=hgood β ts hagree
    obtain ⟨y,w',e,hv,he,heo,hE,hst⟩:=hrun (O true) (w0 true) w (hG0 true) hI.glob (fr.atR ⟨ts,ds⟩ (.inRegion x.os (i::rest)::k)) cs i rest k rfl rfl ho rfl
    rw [Frame.finish_atR,ho] at hst
    refine ⟨y,w',β,hv,Val.le_refl β,fun q => ?_,hst⟩
    have h1:=hown nm e he heo
    have:=(hH q).apply (hE.rebase (b:=(hs c).length)) (by intro n e' hn; simp at hn; obtain ⟨rfl,rfl⟩:=hn; exact ⟨e',h1,heo⟩)
    rw [qhc,List.append_nil,qqi h1] at this
    exact this
 obtain ⟨y,w',β',hv,hle,hH',hst⟩:=hstep
 rw [qds] at hst
 refine ⟨β',_,w',hle,⟨by simp [hI.size],by rw [qpj]; exact hI.tsz,?_,?_,?_,?_,hI.glob.mono hle⟩,?_,hst⟩
 ·
  intro t hext ht
  rw [qlh]
  by_cases hd:o.dst=some t
  . by_cases hlt:t<ts.size
    . rw [if_pos ⟨hd,hlt⟩,hval t hd (by rw [← hF.lenT,← hI.tsz]; exact hlt) (fun j o' hij ho'=>hdst t hd j o' hij (htk _ _ ho'))]
      exact hv
    . rw [if_neg (fun h=>hlt h.2)]
      have h1:nth TF t=none:=by rw [qca,List.getElem?_eq_none]; rw [← hI.tsz]; exact Nat.not_lt.1 hlt
      have h2:ts.getD t undef=undef:=by rw [Array.getD_eq_getD_getElem?,Array.getElem?_eq_none (Nat.not_lt.1 hlt)]; rfl
      rw [h2]; unfold getT; rw [h1]; simp [qua,SV.den,SV.denL,undef]
  . rw [if_neg (fun h=>hd h.1)]
    refine SV.den_mono hle _ (hI.tmps t hext fun j o' ho' hd' => ?_)
    have:=ht j o' ho' hd'
    rw [hset] at this
    by_cases hij:i=j
    . subst hij; rw [hhd] at ho'; cases ho'; exact absurd hd' hd
    . rwa [if_neg hij] at this
 ·
  cases hmo:q4b x.c.P o with
  | false =>
    obtain ⟨h1,h2⟩:=hmv hmo
    rw [h1,h2] at hH'
    refine ⟨c,hcl,fun j o' ho' hm => ?_,hH'⟩
    have hij:i≠j:=by
     intro h; subst h
     rw [hhd] at ho'; cases ho'
     rw [hmo] at hm; cases hm
    rw [hset,if_neg hij]
    exact hcm j o' ho' hm
  | true =>
    rcases hcase with ⟨_,hci,hcmp⟩ | ⟨h,_⟩
    . have hspec:=qti _ _ _ hcmp
      refine ⟨i+1,hilt,fun j o' ho' hm => ?_,by rw [hnext,← hci]; exact hH'⟩
      rw [hset]
      by_cases hij:i=j
      . subst hij; simp
      . rw [if_neg hij]
        rcases Nat.lt_or_ge j i with hlt | hge
        . have h3:=(hspec j o' ho' hm (by omega)).1 (by omega)
          rw [Nat.zero_add] at h3
          exact ⟨fun _=>by omega,fun _=>hmi j h3⟩
        . have h3:=(hspec j o' ho' hm (by omega)).2 (by omega)
          exact ⟨fun hl=>(hmj j h3 hl).elim,fun h=>by omega⟩
    . rw [hmo] at h; cases h
 . intro j m hj hm l hl
   rw [hset] at hj ⊢
   split
   . rfl
   . by_cases hij:i=j
     . subst hij; exact qrb hI.closed hi hm hl
     . rw [if_neg hij] at hj; exact hI.closed j m hj hm l hl
 . intro j hj
   rw [hset,if_neg (by omega)]; exact hI.tail j hj
 . intro t hext
   rw [qlh,if_neg]
   rintro ⟨hd,_⟩
   obtain ⟨j,o',hj,ho',hd'⟩:=hex t hext
   exact hdst t hd j o' (by omega) ho' hd'
theorem j4g {ops:List Oper} {ms:List Nat} {i0:Nat} (hF:CFacts x ops ms i0 T H0 TF Fs hs) {a:Nat}:∀ (n:Nat),a+n<=ops.length->(hs a).length<=(hs (a+n)).length:=by
 intro n
 induction n with
 | zero=>intro _; exact Nat.le_refl _
 | succ n ih =>
   intro hl
   have hlt:a+n<ops.length:=by omega
   obtain ⟨_,h2,_⟩:=hF.good (a+n) _ _ (List.getElem?_eq_getElem hlt) (List.getElem?_eq_getElem (by rw [hF.len]; exact hlt))
   refine Nat.le_trans (ih (by omega)) ?_
   rw [show a+(n+1)=a+n+1 from by omega,h2,qhc,List.length_append,q8d]
   omega
end
end
end Go.Sim
