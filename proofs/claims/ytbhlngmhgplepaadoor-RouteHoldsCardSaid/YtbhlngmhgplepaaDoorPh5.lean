/-
  zcS behind one another: the symbolic simulator and what it is told of the program.
-/
import Derived.Test.YtbhlngmhgplepaaDoorPh4
namespace Go.Sim
noncomputable section
variable {α:Type}
theorem qdj {ops:Array Oper} {listed:Array Bool} (h:Region.ready .any ops listed=[]) (fuel t:Nat):Region.linearise.go .any ops fuel t listed []=[]:=by
 cases fuel with
 | zero=>rfl
 | succ fuel =>
   simp only [Region.linearise.go];change (match (Region.ready .any ops listed)[t % (Region.ready .any ops listed).length]? with
    | some i=>Region.linearise.go .any ops fuel (t / (Region.ready .any ops listed).length) (listed.setIfInBounds i true) [i]
    | none=>[].reverse)=[]
   rw [h]; rfl
theorem qag {ops:Array Oper} {listed:Array Bool} (h:Region.ready .any ops listed≠[]) (fuel t:Nat) :
  ∃ i∈Region.ready .any ops listed,∃ t',Region.linearise.go .any ops (fuel+1) t listed []=i::Region.linearise.go .any ops fuel t' (listed.setIfInBounds i true) []:=by
 have hlt:t % (Region.ready .any ops listed).length<(Region.ready .any ops listed).length:=Nat.mod_lt _ (List.length_pos_iff.2 h);refine ⟨(Region.ready .any ops listed)[t % (Region.ready .any ops listed).length],List.getElem_mem hlt,t / (Region.ready .any ops listed).length,?_⟩;have e:Region.linearise.go .any ops (fuel+1) t listed []=match (Region.ready .any ops listed)[t % (Region.ready .any ops listed).length]? with
   | some i=>Region.linearise.go .any ops fuel (t / (Region.ready .any ops listed).length) (listed.setIfInBounds i true) [i]
   | none=>[].reverse:=by
  simp only [Region.linearise.go]; rfl
 rw [e,List.getElem?_eq_getElem hlt];show Region.linearise.go .any ops fuel _ _ [_]=_;rw [linearise_go_acc]; rfl
def unl (listed:Array Bool):Nat->Nat
 | 0=>0
 | k+1=>unl listed k+if listed.getD k true then 0 else 1
theorem qti {listed:Array Bool} {i:Nat} (hi:listed.getD i true=false):∀ k,unl (listed.setIfInBounds i true) k+(if i<k then 1 else 0)=unl listed k:=by
 have hlt:i<listed.size:=by
  rcases Nat.lt_or_ge i listed.size with h | h
  . exact h
  . rw [Array.getD_eq_getD_getElem?,Array.getElem?_eq_none h] at hi; cases hi
 intro k;induction k with
 | zero=>rfl
 | succ k ih =>
   simp only [unl];by_cases hk:i=k
   . subst hk;have h1:(listed.setIfInBounds i true).getD i true=true:=by simp [Array.getD_eq_getD_getElem?,hlt]
     rw [h1,hi];simp at ih ⊢;omega
   . rw [getD_set_ne true hk];have:(if i<k+1 then 1 else 0)=(if i<k then 1 else 0):=by
      by_cases h:i<k
      . rw [if_pos h,if_pos (by omega)]
      . rw [if_neg h,if_neg (by omega)]
     rw [this];omega
theorem qay {listed:Array Bool} {s n:Nat} (h:∀ j,s<=j->j<n->listed.getD j true=false):∀ k,s+k=n->k<=unl listed n:=by
 intro k hk;subst hk;induction k with
 | zero=>exact Nat.zero_le _
 | succ k ih =>
   have:=ih fun j h1 h2=>h j h1 (by omega)
   show k+1<=unl listed (s+k)+_;rw [show s.add k=s+k from rfl,h (s+k) (by omega) (by omega)]
   simp; omega
theorem qzk {listed:Array Bool} {n i:Nat} (hi:i<n) (h:listed.getD i true=false):1<=unl listed n:=by
 have:=qti h n;rw [if_pos hi] at this; omega
section
variable {os:Array Oper} {s:Nat}
theorem q2o (he:qmb os.toList 0=true):∀ (i:Nat) (m:Nat),(qca os.toList [])[i]? = some m->∀ j,m.testBit j=true->j<i:=by
 intro i;induction i using Nat.strongRecOn with
 | ind i ih =>
   intro m hm j hj;obtain ⟨_,h2,h3⟩:=qcd os.toList [];have hlt:=(List.getElem?_eq_some_iff.1 hm).1;rw [h2] at hlt;simp only [List.length_nil,Nat.zero_add] at hlt h3;have ho:=h3 i _ (List.getElem?_eq_getElem hlt);rw [hm] at ho;obtain ⟨e,hmem,hb,hor⟩:=qzn _ _ j (by rw [← Option.some.inj ho]; exact hj)
   have hon:=qai _ 0 he i _ (List.getElem?_eq_getElem hlt) e hmem hb;rw [Nat.zero_add] at hon;rcases hor with rfl | ⟨m',hm',hb'⟩
   . exact hon
   . rw [List.getElem?_take,if_pos hon] at hm';have:=ih e.on hon m' hm' j hb';omega
theorem qxb {listed:Array Bool} (hcl:∀ (i m:Nat),listed.getD i false=true->(qca os.toList [])[i]? = some m->∀ j,m.testBit j=true->listed.getD j false=true)
  {i:Nat} (hi:i∈Region.ready .any os listed) {m:Nat} (hm:(qca os.toList [])[i]? = some m) {j:Nat} (hj:m.testBit j=true):listed.getD j false=true:=by
 rw [mem_ready] at hi;obtain ⟨_,o,ho,hall⟩:=hi;obtain ⟨_,_,h3⟩:=qcd os.toList [];have h4:=h3 i o (by rw [Array.getElem?_toList]; exact ho)
 simp only [List.length_nil,Nat.zero_add] at h4;rw [hm] at h4;obtain ⟨e,hmem,hb,hor⟩:=qzn _ _ j (by rw [← Option.some.inj h4]; exact hj)
 have hl:=hall e (by simpa using hmem) hb
 rcases hor with rfl | ⟨m',hm',hb'⟩
 . exact hl
 . rw [List.getElem?_take] at hm';split at hm'
   . exact hcl e.on m' hl hm' j hb'
   . cases hm'
theorem qoe (he:qmb os.toList 0=true) {listed:Array Bool} {i:Nat} (hi:i<os.size) (hl:listed.getD i true=false) (hb:∀ j,j<i->listed.getD j false=true):i∈Region.ready .any os listed:=by
 rw [mem_ready];refine ⟨hl,os[i],Array.getElem?_eq_getElem hi,fun e hmem hbi=>hb _ ?_⟩;have:=qai _ 0 he i os[i] (by simp [hi]) e (by simpa using hmem) hbi
 omega
theorem qia {listed:Array Bool} {i:Nat} (hi:i<listed.size):listed.getD i false=listed.getD i true:=by
 simp [Array.getD_eq_getD_getElem?,hi]
theorem q9l (he:qmb os.toList 0=true) (ht:∀ (i m:Nat),s<=i->(qca os.toList [])[i]? = some m->∀ j,j<i->m.testBit j=true):∀ (k fuel t s':Nat) (listed:Array Bool),listed.size=os.size->s<=s'->s'+k=os.size ->
  (∀ j,j<os.size->listed.getD j true=decide (j<s'))->k<=fuel->Region.linearise.go .any os fuel t listed []=List.range' s' k:=by
 intro k;induction k with
 | zero =>
   intro fuel t s' listed hsz hs hk hl _;rw [qdj]
   . rfl
   . apply List.eq_nil_iff_forall_not_mem.2;intro j hj;rw [mem_ready] at hj;obtain ⟨h1,o,ho,_⟩:=hj;have hlt:=(Array.getElem?_eq_some_iff.1 ho).1;rw [hl j hlt] at h1;have:=of_decide_eq_false h1; omega
 | succ k ih =>
   intro fuel t s' listed hsz hs hk hl hf;cases fuel with
   | zero=>omega
   | succ fuel =>
     have hlt:s'<os.size:=by omega
     have hin:s'∈Region.ready .any os listed:=qoe he hlt (by rw [hl s' hlt]; simp) fun j hj=>by
      rw [qia (by omega),hl j (by omega)]; simp [hj]
     obtain ⟨i,hi,t',heq⟩:=qag (List.ne_nil_of_mem hin) fuel t;have his:i=s':=by
      have hi':=hi;rw [mem_ready] at hi';obtain ⟨h1,o,ho,hall⟩:=hi';have hio:=(Array.getElem?_eq_some_iff.1 ho).1;rw [hl i hio] at h1;have hge:=of_decide_eq_false h1;by_cases hlt':s'<i
      . exfalso;obtain ⟨_,_,h3⟩:=qcd os.toList [];have h4:=h3 i o (by rw [Array.getElem?_toList]; exact ho)
        simp only [List.length_nil,Nat.zero_add] at h4;obtain ⟨e,hmem,hb,hor⟩:=qzn _ _ s' (ht i _ (by omega) h4 s' hlt')
        have hon:=qai _ 0 he i o (by rw [Array.getElem?_toList]; exact ho) e hmem hb
        have hlon:=hall e (by simpa using hmem) hb
        rw [qia (by omega),hl e.on (by omega)] at hlon
        have hons:=of_decide_eq_true hlon;rcases hor with rfl | ⟨m',hm',hb'⟩
        . omega
        . rw [List.getElem?_take] at hm';split at hm'
          . have:=q2o he e.on m' hm' s' hb'; omega
          . cases hm'
      . omega
     subst his;rw [heq,ih fuel t' (i+1) _ (by simp [hsz]) (by omega) (by omega) ?_ (by omega),List.range'_succ]
     intro j hj;by_cases hji:i=j
     . subst hji;simp [Array.getD_eq_getD_getElem?,hsz,hlt]
     . rw [getD_set_ne true hji,hl j hj];congr 1; simp; omega
end
section
variable {x:zcn} {s:Nat} {T TF:List SV} {Fs:List Fct} {slots sets:List (Nat × SO)} {O:Nat->Prop} {w0:World}
def q5a (listed:Array Bool) (slots:List (Nat × SO)):List SO:=slots.map fun p=>if listed.getD p.1 false then p.2 else .gone
theorem qby {n:Nat} {e:SO}:∀ {sets:List (Nat × SO)} {A B:List SO},A.length=B.length->(n,e)∈sets->(qbc A sets)[n]? = (qbc B sets)[n]?
 | [],_,_,_,h=>by simp at h
 | a::r,A,B,hl,h=>by
   rw [q8e,q8e];by_cases hr:∃ e',(n,e')∈r
   . obtain ⟨e',hr⟩:=hr;exact qby (by rw [List.length_set,List.length_set,hl]) hr
   . have hno:∀ e',(n,e') ∉ r:=fun e' he'=>hr ⟨e',he'⟩;rw [qmf _ _ _ hno,qmf _ _ _ hno];rcases List.mem_cons.1 h with h | h
     . subst h;rw [List.getElem?_set,List.getElem?_set,hl,if_pos rfl,if_pos rfl]
     . exact absurd h (hno e)
def qjb (x:zcn) (s:Nat) (slots sets:List (Nat × SO)) (listed:Array Bool):List SO:=if listed.getD ((x.os.toList.take s).length - 1) false then qbc (x.H++q5a listed slots) sets else x.H++q5a listed slots
theorem qkv (x:zcn) (s:Nat) (slots sets:List (Nat × SO)) (listed:Array Bool):(qjb x s slots sets listed).length=x.H.length+slots.length:=by
 have h:(x.H++q5a listed slots).length=x.H.length+slots.length:=by rw [List.length_append,q5a,List.length_map]
 unfold qjb; split
 . rw [q2d,h]
 . exact h
theorem qff (x:zcn) (s:Nat) (slots:List (Nat × SO)) (listed:Array Bool):qjb x s slots [] listed=x.H++q5a listed slots:=by unfold qjb; split <;> rfl
theorem j8i (x:zcn) (i:Nat) (l:Bool) {k:Nat} {e:SO} (h:(x.atI i l)[k]? = some e):e=.gone\/x.H[k]? = some e:=by
 have hid:(zas qkg x.H)[k]? = some e->e=.gone\/x.H[k]? = some e:=by
  intro h;rw [qxa,List.getElem?_map] at h;cases hx:x.H[k]? with
  | none=>rw [hx] at h; cases h
  | some e0 =>
    rw [hx] at h;have h:qkg e0=e:=Option.some.inj h;unfold qkg at h;cases hh:qpi e0 with
    | true=>rw [hh] at h; exact .inl h.symm
    | false=>rw [hh] at h; exact .inr (congrArg some h)
 unfold zcn.atI at h;cases hm:x.mL with
 | none=>rw [hm] at h; exact .inr h
 | some m =>
   rw [hm] at h;replace h:(zab l x.H (zab (zbH m i) x.H (zas qkg x.H)))[k]? = some e:=h;cases l with
   | true=>exact .inr h
   | false =>
     cases hb:zbH m i with
     | true=>rw [hb] at h; exact .inr h
     | false=>rw [hb] at h; exact hid h
structure zfI (x:zcn) (s:Nat) (TF:List SV) (slots sets:List (Nat × SO)) (O:Nat->Prop) (w0:World) (listed:Array Bool) (β:Val) (ts:Array Value) (w:World):Prop where
 size:listed.size=x.os.size
 tsz:ts.size=TF.length
 tmps:∀ t,(∀ (j:Nat) (o:Oper),(x.os.toList.take s)[j]? = some o->o.dst=some t->listed.getD j false=true)->(zbg TF t).den β=some (ts.getD t undef)
 heap:HeapRel0 x.c.P O w0 β (qjb x s slots sets listed) w
 free:∀ n,x.H.length<=n->(∀ (j:Nat) (e:SO),slots[n - x.H.length]? = some (j,e)->listed.getD j false=false)->β n=none
 closed:∀ (i m:Nat),listed.getD i false=true->(qca x.os.toList [])[i]? = some m->∀ j,m.testBit j=true->listed.getD j false=true
 tail:∀ i,s<=i->listed.getD i false=false
 glob:zaD x.c.glob β
theorem q5g {ts:Array Value} {ds:List Deferred} {dst:Option Tmp} {y:Value} (t:Nat):((Act.put ⟨ts,ds⟩ dst y).tmps).getD t undef=if dst=some t/\t<ts.size then y else ts.getD t undef:=by
 cases dst with
 | none=>simp [Act.put]
 | some d =>
   simp only [Act.put,Array.getD_eq_getD_getElem?,Array.getElem?_setIfInBounds,Option.some.injEq];by_cases h:d=t
   . subst h;by_cases h2:d<ts.size
     . simp [h2]
     . simp [h2]
   . simp [h]
theorem q1r (ts:Array Value) (ds:List Deferred) (dst:Option Tmp) (y:Value):Act.put ⟨ts,ds⟩ dst y=⟨(Act.put ⟨ts,ds⟩ dst y).tmps,ds⟩:=by cases dst <;> rfl
theorem qej (ts:Array Value) (ds:List Deferred) (dst:Option Tmp) (y:Value):(Act.put ⟨ts,ds⟩ dst y).tmps.size=ts.size:=by cases dst <;> simp [Act.put]
theorem qgu (he:qmb x.os.toList 0=true) (hh:qid x.os (qta x.os.toList s) (qta x.os.toList s) (qca x.os.toList []) 0=true) (hF:Facts x (x.os.toList.take s) (qca x.os.toList []) T 0 [] TF Fs slots sets)
  {listed:Array Bool} {β:Val} {ts:Array Value} {w:World} (hI:zfI x s TF slots sets O w0 listed β ts w) {i:Nat} (hi:i∈Region.ready .any x.os listed) (his:i<s) (fr:Frame) (ds:List Deferred) (rest:List Nat) (k:List Item) (cs:List Frame) :
  ∃ β' ts' w',β.le β'/\zfI x s TF slots sets O w0 (listed.setIfInBounds i true) β' ts' w'/\Steps x.c.P (lone (fr.atR ⟨ts,ds⟩ (.inRegion x.os (i::rest)::k)) cs w) (lone (fr.atR ⟨ts',ds⟩ (.inRegion x.os rest::k)) cs w'):=by
 have hr:=mem_ready.1 hi;obtain ⟨hun,o,ho,hall⟩:=hr;have hio:=(Array.getElem?_eq_some_iff.1 ho).1;have zdS:listed.getD i false=false:=by rw [qia (by rw [hI.size]; exact hio)]; exact hun
 have hhd:(x.os.toList.take s)[i]? = some o:=by rw [List.getElem?_take,if_pos his,Array.getElem?_toList]; exact ho
 obtain ⟨f,hf⟩:∃ f,Fs[i]? = some f:=by
  have:=(List.getElem?_eq_some_iff.1 hhd).1;rw [← hF.len] at this;exact ⟨_,List.getElem?_eq_getElem this⟩
 obtain ⟨zcA,hval,⟨hfs,hfn⟩,T',G,hgood,zbb,zha,hT'⟩:=hF.good i o f hhd hf;rw [Nat.zero_add] at zcA zbb;simp only [List.length_nil,Nat.add_zero,List.nil_append] at zcA zbb;rw [qsc] at hh;obtain ⟨hread,hdst⟩:=qlh _ _ _ _ _ hh i o hhd;have hset:∀ j,(listed.setIfInBounds i true).getD j false=if i=j then true else listed.getD j false:=by
  intro j;by_cases hij:i=j
  . subst hij; rw [if_pos rfl]; simp [Array.getD_eq_getD_getElem?,hI.size,hio]
  . rw [if_neg hij,getD_set_ne false hij]
 have zbG:AgreeOn β T' ts (qsb x.os o):=by
  refine ⟨by rw [hI.tsz,zha,hF.zdn],fun t ht => ?_⟩
  rw [← hT' t (fun j o' hij ho' hd => ?_) β]
  . refine hI.tmps t fun j o' ho' hd => ?_
    obtain ⟨m,hm,hb⟩:=hread j o' t ho' hd ht;exact qxb hI.closed hi hm hb
  . obtain ⟨m,hm,hb⟩:=hread j o' t ho' hd ht;have:=q2o he i m hm j hb;omega
 have hfree:∀ (v:SV) (N:List SO) (b:Nat) (q:List (Nat × SO)),f=.run v N b q->Free β b N:=by
  intro v N b q hfe;rcases zcA.ex with ⟨hnil,_⟩ | ⟨e,p,v',q',hfe',hp,_⟩
  . rw [hfe] at hnil;have:N=[]:=hnil;subst this;intro j hj; simp at hj
  . rw [hfe] at hfe'; cases hfe';intro j hj;have:j=0:=by simp at hj; exact hj
    subst this;refine hI.free _ (by omega) fun j' e' hje => ?_
    rw [show x.H.length+p+0 - x.H.length=p from by omega,hp] at hje
    cases hje; exact zdS
 have zgW:∀ (hL:listed.getD ((x.os.toList.take s).length - 1) false=true) (j:Nat),(((qca x.os.toList [])[(x.os.toList.take s).length - 1]?).getD 0).testBit j=true->listed.getD j false=true:=by
  intro hL j hb;have hmi:(qca x.os.toList [])[(x.os.toList.take s).length - 1]? = some (((qca x.os.toList [])[(x.os.toList.take s).length - 1]?).getD 0):=by
   cases hm:(qca x.os.toList [])[(x.os.toList.take s).length - 1]? with
   | none=>rw [hm] at hb; simp at hb
   | some m=>rfl
  exact hI.closed _ _ hL hmi j hb
 have hhlen:i<(x.os.toList.take s).length:=(List.getElem?_eq_some_iff.1 hhd).1;have zgt:∀ (n:Nat) (e:SO),G[n]? = some e->e=.gone\/(qjb x s slots sets listed)[n]? = some e:=by
  intro n e hn;have hA:e=.gone\/(x.H++q5a listed slots)[n]? = some e:=by
   rcases zbb n e hn with h | h | ⟨hge,j,hj,hb⟩
   . exact .inl h
   . rcases j8i x _ _ h with h | h
     . exact .inl h
     . right;rw [List.getElem?_append_left (List.getElem?_eq_some_iff.1 h).1]; exact h
   . right;rw [qgi] at hge hj;rw [List.getElem?_append_right hge];have hmi:(qca x.os.toList [])[i]? = some (((qca x.os.toList [])[i]?).getD 0):=by
      cases hm:(qca x.os.toList [])[i]? with
      | none=>rw [hm] at hb; simp at hb
      | some m=>rfl
     have hl:=qxb hI.closed hi hmi hb;simp only [q5a,List.getElem?_map,hj,Option.map_some];rw [hl]; rfl
  rcases hF.last with h0 | ⟨hmL,zjY⟩
  . rw [h0,qff]; exact hA
  . cases hL:listed.getD ((x.os.toList.take s).length - 1) false with
    | false =>
      have:qjb x s slots sets listed=x.H++q5a listed slots:=by unfold qjb; rw [hL]; rfl
      rw [this]; exact hA
    | true =>
      have hcu:qjb x s slots sets listed=qbc (x.H++q5a listed slots) sets:=by unfold qjb; rw [hL]; rfl
      rw [hcu];have hne:¬ (i+1=(x.os.toList.take s).length):=by
       intro h;rw [← h,Nat.add_sub_cancel] at hL;rw [zdS] at hL; cases hL
      rcases hA with hA | hA
      . exact .inl hA
      by_cases hno:∀ e',(n,e') ∉ sets
      . exact .inr (by rw [qmf _ _ _ hno]; exact hA)
      . obtain ⟨e',he'⟩:∃ e',(n,e')∈sets:=by
         refine Classical.byContradiction fun h=>hno fun e' he'=>h ⟨e',he'⟩
        left;rcases zjY n e' he' with hh | ⟨hge,j,e0,hj,hb,zke⟩
        ·
         have hnl:n<x.H.length:=by
          rcases Nat.lt_or_ge n x.H.length with h | h
          . exact h
          . unfold ze2 at hh;rw [qda,List.getElem?_eq_none h] at hh; cases hh
         have hat:x.atI i (decide (i+1=(x.os.toList.take s).length))=zas qkg x.H:=by
          unfold zcn.atI;rw [hmL,decide_eq_false hne];show zab (zbH _ i) x.H (zas qkg x.H)=_;cases hb:zbH (((qca x.os.toList [])[(x.os.toList.take s).length - 1]?).getD 0) i with
          | false=>rfl
          | true =>
            exfalso;have:=zgW hL i hb;rw [zdS] at this; cases this
         rcases zbb n e hn with h | h | ⟨h,_⟩
         . exact h
         . rw [hat,qxa,List.getElem?_map] at h;unfold ze2 at hh;rw [qda] at hh;cases hx:x.H[n]? with
           | none=>rw [hx] at h; cases h
           | some e1 =>
             rw [hx] at h hh;have h:qkg e1=e:=Option.some.inj h;have hh:qpi e1=true:=hh;unfold qkg at h;rw [hh] at h;exact h.symm
         . rw [qgi] at h; omega
        ·
         rcases zbb n e hn with h | h | ⟨h,j',hj',hb'⟩
         . exact h
         . have:=(List.getElem?_eq_some_iff.1 h).1;rw [qgi] at this;omega
         . exfalso;rw [qgi] at hj';simp only [List.nil_append] at hj;rw [hj] at hj';have hjj:j'=j:=((Prod.mk.inj (Option.some.inj hj')).1).symm;subst hjj;rcases zke i (by simp only [Nat.zero_add]; omega) with h1 | h1
           . have:=zgW hL i h1;rw [zdS] at this; cases this
           . rw [hb'] at h1; cases h1
 have hcl:=qkv x s slots sets listed;have hG0:HeapRel0 x.c.P O w0 β G w:=hI.heap.less fun n e hn=>(zgt n e hn).symm;have zf0:sets=[]\/i+1≠(x.os.toList.take s).length->(∀ e,(i,e) ∉ slots)->qjb x s slots sets (listed.setIfInBounds i true)=qjb x s slots sets listed:=by
  intro hor hno;have h3:q5a (listed.setIfInBounds i true) slots=q5a listed slots:=by
   unfold q5a;apply List.map_congr_left;intro p hp;have h1:(listed.setIfInBounds i true).getD p.1 false=listed.getD p.1 false:=by
    rw [hset]; exact if_neg fun h=>hno p.2 (by rw [h]; exact hp)
   rw [h1]
  rcases hor with h0 | hil
  . rw [h0,qff,qff,h3]
  . have h1:(listed.setIfInBounds i true).getD ((x.os.toList.take s).length - 1) false=listed.getD ((x.os.toList.take s).length - 1) false:=by
     rw [hset]; exact if_neg (by omega)
    unfold qjb;rw [h1,h3]
 have hstep:∃ y w' β' b SS,f.val.den β'=some y/\Eff x.c.P β w b SS f.news β' w'/\(∀ n e,(n,e)∈SS->qhh G n e)/\(SS=f.sets\/(f.sets=[]/\f.news=[]/\∃ nm e,SS=[(nm,e)]/\G[nm]? = some e/\e.owned=true))/\(∀ e p v q,f=.run v [e] (x.H.length+p) q->b=x.H.length+p) /\
   Steps x.c.P (lone (fr.atR ⟨ts,ds⟩ (.inRegion x.os (i::rest)::k)) cs w) (lone (fr.atR (Act.put ⟨ts,ds⟩ o.dst y) (.inRegion x.os rest::k)) cs w'):=by
  cases f with
  | skip =>
    have hw:=hgood β ts zbG;refine ⟨undef,w,β,0,[],by simp [Fct.val,qsa,SV.den,SV.zal,undef],Eff.refl _ _ _ _,(by intro n e h; simp at h),.inl rfl,(by intro e p v q h; cases h),.one ?_⟩
    have:=stepR_op_skip (P:=x.c.P) (b:=fr) (a:=⟨ts,ds⟩) (k:=k) (cs:=cs) (w:=w) (ops:=x.os) (i:=i) (rest:=rest) (by rw [ho]; exact hw)
    rw [ho] at this; exact this
  | run v N b q =>
    obtain ⟨hw,hrun⟩:=hgood β ts zbG;obtain ⟨y,w',β',hv,hE,hso,hst⟩:=hrun O w0 w hG0 hI.glob (hfree v N b q rfl) (fr.atR ⟨ts,ds⟩ (.inRegion x.os (i::rest)::k)) cs i rest k rfl rfl ho rfl;rw [Frame.finish_atR,ho] at hst;exact ⟨y,w',β',b,q,hv,hE,hso,.inl rfl,(by intro e p v q h; cases h; rfl),hst⟩
  | touch v nm =>
    obtain ⟨hw,hrun⟩:=hgood β ts zbG;obtain ⟨y,w',e,hv,he,heo,hE,hst⟩:=hrun O w0 w hG0 hI.glob (fr.atR ⟨ts,ds⟩ (.inRegion x.os (i::rest)::k)) cs i rest k rfl rfl ho rfl;rw [Frame.finish_atR,ho] at hst;exact ⟨y,w',β,0,[(nm,e)],hv,hE,(by intro n e' hn; simp at hn; obtain ⟨rfl,rfl⟩:=hn; exact ⟨e',he,heo,.refl _⟩),.inr ⟨rfl,rfl,nm,e,rfl,he,heo⟩,(by intro e p v q h; cases h),hst⟩
 obtain ⟨y,w',β',b,SS,hv,hE,hso,hSS,hbase,hst⟩:=hstep;rw [q1r] at hst;refine ⟨β',_,w',hE.le,⟨by simp [hI.size],by rw [qej]; exact hI.tsz,?_,?_,?_,?_,?_,hI.glob.mono hE.le⟩,hst⟩
 ·
  intro t ht;rw [q5g];by_cases hd:o.dst=some t
  . by_cases hlt:t<ts.size
    . rw [if_pos ⟨hd,hlt⟩,hval t hd (by rw [← hF.zdn,← hI.tsz]; exact hlt) (fun j o' hij ho'=>hdst t hd j o' hij ho')]
      exact hv
    . rw [if_neg (fun h=>hlt h.2)];have h1:nth TF t=none:=by rw [qda,List.getElem?_eq_none]; rw [← hI.tsz]; exact Nat.not_lt.1 hlt
      have h2:ts.getD t undef=undef:=by rw [Array.getD_eq_getD_getElem?,Array.getElem?_eq_none (Nat.not_lt.1 hlt)]; rfl
      rw [h2]; unfold zbg; rw [h1]; simp [qsa,SV.den,SV.zal,undef]
  . rw [if_neg (fun h=>hd h.1)];refine SV.zav hE.le _ (hI.tmps t fun j o' ho' hd' => ?_);have:=ht j o' ho' hd';rw [hset] at this;by_cases hij:i=j
    . subst hij; rw [hhd] at ho'; cases ho'; exact absurd hd' hd
    . rwa [if_neg hij] at this
 ·
  rcases hSS with rfl | ⟨hs0,hn0,nm,e,rfl,hge,heo⟩
  case inr =>
   have hno:∀ e,(i,e) ∉ slots:=by
    rcases zcA.ex with ⟨_,hno⟩ | ⟨e',p,v,q,hfe,_,_⟩
    . exact hno
    . rw [hfe] at hn0; cases hn0
   have hcu:=zf0 (by
    by_cases hil:i+1=(x.os.toList.take s).length
    . rw [if_pos hil,hs0] at hfs;exact .inl hfs.symm
    . exact .inr hil) hno
   rw [hn0] at hE;have hin:(qjb x s slots sets listed)[nm]? = some e:=by
    rcases zgt nm e hge with rfl | h
    . cases heo
    . exact h
   rw [hcu,← qei hin];refine hI.heap.turn (fun n hn => ?_) hE fun n e' hn => ?_
   . rw [hcl] at hn;refine hI.free n (by omega) fun j e hj => ?_
     have:=(List.getElem?_eq_some_iff.1 hj).1;omega
   . simp at hn;obtain ⟨rfl,rfl⟩:=hn;exact ⟨e',hin,heo,.refl _⟩
  by_cases hse:f.sets=[]
  . rw [hse] at hE;have hor:sets=[]\/i+1≠(x.os.toList.take s).length:=by
     by_cases hil:i+1=(x.os.toList.take s).length
     . rw [if_pos hil,hse] at hfs;exact .inl hfs.symm
     . exact .inr hil
    have hplain:∀ n e,(x.H++q5a (listed.setIfInBounds i true) slots)[n]? = some e->((x.H++q5a listed slots)[n]? = some e/\(n<b\/b+f.news.length<=n))\/(∃ i,n=b+i/\f.news[i]? = some e):=by
     intro n e hn;rcases Nat.lt_or_ge n x.H.length with hlt | hge
     . rw [List.getElem?_append_left hlt] at hn;left;refine ⟨by rw [List.getElem?_append_left hlt]; exact hn,?_⟩
       rcases zcA.ex with ⟨hnil,_⟩ | ⟨e',p,v,q,hfe,_,_⟩
       . rw [hnil]; simp; omega
       . rw [hbase e' p v q hfe]; left; omega
     . rw [List.getElem?_append_right hge] at hn;simp only [q5a,List.getElem?_map,Option.map_eq_some_iff] at hn;obtain ⟨⟨j,e0⟩,hj,hje⟩:=hn;by_cases hij:i=j
       . subst hij;rw [hset,if_pos rfl] at hje;simp only [if_true] at hje;subst hje;right;rcases zcA.ex with ⟨_,hno⟩ | ⟨e',p,v,q,hfe,hp,hu⟩
         . exact absurd (List.mem_of_getElem? hj) (hno e0)
         . have:=hu _ _ hj;rw [this,hp] at hj; cases hj;exact ⟨0,by rw [hbase _ p v q hfe]; omega,by rw [hfe]; rfl⟩
       . left;rw [List.getElem?_append_right hge];refine ⟨?_,?_⟩
         . simp only [q5a,List.getElem?_map,hj,Option.map_some];rw [hset,if_neg hij] at hje;exact congrArg some hje
         . rcases zcA.ex with ⟨hnil,_⟩ | ⟨e',p,v,q,hfe,hp,_⟩
           . rw [hnil]; simp; omega
           . have hne:n - x.H.length≠p:=by
              intro h; rw [h,hp] at hj; cases hj; exact hij rfl
             rw [hbase e' p v q hfe,hfe];simp only [Fct.news,List.length_cons,List.length_nil];omega
    refine hI.heap.lay hE fun n e hn => ?_
    rcases hor with h0 | hil
    . rw [h0,qff] at hn ⊢;exact hplain n e hn
    . have h1:(listed.setIfInBounds i true).getD ((x.os.toList.take s).length - 1) false=listed.getD ((x.os.toList.take s).length - 1) false:=by
       rw [hset]; exact if_neg (by omega)
      cases hL:listed.getD ((x.os.toList.take s).length - 1) false with
      | false =>
        have e1:qjb x s slots sets (listed.setIfInBounds i true)=x.H++q5a (listed.setIfInBounds i true) slots:=by unfold qjb; rw [h1,hL]; rfl
        have e2:qjb x s slots sets listed=x.H++q5a listed slots:=by unfold qjb; rw [hL]; rfl
        rw [e1] at hn;rw [e2];exact hplain n e hn
      | true =>
        have e1:qjb x s slots sets (listed.setIfInBounds i true)=qbc (x.H++q5a (listed.setIfInBounds i true) slots) sets:=by unfold qjb; rw [h1,hL]; rfl
        have e2:qjb x s slots sets listed=qbc (x.H++q5a listed slots) sets:=by unfold qjb; rw [hL]; rfl
        rw [e1] at hn;rw [e2];by_cases hno:∀ e',(n,e') ∉ sets
        . rw [qmf _ _ _ hno] at hn ⊢;exact hplain n e hn
        . obtain ⟨e',he'⟩:∃ e',(n,e')∈sets:=Classical.byContradiction fun h=>hno fun e' he'=>h ⟨e',he'⟩;left;refine ⟨?_,?_⟩
          . rw [← qby (A:=x.H++q5a (listed.setIfInBounds i true) slots) (B:=x.H++q5a listed slots) (by rw [List.length_append,List.length_append,q5a,q5a,List.length_map,List.length_map]) he']
            exact hn
          . rcases zcA.ex with ⟨hnil,_⟩ | ⟨e1,p,v,q,hfe,hp,_⟩
            . rw [hnil]; simp; omega
            . rw [hbase e1 p v q hfe,hfe];simp only [Fct.news,List.length_cons,List.length_nil];rcases hF.last with h0 | ⟨_,zjY⟩
              . rw [h0] at he'; simp at he'
              . rcases zjY n e' he' with hh | ⟨hge,j,e0,hj,hb,_⟩
                . have hnl:n<x.H.length:=by
                   rcases Nat.lt_or_ge n x.H.length with h | h
                   . exact h
                   . unfold ze2 at hh;rw [qda,List.getElem?_eq_none h] at hh; cases hh
                  left; omega
                . simp only [List.nil_append] at hj;have hne:n - x.H.length≠p:=by
                   intro h;rw [h,hp] at hj; cases hj;have:=zgW hL i hb;rw [zdS] at this; cases this
                  omega
  . have hil:i+1=(x.os.toList.take s).length:=by
     by_cases h:i+1=(x.os.toList.take s).length
     . exact h
     . rw [if_neg h] at hfs; exact absurd hfs hse
    rw [if_pos hil] at hfs;have hnn:=hfn hse;rw [hnn,hfs] at hE;have hLi:(x.os.toList.take s).length - 1=i:=by omega
    have hno:∀ e,(i,e) ∉ slots:=by
     rcases zcA.ex with ⟨_,hno⟩ | ⟨e',p,v,q,hfe,_,_⟩
     . exact hno
     . rw [hfe] at hnn; cases hnn
    have h3:q5a (listed.setIfInBounds i true) slots=q5a listed slots:=by
     unfold q5a;apply List.map_congr_left;intro p hp;have h1:(listed.setIfInBounds i true).getD p.1 false=listed.getD p.1 false:=by
      rw [hset]; exact if_neg fun h=>hno p.2 (by rw [h]; exact hp)
     rw [h1]
    have h1:qjb x s slots sets listed=x.H++q5a listed slots:=by unfold qjb; rw [hLi,zdS]; rfl
    have h2:qjb x s slots sets (listed.setIfInBounds i true)=qbc (x.H++q5a listed slots) sets:=by unfold qjb; rw [hLi,hset,if_pos rfl,h3]; rfl
    have hH:=hI.heap;rw [h1] at hH;rw [h2];refine hH.turn (fun n hn => ?_) hE fun n e hn => ?_
    . rw [List.length_append,q5a,List.length_map] at hn;refine hI.free n (by omega) fun j e hj => ?_
      have:=(List.getElem?_eq_some_iff.1 hj).1;omega
    . obtain ⟨e0,hg,ho⟩:=hso n e (by rw [hfs]; exact hn)
      refine ⟨e0,?_,ho⟩;rcases zgt n e0 hg with rfl | h
      . cases ho.1
      . rw [h1] at h; exact h
 ·
  intro n hge hn;have hold:β n=none:=hI.free n hge fun j e hj=>by
   have:=hn j e hj;rw [hset] at this;split at this
   . cases this
   . exact this
  rcases zcA.ex with ⟨hnil,_⟩ | ⟨e',p,v,q,hfe,hp,_⟩
  . rw [hE.dom n (by rw [hnil]; simp; omega)]; exact hold
  . rw [hE.dom n ?_]; · exact hold
    rw [hbase e' p v q hfe,hfe];simp only [Fct.news,List.length_cons,List.length_nil];by_cases hnp:n=x.H.length+p
    . exfalso;have:=hn i e' (by rw [hnp]; simpa using hp)
      rw [hset,if_pos rfl] at this; cases this
    . omega
 . intro j m hj hm l hl;rw [hset] at hj ⊢;split
   . rfl
   . by_cases hij:i=j
     . subst hij; exact qxb hI.closed hi hm hl
     . rw [if_neg hij] at hj; exact hI.closed j m hj hm l hl
 . intro j hj;rw [hset,if_neg (by omega)]; exact hI.tail j hj
theorem qx0 (he:qmb x.os.toList 0=true) (hh:qid x.os (qta x.os.toList s) (qta x.os.toList s) (qca x.os.toList []) 0=true) (ht:qwe (qnb (qca x.os.toList []) s) s=true) (hF:Facts x (x.os.toList.take s) (qca x.os.toList []) T 0 [] TF Fs slots sets)
  (fr:Frame) (ds:List Deferred) (k:List Item) (cs:List Frame):∀ (fuel t:Nat) (listed:Array Bool) (β:Val) (ts:Array Value) (w:World),zfI x s TF slots sets O w0 listed β ts w->unl listed x.os.size<=fuel ->
  ∃ β' ts' w' listed',β.le β'/\zfI x s TF slots sets O w0 listed' β' ts' w'/\(∀ j,j<s->j<x.os.size->listed'.getD j false=true) /\
    Steps x.c.P (lone (fr.atR ⟨ts,ds⟩ (.inRegion x.os (Region.linearise.go .any x.os fuel t listed [])::k)) cs w) (lone (fr.atR ⟨ts',ds⟩ (.inRegion x.os (List.range' s (x.os.size - s))::k)) cs w'):=by
 have htm:∀ (i m:Nat),s<=i->(qca x.os.toList [])[i]? = some m->∀ j,j<i->m.testBit j=true:=by
  intro i m hi hm j hj;rw [qad] at ht;have:=qdk _ _ ht (i - s) m (by rw [List.getElem?_drop,show s+(i - s)=i from by omega]; exact hm)
  rw [show s+(i - s)=i from by omega] at this
  exact qef this hj
 intro fuel;induction fuel with
 | zero =>
   intro t listed β ts w hI hf;have hall:∀ j,j<x.os.size->listed.getD j true=true:=by
    intro j hj;cases h:listed.getD j true with
    | true=>rfl
    | false=>have:=qzk hj h; omega
   have hs:x.os.size<=s:=by
    rcases Nat.lt_or_ge s x.os.size with h | h
    . have h1:=hI.tail s (Nat.le_refl _);rw [qia (by rw [hI.size]; exact h),hall s h] at h1; cases h1
    . exact h
   refine ⟨β,ts,w,listed,Val.le_refl β,hI,fun j _ hj=>by rw [qia (by rw [hI.size]; exact hj)]; exact hall j hj,?_⟩
   rw [show x.os.size - s=0 from by omega]
   exact .refl _ _
 | succ fuel ih =>
   intro t listed β ts w hI hf;by_cases hall:∀ j,j<s->j<x.os.size->listed.getD j false=true
   . refine ⟨β,ts,w,listed,Val.le_refl β,hI,hall,?_⟩;rcases Nat.lt_or_ge x.os.size s with h | h
     . rw [show x.os.size - s=0 from by omega]
       rw [qdj]
       . exact .refl _ _
       . apply List.eq_nil_iff_forall_not_mem.2;intro j hj;rw [mem_ready] at hj;obtain ⟨h1,o,ho,_⟩:=hj;have hlt:=(Array.getElem?_eq_some_iff.1 ho).1;rw [← qia (by rw [hI.size]; exact hlt),hall j (by omega) hlt] at h1
         cases h1
     . have hdec:∀ j,j<x.os.size->listed.getD j true=decide (j<s):=by
        intro j hj;rw [← qia (by rw [hI.size]; exact hj)]
        by_cases hjs:j<s
        . rw [hall j hjs hj]; simp [hjs]
        . rw [hI.tail j (by omega)]; simp [hjs]
       rw [q9l he htm (x.os.size - s) (fuel+1) t s listed hI.size (Nat.le_refl _) (by omega) hdec ?_]
       . exact .refl _ _
       . exact Nat.le_trans (qay (s:=s) (n:=x.os.size) (fun j h1 h2=>by rw [hdec j h2]; simp; omega) _ (by omega)) hf
   ·
    have hex:∃ i,i<s/\i<x.os.size/\listed.getD i true=false/\∀ j,j<i->listed.getD j false=true:=by
     have hgen:∀ n,(∃ i,i<n/\i<s/\i<x.os.size/\listed.getD i true=false/\∀ j,j<i->listed.getD j false=true)\/(∀ j,j<n->j<s->j<x.os.size->listed.getD j false=true):=by
      intro n;induction n with
      | zero=>exact .inr fun j hj=>by omega
      | succ n ih2 =>
        rcases ih2 with ⟨i,h1,h2⟩ | h
        . exact .inl ⟨i,by omega,h2⟩
        . by_cases hn:n<s/\n<x.os.size/\listed.getD n false=false
          . refine .inl ⟨n,by omega,hn.1,hn.2.1,?_,fun j hj=>h j hj (by omega) (by omega)⟩
            rw [← qia (by rw [hI.size]; exact hn.2.1)]; exact hn.2.2
          . refine .inr fun j hj h1 h2 => ?_
            by_cases hjn:j=n
            . subst hjn;cases hx:listed.getD j false with
              | true=>rfl
              | false=>exact absurd ⟨h1,h2,hx⟩ hn
            . exact h j (by omega) h1 h2
     rcases hgen s with ⟨i,_,h⟩ | h
     . exact ⟨i,h⟩
     . exact absurd (fun j h1 h2=>h j h1 h1 h2) hall
    obtain ⟨i0,h1,h2,h3,h4⟩:=hex;have hin:=qoe he h2 h3 h4;obtain ⟨i,hi,t',heq⟩:=qag (List.ne_nil_of_mem hin) fuel t;have hio:i<x.os.size:=by
     obtain ⟨_,o,ho,_⟩:=mem_ready.1 hi;exact (Array.getElem?_eq_some_iff.1 ho).1
    have his:i<s:=by
     rcases Nat.lt_or_ge i s with h | h
     . exact h
     . exfalso;obtain ⟨_,hml,_⟩:=qcd x.os.toList [];have hlt:i<(qca x.os.toList []).length:=by rw [hml]; simpa using hio
       have:=qxb hI.closed hi (List.getElem?_eq_getElem hlt) (htm i _ h (List.getElem?_eq_getElem hlt) i0 (by omega))
       rw [qia (by rw [hI.size]; exact h2),h3] at this; cases this
    obtain ⟨β1,ts1,w1,hle,hI1,hst⟩:=qgu he hh hF hI hi his fr ds (Region.linearise.go .any x.os fuel t' (listed.setIfInBounds i true) []) k cs;have hu:=qti (mem_ready.1 hi).1 x.os.size;rw [if_pos hio] at hu;obtain ⟨β2,ts2,w2,l2,hle2,hI2,zdZ,zdT⟩:=ih t' (listed.setIfInBounds i true) β1 ts1 w1 hI1 (by omega)
    exact ⟨β2,ts2,w2,l2,Val.le_trans hle hle2,hI2,zdZ,by rw [heq]; exact hst.trans zdT⟩
end
section
variable {os:Array Oper} {s:Nat}
theorem qzj {P:Program} {Inv:Array Bool->Val->Array Value->World->Prop} (he:qmb os.toList 0=true) (ht:qwe (qnb (qca os.toList []) s) s=true)
  (fr:Frame) (ds:List Deferred) (k:List Item) (cs:List Frame)
  (hsz:∀ {l β ts w},Inv l β ts w->l.size=os.size) (htl:∀ {l β ts w},Inv l β ts w->∀ i,s<=i->l.getD i false=false)
  (hcl:∀ {l β ts w},Inv l β ts w->∀ (i m:Nat),l.getD i false=true->(qca os.toList [])[i]? = some m->∀ j,m.testBit j=true->l.getD j false=true)
  (hturn:∀ {l:Array Bool} {β ts w} {i:Nat},Inv l β ts w->i∈Region.ready .any os l->i<s->∀ rest:List Nat,∃ β' ts' w',β.le β'/\Inv (l.setIfInBounds i true) β' ts' w' /\
   Steps P (lone (fr.atR ⟨ts,ds⟩ (.inRegion os (i::rest)::k)) cs w) (lone (fr.atR ⟨ts',ds⟩ (.inRegion os rest::k)) cs w')) :
  ∀ (fuel t:Nat) (listed:Array Bool) (β:Val) (ts:Array Value) (w:World),Inv listed β ts w->unl listed os.size<=fuel ->
  ∃ β' ts' w' listed',β.le β'/\Inv listed' β' ts' w'/\(∀ j,j<s->j<os.size->listed'.getD j false=true) /\
    Steps P (lone (fr.atR ⟨ts,ds⟩ (.inRegion os (Region.linearise.go .any os fuel t listed [])::k)) cs w) (lone (fr.atR ⟨ts',ds⟩ (.inRegion os (List.range' s (os.size - s))::k)) cs w'):=by
 have htm:∀ (i m:Nat),s<=i->(qca os.toList [])[i]? = some m->∀ j,j<i->m.testBit j=true:=by
  intro i m hi hm j hj;rw [qad] at ht;have:=qdk _ _ ht (i - s) m (by rw [List.getElem?_drop,show s+(i - s)=i from by omega]; exact hm)
  rw [show s+(i - s)=i from by omega] at this
  exact qef this hj
 intro fuel;induction fuel with
 | zero =>
   intro t listed β ts w hI hf;have hall:∀ j,j<os.size->listed.getD j true=true:=by
    intro j hj;cases h:listed.getD j true with
    | true=>rfl
    | false=>have:=qzk hj h; omega
   have hs:os.size<=s:=by
    rcases Nat.lt_or_ge s os.size with h | h
    . have h1:=htl hI s (Nat.le_refl _);rw [qia (by rw [(hsz hI)]; exact h),hall s h] at h1; cases h1
    . exact h
   refine ⟨β,ts,w,listed,Val.le_refl β,hI,fun j _ hj=>by rw [qia (by rw [(hsz hI)]; exact hj)]; exact hall j hj,?_⟩
   rw [show os.size - s=0 from by omega]
   exact .refl _ _
 | succ fuel ih =>
   intro t listed β ts w hI hf;by_cases hall:∀ j,j<s->j<os.size->listed.getD j false=true
   . refine ⟨β,ts,w,listed,Val.le_refl β,hI,hall,?_⟩;rcases Nat.lt_or_ge os.size s with h | h
     . rw [show os.size - s=0 from by omega]
       rw [qdj]
       . exact .refl _ _
       . apply List.eq_nil_iff_forall_not_mem.2;intro j hj;rw [mem_ready] at hj;obtain ⟨h1,o,ho,_⟩:=hj;have hlt:=(Array.getElem?_eq_some_iff.1 ho).1;rw [← qia (by rw [(hsz hI)]; exact hlt),hall j (by omega) hlt] at h1
         cases h1
     . have hdec:∀ j,j<os.size->listed.getD j true=decide (j<s):=by
        intro j hj;rw [← qia (by rw [(hsz hI)]; exact hj)]
        by_cases hjs:j<s
        . rw [hall j hjs hj]; simp [hjs]
        . rw [htl hI j (by omega)]; simp [hjs]
       rw [q9l he htm (os.size - s) (fuel+1) t s listed (hsz hI) (Nat.le_refl _) (by omega) hdec ?_]
       . exact .refl _ _
       . exact Nat.le_trans (qay (s:=s) (n:=os.size) (fun j h1 h2=>by rw [hdec j h2]; simp; omega) _ (by omega)) hf
   ·
    have hex:∃ i,i<s/\i<os.size/\listed.getD i true=false/\∀ j,j<i->listed.getD j false=true:=by
     have hgen:∀ n,(∃ i,i<n/\i<s/\i<os.size/\listed.getD i true=false/\∀ j,j<i->listed.getD j false=true)\/(∀ j,j<n->j<s->j<os.size->listed.getD j false=true):=by
      intro n;induction n with
      | zero=>exact .inr fun j hj=>by omega
      | succ n ih2 =>
        rcases ih2 with ⟨i,h1,h2⟩ | h
        . exact .inl ⟨i,by omega,h2⟩
        . by_cases hn:n<s/\n<os.size/\listed.getD n false=false
          . refine .inl ⟨n,by omega,hn.1,hn.2.1,?_,fun j hj=>h j hj (by omega) (by omega)⟩
            rw [← qia (by rw [(hsz hI)]; exact hn.2.1)]; exact hn.2.2
          . refine .inr fun j hj h1 h2 => ?_
            by_cases hjn:j=n
            . subst hjn;cases hx:listed.getD j false with
              | true=>rfl
              | false=>exact absurd ⟨h1,h2,hx⟩ hn
            . exact h j (by omega) h1 h2
     rcases hgen s with ⟨i,_,h⟩ | h
     . exact ⟨i,h⟩
     . exact absurd (fun j h1 h2=>h j h1 h1 h2) hall
    obtain ⟨i0,h1,h2,h3,h4⟩:=hex;have hin:=qoe he h2 h3 h4;obtain ⟨i,hi,t',heq⟩:=qag (List.ne_nil_of_mem hin) fuel t;have hio:i<os.size:=by
     obtain ⟨_,o,ho,_⟩:=mem_ready.1 hi;exact (Array.getElem?_eq_some_iff.1 ho).1
    have his:i<s:=by
     rcases Nat.lt_or_ge i s with h | h
     . exact h
     . exfalso;obtain ⟨_,hml,_⟩:=qcd os.toList [];have hlt:i<(qca os.toList []).length:=by rw [hml]; simpa using hio
       have:=qxb (hcl hI) hi (List.getElem?_eq_getElem hlt) (htm i _ h (List.getElem?_eq_getElem hlt) i0 (by omega))
       rw [qia (by rw [(hsz hI)]; exact h2),h3] at this; cases this
    obtain ⟨β1,ts1,w1,hle,hI1,hst⟩:=hturn hI hi his (Region.linearise.go .any os fuel t' (listed.setIfInBounds i true) []);have hu:=qti (mem_ready.1 hi).1 os.size;rw [if_pos hio] at hu;obtain ⟨β2,ts2,w2,l2,hle2,hI2,zdZ,zdT⟩:=ih t' (listed.setIfInBounds i true) β1 ts1 w1 hI1 (by omega)
    exact ⟨β2,ts2,w2,l2,Val.le_trans hle hle2,hI2,zdZ,by rw [heq]; exact hst.trans zdT⟩
end
theorem qhi {P:Program} {i m:Nat}:∀ (ops:List Oper) (ms:List Nat) (k:Nat),zck P i m ops ms k=true->∀ (j:Nat) (o:Oper),ops[j]? = some o->q9b P o=true->k+j≠i->(k+j<i->m.testBit (k+j)=true)/\(i<k+j->((ms[j]?).getD 0).testBit i=true):=by
 intro ops;induction ops with
 | nil=>intro ms k _ j o h; simp at h
 | cons a r ih =>
   intro ms k h j o ho hm hne;obtain ⟨h1,h2⟩:=qhb (show zab (zab (q9b P a) (zab (Nat.beq k i) true (zab (Nat.blt k i) (zbH m k) (zbH (qsf ms) i))) true) (zck P i m r (qxd ms) (k+1)) false=true from h)
   cases j with
   | zero =>
     simp at ho; subst ho;rw [hm,zak,show Nat.beq k i=false from Bool.eq_false_iff.2 fun h=>hne (Nat.eq_of_beq_eq_true h),zam] at h1
     rw [Nat.add_zero];refine ⟨fun hlt => ?_,fun hlt => ?_⟩
     . rw [show Nat.blt k i=true from Nat.ble_eq_true_of_le hlt,zak] at h1; exact h1
     . rw [show Nat.blt k i=false from Bool.eq_false_iff.2 fun h=>by have:=Nat.le_of_ble_eq_true h; omega,zam] at h1
       cases ms with
       | nil=>simp [qsf,zbH] at h1
       | cons m0 ms=>exact h1
   | succ j =>
     have:=ih (qxd ms) (k+1) h2 j o (by simpa using ho) hm (by omega)
     rw [show k+(j+1)=k+1+j from by omega]
     refine ⟨this.1,fun hlt => ?_⟩;have h3:=this.2 hlt;cases ms with
     | nil=>simp [qxd] at h3
     | cons m0 ms=>simpa [qxd] using h3
section
variable {D:SV->List SO->Prop} {S:SS->Prop}
theorem qcy {v:SV} {sets:List (Nat × SO)} {news:List SO} {mv:Bool} {x:zcy} {dst:Option Tmp} {T:List SV} {H:List SO} {next:List SV->List SO->Tree} (h:(q9q v sets news mv x dst T H next).Ob D S) :
  (next (zbU T dst v) (q3b H sets news)).Ob D S/\(mv=false->sets=[]/\news=[])/\∀ n e,(n,e)∈sets->zeX x.hid x.H n=false:=by
 unfold q9q at h;cases mv with
 | true =>
   rw [zak] at h;cases ha:zaO (fun q=>zab (zeX x.hid x.H q.1) false true) sets with
   | false=>rw [ha] at h; exact h.elim
   | true =>
     rw [ha] at h;refine ⟨h,(fun h=>by cases h),fun n e hn => ?_⟩
     have:=qwf ha _ hn;cases hv:zeX x.hid x.H n with
     | false=>rfl
     | true=>rw [show zeX x.hid x.H (n,e).1=zeX x.hid x.H n from rfl,hv] at this; cases this
 | false =>
   rw [zam] at h;unfold chNo at h;split at h
   . exact ⟨h,fun _=>⟨rfl,rfl⟩,by simp⟩
   . exact h.elim
theorem qdy {x:zcy} (hc:zaC x.c) {G:List SO} {mv:Bool} {o:Oper} {T:List SV} {H:List SO} {next:List SV->List SO->Tree} (h:(q3v G mv o x T H next).Ob D S) :
  ∃ T' f,zce T T'/\qcj x.c.P x.c.glob G x.os o T' f/\(next (zbU T' o.dst f.val) (q3b H f.sets f.news)).Ob D S/\(mv=false->f.sets=[]/\f.news=[])/\(∀ n e,(n,e)∈f.sets->zeX x.hid x.H n=false)/\∀ v M b s,f=.run v M b s->b=H.length:=by
 unfold q3v at h;rcases q0r h with ⟨T',hsd,hwant,h⟩ | ⟨hwant,h⟩
 . obtain ⟨r,zbs,h⟩:=R.zbE h;have hnd:∀ cc,o.op≠.defer cc:=by
    intro cc hd;rcases qfi (P:=x.c.P) hd with ⟨n,hn⟩ | ⟨d,hn⟩
    . rw [hn] at zbs; exact zbs
    . rw [hn] at zbs;obtain rfl:r=.defer d:=zbs;exact (show False from h)
   rw [qha] at zbs;have hev:∀ (β:Val) (ts:Array Value) (ds:List Deferred),AgreeOn β T' ts (qsb x.os o)->zaD x.c.glob β->∀ y∈o.op.operands,(evS x.c.glob T' y).den β=some (Act.eval ⟨ts,ds⟩ y):=by
    intro β ts ds ha hG y hy;cases y with
    | tmp t =>
      have h1:=ha.at_ t (q9h hy);have e:evS x.c.glob T' (.tmp t)=zbg T' t:=by
       show zah (nth T' t) qsa (fun v=>v)=_;unfold zbg; cases nth T' t <;> rfl
      rw [e]; exact h1
    | const v=>exact qog β v
    | global g =>
      show (qjg g x.c.glob T').den β=_;unfold qjg;split
      . rename_i nm h;obtain ⟨l,h1,h2,h3⟩:=hG g nm h;simp [SV.den,SA.den,h1,h2,h3,SN.den,Act.eval]
      . rfl
    | func f=>rfl
   cases r with
   | val v sets news =>
     obtain ⟨h1,h2,h3⟩:=qcy (show (q9q v sets news mv x o.dst T' H next).Ob D S from h)
     refine ⟨T',.run v news H.length sets,hsd,?_,h1,h2,h3,fun _ _ _ _ e=>by cases e; rfl⟩
     intro β ts ha;refine ⟨hwant β ts ha,fun O w0 w hH hG hfree f cs i rest k hm htd ho hts => ?_⟩;subst hts;have hsg:=q7f (P:=x.c.P) hm htd ho (hwant β f.tmps ha) hnd (cs:=cs) (w:=w);obtain ⟨nx,y,w',β',hrun,hnx,hv,hE,hso⟩:=R.zbr (qdf hH o (hev β f.tmps f.defers ha hG)) zbs hfree;exact ⟨y,w',β',hv,hE,hso,.one (qrd hsg hrun hnx)⟩
   | enter g args =>
     replace h:(qxs g args mv x G o.dst T' H next).Ob D S:=h
     unfold qxs at h;split at h
     . rename_i sm hsm;obtain ⟨r,zdv,h⟩:=R.zbE h;rw [qha] at zdv;obtain ⟨v,sets,news⟩:=r;obtain ⟨h1,h2,h3⟩:=qcy h;refine ⟨T',.run v news H.length sets,hsd,?_,h1,h2,h3,fun _ _ _ _ e=>by cases e; rfl⟩
       intro β ts ha;refine ⟨hwant β ts ha,fun O w0 w hH hG hfree f cs i rest k hm htd ho hts => ?_⟩;subst hts;have hsg:=q7f (P:=x.c.P) hm htd ho (hwant β f.tmps ha) hnd (cs:=cs) (w:=w);obtain ⟨vs,hvs,hrun⟩:=R.zbr (qdf hH o (hev β f.tmps f.defers ha hG)) zbs;obtain ⟨hso,hcall⟩:=R.zbr (hc.sums g sm hsm O w0 β G w _ args vs hH hG hvs) zdv hfree;rcases hcall with ⟨⟨fn,hfn,hb⟩,hcall⟩ | ⟨v',w',β',zfX,hv,hE⟩
       . obtain ⟨e,w',fr',⟨v',β',rfl,hv,hE⟩,hcomes,_,hleave⟩:=hcall (f::cs);exact ⟨v',w',β',hv,hE,hso,.trans (.one (q7l (by rw [htd]; intros; simp) hsg (hrun.trans (qjd hc.prog hfn hb _ _)))) (.trans hcomes (.one (step_leave_returned hleave)))⟩
       . exact ⟨v',w',β',hv,hE,hso,.one (qrd hsg (hrun.trans zfX) rfl)⟩
     . exact h.elim
   | round nm args=>exact h.elim
   | defer d=>exact h.elim
   | panic v=>exact h.elim
   | touch v nm =>
     refine ⟨T',.touch v nm,hsd,?_,h,fun _=>⟨rfl,rfl⟩,by simp [Fct.sets],fun _ _ _ _ e=>by cases e⟩
     intro β ts ha;refine ⟨hwant β ts ha,fun O w0 w hH hG f cs i rest k hm htd ho hts => ?_⟩;subst hts;have hsg:=q7f (P:=x.c.P) hm htd ho (hwant β f.tmps ha) hnd (cs:=cs) (w:=w);obtain ⟨nx,y,w',e,hrun,hnx,hv,he,heo,hE⟩:=R.zbr (qdf (base:=H.length) hH o (hev β f.tmps f.defers ha hG)) zbs;exact ⟨y,w',e,hv,he,heo,hE.zcf,.one (qrd hsg hrun hnx)⟩
 . exact ⟨T,.skip,.refl T,hwant,h,fun _=>⟨rfl,rfl⟩,by simp [Fct.sets],fun _ _ _ _ e=>by cases e⟩
def zcT (hid:SO->Bool) (H0 H:List SO):Prop:=∀ (n:Nat) (e:SO),H0[n]? = some e->hid e=false->H[n]? = some e
theorem zcT.apply {hid:SO->Bool} {H0 H:List SO} (h:zcT hid H0 H) {sets:List (Nat × SO)} {news:List SO} (hs:∀ n e,(n,e)∈sets->zeX hid H0 n=false):zcT hid H0 (q3b H sets news):=by
 intro n e hn he;have h1:=h n e hn he;rw [qoc,List.getElem?_append_left (by rw [q2d]; exact (List.getElem?_eq_some_iff.1 h1).1),qmf _ _ _ ?_]
 . exact h1
 . intro e' he';have:=hs n e' he';unfold zeX at this;rw [qda,hn] at this;rw [show zah (some e) false (fun e=>zab (hid e) false true)=zab (hid e) false true from rfl,he] at this
   cases this
structure zdJ (x:zcy) (ops:List Oper) (ms:List Nat) (i0:Nat) (T:List SV) (H:List SO) (TF:List SV) (Fs:List Fct) (hs:Nat->List SO):Prop where
 len:Fs.length=ops.length
 zdn:TF.length=T.length
 same:∀ t,(∀ o∈ops,o.dst≠some t)->∀ β,(zbg TF t).den β=(zbg T t).den β
 zero:hs 0=H
 stable:∀ i,i<=ops.length->zcT x.hid x.H (hs i)
 good:∀ (i:Nat) (o:Oper) (f:Fct),ops[i]? = some o->Fs[i]? = some f ->
  (∀ d,o.dst=some d->d<T.length->(∀ (k:Nat) (o':Oper),i<k->ops[k]? = some o'->o'.dst≠some d)->∀ β,(zbg TF d).den β=f.val.den β) /\
  hs (i+1)=q3b (hs i) f.sets f.news/\(q9b x.c.P o=false->f.sets=[]/\f.news=[])/\(∀ v M b s,f=.run v M b s->b=(hs i).length) /\
  ∃ T' G,qcj x.c.P x.c.glob G x.os o T' f/\T'.length=T.length/\(∀ t,(∀ (k:Nat) (o':Oper),i<=k->ops[k]? = some o'->o'.dst≠some t)->∀ β,(zbg TF t).den β=(zbg T' t).den β) /\
    ((zck x.c.P (i0+i) ((ms[i]?).getD 0) x.hd x.ms 0=true/\G=hs i)\/(q9b x.c.P o=false/\G=zas (qyd x.hid) x.H))
theorem q0n {x:zcy} (hc:zaC x.c):∀ (ops:List Oper) (ms:List Nat) (i0:Nat) (T:List SV) (H:List SO),zcT x.hid x.H H->(chP ops x ms i0 T H).Ob D S ->
  ∃ TF Fs hs,zdJ x ops ms i0 T H TF Fs hs/\(x.fin TF (hs ops.length)).Ob D S:=by
 intro ops;induction ops with
 | nil =>
   intro ms i0 T H hst h;exact ⟨T,[],fun _=>H,⟨rfl,rfl,fun _ _ _=>rfl,rfl,fun _ _=>hst,by simp⟩,h⟩
 | cons o r ih =>
   intro ms i0 T H hst h;have hm0:qsf ms=(ms[0]?).getD 0:=by cases ms <;> rfl
   have hms:∀ i:Nat,(qxd ms)[i]? = ms[i+1]? := by intro i; cases ms <;> simp [qxd]
   replace h:(zky o x i0 (qsf ms) T H (chP r x (qxd ms) (i0+1))).Ob D S:=h;obtain ⟨T',f,G,hsd,hgood,hnx,hmv,hvis,hbase,hG⟩:∃ T' f G,zce T T'/\qcj x.c.P x.c.glob G x.os o T' f/\(chP r x (qxd ms) (i0+1) (zbU T' o.dst f.val) (q3b H f.sets f.news)).Ob D S/\(q9b x.c.P o=false->f.sets=[]/\f.news=[]) /\
     (∀ n e,(n,e)∈f.sets->zeX x.hid x.H n=false)/\(∀ v M b s,f=.run v M b s->b=H.length)/\((zck x.c.P i0 (qsf ms) x.hd x.ms 0=true/\G=H)\/(q9b x.c.P o=false/\G=zas (qyd x.hid) x.H)):=by
    unfold zky at h;cases hcm:zck x.c.P i0 (qsf ms) x.hd x.ms 0 with
    | true =>
      rw [hcm,zak] at h;obtain ⟨T',f,h1,h2,h3,h4,h5,h6⟩:=qdy hc h;exact ⟨T',f,H,h1,h2,h3,h4,h5,h6,.inl ⟨rfl,rfl⟩⟩
    | false =>
      rw [hcm,zam] at h;cases hmo:q9b x.c.P o with
      | true=>rw [hmo] at h; exact h.elim
      | false =>
        rw [hmo,zam] at h;obtain ⟨T',f,h1,h2,h3,h4,h5,h6⟩:=qdy hc h;exact ⟨T',f,_,h1,h2,h3,fun _=>h4 rfl,h5,h6,.inr ⟨rfl,rfl⟩⟩
   have hlen:T'.length=T.length:=hsd.len;have zdu:(zbU T' o.dst f.val).length=T.length:=by rw [qmh,hlen]
   obtain ⟨TF,Fs,hs,hF,hfin⟩:=ih _ _ _ _ (hst.apply hvis) hnx;refine ⟨TF,f::Fs,fun k=>match k with | 0=>H | k+1=>hs k,⟨by simp [hF.len],hF.zdn.trans zdu,?_,rfl,?_,?_⟩,hfin⟩
   . intro t ht β;rw [hF.same t (fun o' ho'=>ht o' (List.mem_cons_of_mem _ ho')) β,qsd (ht o List.mem_cons_self),hsd.den β t]
   . intro i hi;cases i with
     | zero=>exact hst
     | succ i=>exact hF.stable i (by simpa using hi)
   . intro i o' f' ho' hf';cases i with
     | zero =>
       simp at ho' hf'; subst ho'; subst hf';refine ⟨fun d hd hdl zdV β => ?_,hF.zero,hmv,hbase,T',G,hgood,hlen,fun t ht β => ?_,by rw [← hm0]; exact hG⟩
       . rw [hF.same d (fun o' ho' => ?_) β,hd,qnh (Nat.lt_of_lt_of_eq hdl hlen.symm)];obtain ⟨k,hk⟩:=List.mem_iff_getElem?.1 ho';exact zdV (k+1) o' (by omega) (by simpa using hk)
       . rw [hF.same t (fun o' ho' => ?_) β,qsd (ht 0 o (Nat.le_refl _) rfl)];obtain ⟨k,hk⟩:=List.mem_iff_getElem?.1 ho';exact ht (k+1) o' (by omega) (by simpa using hk)
     | succ i =>
       obtain ⟨h1,h2,h3,h4,T2,G2,h5,h6,h7,h8⟩:=hF.good i o' f' (by simpa using ho') (by simpa using hf')
       refine ⟨fun d hd hdl zdV β=>h1 d hd (Nat.lt_of_lt_of_eq hdl zdu.symm) (fun k o'' hk zfZ=>zdV (k+1) o'' (by omega) (by simpa using zfZ)) β,h2,h3,h4,T2,G2,h5,h6.trans zdu,
        fun t ht β=>h7 t (fun k o'' hk zfZ=>ht (k+1) o'' (by omega) (by simpa using zfZ)) β,?_⟩
       rw [← hms,show i0+(i+1)=i0+1+i from by omega]
       exact h8
end
section
variable {x:zcy} {s:Nat} {T TF:List SV} {Fs:List Fct} {hs:Nat->List SO} {H0:List SO} {O:Bool->Nat->Prop} {w0:Bool->World}
structure zgf (x:zcy) (s tl:Nat) (ex:Option Tmp) (TF:List SV) (hs:Nat->List SO) (O:Bool->Nat->Prop) (w0:Bool->World) (listed:Array Bool) (β:Val) (ts:Array Value) (w:World):Prop where
 size:listed.size=x.os.size
 tsz:ts.size=TF.length
 tmps:∀ t,ex≠some t->(∀ (j:Nat) (o:Oper),(x.os.toList.take s)[j]? = some o->o.dst=some t->listed.getD j false=true)->(zbg TF t).den β=some (ts.getD t undef)
 heap:∃ c,c<=(x.os.toList.take s).length/\(∀ (j:Nat) (o:Oper),(x.os.toList.take s)[j]? = some o->q9b x.c.P o=true->(listed.getD j false=true↔j<c))/\∀ q,zac x.c.P (O q) (w0 q) β (hs c) w
 closed:∀ (i m:Nat),listed.getD i false=true->(qca x.os.toList [])[i]? = some m->∀ j,m.testBit j=true->listed.getD j false=true
 tail:∀ i,tl<=i->listed.getD i false=false
 glob:zaD x.c.glob β
theorem qxf {ops:List Oper} {ms:List Nat} {i0:Nat} (hF:zdJ x ops ms i0 T H0 TF Fs hs) {a:Nat}:∀ (n:Nat),a+n<=ops.length->(∀ (j:Nat) (o:Oper),a<=j->j<a+n->ops[j]? = some o->q9b x.c.P o=false)->hs a=hs (a+n):=by
 intro n;induction n with
 | zero=>intro _ _; rfl
 | succ n ih =>
   intro hl hm;rw [ih (by omega) fun j o h1 h2=>hm j o h1 (by omega)]
   have hlt:a+n<ops.length:=by omega
   obtain ⟨_,h2,h3,_⟩:=hF.good (a+n) _ _ (List.getElem?_eq_getElem hlt) (List.getElem?_eq_getElem (by rw [hF.len]; exact hlt))
   obtain ⟨h4,h5⟩:=h3 (hm (a+n) _ (by omega) (by omega) (List.getElem?_eq_getElem hlt))
   rw [show a+(n+1)=a+n+1 from by omega,h2,h4,h5]; rfl
theorem qam {tl:Nat} {ex:Option Tmp} (hst0:s<=tl) (hex:∀ t,ex=some t->∃ j o,s<=j/\(x.os.toList.take tl)[j]? = some o/\o.dst=some t) (he:qmb x.os.toList 0=true) (hh:qid x.os (qta x.os.toList tl) (qta x.os.toList tl) (qca x.os.toList []) 0=true) (hF:zdJ x (x.os.toList.take s) (qca x.os.toList []) 0 T H0 TF Fs hs) (hxh:x.hd=x.os.toList.take s) (hxm:x.ms=qca x.os.toList [])
  {listed:Array Bool} {β:Val} {ts:Array Value} {w:World} (hI:zgf x s tl ex TF hs O w0 listed β ts w) {i:Nat} (hi:i∈Region.ready .any x.os listed) (his:i<s) (fr:Frame) (ds:List Deferred) (rest:List Nat) (k:List Item) (cs:List Frame) :
  ∃ β' ts' w',β.le β'/\zgf x s tl ex TF hs O w0 (listed.setIfInBounds i true) β' ts' w'/\(∀ t,ex=some t->ts'.getD t undef=ts.getD t undef)/\Steps x.c.P (lone (fr.atR ⟨ts,ds⟩ (.inRegion x.os (i::rest)::k)) cs w) (lone (fr.atR ⟨ts',ds⟩ (.inRegion x.os rest::k)) cs w'):=by
 have hr:=mem_ready.1 hi;obtain ⟨hun,o,ho,hall⟩:=hr;have hio:=(Array.getElem?_eq_some_iff.1 ho).1;have zdS:listed.getD i false=false:=by rw [qia (by rw [hI.size]; exact hio)]; exact hun
 have hhd:(x.os.toList.take s)[i]? = some o:=by rw [List.getElem?_take,if_pos his,Array.getElem?_toList]; exact ho
 have hilt:=(List.getElem?_eq_some_iff.1 hhd).1;obtain ⟨f,hf⟩:∃ f,Fs[i]? = some f:=⟨_,List.getElem?_eq_getElem (by rw [hF.len]; exact hilt)⟩
 obtain ⟨hval,hnext,hmv,hbase,T',G,hgood,zha,hT',hGc⟩:=hF.good i o f hhd hf;rw [Nat.zero_add,hxh,hxm] at hGc;rw [qsc] at hh;have htk:∀ (j:Nat) (o':Oper),(x.os.toList.take s)[j]? = some o'->(x.os.toList.take tl)[j]? = some o':=fun j o' h=>by
  have hj:=(List.getElem?_eq_some_iff.1 h).1;rw [List.length_take] at hj;rw [List.getElem?_take,if_pos (by omega)] at h ⊢
  exact h
 obtain ⟨hread,hdst⟩:=qlh _ _ _ _ _ hh i o (htk _ _ hhd);have hset:∀ j,(listed.setIfInBounds i true).getD j false=if i=j then true else listed.getD j false:=by
  intro j;by_cases hij:i=j
  . subst hij; rw [if_pos rfl]; simp [Array.getD_eq_getD_getElem?,hI.size,hio]
  . rw [if_neg hij,getD_set_ne false hij]
 have hmi:∀ j,(((qca x.os.toList [])[i]?).getD 0).testBit j=true->listed.getD j false=true:=by
  intro j hb;refine qxb hI.closed hi (m:=((qca x.os.toList [])[i]?).getD 0) ?_ hb;cases hm:(qca x.os.toList [])[i]? with
  | none=>rw [hm] at hb; simp at hb
  | some m=>rfl
 have hmj:∀ j,(((qca x.os.toList [])[j]?).getD 0).testBit i=true->listed.getD j false=true->False:=by
  intro j hb hl;have:=hI.closed j (((qca x.os.toList [])[j]?).getD 0) hl (by
   cases hm:(qca x.os.toList [])[j]? with
   | none=>rw [hm] at hb; simp at hb
   | some m=>rfl) i hb
  rw [zdS] at this; cases this
 have zbG:AgreeOn β T' ts (qsb x.os o):=by
  refine ⟨by rw [hI.tsz,zha,hF.zdn],fun t ht => ?_⟩
  rw [← hT' t (fun j o' hij ho' hd => ?_) β]
  . refine hI.tmps t (fun hex' => ?_) fun j o' ho' hd => ?_
    . obtain ⟨j,o',hj,ho',hd⟩:=hex t hex';obtain ⟨m,hm,hb⟩:=hread j o' t ho' hd ht;have:=q2o he i m hm j hb;omega
    obtain ⟨m,hm,hb⟩:=hread j o' t (htk _ _ ho') hd ht;exact qxb hI.closed hi hm hb
  . obtain ⟨m,hm,hb⟩:=hread j o' t (htk _ _ ho') hd ht;have:=q2o he i m hm j hb;omega
 obtain ⟨c,hcl,hcm,hH⟩:=hI.heap;have hcase:(G=hs c/\hs c=hs i/\zck x.c.P i (((qca x.os.toList [])[i]?).getD 0) (x.os.toList.take s) (qca x.os.toList []) 0=true)\/(q9b x.c.P o=false/\G=zas (qyd x.hid) x.H):=by
  rcases hGc with ⟨hcmp,hGi⟩ | h
  . left;have hspec:=qhi _ _ _ hcmp;have hci:hs c=hs i:=by
     rcases Nat.le_total c i with hle | hle
     . have:=qxf hF (a:=c) (i - c) (by omega) fun j o' h1 h2 ho'=>by
        cases hmo:q9b x.c.P o' with
        | false=>rfl
        | true =>
          exfalso;have h3:=(hspec j o' ho' hmo (by omega)).1 (by omega)
          rw [Nat.zero_add] at h3;have:=(hcm j o' ho' hmo).1 (hmi j h3);omega
       rw [show c+(i - c)=i from by omega] at this; exact this
     . have:=qxf hF (a:=i) (c - i) (by omega) fun j o' h1 h2 ho'=>by
        cases hmo:q9b x.c.P o' with
        | false=>rfl
        | true =>
          exfalso;have hl:=(hcm j o' ho' hmo).2 (by omega)
          by_cases hij:j=i
          . subst hij; rw [zdS] at hl; cases hl
          . have h3:=(hspec j o' ho' hmo (by omega)).2 (by omega)
            exact hmj j h3 hl
       rw [show i+(c - i)=c from by omega] at this; exact this.symm
    exact ⟨hGi.trans hci.symm,hci,hcmp⟩
  . exact .inr h
 have zeK:∀ (n:Nat) (e:SO),G[n]? = some e->e=SO.gone\/(hs c)[n]? = some e:=by
  intro n e hn;rcases hcase with ⟨rfl,_⟩ | ⟨_,rfl⟩
  . exact .inr hn
  . rw [qxa,List.getElem?_map] at hn;cases hx:x.H[n]? with
    | none=>rw [hx] at hn; cases hn
    | some e0 =>
      rw [hx] at hn;have hn:qyd x.hid e0=e:=Option.some.inj hn;unfold qyd at hn;cases hhe:x.hid e0 with
      | true=>rw [hhe] at hn; exact .inl hn.symm
      | false =>
        rw [hhe] at hn;have hn:e0=e:=hn;subst hn;exact .inr (hF.stable c hcl n e0 hx hhe)
 have hG0:∀ q,HeapRel0 x.c.P (O q) (w0 q) β G w:=fun q=>(hH q).toHeapRel0.less fun n e hn=>(zeK n e hn).symm;have hown:∀ (n:Nat) (e:SO),G[n]? = some e->e.owned=true->(hs c)[n]? = some e:=by
  intro n e hn ho;rcases zeK n e hn with rfl | h
  . cases ho
  . exact h
 have hb0:f.news=[]/\f.sets=[]\/(hs c=hs i):=by
  rcases hcase with ⟨_,h,_⟩ | ⟨h,_⟩
  . exact .inr h
  . exact .inl ⟨(hmv h).2,(hmv h).1⟩
 have hstep:∃ y w' β',f.val.den β'=some y/\β.le β'/\(∀ q,zac x.c.P (O q) (w0 q) β' (q3b (hs c) f.sets f.news) w') /\
   Steps x.c.P (lone (fr.atR ⟨ts,ds⟩ (.inRegion x.os (i::rest)::k)) cs w) (lone (fr.atR (Act.put ⟨ts,ds⟩ o.dst y) (.inRegion x.os rest::k)) cs w'):=by
  cases f with
  | skip =>
    have hw:=hgood β ts zbG;refine ⟨undef,w,β,by simp [Fct.val,qsa,SV.den,SV.zal,undef],Val.le_refl β,hH,.one ?_⟩
    have:=stepR_op_skip (P:=x.c.P) (b:=fr) (a:=⟨ts,ds⟩) (k:=k) (cs:=cs) (w:=w) (ops:=x.os) (i:=i) (rest:=rest) (by rw [ho]; exact hw)
    rw [ho] at this; exact this
  | run v N b q =>
    obtain ⟨hw,hrun⟩:=hgood β ts zbG;have hb:=hbase v N b q rfl;have hfree:Free β b N:=by
     rcases hb0 with ⟨h1,_⟩ | h
     . have h1:N=[]:=h1;subst h1;intro j hj; simp at hj
     . intro j _;exact (hH true).bound _ (by rw [h,hb]; omega)
    obtain ⟨y,w',β',hv,hE,hso,hst⟩:=hrun (O true) (w0 true) w (hG0 true) hI.glob hfree (fr.atR ⟨ts,ds⟩ (.inRegion x.os (i::rest)::k)) cs i rest k rfl rfl ho rfl;rw [Frame.finish_atR,ho] at hst;refine ⟨y,w',β',hv,hE.le,?_,hst⟩;have zgY:∀ n e,(n,e)∈q->qhh (hs c) n e:=fun n e hn=>by
     obtain ⟨e0,h1,h2,h3⟩:=hso n e hn;exact ⟨e0,hown n e0 h1 h2,h2,h3⟩
    rcases hb0 with ⟨h1,_⟩ | h
    . have h1:N=[]:=h1;subst h1;exact fun q=>(hH q).apply (hE.zcf (b:=(hs c).length)) zgY
    . rw [hb,← h] at hE;exact fun q=>(hH q).apply hE zgY
  | touch v nm =>
    obtain ⟨hw,hrun⟩:=hgood β ts zbG;obtain ⟨y,w',e,hv,he,heo,hE,hst⟩:=hrun (O true) (w0 true) w (hG0 true) hI.glob (fr.atR ⟨ts,ds⟩ (.inRegion x.os (i::rest)::k)) cs i rest k rfl rfl ho rfl;rw [Frame.finish_atR,ho] at hst;refine ⟨y,w',β,hv,Val.le_refl β,fun q => ?_,hst⟩;have h1:=hown nm e he heo;have:=(hH q).apply (hE.zcf (b:=(hs c).length)) (by intro n e' hn; simp at hn; obtain ⟨rfl,rfl⟩:=hn; exact ⟨e',h1,heo,.refl _⟩)
    rw [qoc,List.append_nil,qei h1] at this;exact this
 obtain ⟨y,w',β',hv,hle,hH',hst⟩:=hstep;rw [q1r] at hst;refine ⟨β',_,w',hle,⟨by simp [hI.size],by rw [qej]; exact hI.tsz,?_,?_,?_,?_,hI.glob.mono hle⟩,?_,hst⟩
 ·
  intro t hext ht;rw [q5g];by_cases hd:o.dst=some t
  . by_cases hlt:t<ts.size
    . rw [if_pos ⟨hd,hlt⟩,hval t hd (by rw [← hF.zdn,← hI.tsz]; exact hlt) (fun j o' hij ho'=>hdst t hd j o' hij (htk _ _ ho'))]
      exact hv
    . rw [if_neg (fun h=>hlt h.2)];have h1:nth TF t=none:=by rw [qda,List.getElem?_eq_none]; rw [← hI.tsz]; exact Nat.not_lt.1 hlt
      have h2:ts.getD t undef=undef:=by rw [Array.getD_eq_getD_getElem?,Array.getElem?_eq_none (Nat.not_lt.1 hlt)]; rfl
      rw [h2]; unfold zbg; rw [h1]; simp [qsa,SV.den,SV.zal,undef]
  . rw [if_neg (fun h=>hd h.1)];refine SV.zav hle _ (hI.tmps t hext fun j o' ho' hd' => ?_);have:=ht j o' ho' hd';rw [hset] at this;by_cases hij:i=j
    . subst hij; rw [hhd] at ho'; cases ho'; exact absurd hd' hd
    . rwa [if_neg hij] at this
 ·
  cases hmo:q9b x.c.P o with
  | false =>
    obtain ⟨h1,h2⟩:=hmv hmo;rw [h1,h2] at hH';refine ⟨c,hcl,fun j o' ho' hm => ?_,hH'⟩;have hij:i≠j:=by
     intro h; subst h;rw [hhd] at ho'; cases ho';rw [hmo] at hm; cases hm
    rw [hset,if_neg hij];exact hcm j o' ho' hm
  | true =>
    rcases hcase with ⟨_,hci,hcmp⟩ | ⟨h,_⟩
    . have hspec:=qhi _ _ _ hcmp;refine ⟨i+1,hilt,fun j o' ho' hm => ?_,by rw [hnext,← hci]; exact hH'⟩
      rw [hset];by_cases hij:i=j
      . subst hij; simp
      . rw [if_neg hij];rcases Nat.lt_or_ge j i with hlt | hge
        . have h3:=(hspec j o' ho' hm (by omega)).1 (by omega)
          rw [Nat.zero_add] at h3;exact ⟨fun _=>by omega,fun _=>hmi j h3⟩
        . have h3:=(hspec j o' ho' hm (by omega)).2 (by omega)
          exact ⟨fun hl=>(hmj j h3 hl).elim,fun h=>by omega⟩
    . rw [hmo] at h; cases h
 . intro j m hj hm l hl;rw [hset] at hj ⊢;split
   . rfl
   . by_cases hij:i=j
     . subst hij; exact qxb hI.closed hi hm hl
     . rw [if_neg hij] at hj; exact hI.closed j m hj hm l hl
 . intro j hj;rw [hset,if_neg (by omega)]; exact hI.tail j hj
 . intro t hext;rw [q5g,if_neg];rintro ⟨hd,_⟩;obtain ⟨j,o',hj,ho',hd'⟩:=hex t hext;exact hdst t hd j o' (by omega) ho' hd'
theorem j9i {ops:List Oper} {ms:List Nat} {i0:Nat} (hF:zdJ x ops ms i0 T H0 TF Fs hs) {a:Nat}:∀ (n:Nat),a+n<=ops.length->(hs a).length<=(hs (a+n)).length:=by
 intro n;induction n with
 | zero=>intro _; exact Nat.le_refl _
 | succ n ih =>
   intro hl;have hlt:a+n<ops.length:=by omega
   obtain ⟨_,h2,_⟩:=hF.good (a+n) _ _ (List.getElem?_eq_getElem hlt) (List.getElem?_eq_getElem (by rw [hF.len]; exact hlt))
   refine Nat.le_trans (ih (by omega)) ?_
   rw [show a+(n+1)=a+n+1 from by omega,h2,qoc,List.length_append,q2d]
   omega
end
end
noncomputable section
variable {α:Type}
theorem Eff.zjz {P:Program} {β:Val} {w:World} {base:Nat} {o:Obj} {e:SO} (hb:β base=Option.none) (ho:e.owned=true)
  (hown:zaz P (β.upd base ⟨w.heap.size,0,0⟩) (w.alloc o) base e):Eff P β w base [] [e] (β.upd base ⟨w.heap.size,0,0⟩) (w.alloc o) where
 le:=Val.zbh hb
 os:=rfl
 tape:=rfl
 output:=rfl
 drawn:=Nat.le_refl _
 size:=by show w.heap.size<=(w.heap.push o).size; simp
 dom:=fun n hn=>by
  unfold Val.upd;rw [if_neg]; simp at hn; omega
 frame:=fun b hb _ _=>by show (w.heap.push o)[b]? = _; rw [Array.getElem?_push,if_neg (by omega)]
 one:=by simp
 turned:=by simp
 made:=fun i e' he=>by
  cases i with
  | zero =>
    simp at he; subst he;exact ⟨ho,hown,_,Val.upd_same _ _ _,.inl (Nat.le_refl _)⟩
  | succ i=>simp at he
 apart:=fun i j l l' hij hi hj=>by simp at hi hj; omega
section
variable {c:Cfg} {B:Base} {go:SS->Tree} {D:SV->List SO->Prop} {S:SS->Prop}
theorem zac.sameHeap {P:Program} {O:Nat->Prop} {w0:World} {β:Val} {H:List SO} {w w':World} (h:zac P O w0 β H w) (hh:w'.heap=w.heap) (ho:w'.os=w.os) (ht:w'.tape=w.tape) (hu:w'.output=w.output) (hdr:w.drawn<=w'.drawn:=by first | exact Nat.le_refl _ | exact Nat.le_succ _ | exact Nat.le_succ_of_le (Nat.le_succ _)):zac P O w0 β H w':=by
 have:=h.apply (Eff.none (P:=P) (β:=β) (base:=H.length) hh ho ht hu hdr) (by simp)
 rw [qoc,List.append_nil] at this;exact this
theorem qy0 (hc:zaC c) (hP:B.P=c.P) (hgl:B.glob=c.glob) {id:Nat} {os:Array Oper} {k:List zaK} {s:SF} {rest:List SF} {H:List SO} {β:Val} {fr:Frame} {frs:List Frame} {w:World} (hF:zar β s fr) (hR:zat β rest frs) (hH:zac B.P B.O B.w0 β H w) (hG:zcD B β)
  (hl:((fr::frs).getLast?).map (·.fn)=some B.fn0) (htd:s.todo=.code (.region id os true)::k) {sh:Nat} (hob:(qv3 os sh (qca os.toList []) k s rest c H go).Ob D S):After B go D S (lone fr (frs++B.cs) w):=by
 have zbf:=hF.todo;rw [htd] at zbf;cases hft:fr.todo with
 | nil=>rw [hft] at zbf; exact zbf.elim
 | cons y k' =>
   rw [hft] at zbf;obtain ⟨hxy,hkk⟩:=zbf;cases y <;> first | exact hxy.elim | skip
   rename_i cd;have hcd:cd=.region id os true:=hxy;subst hcd;unfold qv3 at hob;cases hok:qsh os os.toList (qca os.toList []) sh with
   | false=>rw [hok] at hob; exact hob.elim
   | true =>
     rw [hok,zak] at hob;obtain ⟨he,hok'⟩:=qhb (show zab (qmb os.toList 0) (zab (qid os (qta os.toList sh) (qta os.toList sh) (qca os.toList []) 0) (qwe (qnb (qca os.toList []) sh) sh) false) false=true from hok)
     obtain ⟨hh,ht⟩:=qhb hok';obtain ⟨TF,Fs,slots,sets,hFa,hfin⟩:=qup (x:=⟨c,os,H,fun T N sets=>go ⟨⟨s.fn,T,.ops os (qnb os.toList sh)::k,s.defers,s.roundOf⟩::rest,q3b (app H N) sets []⟩,q8q os.toList (qca os.toList []) sh⟩) hc _ _ _ _ 0 hob;replace hfin:(go ⟨⟨s.fn,TF,.ops os (qnb os.toList sh)::k,s.defers,s.roundOf⟩::rest,q3b (app H (([]++slots:List (Nat × SO)).map (·.2))) sets []⟩).Ob D S:=hfin
     simp only [List.nil_append] at hfin;rw [qsc] at hFa;rw [qoc,List.append_nil,q7a,qad] at hfin;have hstep:step B.P (lone fr (frs++B.cs) w)=.next (lone (fr.atR ⟨fr.tmps,fr.defers⟩ (.inRegion os (Region.linearise.go .any os os.size (w.tape w.drawn (.order fr.fn id)) (Array.replicate os.size false) [])::k')) (frs++B.cs) { w with drawn:=w.drawn+1 }):=by
      conv=>lhs; rw [qvb hF.mode,hft]
      rw [stepR_region_draw];simp only [Region.schedule,hP,hc.prog.mixed,Bool.true_or,if_true,Region.linearise]
     refine .step hstep ?_
     have hH':zac B.P B.O B.w0 β H { w with drawn:=w.drawn+1 }:=hH.sameHeap rfl rfl rfl rfl
     generalize ({ w with drawn:=w.drawn+1 }:World)=w1 at hH'
     have hlist:∀ j,(Array.replicate os.size false).getD j false=false:=by
      intro j;rw [Array.getD_eq_getD_getElem?,Array.getElem?_replicate];split <;> rfl
     have hI:zfI ⟨c,os,H,fun T N sets=>go ⟨⟨s.fn,T,.ops os (qnb os.toList sh)::k,s.defers,s.roundOf⟩::rest,q3b (app H N) sets []⟩,q8q os.toList (qca os.toList []) sh⟩ sh TF slots sets B.O B.w0 (Array.replicate os.size false) β fr.tmps w1:=by
      have zda:fr.tmps.size=s.tmps.length:=by have:=qra hF.tmps; simpa using this
      refine ⟨by simp,by rw [zda,hFa.zdn],fun t ht => ?_,?_,fun n hn _=>hH'.bound n hn,fun i m hi => ?_,fun i _=>hlist i,hgl▸hG.glob⟩
      . rw [hFa.same t (fun o ho hd => ?_) β]
        . have:=qne (glob:=fun _=>none) (a:=⟨fr.tmps,fr.defers⟩) hF.tmps (fun _ _ h=>by cases h) (.tmp t)
          have e:evS (fun _=>none) s.tmps (.tmp t)=zbg s.tmps t:=by
           show zah (nth s.tmps t) qsa (fun v=>v)=_;unfold zbg; cases nth s.tmps t <;> rfl
          rw [e] at this; exact this
        . obtain ⟨j,hj⟩:=List.mem_iff_getElem?.1 ho;have:=ht j o hj hd;rw [hlist] at this; cases this
      . have zeQ:q5a (Array.replicate os.size false) slots=slots.map fun _=>SO.gone:=by
         unfold q5a;apply List.map_congr_left;intro p _;rw [hlist]; rfl
        have hcu:qjb ⟨c,os,H,fun T N sets=>go ⟨⟨s.fn,T,.ops os (qnb os.toList sh)::k,s.defers,s.roundOf⟩::rest,q3b (app H N) sets []⟩,q8q os.toList (qca os.toList []) sh⟩ sh slots sets (Array.replicate os.size false)=H++q5a (Array.replicate os.size false) slots:=by
         unfold qjb; rw [hlist]; rfl
        rw [hcu,zeQ,← hP];have hbase:=hH'.toHeapRel0;have hin:∀ (n:Nat) (e:SO),(H++slots.map fun _=>SO.gone)[n]? = some e->H[n]? = some e\/e=SO.gone:=by
         intro n e hn;rcases Nat.lt_or_ge n H.length with h | h
         . rw [List.getElem?_append_left h] at hn; exact .inl hn
         . rw [List.getElem?_append_right h,List.getElem?_map] at hn;right;cases hx:slots[n - H.length]? with
           | none=>rw [hx] at hn; cases hn
           | some p=>rw [hx] at hn; exact (Option.some.inj hn).symm
        refine ⟨fun n e hn => ?_,fun n m e e' l l' hn hm ho ho' => ?_,fun n e l hn ho => ?_,hbase.keep,(hbase.less hin).zcG,(hbase.less hin).zbC⟩
        . rcases hin n e hn with h | rfl
          . exact hbase.entries n e h
          . trivial
        . rcases hin n e hn with h | rfl
          . rcases hin m e' hm with h' | rfl
            . exact hbase.sep n m e e' l l' h h' ho ho'
            . cases ho'
          . cases ho
        . rcases hin n e hn with h | rfl
          . exact hbase.fresh n e l h ho
          . cases ho
      . rw [hlist] at hi; cases hi
     have hun:∀ k,unl (Array.replicate os.size false) k<=k:=by
      intro k;induction k with
      | zero=>exact Nat.le_refl _
      | succ k ih =>
        show unl _ k+_<=k+1;split <;> omega
     obtain ⟨β2,ts2,w2,l2,hle,hI2,hall,hst⟩:=qx0 he hh ht hFa fr fr.defers k' (frs++B.cs) os.size _ _ β fr.tmps w1 hI (hun _);replace hst:Steps c.P _ _:=hst;rw [← hP] at hst;have zeL:q5a l2 slots=slots.map (·.2):=by
      unfold q5a;apply List.map_congr_left;intro p hp;obtain ⟨j,e⟩:=p;by_cases hj:j<sh/\j<os.size
      . rw [hall j hj.1 hj.2]; rfl
      . exfalso;have h1:=hFa.ge j e hp;rw [List.length_take,Array.length_toList] at h1;exact hj (by omega)
     refine .of_steps hst ⟨_,.refl _ _,.inl ⟨_,hfin,⟨β2,_,frs,w2,rfl,⟨⟨hF.fn,?_,?_,SD.zan hle hF.defers,rfl,hF.kind,hF.round.mono hle⟩,hR.mono hle⟩,?_,⟨hgl▸hI2.glob,Val.le_trans hG.fix hle⟩,Eq.trans (qac (f:=fr) (f':=fr.atR ⟨ts2,fr.defers⟩ _) rfl) hl⟩⟩⟩
     ·
      refine q4f (show ts2.toList.length=_ by rw [Array.length_toList]; exact hI2.tsz) fun i v hv => ?_
      have hi:=hI2.tmps i fun j o ho _=>by
       have hj:=(List.getElem?_eq_some_iff.1 ho).1;rw [List.length_take,Array.length_toList] at hj;exact hall j (Nat.lt_of_lt_of_le hj (Nat.min_le_left _ _)) (Nat.lt_of_lt_of_le hj (Nat.min_le_right _ _))
      have hg:zbg TF i=v:=by unfold zbg; rw [qda,hv]; rfl
      have hil:i<ts2.size:=by rw [hI2.tsz]; exact (List.getElem?_eq_some_iff.1 hv).1
      rw [hg] at hi;refine ⟨_,?_,hi⟩;show ts2.toList[i]? = some (ts2.getD i undef);rw [Array.getElem?_toList];exact q8f hil rfl
     . exact ⟨⟨rfl,zbX.drop os sh⟩,hkk.mono hle⟩
     . refine ⟨?_,fun n hn => ?_⟩
       . have:=hI2.heap;have hcu:qjb ⟨c,os,H,fun T N sets=>go ⟨⟨s.fn,T,.ops os (qnb os.toList sh)::k,s.defers,s.roundOf⟩::rest,q3b (app H N) sets []⟩,q8q os.toList (qca os.toList []) sh⟩ sh slots sets l2=qbc (H++q5a l2 slots) sets:=by
          by_cases h0:os.toList.take sh=[]
          . rw [hFa.none h0,qff]; rfl
          . have hpos:=List.length_pos_iff.2 h0;have h1:(os.toList.take sh).length - 1<sh/\(os.toList.take sh).length - 1<os.size:=by
             rw [List.length_take,Array.length_toList] at hpos ⊢;omega
            unfold qjb;rw [show l2.getD ((os.toList.take sh).length - 1) false=true from hall _ h1.1 h1.2]; rfl
         rw [hcu,zeL,← hP] at this; exact this
       . rw [q2d,List.length_append,List.length_map] at hn;have hn':H.length<=n:=by omega
         refine hI2.free n hn' fun j e hj => ?_
         have:=(List.getElem?_eq_some_iff.1 hj).1;have h2:n - H.length<slots.length:=this;omega
theorem q1n (hc:zaC c) (hP:B.P=c.P) (hgl:B.glob=c.glob) {id:Nat} {os:Array Oper} {k:List zaK} {s:SF} {rest:List SF} {H:List SO} {β:Val} {fr:Frame} {frs:List Frame} {w:World} (hF:zar β s fr) (hR:zat β rest frs) (hH:zac B.P B.O B.w0 β H w) (hG:zcD B β)
  (hl:((fr::frs).getLast?).map (·.fn)=some B.fn0) (htd:s.todo=.code (.region id os true)::k) {sh:Nat} {hid:SO->Bool} (hob:(qar hid os sh (qca os.toList []) k s rest c H go).Ob D S):After B go D S (lone fr (frs++B.cs) w):=by
 have zbf:=hF.todo;rw [htd] at zbf;cases hft:fr.todo with
 | nil=>rw [hft] at zbf; exact zbf.elim
 | cons y k' =>
   rw [hft] at zbf;obtain ⟨hxy,hkk⟩:=zbf;cases y <;> first | exact hxy.elim | skip
   rename_i cd;have hcd:cd=.region id os true:=hxy;subst hcd;unfold qar at hob;cases hok:qsh os os.toList (qca os.toList []) sh with
   | false=>rw [hok] at hob; exact hob.elim
   | true =>
     rw [hok,zak] at hob;obtain ⟨he,hok'⟩:=qhb (show zab (qmb os.toList 0) (zab (qid os (qta os.toList sh) (qta os.toList sh) (qca os.toList []) 0) (qwe (qnb (qca os.toList []) sh) sh) false) false=true from hok)
     obtain ⟨hh,ht⟩:=qhb hok';generalize hxe:(⟨hid,c,os,H,qta os.toList sh,qca os.toList [],fun T H'=>go ⟨⟨s.fn,T,.ops os (qnb os.toList sh)::k,s.defers,s.roundOf⟩::rest,H'⟩⟩:zcy)=x at hob;have hxc:x.c=c:=by rw [← hxe]
     have zgV:x.hid=hid:=by rw [← hxe]
     have hxo:x.os=os:=by rw [← hxe]
     have hxH:x.H=H:=by rw [← hxe]
     have hxh:x.hd=qta os.toList sh:=by rw [← hxe]
     have hxm:x.ms=qca os.toList []:=by rw [← hxe]
     have hxf:x.fin=fun T H'=>go ⟨⟨s.fn,T,.ops os (qnb os.toList sh)::k,s.defers,s.roundOf⟩::rest,H'⟩:=by rw [← hxe]
     obtain ⟨TF,Fs,hs,hFa,hfin⟩:=q0n (x:=x) (hxc▸hc) _ _ _ _ _ (by rw [hxH]; exact fun n e h _=>h) hob
     rw [hxf] at hfin;replace hfin:(go ⟨⟨s.fn,TF,.ops os (qnb os.toList sh)::k,s.defers,s.roundOf⟩::rest,hs (qta os.toList sh).length⟩).Ob D S:=hfin;rw [qsc] at hFa hfin hxh;rw [qad] at hfin;have hstep:step B.P (lone fr (frs++B.cs) w)=.next (lone (fr.atR ⟨fr.tmps,fr.defers⟩ (.inRegion os (Region.linearise.go .any os os.size (w.tape w.drawn (.order fr.fn id)) (Array.replicate os.size false) [])::k')) (frs++B.cs) { w with drawn:=w.drawn+1 }):=by
      conv=>lhs; rw [qvb hF.mode,hft]
      rw [stepR_region_draw];simp only [Region.schedule,hP,hc.prog.mixed,Bool.true_or,if_true,Region.linearise]
     refine .step hstep ?_
     have hH':zac B.P B.O B.w0 β H { w with drawn:=w.drawn+1 }:=hH.sameHeap rfl rfl rfl rfl
     generalize ({ w with drawn:=w.drawn+1 }:World)=w1 at hH'
     have hlist:∀ j,(Array.replicate os.size false).getD j false=false:=by
      intro j;rw [Array.getD_eq_getD_getElem?,Array.getElem?_replicate];split <;> rfl
     have hI:zgf x sh sh none TF hs (fun _=>B.O) (fun _=>B.w0) (Array.replicate os.size false) β fr.tmps w1:=by
      have zda:fr.tmps.size=s.tmps.length:=by have:=qra hF.tmps; simpa using this
      refine ⟨by simp [hxo],by rw [zda,hFa.zdn],fun t _ ht => ?_,⟨0,Nat.zero_le _,fun j o _ _ => ?_,?_⟩,fun i m hi => ?_,fun i _=>hlist i,hxc▸hgl▸hG.glob⟩
      . rw [hFa.same t (fun o ho hd => ?_) β]
        . have:=qne (glob:=fun _=>none) (a:=⟨fr.tmps,fr.defers⟩) hF.tmps (fun _ _ h=>by cases h) (.tmp t)
          have e:evS (fun _=>none) s.tmps (.tmp t)=zbg s.tmps t:=by
           show zah (nth s.tmps t) qsa (fun v=>v)=_;unfold zbg; cases nth s.tmps t <;> rfl
          rw [e] at this; exact this
        . obtain ⟨j,hj⟩:=List.mem_iff_getElem?.1 ho;have:=ht j o (by rw [hxo]; exact hj) hd
          rw [hlist] at this; cases this
      . rw [hlist]; simp
      . rw [hFa.zero,hxc,← hP]; exact fun _=>hH'
      . rw [hlist] at hi; cases hi
     have hun:∀ k,unl (Array.replicate os.size false) k<=k:=by
      intro k;induction k with
      | zero=>exact Nat.le_refl _
      | succ k ih =>
        show unl _ k+_<=k+1;split <;> omega
     have hsteps:=qzj (os:=os) (s:=sh) (P:=c.P) (Inv:=fun l β ts w=>zgf x sh sh none TF hs (fun _=>B.O) (fun _=>B.w0) l β ts w) he ht fr fr.defers k' (frs++B.cs)
      (fun h=>by rw [← hxo]; exact h.size) (fun h=>h.tail) (fun h=>by rw [← hxo]; exact h.closed)
      (fun {l β ts w i} h hi his rest=>by
       have:=qam (x:=x) (s:=sh) (Nat.le_refl _) (ex:=none) (fun _ h=>by cases h) (by rw [hxo]; exact he) (by rw [hxo]; exact hh) (by rw [hxo]; exact hFa) (by rw [hxo]; exact hxh) (by rw [hxo]; exact hxm) h (by rw [hxo]; exact hi) his fr fr.defers rest k' (frs++B.cs)
       rw [hxo,hxc] at this;obtain ⟨β',ts',w',h1,h2,_,h3⟩:=this;exact ⟨β',ts',w',h1,h2,h3⟩)
     obtain ⟨β2,ts2,w2,l2,hle,hI2,hall,hst⟩:=hsteps os.size _ _ β fr.tmps w1 hI (hun _);rw [← hP] at hst;obtain ⟨cc,hcl,hcm,hH2⟩:=hI2.heap;replace hH2:=hH2 true;rw [hxo] at hcl;have hend:hs cc=hs (os.toList.take sh).length:=by
      have:=qxf hFa (a:=cc) ((os.toList.take sh).length - cc) (by omega) fun j o h1 h2 ho=>by
       cases hmo:q9b x.c.P o with
       | false=>rfl
       | true =>
         exfalso;have hj:=(List.getElem?_eq_some_iff.1 ho).1;rw [List.length_take,Array.length_toList] at hj;have:=(hcm j o (by rw [hxo]; exact ho) hmo).1 (hall j (Nat.lt_of_lt_of_le hj (Nat.min_le_left _ _)) (Nat.lt_of_lt_of_le hj (Nat.min_le_right _ _)))
         omega
      rw [show cc+((os.toList.take sh).length - cc)=(os.toList.take sh).length from by omega] at this
      exact this
     rw [hend,hxc,← hP] at hH2;refine .of_steps hst ⟨_,.refl _ _,.inl ⟨_,hfin,⟨β2,_,frs,w2,rfl,⟨⟨hF.fn,?_,?_,SD.zan hle hF.defers,rfl,hF.kind,hF.round.mono hle⟩,hR.mono hle⟩,hH2,⟨by rw [hgl,← hxc]; exact hI2.glob,Val.le_trans hG.fix hle⟩,Eq.trans (qac (f:=fr) (f':=fr.atR ⟨ts2,fr.defers⟩ _) rfl) hl⟩⟩⟩
     ·
      refine q4f (show ts2.toList.length=_ by rw [Array.length_toList]; exact hI2.tsz) fun i v hv => ?_
      have hi:=hI2.tmps i (fun h=>by cases h) fun j o ho _=>by
       have hj:=(List.getElem?_eq_some_iff.1 ho).1;rw [hxo,List.length_take,Array.length_toList] at hj;exact hall j (Nat.lt_of_lt_of_le hj (Nat.min_le_left _ _)) (Nat.lt_of_lt_of_le hj (Nat.min_le_right _ _))
      have hg:zbg TF i=v:=by unfold zbg; rw [qda,hv]; rfl
      have hil:i<ts2.size:=by rw [hI2.tsz]; exact (List.getElem?_eq_some_iff.1 hv).1
      rw [hg] at hi;refine ⟨_,?_,hi⟩;show ts2.toList[i]? = some (ts2.getD i undef);rw [Array.getElem?_toList];exact q8f hil rfl
     . exact ⟨⟨rfl,zbX.drop os sh⟩,hkk.mono hle⟩
theorem getElem?_snoc {l:List α} {a:α} {n:Nat} {e:α} (h:(l++[a])[n]? = some e):l[n]? = some e\/(n=l.length/\e=a):=by
 rcases Nat.lt_or_ge n l.length with hn | hn
 . rw [List.getElem?_append_left hn] at h; exact .inl h
 . rw [List.getElem?_append_right hn] at h;right;cases hx:n - l.length with
   | zero=>rw [hx] at h; exact ⟨by omega,(Option.some.inj h).symm⟩
   | succ k=>rw [hx] at h; simp at h
theorem zac.snoc {P:Program} {O:Nat->Prop} {w0:World} {β:Val} {H:List SO} {w:World} (h:zac P O w0 β H w) (l:Loc) (e:SO)
  (he:zbu P O w0 (β.upd H.length l) w H.length e) (hf:e.owned=true->(w0.heap.size<=l.blk\/O l.blk)/\∀ n e' l',H[n]? = some e'->e'.owned=true->β n=some l'->l'.blk≠l.blk)
  (hne:∀ m,e≠SO.mem m:=by intro m hm; cases hm) (hmm:e.owned=true->∀ (n:Nat) (m:Mem),H[n]? = some (SO.mem m)->¬ m.Has l.blk:=by exact fun ho=>by cases ho) :
  zac P O w0 (β.upd H.length l) (H++[e]) w/\β.le (β.upd H.length l):=by
 have hb:=h.bound _ (Nat.le_refl _);have hle:=Val.zbh (l:=l) hb;have hold:∀ n,n<H.length->(β.upd H.length l) n=β n:=fun n hn=>by unfold Val.upd; rw [if_neg (by omega)]
 have hlen:∀ (n:Nat) (e:SO),H[n]? = some e->n<H.length:=fun n e h=>(List.getElem?_eq_some_iff.1 h).1;refine ⟨⟨⟨fun n e' hn => ?_,fun n m e1 e2 l1 l2 h1 h2 o1 o2 hnm b1 b2 => ?_,fun n e' l' hn ho hl => ?_,h.keep,fun n m hn => ?_,fun n k m m' hn hk => ?_⟩,fun n hn => ?_⟩,hle⟩
 . rcases getElem?_snoc hn with h' | ⟨rfl,rfl⟩
   . have h0:=h.entries n e' h';cases e' with
     | row c =>
       obtain ⟨l,vs,hl,hc,hx⟩:=h0;exact ⟨l,vs,hle _ _ hl,hc.mono hle,hx⟩
     | own c wh el=>exact zaz.kept (P:=P) (e:=.own c wh el) h0 hle fun _ _ _=>rfl
     | loop s p f T ps a b d=>exact zaz.kept (P:=P) (e:=.loop s p f T ps a b d) h0 hle fun _ _ _=>rfl
     | deferred ds=>exact zaz.kept (P:=P) (e:=.deferred ds) h0 hle fun _ _ _=>rfl
     | gone=>trivial
     | mem=>exact (hold _ (hlen _ _ h')).trans h0
     | obj o=>exact zaz.kept (P:=P) (e:=.obj o) h0 hle fun _ _ _=>rfl
   . exact he
 . rcases getElem?_snoc h1 with h1' | ⟨rfl,rfl⟩ <;> rcases getElem?_snoc h2 with h2' | ⟨rfl,rfl⟩
   . rw [hold _ (hlen _ _ h1')] at b1;rw [hold _ (hlen _ _ h2')] at b2;exact h.sep n m e1 e2 l1 l2 h1' h2' o1 o2 hnm b1 b2
   . rw [hold _ (hlen _ _ h1')] at b1;rw [Val.upd_same] at b2; cases b2;exact (hf o2).2 n e1 l1 h1' o1 b1
   . rw [hold _ (hlen _ _ h2')] at b2;rw [Val.upd_same] at b1; cases b1;exact ((hf o1).2 m e2 l2 h2' o2 b2).symm
   . exact absurd rfl hnm
 . rcases getElem?_snoc hn with h' | ⟨rfl,rfl⟩
   . rw [hold _ (hlen _ _ h')] at hl;exact h.fresh n e' l' h' ho hl
   . rw [Val.upd_same] at hl; cases hl;exact (hf ho).1
 . rcases getElem?_snoc hn with h' | ⟨_,h'⟩
   . refine (h.zcG n m h').names fun b hb h2 k e' l' hk ho hl => ?_
     rcases getElem?_snoc hk with h3 | ⟨rfl,rfl⟩
     . rw [hold _ (hlen _ _ h3)] at hl;exact h2 k e' l' h3 ho hl
     . rw [Val.upd_same] at hl; cases hl;exact fun he=>hmm ho n m h' (he▸hb)
   . exact absurd h'.symm (hne m)
 . rcases getElem?_snoc hn with h1 | ⟨_,h1⟩
   . rcases getElem?_snoc hk with h2 | ⟨_,h2⟩
     . exact h.zbC n k m m' h1 h2
     . exact absurd h2.symm (hne m')
   . exact absurd h1.symm (hne m)
 . rw [List.length_append] at hn;simp at hn;unfold Val.upd;rw [if_neg (by omega)]
   exact h.bound n (by omega)
def zkN (β:Val) (H:List SO) (b:Nat):Prop:=(∃ n e l,H[n]? = some e/\e.owned=true/\β n=some l/\l.blk=b)\/∃ (n:Nat) (m:Mem) (p:Nat × Nat × TypeId),H[n]? = some (SO.mem m)/\m.own b=some p
theorem zac.owns {P:Program} {O:Nat->Prop} {w0:World} {β:Val} {H:List SO} {w:World} (h:zac P O w0 β H w) {b:Nat} (hb:zkN β H b):w0.heap.size<=b\/O b:=by
 rcases hb with ⟨n,e,l,h1,h2,h3,rfl⟩ | ⟨n,m,p,h1,h2⟩
 . exact h.fresh n e l h1 h2 h3
 . obtain ⟨k,c,el⟩:=p;exact ((h.zcG n m h1).own b k c el h2).1
theorem zac.zcf {P:Program} {O:Nat->Prop} {w0:World} {β:Val} {H:List SO} {w:World} (h:zac P O w0 β H w):zac P (zkN β H) w β H w:=by
 refine ⟨⟨fun n e hn => ?_,h.sep,fun n e l hn ho hl=>.inr (.inl ⟨n,e,l,hn,ho,hl,rfl⟩),⟨rfl,rfl,rfl,Nat.le_refl _,Nat.le_refl _,fun _ _ _=>rfl⟩,fun n m hn => ?_,h.zbC⟩,h.bound⟩
 rotate_left
 . have hm:=h.zcG n m hn;refine ⟨hm.told,fun b k c el hb=>⟨.inr (.inr ⟨n,m,_,hn,hb⟩),(hm.own b k c el hb).2⟩,fun b hb => ?_⟩;obtain ⟨h1,h2⟩:=hm.old b hb;refine ⟨Nat.lt_of_lt_of_le h1 h.keep.size,fun ho => ?_⟩;rcases h.owns ho with h3 | h3
   . omega
   . exact h2 h3
 have h0:=h.entries n e hn;cases e with
 | row c =>
   obtain ⟨l,vs,hl,hc,hx⟩:=h0;refine ⟨l,vs,hl,hc,fun i x hi => ?_⟩;obtain ⟨h1,h2,h3⟩:=hx i x hi;refine ⟨Nat.lt_of_lt_of_le h1 h.keep.size,?_,?_⟩
   . intro ho;rcases h.owns ho with h4 | h4
     . omega
     . exact h2 h4
   . have:w.cell? ⟨l.blk,l.off+i,none⟩=w0.cell? ⟨l.blk,l.off+i,none⟩:=by
      unfold World.cell?;rw [h.keep.block l.blk h1 h2]
     exact this.trans h3
 | own=>exact h0
 | loop=>exact h0
 | deferred=>exact h0
 | gone=>trivial
 | mem=>exact h0
 | obj=>exact h0
theorem zac.unnamed {P:Program} {O:Nat->Prop} {w0:World} {β β':Val} {H:List SO} {w w':World} {base:Nat} {news:List SO} (h:zac P O w0 β H w) (hE:Eff P β w base [] news β' w'):zac P O w0 β H w':=by
 have hE':Eff P β w H.length [] [] β w':=⟨Val.le_refl β,hE.os,hE.tape,hE.output,hE.drawn,hE.size,fun _ _=>rfl,hE.frame,hE.one,by simp,by simp,by simp⟩
 have:=h.apply hE' (by simp)
 rw [qoc,List.append_nil] at this;exact this
theorem j5e {x:zcy} {o:Oper} {T:List SV} {H:List SO} (h:(zgT o x T H).Ob D S) :
  qwj H=true/\o.guard=none/\∃ v e,qcj x.c.P x.c.glob (zas (qyd x.hid) x.H) x.os o T (.run v [e] H.length [])/\(x.fin (zbU T o.dst v) (H++[e])).Ob D S:=by
 unfold zgT at h;cases hnm:qwj H with
 | false=>rw [hnm] at h; exact h.elim
 | true =>
 refine ⟨rfl,?_⟩;rw [hnm] at h;replace h:(qx3 o x T H).Ob D S:=h;unfold qx3 at h;cases hg:o.guard with
 | some g=>rw [hg] at h; exact h.elim
 | none =>
   rw [hg] at h;replace h:((opS x.c.P (evS x.c.glob T) (zas (qyd x.hid) x.H) (zay H) o).zdM fun r=>jad r x o.dst T H).Ob D S:=h;obtain ⟨r,zbs,h⟩:=R.zbE h;have hnd:∀ cc,o.op≠.defer cc:=by
    intro cc hd;rcases qfi (P:=x.c.P) hd with ⟨n,hn⟩ | ⟨d,hn⟩
    . rw [hn] at zbs; exact zbs
    . rw [hn] at zbs;obtain rfl:r=.defer d:=zbs;exact (show False from h)
   rw [qha] at zbs;have hev:∀ (β:Val) (ts:Array Value) (ds:List Deferred),AgreeOn β T ts (qsb x.os o)->zaD x.c.glob β->∀ y∈o.op.operands,(evS x.c.glob T y).den β=some (Act.eval ⟨ts,ds⟩ y):=by
    intro β ts ds ha hG y hy;cases y with
    | tmp t =>
      have h1:=ha.at_ t (q9h hy);have e:evS x.c.glob T (.tmp t)=zbg T t:=by
       show zah (nth T t) qsa (fun v=>v)=_;unfold zbg; cases nth T t <;> rfl
      rw [e]; exact h1
    | const v=>exact qog β v
    | global g =>
      show (qjg g x.c.glob T).den β=_;unfold qjg;split
      . rename_i nm h;obtain ⟨l,h1,h2,h3⟩:=hG g nm h;simp [SV.den,SA.den,h1,h2,h3,SN.den,Act.eval]
      . rfl
    | func f=>rfl
   have hwant:∀ ts:Array Value,Region.wanted o (yielded x.os ts)=true:=fun ts=>by simp [Region.wanted,hg]
   cases r with
   | val v sets news =>
     replace h:(qw3 v sets news x o.dst T H).Ob D S:=h;unfold qw3 at h;split at h
     . rename_i e;refine ⟨rfl,v,e,fun β ts ha=>⟨hwant ts,fun O w0 w hH hG hfree f cs i rest k hm htd ho hts => ?_⟩,by rw [q7a] at h; exact h⟩
       subst hts;have hsg:=q7f (P:=x.c.P) hm htd ho (hwant f.tmps) hnd (cs:=cs) (w:=w);obtain ⟨nx,y,w',β',hrun,hnx,hv,hE,hso⟩:=R.zbr (qdf hH o (hev β f.tmps f.defers ha hG)) zbs hfree;exact ⟨y,w',β',hv,hE,hso,.one (qrd hsg hrun hnx)⟩
     . exact h.elim
   | enter=>exact h.elim
   | round=>exact h.elim
   | defer=>exact h.elim
   | panic=>exact h.elim
   | touch=>exact h.elim
structure zhV (x:zcy) (s:Nat) (o0:Oper) (v0:SV) (e0:SO) (TF:List SV) (hs:Nat->List SO) (O:Nat->Prop) (w0:World) (listed:Array Bool) (β:Val) (ts:Array Value) (w:World):Prop where
 not:listed.getD s false=false->zgf x s (s+1) none TF hs (fun _=>O) (fun _=>w0) listed β ts w
 yes:listed.getD s false=true->∃ (O1:Nat->Prop) (w1:World) (l:Loc) (β1:Val),zgf x s (s+1) o0.dst TF hs (fun q=>if q then O else O1) (fun q=>if q then w0 else w1) listed β ts w/\l.blk<w1.heap.size/\¬ O1 l.blk/\w0.heap.size<=l.blk/\β1.le β /\
  zaz x.c.P (β1.upd (hs s).length l) w1 (hs s).length e0/\e0.owned=true/\∀ d,o0.dst=some d->d<ts.size->v0.den (β1.upd (hs s).length l)=some (ts.getD d undef)
theorem zhV.any {x:zcy} {s:Nat} {o0:Oper} {v0:SV} {e0:SO} {TF:List SV} {hs:Nat->List SO} {O:Nat->Prop} {w0:World} {listed:Array Bool} {β:Val} {ts:Array Value} {w:World} (h:zhV x s o0 v0 e0 TF hs O w0 listed β ts w):∃ ex O1 w1,zgf x s (s+1) ex TF hs (fun q=>if q then O else O1) (fun q=>if q then w0 else w1) listed β ts w:=by
 cases hl:listed.getD s false with
 | false =>
   refine ⟨none,O,w0,?_⟩;have:=h.not hl;simpa using this
 | true =>
   obtain ⟨O1,w1,l,β1,h1,_⟩:=h.yes hl;exact ⟨_,O1,w1,h1⟩
theorem Val.ze6 {β β':Val} (h:β.le β') (n:Nat) (l:Loc):(β.upd n l).le (β'.upd n l):=by
 intro m a hm;unfold Val.upd at hm ⊢;split
 . rename_i he; rw [if_pos he] at hm; exact hm
 . rename_i he; rw [if_neg he] at hm; exact h _ _ hm
theorem q2n (hc:zaC c) (hP:B.P=c.P) (hgl:B.glob=c.glob) {id:Nat} {os:Array Oper} {k:List zaK} {s:SF} {rest:List SF} {H:List SO} {β:Val} {fr:Frame} {frs:List Frame} {w:World} (hF:zar β s fr) (hR:zat β rest frs) (hH:zac B.P B.O B.w0 β H w) (hG:zcD B β)
  (hl:((fr::frs).getLast?).map (·.fn)=some B.fn0) (htd:s.todo=.code (.region id os true)::k) {sh:Nat} {hid:SO->Bool} (hob:(qbr hid os sh (qca os.toList []) k s rest c H go).Ob D S):After B go D S (lone fr (frs++B.cs) w):=by
 have zbf:=hF.todo;rw [htd] at zbf;cases hft:fr.todo with
 | nil=>rw [hft] at zbf; exact zbf.elim
 | cons y k' =>
   rw [hft] at zbf;obtain ⟨hxy,hkk⟩:=zbf;cases y <;> first | exact hxy.elim | skip
   rename_i cd;have hcd:cd=.region id os true:=hxy;subst hcd;unfold qbr at hob;cases hok:qsh os os.toList (qca os.toList []) (Nat.succ sh) with
   | false=>rw [hok] at hob; exact hob.elim
   | true =>
     rw [hok,zak] at hob;obtain ⟨he,hok'⟩:=qhb (show zab (qmb os.toList 0) (zab (qid os (qta os.toList (sh+1)) (qta os.toList (sh+1)) (qca os.toList []) 0) (qwe (qnb (qca os.toList []) (sh+1)) (sh+1)) false) false=true from hok)
     obtain ⟨hh,ht⟩:=qhb hok';rw [qda] at hob;cases ho0:os.toList[sh]? with
     | none=>rw [ho0] at hob; exact hob.elim
     | some o0 =>
     rw [ho0,zao] at hob;have hoA:os[sh]? = some o0:=by rw [← Array.getElem?_toList]; exact ho0
     have hsz0:=(Array.getElem?_eq_some_iff.1 hoA).1;have hlast:(os.toList.take (sh+1))[sh]? = some o0:=by rw [List.getElem?_take,if_pos (by omega)]; exact ho0
     generalize hxe:(⟨hid,c,os,H,qta os.toList sh,qca os.toList [],fun T H'=>zgT o0 ⟨hid,c,os,H,[],[],fun T H'=>go ⟨⟨s.fn,T,.ops os (qnb os.toList (Nat.succ sh))::k,s.defers,s.roundOf⟩::rest,H'⟩⟩ T H'⟩:zcy)=x at hob;have hxc:x.c=c:=by rw [← hxe]
     have zgV:x.hid=hid:=by rw [← hxe]
     have hxo:x.os=os:=by rw [← hxe]
     have hxH:x.H=H:=by rw [← hxe]
     have hxh:x.hd=qta os.toList sh:=by rw [← hxe]
     have hxm:x.ms=qca os.toList []:=by rw [← hxe]
     have hxf:x.fin=fun T H'=>zgT o0 ⟨hid,c,os,H,[],[],fun T H'=>go ⟨⟨s.fn,T,.ops os (qnb os.toList (Nat.succ sh))::k,s.defers,s.roundOf⟩::rest,H'⟩⟩ T H':=by rw [← hxe]
     obtain ⟨TF,Fs,hs,hFa,hfin⟩:=q0n (x:=x) (hxc▸hc) _ _ _ _ _ (by rw [hxH]; exact fun n e h _=>h) hob
     rw [hxf] at hfin;obtain ⟨hnm,hgu,v0,e0,hgood,hfin⟩:=j5e (x:=⟨hid,c,os,H,[],[],fun T H'=>go ⟨⟨s.fn,T,.ops os (qnb os.toList (Nat.succ sh))::k,s.defers,s.roundOf⟩::rest,H'⟩⟩) hfin;replace hfin:(go ⟨⟨s.fn,zbU TF o0.dst v0,.ops os (qnb os.toList (sh+1))::k,s.defers,s.roundOf⟩::rest,hs (qta os.toList sh).length++[e0]⟩).Ob D S:=hfin;replace hgood:qcj c.P c.glob (zas (qyd hid) H) os o0 TF (.run v0 [e0] (hs (qta os.toList sh).length).length []):=hgood;rw [qsc] at hFa hfin hxh hgood;have zeP:(os.toList.take sh).length=sh:=by rw [List.length_take,Array.length_toList,Nat.min_eq_left (by omega)]
     rw [qad,zeP] at hfin;rw [zeP] at hgood;obtain ⟨zg0,hdstL⟩:=qlh _ _ _ _ _ (by rw [qsc] at hh; exact hh) sh o0 hlast
     have hstep:step B.P (lone fr (frs++B.cs) w)=.next (lone (fr.atR ⟨fr.tmps,fr.defers⟩ (.inRegion os (Region.linearise.go .any os os.size (w.tape w.drawn (.order fr.fn id)) (Array.replicate os.size false) [])::k')) (frs++B.cs) { w with drawn:=w.drawn+1 }):=by
      conv=>lhs; rw [qvb hF.mode,hft]
      rw [stepR_region_draw];simp only [Region.schedule,hP,hc.prog.mixed,Bool.true_or,if_true,Region.linearise]
     refine .step hstep ?_
     have hH':zac B.P B.O B.w0 β H { w with drawn:=w.drawn+1 }:=hH.sameHeap rfl rfl rfl rfl
     generalize ({ w with drawn:=w.drawn+1 }:World)=w1 at hH'
     have hlist:∀ j,(Array.replicate os.size false).getD j false=false:=by
      intro j;rw [Array.getD_eq_getD_getElem?,Array.getElem?_replicate];split <;> rfl
     have hI:zhV x sh o0 v0 e0 TF hs B.O B.w0 (Array.replicate os.size false) β fr.tmps w1:=by
      refine ⟨fun _ => ?_,fun h=>by rw [hlist] at h; cases h⟩
      have zda:fr.tmps.size=s.tmps.length:=by have:=qra hF.tmps; simpa using this
      refine ⟨by simp [hxo],by rw [zda,hFa.zdn],fun t _ ht => ?_,⟨0,Nat.zero_le _,fun j o _ _ => ?_,?_⟩,fun i m hi => ?_,fun i _=>hlist i,hxc▸hgl▸hG.glob⟩
      . rw [hFa.same t (fun o ho hd => ?_) β]
        . have:=qne (glob:=fun _=>none) (a:=⟨fr.tmps,fr.defers⟩) hF.tmps (fun _ _ h=>by cases h) (.tmp t)
          have e:evS (fun _=>none) s.tmps (.tmp t)=zbg s.tmps t:=by
           show zah (nth s.tmps t) qsa (fun v=>v)=_;unfold zbg; cases nth s.tmps t <;> rfl
          rw [e] at this; exact this
        . obtain ⟨j,hj⟩:=List.mem_iff_getElem?.1 ho;have:=ht j o (by rw [hxo]; exact hj) hd
          rw [hlist] at this; cases this
      . rw [hlist]; simp
      . rw [hFa.zero,hxc,← hP]; exact fun _=>hH'
      . rw [hlist] at hi; cases hi
     have hun:∀ k,unl (Array.replicate os.size false) k<=k:=by
      intro k;induction k with
      | zero=>exact Nat.le_refl _
      | succ k ih =>
        show unl _ k+_<=k+1;split <;> omega
     have zdU:∀ {l:Array Bool} {i j:Nat},l.size=os.size->i<os.size->(l.setIfInBounds i true).getD j false=if i=j then true else l.getD j false:=by
      intro l i j hsz hi;by_cases hij:i=j
      . subst hij; rw [if_pos rfl]; simp [Array.getD_eq_getD_getElem?,hsz,hi]
      . rw [if_neg hij,getD_set_ne false hij]
     have hsteps:=qzj (os:=os) (s:=sh+1) (P:=c.P) (Inv:=fun l β ts w=>zhV x sh o0 v0 e0 TF hs B.O B.w0 l β ts w) he ht fr fr.defers k' (frs++B.cs)
      (fun h=>by obtain ⟨_,_,_,h⟩:=h.any; rw [← hxo]; exact h.size) (fun h=>by obtain ⟨_,_,_,h⟩:=h.any; exact h.tail) (fun h=>by obtain ⟨_,_,_,h⟩:=h.any; rw [← hxo]; exact h.closed)
      (fun {l β ts w i} h hi his rest=>by
       obtain ⟨ex',O',w',hCC⟩:=h.any;have zfw:l.size=os.size:=by rw [← hxo]; exact hCC.size
       obtain ⟨zgW,o,ho,hready⟩:=mem_ready.1 hi;have hio:=(Array.getElem?_eq_some_iff.1 ho).1;have zdS:l.getD i false=false:=by rw [qia (by rw [zfw]; exact hio)]; exact zgW
       rcases Nat.lt_or_ge i sh with hlt | hge
       ·
        cases hls:l.getD sh false with
        | false =>
          have:=qam (x:=x) (s:=sh) (tl:=sh+1) (Nat.le_succ _) (ex:=none) (fun _ h=>by cases h) (by rw [hxo]; exact he) (by rw [hxo]; exact hh) (by rw [hxo]; exact hFa) (by rw [hxo]; exact hxh) (by rw [hxo]; exact hxm) (h.not hls) (by rw [hxo]; exact hi) hlt fr fr.defers rest k' (frs++B.cs)
          rw [hxo,hxc] at this;obtain ⟨β',ts',w',h1,h2,_,h3⟩:=this;refine ⟨β',ts',w',h1,⟨fun _=>h2,fun h4 => ?_⟩,h3⟩;rw [zdU zfw hio,if_neg (by omega),hls] at h4; cases h4
        | true =>
          obtain ⟨O1,w1,ll,β1,hC,h5,h6,h7,h8,h9,h10,h11⟩:=h.yes hls;have:=qam (x:=x) (s:=sh) (tl:=sh+1) (Nat.le_succ _) (ex:=o0.dst) (fun t ht=>⟨sh,o0,Nat.le_refl _,by rw [hxo]; exact hlast,ht⟩) (by rw [hxo]; exact he) (by rw [hxo]; exact hh) (by rw [hxo]; exact hFa) (by rw [hxo]; exact hxh) (by rw [hxo]; exact hxm) hC (by rw [hxo]; exact hi) hlt fr fr.defers rest k' (frs++B.cs)
          rw [hxo,hxc] at this;obtain ⟨β',ts',w',h1,h2,h12,h3⟩:=this;refine ⟨β',ts',w',h1,⟨fun h4 => ?_,fun _=>⟨O1,w1,ll,β1,h2,h5,h6,h7,Val.le_trans h8 h1,h9,h10,fun d hd hdl => ?_⟩⟩,h3⟩
          . rw [zdU zfw hio,if_neg (by omega),hls] at h4; cases h4
          . rw [h12 d hd];exact h11 d hd (by rw [hC.tsz,← h2.tsz]; exact hdl)
       ·
        have hish:i=sh:=by omega
        subst hish;rw [hoA] at ho; cases ho;have hC:=h.not zdS;obtain ⟨cc,hcl,hcm,hHc⟩:=hC.heap;replace hHc:=hHc true;rw [hxc] at hHc;rw [hxo] at hcl;have zbG:AgreeOn β TF ts (qsb os o0):=by
         refine ⟨by rw [hC.tsz],fun t ht => ?_⟩
         refine hC.tmps t (fun h=>by cases h) fun j o' ho' hd => ?_
         rw [hxo,List.getElem?_take] at ho';split at ho'
         . obtain ⟨m,hm,hb⟩:=zg0 j o' t (by rw [List.getElem?_take,if_pos (by omega)]; exact ho') hd ht
           rw [← hxo] at hm;exact qxb hC.closed (by rw [hxo]; exact hi) hm hb
         . cases ho'
        obtain ⟨hw,hrun⟩:=hgood β ts zbG;have hG0:HeapRel0 c.P B.O B.w0 β (zas (qyd hid) H) w:=hHc.toHeapRel0.less fun n e hn=>by
         rw [qxa,List.getElem?_map] at hn;cases hx:H[n]? with
         | none=>rw [hx] at hn; cases hn
         | some e1 =>
           rw [hx] at hn;have hn:qyd hid e1=e:=Option.some.inj hn;unfold qyd at hn;cases hhe:hid e1 with
           | true=>rw [hhe] at hn; exact .inr hn.symm
           | false =>
             rw [hhe] at hn;have hn:e1=e:=hn;subst hn;exact .inl (hFa.stable cc hcl n e1 (by rw [hxH]; exact hx) (by rw [zgV]; exact hhe))
        have hlen:(hs cc).length<=(hs i).length:=by
         rw [zeP] at hcl;have:=j9i hFa (a:=cc) (i - cc) (by rw [zeP]; omega)
         rwa [show cc+(i - cc)=i from by omega] at this
        have hfree:Free β (hs i).length [e0]:=fun j hj=>hHc.bound _ (by omega)
        obtain ⟨y,w',β',hv,hE,_,hst⟩:=hrun B.O B.w0 w hG0 (by have:=hC.glob; rw [hxc] at this; exact this) hfree (fr.atR ⟨ts,fr.defers⟩ (.inRegion os (i::rest)::k')) (frs++B.cs) i rest k' rfl rfl hoA rfl
        rw [Frame.finish_atR,hoA] at hst;obtain ⟨hown,hrel,ll,hll,hblk⟩:=hE.made 0 e0 rfl;rw [Nat.add_zero] at hrel hll;replace hblk:w.heap.size<=ll.blk:=by
         rcases hblk with h | ⟨_,_,h,_⟩
         . exact h
         . simp at h
        have hβ':β'=β.upd (hs i).length ll:=by
         funext n;unfold Val.upd;split
         . rename_i hn; subst hn; exact hll
         . rename_i hn; exact hE.dom n (by simp; omega)
        rw [hβ'] at hv hrel;have hHc':=hHc.unnamed hE;have hlw:ll.blk<w'.heap.size:=zaz.lt (β:=β.upd (hs i).length ll) hrel hown (Val.upd_same _ _ _);have hst':Steps c.P (lone (fr.atR ⟨ts,fr.defers⟩ (.inRegion os (i::rest)::k')) (frs++B.cs) w) (lone (fr.atR (Act.put ⟨ts,fr.defers⟩ o0.dst y) (.inRegion os rest::k')) (frs++B.cs) w'):=hst;rw [q1r] at hst';refine ⟨β,_,w',Val.le_refl β,⟨fun h4 => ?_,fun _=>⟨zkN β (hs cc),w',ll,β,⟨by simp [hC.size],by rw [qej]; exact hC.tsz,fun t hext ht => ?_,⟨cc,by rw [hxo]; exact hcl,fun j o' ho' hm => ?_,fun q => ?_⟩,?_,fun j hj => ?_,hC.glob⟩,hlw,?_,Nat.le_trans hHc.keep.size hblk,Val.le_refl β,hxc▸hrel,hown,fun d hd hdl => ?_⟩⟩,hst'⟩
        . rw [zdU zfw hio,if_pos rfl] at h4; cases h4
        . rw [q5g,if_neg (fun h=>hext h.1)];refine hC.tmps t (fun h=>by cases h) fun j o' ho' hd => ?_
          have:=ht j o' ho' hd;rw [zdU zfw hio] at this;have hj:=(List.getElem?_eq_some_iff.1 ho').1;rw [hxo,zeP] at hj
          rwa [if_neg (by omega)] at this
        . rw [zdU zfw hio];have hj:=(List.getElem?_eq_some_iff.1 ho').1;rw [hxo,zeP] at hj;rw [if_neg (by omega)]
          exact hcm j o' ho' hm
        . rw [hxc];cases q with
          | true=>exact hHc'
          | false=>exact hHc'.zcf
        . intro j m hj hm b hb;rw [zdU zfw hio] at hj ⊢;split
          . rfl
          . by_cases hij:i=j
            . subst hij; exact qxb hC.closed (by rw [hxo]; exact hi) hm hb
            . rw [if_neg hij] at hj; exact hC.closed j m hj hm b hb
        . rw [zdU zfw hio,if_neg (by omega)]; exact hC.tail j hj
        . rintro (⟨n,e,l',hn,ho',hl',hb⟩ | ⟨n,mm,⟨k1,k2,k3⟩,hn,hm⟩)
          . have:=(hHc.entries n e hn).lt ho' hl';omega
          . obtain ⟨_,_,_,_,_,_,hb,_⟩:=(hHc.zcG n mm hn).own _ _ _ _ hm;have:=(Array.getElem?_eq_some_iff.1 hb).1;omega
        . rw [q5g,if_pos ⟨hd,by rw [qej] at hdl; exact hdl⟩]
          exact hv)
     obtain ⟨β2,ts2,w2,l2,hle,hI2,hall,hst⟩:=hsteps os.size (w.tape w.drawn (.order fr.fn id)) _ β fr.tmps w1 hI (hun _);rw [← hP] at hst;obtain ⟨O1,w3,ll,β1,hC,h5,h6,h7,h8,h9,h10,h11⟩:=hI2.yes (hall sh (by omega) hsz0)
     obtain ⟨cc,hcl,hcm,hH2⟩:=hC.heap;rw [hxo] at hcl;have hend:hs cc=hs sh:=by
      rw [zeP] at hcl;have:=qxf hFa (a:=cc) (sh - cc) (by rw [zeP]; omega) fun j o h1 h2 ho=>by
       cases hmo:q9b x.c.P o with
       | false=>rfl
       | true =>
         exfalso;have hj:=(List.getElem?_eq_some_iff.1 ho).1;rw [zeP] at hj;have:=(hcm j o (by rw [hxo]; exact ho) hmo).1 (hall j (by omega) (by omega))
         omega
      rw [show cc+(sh - cc)=sh from by omega] at this
      exact this
     rw [hend,hxc] at hH2;have hHt:zac c.P B.O B.w0 β2 (hs sh) w2:=hH2 true;have hHf:zac c.P O1 w3 β2 (hs sh) w2:=hH2 false;have hmono:=Val.ze6 h8 (hs sh).length ll;have zjN:∀ m,e0≠.mem m:=fun m hm=>by
      subst hm;have h:=h9.1;rw [Val.upd_same] at h; cases h
     have hrel:zaz c.P (β2.upd (hs sh).length ll) w2 (hs sh).length e0:=by
      rw [hxc] at h9;refine zaz.kept h9 hmono (fun _ l' hl' => ?_) zjN;rw [Val.upd_same] at hl'; cases hl';exact hHf.keep.block _ h5 h6
     obtain ⟨zg7,zjR⟩:=hHt.snoc ll e0 (by
      cases e0 with
      | row=>cases h10
      | own=>exact hrel
      | loop=>exact hrel
      | deferred=>exact hrel
      | gone=>trivial
      | mem m=>exact absurd rfl (zjN m)
      | obj=>exact hrel) (fun _=>⟨.inl h7,fun n e' l' hn ho' hl' hb=>by
        rcases hHf.fresh n e' l' hn ho' hl' with h | h
        . omega
        . exact h6 (hb▸h)⟩)
      zjN (fun _ n m hm=>absurd hm (qnl (by rw [qsc,zeP] at hnm; exact hnm) n m))
     rw [← hP] at zg7;have hle2:=Val.le_trans hle zjR;refine .of_steps hst ⟨_,.refl _ _,.inl ⟨_,hfin,⟨β2.upd (hs sh).length ll,_,frs,w2,rfl,⟨⟨hF.fn,?_,?_,SD.zan hle2 hF.defers,rfl,hF.kind,hF.round.mono hle2⟩,hR.mono hle2⟩,zg7,⟨by rw [hgl,← hxc]; exact hC.glob.mono zjR,Val.le_trans hG.fix hle2⟩,Eq.trans (qac (f:=fr) (f':=fr.atR ⟨ts2,fr.defers⟩ _) rfl) hl⟩⟩⟩
     ·
      refine q4f (show ts2.toList.length=_ by rw [Array.length_toList,qmh]; exact hC.tsz) fun i v hv => ?_
      have hil:i<ts2.size:=by
       have:=(List.getElem?_eq_some_iff.1 hv).1;rw [qmh] at this;rw [hC.tsz]; exact this
      have hg:zbg (zbU TF o0.dst v0) i=v:=by unfold zbg; rw [qda,hv]; rfl
      refine ⟨ts2.getD i undef,?_,?_⟩
      . show ts2.toList[i]? = some (ts2.getD i undef);rw [Array.getElem?_toList];exact q8f hil rfl
      . by_cases hd:o0.dst=some i
        . rw [hd,qnh (by rw [← hC.tsz]; exact hil)] at hg
          rw [← hg];exact SV.zav hmono _ (h11 i hd hil)
        . rw [qsd hd] at hg;rw [← hg];refine SV.zav zjR _ (hC.tmps i hd fun j o ho _ => ?_);have hj:=(List.getElem?_eq_some_iff.1 ho).1;rw [hxo,zeP] at hj;exact hall j (by omega) (by omega)
     . exact ⟨⟨rfl,zbX.drop os (sh+1)⟩,hkk.mono hle2⟩
theorem q2r {f:Nat->Oper->List (List Nat)} {e:List Nat}:∀ (ops:List Oper) (i0:Nat) (j:Nat) (o:Oper),ops[j]? = some o->e∈f (i0+j) o->e∈qyg f ops i0
 | [],_,_,_,h,_=>by simp at h
 | o'::ops,i0,0,o,h,he=>by
   simp at h; subst h;show e∈app (f i0 o') (qyg f ops (Nat.succ i0));rw [q7a,List.mem_append];exact .inl he
 | o'::ops,i0,j+1,o,h,he=>by
   show e∈app (f i0 o') (qyg f ops (Nat.succ i0));rw [q7a,List.mem_append];exact .inr (q2r ops (i0+1) j o (by simpa using h) (by rw [show i0+1+j=i0+(j+1) from by omega]; exact he))
theorem q37 {e:List Nat} {l:List (List Nat)} (h:e∈l):e∈q4v l:=by
 cases l with
 | nil=>cases h
 | cons=>exact h
theorem q47 {l:List (List Nat)} (h:l=[]):[]∈q4v l:=by subst h; exact List.mem_cons_self
theorem q3r {f:Nat->Oper->List (List Nat)}:∀ (ops:List Oper) (i0:Nat),(∀ (j:Nat) (o:Oper),ops[j]? = some o->f (i0+j) o=[])->qyg f ops i0=[]
 | [],_,_=>rfl
 | o'::ops,i0,h=>by
   show app (f i0 o') (qyg f ops (Nat.succ i0))=[];rw [q7a,show f i0 o'=[] from h 0 o' (by simp),q3r ops (i0+1) (fun j o ho=>by rw [show i0+1+j=i0+(j+1) from by omega]; exact h (j+1) o (by simpa using ho))]; rfl
theorem zbO {α:Type} {p:α->Bool} {l:List α}:zaO p l=true↔∀ x∈l,p x=true:=by
 induction l with
 | nil=>exact ⟨fun _ _ h=>by simp at h,fun _=>rfl⟩
 | cons a r ih =>
   constructor
   . intro h;obtain ⟨h1,h2⟩:=qhb (show zab (p a) (zaO p r) false=true from h)
     intro x hx;rcases List.mem_cons.1 hx with rfl | hx
     . exact h1
     . exact ih.1 h2 x hx
   . intro h;show zab (p a) (zaO p r) false=true;rw [h a List.mem_cons_self,zak];exact ih.2 fun x hx=>h x (List.mem_cons_of_mem _ hx)
theorem qey {os:Array Oper}:∀ (fuel t:Nat) (listed:Array Bool) (b:Nat),listed.size=os.size->(∀ j,j<os.size->zbH b j=listed.getD j false)->(∀ j,os.size<=j->zbH b j=false)->Region.linearise.go .any os fuel t listed []∈qlg os.toList fuel b:=by
 intro fuel;induction fuel with
 | zero=>intro t listed b _ _ _; exact List.mem_cons_self
 | succ fuel ih =>
   intro t listed b hsz hb hb2;have hrd:∀ (i:Nat) (o:Oper),os[i]? = some o->(i∈Region.ready .any os listed↔zbH b i=false/\zht b o=true):=by
    intro i o ho;have hio:=(Array.getElem?_eq_some_iff.1 ho).1;rw [mem_ready,hb i hio,qia (by rw [hsz]; exact hio)]
    constructor
    . rintro ⟨h1,o',ho',hall⟩;rw [ho] at ho'; cases ho';refine ⟨h1,zbO.2 fun e he => ?_⟩;cases hbi:Region.binds .any e with
      | false=>rfl
      | true =>
        rw [zak];have hl:=hall e (by simpa using he) hbi
        rcases Nat.lt_or_ge e.on os.size with h | h
        . rw [hb _ h]; exact hl
        . rw [Array.getD_eq_getD_getElem?,Array.getElem?_eq_none (by omega)] at hl; cases hl
    . rintro ⟨h1,h2⟩;refine ⟨h1,o,ho,fun e he hbi => ?_⟩;have:=zbO.1 h2 e (by simpa using he)
      rw [hbi,zak] at this;rcases Nat.lt_or_ge e.on os.size with h | h
      . rw [← hb _ h]; exact this
      . rw [hb2 _ h] at this; cases this
   show _∈q4v (qyg (fun i o=>zab (zbH b i) [] (zab (zht b o) (zas (fun l=>i::l) (qlg os.toList fuel (Nat.lor b (Nat.pow 2 i)))) [])) os.toList 0);by_cases hne:Region.ready .any os listed=[]
   . rw [qdj hne];refine q47 (q3r _ _ fun j o ho => ?_);rw [Nat.zero_add];rw [Array.getElem?_toList] at ho;have hn:¬ (j∈Region.ready .any os listed):=by rw [hne]; simp
     rw [hrd j o ho] at hn;cases h1:zbH b j with
     | true=>rfl
     | false =>
       cases h2:zht b o with
       | false=>rfl
       | true=>exact absurd ⟨h1,h2⟩ hn
   . obtain ⟨i,hi,t',heq⟩:=qag hne fuel t;obtain ⟨_,o,ho,_⟩:=mem_ready.1 hi;have hio:=(Array.getElem?_eq_some_iff.1 ho).1;obtain ⟨h1,h2⟩:=(hrd i o ho).1 hi;rw [heq];refine q37 (q2r _ 0 i o (by rw [Array.getElem?_toList]; exact ho) ?_)
     rw [Nat.zero_add,h1,h2,zam,zak,qxa,List.mem_map];have hbit:∀ j,zbH (Nat.lor b (Nat.pow 2 i)) j=(zbH b j || decide (i=j)):=by
      intro j;show Nat.testBit (b ||| 2 ^ i) j=_;rw [Nat.testBit_or,Nat.testBit_two_pow]; rfl
     refine ⟨_,ih t' _ _ (by simp [hsz]) (fun j hj => ?_) (fun j hj => ?_),rfl⟩
     . rw [hbit];by_cases hij:i=j
       . subst hij;simp [Array.getD_eq_getD_getElem?,hsz,hio]
       . rw [getD_set_ne false hij,hb j hj]; simp [hij]
     . rw [hbit,hb2 j hj];have:i≠j:=by omega
       simp [this]
theorem qcq {f:List Nat->Tree} {e:List Nat}:∀ (l:List (List Nat)) (i:Nat),e∈l->∃ z,∀ (D:SV->List SO->Prop) (S:SS->Prop),(qfh f l z i).Ob D S->(f e).Ob D S:=by
 intro l;have key:∀ (l:List (List Nat)) (i:Nat),e∈l->∃ z,i<=z/\∀ (D:SV->List SO->Prop) (S:SS->Prop),(qfh f l z i).Ob D S->(f e).Ob D S:=by
  intro l;induction l with
  | nil=>intro i h; cases h
  | cons a r ih =>
    intro i h;cases r with
    | nil =>
      have:e=a:=by simpa using h
      subst this;exact ⟨i,Nat.le_refl _,fun D S h=>h⟩
    | cons a2 r =>
      by_cases he:e=a
      . subst he;exact ⟨i,Nat.le_refl _,fun D S h=>h.1 (decide_eq_true rfl)⟩
      . obtain ⟨z,hz,hf⟩:=ih (i+1) ((List.mem_cons.1 h).resolve_left he);exact ⟨z,by omega,fun D S h=>hf D S (h.2 (decide_eq_false (by omega)))⟩
 intro i h;obtain ⟨z,_,hz⟩:=key l i h;exact ⟨z,hz⟩
theorem qdq {os:Array Oper}:∀ {idx:List Nat},(∀ i∈idx,∃ o,os[i]? = some o)->zbX os idx (opsE os.toList idx)
 | [],_=>trivial
 | i::is,h=>by
   obtain ⟨o,ho⟩:=h i List.mem_cons_self;show zbX os (i::is) (zah (nth os.toList i) (opsE os.toList is) fun o=>o::opsE os.toList is);rw [qda,Array.getElem?_toList,ho];exact ⟨ho,qdq fun j hj=>h j (List.mem_cons_of_mem _ hj)⟩
theorem jld {os:Array Oper}:∀ (fuel t:Nat) (listed:Array Bool),∀ i∈Region.linearise.go .any os fuel t listed [],∃ o,os[i]? = some o:=by
 intro fuel;induction fuel with
 | zero=>intro t listed i hi; simp [Region.linearise.go] at hi
 | succ fuel ih =>
   intro t listed i hi;by_cases hne:Region.ready .any os listed=[]
   . rw [qdj hne] at hi; cases hi
   . obtain ⟨i0,hi0,t',heq⟩:=qag hne fuel t;rw [heq] at hi;rcases List.mem_cons.1 hi with rfl | hi
     . obtain ⟨_,o,ho,_⟩:=mem_ready.1 hi0;exact ⟨o,ho⟩
     . exact ih _ _ i hi
theorem qek (hc:zaC c) (hP:B.P=c.P) {id:Nat} {os:Array Oper} {k:List zaK} {s:SF} {rest:List SF} {H:List SO} {β:Val} {fr:Frame} {frs:List Frame} {w:World} (hF:zar β s fr) (hR:zat β rest frs) (hH:zac B.P B.O B.w0 β H w) (hG:zcD B β)
  (hl:((fr::frs).getLast?).map (·.fn)=some B.fn0) (htd:s.todo=.code (.region id os true)::k) (hob:(q5v os k s rest c H go).Ob D S):After B go D S (lone fr (frs++B.cs) w):=by
 have zbf:=hF.todo;rw [htd] at zbf;cases hft:fr.todo with
 | nil=>rw [hft] at zbf; exact zbf.elim
 | cons y k' =>
   rw [hft] at zbf;obtain ⟨hxy,hkk⟩:=zbf;cases y <;> first | exact hxy.elim | skip
   rename_i cd;have hcd:cd=.region id os true:=hxy;subst hcd;have hstep:step B.P (lone fr (frs++B.cs) w)=.next (lone (fr.atR ⟨fr.tmps,fr.defers⟩ (.inRegion os (Region.linearise.go .any os os.size (w.tape w.drawn (.order fr.fn id)) (Array.replicate os.size false) [])::k')) (frs++B.cs) { w with drawn:=w.drawn+1 }):=by
    conv=>lhs; rw [qvb hF.mode,hft]
    rw [stepR_region_draw];simp only [Region.schedule,hP,hc.prog.mixed,Bool.true_or,if_true,Region.linearise]
   refine .step hstep ?_
   have hH':zac B.P B.O B.w0 β H { w with drawn:=w.drawn+1 }:=hH.sameHeap rfl rfl rfl rfl
   have hlist:∀ j,(Array.replicate os.size false).getD j false=false:=by
    intro j;rw [Array.getD_eq_getD_getElem?,Array.getElem?_replicate];split <;> rfl
   have hmem:=qey (os:=os) os.size (w.tape w.drawn (.order fr.fn id)) (Array.replicate os.size false) 0 (by simp) (fun j _=>by rw [hlist]; exact Nat.zero_testBit j) (fun j _=>Nat.zero_testBit j)
   have hin:=jld (os:=os) os.size (w.tape w.drawn (.order fr.fn id)) (Array.replicate os.size false);generalize Region.linearise.go .any os os.size (w.tape w.drawn (.order fr.fn id)) (Array.replicate os.size false) []=idx at hmem hin;generalize ({ w with drawn:=w.drawn+1 }:World)=w1 at hH'
   have hmem:idx∈qlg os.toList (zay os.toList) 0:=by rw [qha,Array.length_toList]; exact hmem
   obtain ⟨z,hz⟩:=qcq (f:=fun idx=>go ⟨s.to (.ops os (opsE os.toList idx)::k)::rest,H⟩) _ 0 hmem;have hgo:=hz D S (hob fun _=>z);refine ⟨_,.refl _ _,.inl ⟨_,hgo,⟨β,_,frs,w1,rfl,⟨hF.to ⟨⟨rfl,qdq hin⟩,hkk⟩,hR⟩,hH',hG,?_⟩⟩⟩;have:=qac (f:=fr) (f':=fr.atR ⟨fr.tmps,fr.defers⟩ (.inRegion os idx::k')) (frs:=frs) rfl;rw [this]; exact hl
end
end
noncomputable section
variable {α:Type}
theorem q9s {listed:Array Bool} {s:Nat}:∀ {n:Nat},(∀ j,j<n->listed.getD j true=decide (j<s))->unl listed n=n - s
 | 0,_=>by simp [unl]
 | n+1,h=>by
   show unl listed n+(if listed.getD n true then 0 else 1)=_
   rw [q9s fun j hj=>h j (by omega),h n (by omega)]
   by_cases c:n<s
   . simp [c]; omega
   . simp [c]; omega
section
variable {x:zcn} {s:Nat} {T TF:List SV} {Fs:List Fct} {slots sets:List (Nat × SO)} {O:Nat->Prop} {w0:World}
theorem qlv (he:qmb x.os.toList 0=true) (hh:qid x.os (qta x.os.toList s) (qta x.os.toList s) (qca x.os.toList []) 0=true) (ht:qcr (qca x.os.toList []) s=true) (hF:Facts x (x.os.toList.take s) (qca x.os.toList []) T 0 [] TF Fs slots sets)
  (fr:Frame) (ds:List Deferred) (k:List Item) (cs:List Frame):∀ (fuel t:Nat) (listed:Array Bool) (β:Val) (ts:Array Value) (w:World),zfI x s TF slots sets O w0 listed β ts w->unl listed x.os.size=fuel ->
  ∃ β' ts' w' listed' t',β.le β'/\zfI x s TF slots sets O w0 listed' β' ts' w'/\(∀ j,j<s->j<x.os.size->listed'.getD j false=true) /\
    Steps x.c.P (lone (fr.atR ⟨ts,ds⟩ (.inRegion x.os (Region.linearise.go .any x.os fuel t listed [])::k)) cs w) (lone (fr.atR ⟨ts',ds⟩ (.inRegion x.os (Region.linearise.go .any x.os (x.os.size - s) t' listed' [])::k)) cs w'):=by
 have htm:∀ (i m:Nat),s<=i->(qca x.os.toList [])[i]? = some m->∀ j,j<s->m.testBit j=true:=by
  intro i m hi hm j hj;have:m∈qnb (qca x.os.toList []) s:=by
   rw [qad];refine List.mem_iff_getElem?.2 ⟨i - s,?_⟩;rw [List.getElem?_drop,show s+(i - s)=i from by omega]; exact hm
  exact qef (zbO.1 ht m this) hj
 intro fuel;induction fuel with
 | zero =>
   intro t listed β ts w hI hf;have hall:∀ j,j<x.os.size->listed.getD j true=true:=by
    intro j hj;cases h:listed.getD j true with
    | true=>rfl
    | false=>have:=qzk hj h; omega
   have hs:x.os.size<=s:=by
    rcases Nat.lt_or_ge s x.os.size with h | h
    . have h1:=hI.tail s (Nat.le_refl _);rw [qia (by rw [hI.size]; exact h),hall s h] at h1; cases h1
    . exact h
   refine ⟨β,ts,w,listed,t,Val.le_refl β,hI,fun j _ hj=>by rw [qia (by rw [hI.size]; exact hj)]; exact hall j hj,?_⟩
   rw [show x.os.size - s=0 from by omega]
   exact .refl _ _
 | succ fuel ih =>
   intro t listed β ts w hI hf;by_cases hall:∀ j,j<s->j<x.os.size->listed.getD j false=true
   . refine ⟨β,ts,w,listed,t,Val.le_refl β,hI,hall,?_⟩;have hdec:∀ j,j<x.os.size->listed.getD j true=decide (j<s):=by
      intro j hj;rw [← qia (by rw [hI.size]; exact hj)]
      by_cases hjs:j<s
      . rw [hall j hjs hj]; simp [hjs]
      . rw [hI.tail j (by omega)]; simp [hjs]
     rw [show x.os.size - s=fuel+1 from by rw [← hf]; exact (q9s hdec).symm]
     exact .refl _ _
   ·
    have hex:∃ i,i<s/\i<x.os.size/\listed.getD i true=false/\∀ j,j<i->listed.getD j false=true:=by
     have hgen:∀ n,(∃ i,i<n/\i<s/\i<x.os.size/\listed.getD i true=false/\∀ j,j<i->listed.getD j false=true)\/(∀ j,j<n->j<s->j<x.os.size->listed.getD j false=true):=by
      intro n;induction n with
      | zero=>exact .inr fun j hj=>by omega
      | succ n ih2 =>
        rcases ih2 with ⟨i,h1,h2⟩ | h
        . exact .inl ⟨i,by omega,h2⟩
        . by_cases hn:n<s/\n<x.os.size/\listed.getD n false=false
          . refine .inl ⟨n,by omega,hn.1,hn.2.1,?_,fun j hj=>h j hj (by omega) (by omega)⟩
            rw [← qia (by rw [hI.size]; exact hn.2.1)]; exact hn.2.2
          . refine .inr fun j hj h1 h2 => ?_
            by_cases hjn:j=n
            . subst hjn;cases hx:listed.getD j false with
              | true=>rfl
              | false=>exact absurd ⟨h1,h2,hx⟩ hn
            . exact h j (by omega) h1 h2
     rcases hgen s with ⟨i,_,h⟩ | h
     . exact ⟨i,h⟩
     . exact absurd (fun j h1 h2=>h j h1 h1 h2) hall
    obtain ⟨i0,h1,h2,h3,h4⟩:=hex;have hin:=qoe he h2 h3 h4;obtain ⟨i,hi,t',heq⟩:=qag (List.ne_nil_of_mem hin) fuel t;have hio:i<x.os.size:=by
     obtain ⟨_,o,ho,_⟩:=mem_ready.1 hi;exact (Array.getElem?_eq_some_iff.1 ho).1
    have his:i<s:=by
     rcases Nat.lt_or_ge i s with h | h
     . exact h
     . exfalso;obtain ⟨_,hml,_⟩:=qcd x.os.toList [];have hlt:i<(qca x.os.toList []).length:=by rw [hml]; simpa using hio
       have:=qxb hI.closed hi (List.getElem?_eq_getElem hlt) (htm i _ h (List.getElem?_eq_getElem hlt) i0 h1);rw [qia (by rw [hI.size]; exact h2),h3] at this; cases this
    obtain ⟨β1,ts1,w1,hle,hI1,hst⟩:=qgu he hh hF hI hi his fr ds (Region.linearise.go .any x.os fuel t' (listed.setIfInBounds i true) []) k cs;have hu:=qti (mem_ready.1 hi).1 x.os.size;rw [if_pos hio] at hu;obtain ⟨β2,ts2,w2,l2,t2,hle2,hI2,zdZ,zdT⟩:=ih t' (listed.setIfInBounds i true) β1 ts1 w1 hI1 (by omega)
    exact ⟨β2,ts2,w2,l2,t2,Val.le_trans hle hle2,hI2,zdZ,by rw [heq]; exact hst.trans zdT⟩
end
section
variable {c:Cfg} {B:Base} {go:SS->Tree} {D:SV->List SO->Prop} {S:SS->Prop}
theorem qz0 (hc:zaC c) (hP:B.P=c.P) (hgl:B.glob=c.glob) {id:Nat} {os:Array Oper} {k:List zaK} {s:SF} {rest:List SF} {H:List SO} {β:Val} {fr:Frame} {frs:List Frame} {w:World} (hF:zar β s fr) (hR:zat β rest frs) (hH:zac B.P B.O B.w0 β H w) (hG:zcD B β)
  (hl:((fr::frs).getLast?).map (·.fn)=some B.fn0) (htd:s.todo=.code (.region id os true)::k) {sh:Nat} (hob:(qy3 os sh (qca os.toList []) k s rest c H go).Ob D S):After B go D S (lone fr (frs++B.cs) w):=by
 have zbf:=hF.todo;rw [htd] at zbf;cases hft:fr.todo with
 | nil=>rw [hft] at zbf; exact zbf.elim
 | cons y k' =>
   rw [hft] at zbf;obtain ⟨hxy,hkk⟩:=zbf;cases y <;> first | exact hxy.elim | skip
   rename_i cd;have hcd:cd=.region id os true:=hxy;subst hcd;unfold qy3 at hob;cases he:qmb os.toList 0 with
   | false=>rw [he] at hob; exact hob.elim
   | true =>
   rw [he,zak] at hob;cases hh:qid os (qta os.toList sh) (qta os.toList sh) (qca os.toList []) 0 with
   | false=>rw [hh] at hob; exact hob.elim
   | true =>
   rw [hh,zak] at hob;cases ht:qcr (qca os.toList []) sh with
   | false=>rw [ht] at hob; exact hob.elim
   | true =>
   rw [ht,zak] at hob;cases hsz:Nat.ble sh (zay os.toList) with
   | false=>rw [hsz] at hob; exact hob.elim
   | true =>
     rw [hsz,zak] at hob;have hsz:sh<=os.size:=by
      have:=Nat.le_of_ble_eq_true hsz
      rwa [qha,Array.length_toList] at this
     obtain ⟨TF,Fs,slots,sets,hFa,hfin⟩:=qup (x:=⟨c,os,H,fun T N sets=>.any fun z=>qfh (fun idx=>go ⟨⟨s.fn,T,.ops os (opsE os.toList idx)::k,s.defers,s.roundOf⟩::rest,q3b (app H N) sets []⟩) (qlg os.toList (Nat.sub (zay os.toList) sh) (Nat.sub (Nat.pow 2 sh) 1)) (z 0) 0,none⟩) hc _ _ _ _ 0 hob;replace hfin:∀ z:Nat->Nat,(qfh (fun idx=>go ⟨⟨s.fn,TF,.ops os (opsE os.toList idx)::k,s.defers,s.roundOf⟩::rest,q3b (app H (([]++slots:List (Nat × SO)).map (·.2))) sets []⟩) (qlg os.toList (Nat.sub (zay os.toList) sh) (Nat.sub (Nat.pow 2 sh) 1)) (z 0) 0).Ob D S:=hfin
     simp only [List.nil_append] at hfin;rw [qsc] at hFa;simp only [qoc,List.append_nil,q7a] at hfin;have hstep:step B.P (lone fr (frs++B.cs) w)=.next (lone (fr.atR ⟨fr.tmps,fr.defers⟩ (.inRegion os (Region.linearise.go .any os os.size (w.tape w.drawn (.order fr.fn id)) (Array.replicate os.size false) [])::k')) (frs++B.cs) { w with drawn:=w.drawn+1 }):=by
      conv=>lhs; rw [qvb hF.mode,hft]
      rw [stepR_region_draw];simp only [Region.schedule,hP,hc.prog.mixed,Bool.true_or,if_true,Region.linearise]
     refine .step hstep ?_
     have hH':zac B.P B.O B.w0 β H { w with drawn:=w.drawn+1 }:=hH.sameHeap rfl rfl rfl rfl
     generalize ({ w with drawn:=w.drawn+1 }:World)=w1 at hH'
     have hlist:∀ j,(Array.replicate os.size false).getD j false=false:=by
      intro j;rw [Array.getD_eq_getD_getElem?,Array.getElem?_replicate];split <;> rfl
     have hI:zfI ⟨c,os,H,fun T N sets=>.any fun z=>qfh (fun idx=>go ⟨⟨s.fn,T,.ops os (opsE os.toList idx)::k,s.defers,s.roundOf⟩::rest,q3b (app H N) sets []⟩) (qlg os.toList (Nat.sub (zay os.toList) sh) (Nat.sub (Nat.pow 2 sh) 1)) (z 0) 0,none⟩ sh TF slots sets B.O B.w0 (Array.replicate os.size false) β fr.tmps w1:=by
      have zda:fr.tmps.size=s.tmps.length:=by have:=qra hF.tmps; simpa using this
      refine ⟨by simp,by rw [zda,hFa.zdn],fun t ht => ?_,?_,fun n hn _=>hH'.bound n hn,fun i m hi => ?_,fun i _=>hlist i,hgl▸hG.glob⟩
      . rw [hFa.same t (fun o ho hd => ?_) β]
        . have:=qne (glob:=fun _=>none) (a:=⟨fr.tmps,fr.defers⟩) hF.tmps (fun _ _ h=>by cases h) (.tmp t)
          have e:evS (fun _=>none) s.tmps (.tmp t)=zbg s.tmps t:=by
           show zah (nth s.tmps t) qsa (fun v=>v)=_;unfold zbg; cases nth s.tmps t <;> rfl
          rw [e] at this; exact this
        . obtain ⟨j,hj⟩:=List.mem_iff_getElem?.1 ho;have:=ht j o hj hd;rw [hlist] at this; cases this
      . have zeQ:q5a (Array.replicate os.size false) slots=slots.map fun _=>SO.gone:=by
         unfold q5a;apply List.map_congr_left;intro p _;rw [hlist]; rfl
        have hcu:qjb ⟨c,os,H,fun T N sets=>.any fun z=>qfh (fun idx=>go ⟨⟨s.fn,T,.ops os (opsE os.toList idx)::k,s.defers,s.roundOf⟩::rest,q3b (app H N) sets []⟩) (qlg os.toList (Nat.sub (zay os.toList) sh) (Nat.sub (Nat.pow 2 sh) 1)) (z 0) 0,none⟩ sh slots sets (Array.replicate os.size false)=H++q5a (Array.replicate os.size false) slots:=by
         unfold qjb; rw [hlist]; rfl
        rw [hcu,zeQ,← hP];have hbase:=hH'.toHeapRel0;have hin:∀ (n:Nat) (e:SO),(H++slots.map fun _=>SO.gone)[n]? = some e->H[n]? = some e\/e=SO.gone:=by
         intro n e hn;rcases Nat.lt_or_ge n H.length with h | h
         . rw [List.getElem?_append_left h] at hn; exact .inl hn
         . rw [List.getElem?_append_right h,List.getElem?_map] at hn;right;cases hx:slots[n - H.length]? with
           | none=>rw [hx] at hn; cases hn
           | some p=>rw [hx] at hn; exact (Option.some.inj hn).symm
        refine ⟨fun n e hn => ?_,fun n m e e' l l' hn hm ho ho' => ?_,fun n e l hn ho => ?_,hbase.keep,(hbase.less hin).zcG,(hbase.less hin).zbC⟩
        . rcases hin n e hn with h | rfl
          . exact hbase.entries n e h
          . trivial
        . rcases hin n e hn with h | rfl
          . rcases hin m e' hm with h' | rfl
            . exact hbase.sep n m e e' l l' h h' ho ho'
            . cases ho'
          . cases ho
        . rcases hin n e hn with h | rfl
          . exact hbase.fresh n e l h ho
          . cases ho
      . rw [hlist] at hi; cases hi
     have hun:unl (Array.replicate os.size false) os.size=os.size:=by
      rw [q9s (s:=0) fun j hj=>by rw [Array.getD_eq_getD_getElem?,Array.getElem?_replicate,if_pos hj]; simp]
      omega
     obtain ⟨β2,ts2,w2,l2,t2,hle,hI2,hall,hst⟩:=qlv he hh ht hFa fr fr.defers k' (frs++B.cs) os.size _ _ β fr.tmps w1 hI hun;replace hst:Steps c.P _ _:=hst;rw [← hP] at hst;have zeL:q5a l2 slots=slots.map (·.2):=by
      unfold q5a;apply List.map_congr_left;intro p hp;obtain ⟨j,e⟩:=p;by_cases hj:j<sh/\j<os.size
      . rw [hall j hj.1 hj.2]; rfl
      . exfalso;have h1:=hFa.ge j e hp;rw [List.length_take,Array.length_toList] at h1;exact hj (by omega)
     have hin2:=jld (os:=os) (os.size - sh) t2 l2;have hmem:=qey (os:=os) (os.size - sh) t2 l2 (Nat.sub (Nat.pow 2 sh) 1) hI2.size (fun j hj=>by
      show Nat.testBit (2 ^ sh - 1) j=_;rw [Nat.testBit_two_pow_sub_one];by_cases hjs:j<sh
      . rw [hall j hjs hj]; simp [hjs]
      . rw [hI2.tail j (by omega)]; simp [hjs]) (fun j hj=>by
      show Nat.testBit (2 ^ sh - 1) j=_;rw [Nat.testBit_two_pow_sub_one];by_cases hjs:j<sh
      . exfalso;omega
      . simp [hjs])
     have hmem:Region.linearise.go .any os (os.size - sh) t2 l2 []∈qlg os.toList (Nat.sub (zay os.toList) sh) (Nat.sub (Nat.pow 2 sh) 1):=by
      rw [qha,Array.length_toList]; exact hmem
     obtain ⟨zz,hzz⟩:=qcq (f:=fun idx=>go ⟨⟨s.fn,TF,.ops os (opsE os.toList idx)::k,s.defers,s.roundOf⟩::rest,qbc (H++slots.map (·.2)) sets⟩) _ 0 hmem
     have hfin:=hzz D S (hfin fun _=>zz);refine .of_steps hst ⟨_,.refl _ _,.inl ⟨_,hfin,⟨β2,_,frs,w2,rfl,⟨⟨hF.fn,?_,?_,SD.zan hle hF.defers,rfl,hF.kind,hF.round.mono hle⟩,hR.mono hle⟩,?_,⟨hgl▸hI2.glob,Val.le_trans hG.fix hle⟩,Eq.trans (qac (f:=fr) (f':=fr.atR ⟨ts2,fr.defers⟩ _) rfl) hl⟩⟩⟩
     ·
      refine q4f (show ts2.toList.length=_ by rw [Array.length_toList]; exact hI2.tsz) fun i v hv => ?_
      have hi:=hI2.tmps i fun j o ho _=>by
       have hj:=(List.getElem?_eq_some_iff.1 ho).1;rw [List.length_take,Array.length_toList] at hj;exact hall j (Nat.lt_of_lt_of_le hj (Nat.min_le_left _ _)) (Nat.lt_of_lt_of_le hj (Nat.min_le_right _ _))
      have hg:zbg TF i=v:=by unfold zbg; rw [qda,hv]; rfl
      have hil:i<ts2.size:=by rw [hI2.tsz]; exact (List.getElem?_eq_some_iff.1 hv).1
      rw [hg] at hi;refine ⟨_,?_,hi⟩;show ts2.toList[i]? = some (ts2.getD i undef);rw [Array.getElem?_toList];exact q8f hil rfl
     . exact ⟨⟨rfl,qdq hin2⟩,hkk.mono hle⟩
     . refine ⟨?_,fun n hn => ?_⟩
       . have:=hI2.heap;have hcu:qjb ⟨c,os,H,fun T N sets=>.any fun z=>qfh (fun idx=>go ⟨⟨s.fn,T,.ops os (opsE os.toList idx)::k,s.defers,s.roundOf⟩::rest,q3b (app H N) sets []⟩) (qlg os.toList (Nat.sub (zay os.toList) sh) (Nat.sub (Nat.pow 2 sh) 1)) (z 0) 0,none⟩ sh slots sets l2=qbc (H++q5a l2 slots) sets:=by
          by_cases h0:os.toList.take sh=[]
          . rw [hFa.none h0,qff]; rfl
          . have hpos:=List.length_pos_iff.2 h0;have h1:(os.toList.take sh).length - 1<sh/\(os.toList.take sh).length - 1<os.size:=by
             rw [List.length_take,Array.length_toList] at hpos ⊢;omega
            unfold qjb;rw [show l2.getD ((os.toList.take sh).length - 1) false=true from hall _ h1.1 h1.2]; rfl
         rw [hcu,zeL,← hP] at this; exact this
       . rw [q2d,List.length_append,List.length_map] at hn;have hn':H.length<=n:=by omega
         refine hI2.free n hn' fun j e hj => ?_
         have:=(List.getElem?_eq_some_iff.1 hj).1;have h2:n - H.length<slots.length:=this;omega
end
end
noncomputable section
variable {α:Type}
theorem q3o {l:List Nat} {i m:Nat} (h:l[i]? = some m):atN l i=m:=by
 unfold atN; rw [qda,h]; rfl
theorem q6g (f:Nat->Bool):∀ l:List Nat,qgh f l=l.filter f
 | []=>rfl
 | a::l=>by
   show zab (f a) (a::qgh f l) (qgh f l)=_;rw [q6g f l];cases h:f a with
   | true=>rw [List.filter_cons_of_pos h]; rfl
   | false=>rw [List.filter_cons_of_neg (by rw [h]; simp)]; rfl
theorem qtd:∀ {l:List Nat},qmg l=true->l.Nodup
 | [],_=>List.nodup_nil
 | a::l,h=>by
   have h:zab (zbD a l) false (qmg l)=true:=h;cases hm:zbD a l with
   | true=>rw [hm] at h; cases h
   | false =>
     rw [hm] at h;refine List.nodup_cons.2 ⟨fun hi => ?_,qtd h⟩;rw [q9f hi] at hm; cases hm
theorem q3n:∀ {n:Nat} {l:List Nat},zbD n l=true->n∈l
 | n,[],h=>by cases h
 | n,a::l,h=>by
   have h:zab (Nat.beq a n) true (zbD n l)=true:=h;cases hb:Nat.beq a n with
   | true=>rw [Nat.eq_of_beq_eq_true hb]; simp
   | false=>rw [hb] at h; exact List.mem_cons_of_mem _ (q3n h)
theorem qhu:∀ {l r:List Nat},zhM l r=true->l=r
 | [],[],_=>rfl
 | [],_::_,h=>by cases h
 | _::_,[],h=>by cases h
 | a::l,b::r,h=>by
   have h:zab (Nat.beq a b) (zhM l r) false=true:=h;cases hb:Nat.beq a b with
   | true=>rw [hb] at h; rw [Nat.eq_of_beq_eq_true hb,qhu h]
   | false=>rw [hb] at h; cases h
theorem qbm (f:Nat->Bool) (j:Nat):∀ n:Nat,(qpl f n).testBit j=(decide (j<n) && f j)
 | 0=>by show (0:Nat).testBit j=_; simp
 | n+1=>by
   show (zab (f n) (Nat.lor (qpl f n) (Nat.pow 2 n)) (qpl f n)).testBit j=_;have ih:=qbm f j n;cases hf:f n with
   | true =>
     show ((qpl f n) ||| 2 ^ n).testBit j=_;rw [Nat.testBit_or,Nat.testBit_two_pow,ih];by_cases hj:n=j
     . subst hj; simp [hf]
     . have:decide (j<n+1)=decide (j<n):=decide_eq_decide.2 (by omega)
       rw [this]; simp [hj]
   | false =>
     show (qpl f n).testBit j=_;rw [ih];by_cases hj:n=j
     . subst hj; simp [hf]
     . have:decide (j<n+1)=decide (j<n):=decide_eq_decide.2 (by omega)
       rw [this]
theorem qx1 (ms acc pi:List Nat) (p:Nat) (hp:p<pi.length):(msP ms acc pi)[p]? = some (qpl (fun q=>zkC ms acc (atN pi p) (atN pi q)) p):=by
 unfold msP;rw [qxa,qha,qpd,List.getElem?_map,List.getElem?_range' (by omega)]
 simp
theorem qeq {os:Array Oper}:∀ {pi:List Nat},(∀ i∈pi,i<os.size)->(opsE os.toList pi).length=pi.length/\∀ (p i:Nat),pi[p]? = some i->(opsE os.toList pi)[p]? = os[i]?
 | [],_=>⟨rfl,fun p i h=>by simp at h⟩
 | a::pi,h=>by
   have ha:=h a (by simp)
   obtain ⟨h1,h2⟩:=qeq (os:=os) (pi:=pi) fun i hi=>h i (by simp [hi])
   have e:opsE os.toList (a::pi)=os[a]::opsE os.toList pi:=by
    show zah (nth os.toList a) _ _=_;rw [qda,Array.getElem?_toList,Array.getElem?_eq_getElem ha]; rfl
   rw [e];refine ⟨by simp [h1],fun p i hp => ?_⟩
   cases p with
   | zero=>simp at hp; subst hp; simp [ha]
   | succ p=>simpa using h2 p i (by simpa using hp)
theorem joa {pi acc done tl:List Nat} {i:Nat} {f:Nat->Bool} (hn:pi.Nodup) (hf:pi.filter f=acc) (ha:acc=done++i::tl) {p q j:Nat} (hp:pi[p]? = some i) (hq:pi[q]? = some j) (hqp:q<p) (hj:f j=true):j∈done:=by
 have hpl:=(List.getElem?_eq_some_iff.1 hp).1;have e:pi=pi.take p++i::pi.drop (p+1):=by
  have:=List.take_append_drop p pi;rw [List.drop_eq_getElem_cons hpl] at this;rw [(List.getElem?_eq_some_iff.1 hp).2] at this;exact this.symm
 have hfi:f i=true:=by
  have:i∈pi.filter f:=by rw [hf,ha]; simp
  exact (List.mem_filter.1 this).2
 have e2:pi.filter f=(pi.take p).filter f++i::(pi.drop (p+1)).filter f:=by
  conv=>lhs; rw [e]
  rw [List.filter_append,List.filter_cons_of_pos hfi]
 have hjt:j∈(pi.take p).filter f:=List.mem_filter.2 ⟨List.mem_iff_getElem?.2 ⟨q,by rw [List.getElem?_take,if_pos hqp]; exact hq⟩,hj⟩
 have h1:done++i::tl=(pi.take p).filter f++i::(pi.drop (p+1)).filter f:=by rw [← ha,← hf,e2]
 have hnf:(pi.filter f).Nodup:=hn.filter f;have hd:i ∉ done:=by
  rw [hf,ha] at hnf;have:=List.nodup_append.1 hnf;intro hi;exact this.2.2 i hi i (by simp) rfl
 have ht:i ∉ (pi.take p).filter f:=by
  rw [e2] at hnf;have:=List.nodup_append.1 hnf;intro hi;exact this.2.2 i hi i (by simp) rfl
 have key:∀ (A B:List Nat) (X Y:List Nat),i ∉ A->i ∉ B->A++i::X=B++i::Y->A=B:=by
  intro A;induction A with
  | nil =>
    intro B X Y _ hB h;cases B with
    | nil=>rfl
    | cons b B=>simp only [List.nil_append,List.cons_append,List.cons.injEq] at h; exact absurd (by rw [h.1]; simp) hB
  | cons a A ih =>
    intro B X Y hA hB h;cases B with
    | nil=>simp only [List.nil_append,List.cons_append,List.cons.injEq] at h; exact absurd (by rw [h.1]; simp) hA
    | cons b B =>
      simp only [List.cons_append,List.cons.injEq] at h;rw [h.1,ih B X Y (fun hi=>hA (by simp [hi])) (fun hi=>hB (by simp [hi])) h.2]
 rw [key done _ tl _ hd ht h1];exact hjt
section
variable {x:zcy} {pi:List Nat} {s:Nat} {T TF:List SV} {H0:List SO} {Fs:List Fct} {hs:Nat->List SO} {O:Nat->Prop} {w0:World}
def At (listed:Array Bool) (pi:List Nat) (p:Nat):Prop:=∃ i,pi[p]? = some i/\listed.getD i false=true
structure zhT (x:zcy) (pi:List Nat) (s:Nat) (TF:List SV) (hs:Nat->List SO) (O:Nat->Prop) (w0:World) (listed:Array Bool) (β:Val) (ts:Array Value) (w:World):Prop where
 size:listed.size=x.os.size
 tsz:ts.size=TF.length
 tmps:∀ t,(∀ (p:Nat) (o:Oper),x.hd[p]? = some o->o.dst=some t->At listed pi p)->(zbg TF t).den β=some (ts.getD t undef)
 heap:∃ c,c<=x.hd.length/\(∀ (p:Nat) (o:Oper),x.hd[p]? = some o->q9b x.c.P o=true->(At listed pi p↔p<c))/\zac x.c.P O w0 β (hs c) w
 closed:∀ (i m:Nat),listed.getD i false=true->(qca x.os.toList [])[i]? = some m->∀ j,m.testBit j=true->listed.getD j false=true
 zeS:∀ (p m:Nat),At listed pi p->x.ms[p]? = some m->∀ q,m.testBit q=true->At listed pi q
 tail:∀ i,s<=i->listed.getD i false=false
 glob:zaD x.c.glob β
theorem q57 (hpn:pi.Nodup) (hpo:∀ (p i:Nat),pi[p]? = some i->x.hd[p]? = x.os[i]?) (hlt:∀ (p m q:Nat),x.ms[p]? = some m->m.testBit q=true->q<p) (hh:qid x.os x.hd x.hd x.ms 0=true) (hF:zdJ x x.hd x.ms 0 T H0 TF Fs hs)
  {listed:Array Bool} {β:Val} {ts:Array Value} {w:World} (hI:zhT x pi s TF hs O w0 listed β ts w) {i p:Nat} (hp:pi[p]? = some i) (hi:i∈Region.ready .any x.os listed) (his:i<s) (hmi:∀ q,((x.ms[p]?).getD 0).testBit q=true->At listed pi q) (fr:Frame) (ds:List Deferred) (rest:List Nat) (k:List Item) (cs:List Frame) :
  ∃ β' ts' w',β.le β'/\zhT x pi s TF hs O w0 (listed.setIfInBounds i true) β' ts' w'/\Steps x.c.P (lone (fr.atR ⟨ts,ds⟩ (.inRegion x.os (i::rest)::k)) cs w) (lone (fr.atR ⟨ts',ds⟩ (.inRegion x.os rest::k)) cs w'):=by
 have hr:=mem_ready.1 hi;obtain ⟨hun,o,ho,hall⟩:=hr;have hio:=(Array.getElem?_eq_some_iff.1 ho).1;have zdS:listed.getD i false=false:=by rw [qia (by rw [hI.size]; exact hio)]; exact hun
 have hhd:x.hd[p]? = some o:=by rw [hpo p i hp]; exact ho
 have hilt:=(List.getElem?_eq_some_iff.1 hhd).1;obtain ⟨f,hf⟩:∃ f,Fs[p]? = some f:=⟨_,List.getElem?_eq_getElem (by rw [hF.len]; exact hilt)⟩
 obtain ⟨hval,hnext,hmv,hbase,T',G,hgood,zha,hT',hGc⟩:=hF.good p o f hhd hf;rw [Nat.zero_add] at hGc;obtain ⟨hread,hdst⟩:=qlh _ _ _ _ _ hh p o hhd;have hinj:∀ {q q' j:Nat},pi[q]? = some j->pi[q']? = some j->q=q':=fun h h'=>(List.getElem?_inj (List.getElem?_eq_some_iff.1 h).1 hpn).1 (h.trans h'.symm);have hnp:¬ At listed pi p:=by
  rintro ⟨j,hj,hl⟩;rw [hp] at hj; cases hj;rw [zdS] at hl; cases hl
 have hset:∀ j,(listed.setIfInBounds i true).getD j false=if i=j then true else listed.getD j false:=by
  intro j;by_cases hij:i=j
  . subst hij; rw [if_pos rfl]; simp [Array.getD_eq_getD_getElem?,hI.size,hio]
  . rw [if_neg hij,getD_set_ne false hij]
 have zfg:∀ q,At (listed.setIfInBounds i true) pi q↔q=p\/At listed pi q:=by
  intro q;constructor
  . rintro ⟨j,hj,hl⟩;rw [hset] at hl;by_cases hij:i=j
    . subst hij; exact .inl (hinj hj hp)
    . rw [if_neg hij] at hl; exact .inr ⟨j,hj,hl⟩
  . rintro (rfl | ⟨j,hj,hl⟩)
    . exact ⟨i,hp,by rw [hset,if_pos rfl]⟩
    . refine ⟨j,hj,?_⟩;rw [hset]; split
      . rfl
      . exact hl
 have hmj:∀ q,((x.ms[q]?).getD 0).testBit p=true->At listed pi q->False:=by
  intro q hb hl;refine hnp (hI.zeS q ((x.ms[q]?).getD 0) hl ?_ p hb);cases hm:x.ms[q]? with
  | none=>rw [hm] at hb; simp at hb
  | some m=>rfl
 have hmi':∀ (m q:Nat),x.ms[p]? = some m->m.testBit q=true->At listed pi q:=fun m q hm hb=>hmi q (by rw [hm]; exact hb)
 have zbG:AgreeOn β T' ts (qsb x.os o):=by
  refine ⟨by rw [hI.tsz,zha,hF.zdn],fun t ht => ?_⟩
  rw [← hT' t (fun j o' hij ho' hd => ?_) β]
  . refine hI.tmps t fun j o' ho' hd => ?_
    obtain ⟨m,hm,hb⟩:=hread j o' t ho' hd ht;exact hmi' m j hm hb
  . obtain ⟨m,hm,hb⟩:=hread j o' t ho' hd ht;have:=hlt p m j hm hb;omega
 obtain ⟨c,hcl,hcm,hH⟩:=hI.heap;have hcase:(G=hs c/\hs c=hs p/\zck x.c.P p ((x.ms[p]?).getD 0) x.hd x.ms 0=true)\/(q9b x.c.P o=false/\G=zas (qyd x.hid) x.H):=by
  rcases hGc with ⟨hcmp,hGi⟩ | h
  . left;have hspec:=qhi _ _ _ hcmp;have hci:hs c=hs p:=by
     rcases Nat.le_total c p with hle | hle
     . have:=qxf hF (a:=c) (p - c) (by omega) fun j o' h1 h2 ho'=>by
        cases hmo:q9b x.c.P o' with
        | false=>rfl
        | true =>
          exfalso;have h3:=(hspec j o' ho' hmo (by omega)).1 (by omega)
          rw [Nat.zero_add] at h3;have:=(hcm j o' ho' hmo).1 (hmi j h3);omega
       rw [show c+(p - c)=p from by omega] at this; exact this
     . have:=qxf hF (a:=p) (c - p) (by omega) fun j o' h1 h2 ho'=>by
        cases hmo:q9b x.c.P o' with
        | false=>rfl
        | true =>
          exfalso;have hl:=(hcm j o' ho' hmo).2 (by omega)
          by_cases hij:j=p
          . subst hij; exact hnp hl
          . have h3:=(hspec j o' ho' hmo (by omega)).2 (by omega)
            exact hmj j h3 hl
       rw [show p+(c - p)=c from by omega] at this; exact this.symm
    exact ⟨hGi.trans hci.symm,hci,hcmp⟩
  . exact .inr h
 have zeK:∀ (n:Nat) (e:SO),G[n]? = some e->e=SO.gone\/(hs c)[n]? = some e:=by
  intro n e hn;rcases hcase with ⟨rfl,_⟩ | ⟨_,rfl⟩
  . exact .inr hn
  . rw [qxa,List.getElem?_map] at hn;cases hx:x.H[n]? with
    | none=>rw [hx] at hn; cases hn
    | some e0 =>
      rw [hx] at hn;have hn:qyd x.hid e0=e:=Option.some.inj hn;unfold qyd at hn;cases hhe:x.hid e0 with
      | true=>rw [hhe] at hn; exact .inl hn.symm
      | false =>
        rw [hhe] at hn;have hn:e0=e:=hn;subst hn;exact .inr (hF.stable c hcl n e0 hx hhe)
 have hG0:HeapRel0 x.c.P O w0 β G w:=hH.toHeapRel0.less fun n e hn=>(zeK n e hn).symm;have hown:∀ (n:Nat) (e:SO),G[n]? = some e->e.owned=true->(hs c)[n]? = some e:=by
  intro n e hn ho;rcases zeK n e hn with rfl | h
  . cases ho
  . exact h
 have hb0:f.news=[]/\f.sets=[]\/(hs c=hs p):=by
  rcases hcase with ⟨_,h,_⟩ | ⟨h,_⟩
  . exact .inr h
  . exact .inl ⟨(hmv h).2,(hmv h).1⟩
 have hstep:∃ y w' β',f.val.den β'=some y/\β.le β'/\zac x.c.P O w0 β' (q3b (hs c) f.sets f.news) w' /\
   Steps x.c.P (lone (fr.atR ⟨ts,ds⟩ (.inRegion x.os (i::rest)::k)) cs w) (lone (fr.atR (Act.put ⟨ts,ds⟩ o.dst y) (.inRegion x.os rest::k)) cs w'):=by
  cases f with
  | skip =>
    have hw:=hgood β ts zbG;refine ⟨undef,w,β,by simp [Fct.val,qsa,SV.den,SV.zal,undef],Val.le_refl β,hH,.one ?_⟩
    have:=stepR_op_skip (P:=x.c.P) (b:=fr) (a:=⟨ts,ds⟩) (k:=k) (cs:=cs) (w:=w) (ops:=x.os) (i:=i) (rest:=rest) (by rw [ho]; exact hw)
    rw [ho] at this; exact this
  | run v N b q =>
    obtain ⟨hw,hrun⟩:=hgood β ts zbG;have hb:=hbase v N b q rfl;have hfree:Free β b N:=by
     rcases hb0 with ⟨h1,_⟩ | h
     . have h1:N=[]:=h1;subst h1;intro j hj; simp at hj
     . intro j _;exact hH.bound _ (by rw [h,hb]; omega)
    obtain ⟨y,w',β',hv,hE,hso,hst⟩:=hrun O w0 w hG0 hI.glob hfree (fr.atR ⟨ts,ds⟩ (.inRegion x.os (i::rest)::k)) cs i rest k rfl rfl ho rfl;rw [Frame.finish_atR,ho] at hst;refine ⟨y,w',β',hv,hE.le,?_,hst⟩;have zgY:∀ n e,(n,e)∈q->qhh (hs c) n e:=fun n e hn=>by
     obtain ⟨e0,h1,h2,h3⟩:=hso n e hn;exact ⟨e0,hown n e0 h1 h2,h2,h3⟩
    rcases hb0 with ⟨h1,_⟩ | h
    . have h1:N=[]:=h1;subst h1;exact hH.apply (hE.zcf (b:=(hs c).length)) zgY
    . rw [hb,← h] at hE;exact hH.apply hE zgY
  | touch v nm =>
    obtain ⟨hw,hrun⟩:=hgood β ts zbG;obtain ⟨y,w',e,hv,he,heo,hE,hst⟩:=hrun O w0 w hG0 hI.glob (fr.atR ⟨ts,ds⟩ (.inRegion x.os (i::rest)::k)) cs i rest k rfl rfl ho rfl;rw [Frame.finish_atR,ho] at hst;refine ⟨y,w',β,hv,Val.le_refl β,?_,hst⟩;have h1:=hown nm e he heo;have:=hH.apply (hE.zcf (b:=(hs c).length)) (by intro n e' hn; simp at hn; obtain ⟨rfl,rfl⟩:=hn; exact ⟨e',h1,heo,.refl _⟩)
    rw [qoc,List.append_nil,qei h1] at this;exact this
 obtain ⟨y,w',β',hv,hle,hH',hst⟩:=hstep;rw [q1r] at hst;refine ⟨β',_,w',hle,⟨by simp [hI.size],by rw [qej]; exact hI.tsz,?_,?_,?_,?_,?_,hI.glob.mono hle⟩,hst⟩
 ·
  intro t ht;rw [q5g];by_cases hd:o.dst=some t
  . by_cases hlt:t<ts.size
    . rw [if_pos ⟨hd,hlt⟩,hval t hd (by rw [← hF.zdn,← hI.tsz]; exact hlt) (fun j o' hij ho'=>hdst t hd j o' hij ho')]
      exact hv
    . rw [if_neg (fun h=>hlt h.2)];have h1:nth TF t=none:=by rw [qda,List.getElem?_eq_none]; rw [← hI.tsz]; exact Nat.not_lt.1 hlt
      have h2:ts.getD t undef=undef:=by rw [Array.getD_eq_getD_getElem?,Array.getElem?_eq_none (Nat.not_lt.1 hlt)]; rfl
      rw [h2]; unfold zbg; rw [h1]; simp [qsa,SV.den,SV.zal,undef]
  . rw [if_neg (fun h=>hd h.1)];refine SV.zav hle _ (hI.tmps t fun j o' ho' hd' => ?_);rcases (zfg j).1 (ht j o' ho' hd') with rfl | h
    . rw [hhd] at ho'; cases ho'; exact absurd hd' hd
    . exact h
 ·
  cases hmo:q9b x.c.P o with
  | false =>
    obtain ⟨h1,h2⟩:=hmv hmo;rw [h1,h2] at hH';refine ⟨c,hcl,fun j o' ho' hm => ?_,hH'⟩;have hij:j≠p:=by
     intro h; subst h;rw [hhd] at ho'; cases ho';rw [hmo] at hm; cases hm
    rw [zfg];constructor
    . rintro (h | h)
      . exact absurd h hij
      . exact (hcm j o' ho' hm).1 h
    . exact fun h=>.inr ((hcm j o' ho' hm).2 h)
  | true =>
    rcases hcase with ⟨_,hci,hcmp⟩ | ⟨h,_⟩
    . have hspec:=qhi _ _ _ hcmp;refine ⟨p+1,hilt,fun j o' ho' hm => ?_,by rw [hnext,← hci]; exact hH'⟩
      rw [zfg];by_cases hij:j=p
      . subst hij;exact ⟨fun _=>by omega,fun _=>.inl rfl⟩
      . rcases Nat.lt_or_ge j p with hlt | hge
        . have h3:=(hspec j o' ho' hm (by omega)).1 (by omega)
          rw [Nat.zero_add] at h3;exact ⟨fun _=>by omega,fun _=>.inr (hmi j h3)⟩
        . have h3:=(hspec j o' ho' hm (by omega)).2 (by omega)
          refine ⟨fun h => ?_,fun h=>by omega⟩
          rcases h with h | h
          . exact absurd h hij
          . exact (hmj j h3 h).elim
    . rw [hmo] at h; cases h
 . intro j m hj hm l hl;rw [hset] at hj ⊢;split
   . rfl
   . by_cases hij:i=j
     . subst hij; exact qxb hI.closed hi hm hl
     . rw [if_neg hij] at hj; exact hI.closed j m hj hm l hl
 . intro j m hj hm l hl;rw [zfg] at hj ⊢;rcases hj with rfl | hj
   . exact .inr (hmi' m l hm hl)
   . exact .inr (hI.zeS j m hj hm l hl)
 . intro j hj;rw [hset,if_neg (by omega)]; exact hI.tail j hj
end
section
variable {D:SV->List SO->Prop} {S:SS->Prop}
inductive zgB (ms:List Nat):List Nat->List Nat->Prop
 | nil:zgB ms [] []
 | cons {m:Nat} {todo r:List Nat} (hm:m∈q2i ms todo) (h:zgB ms (qql m todo) r):zgB ms todo (m::r)
theorem j6e {f:List Nat->Tree} {ms:List Nat}:∀ (n:Nat) (todo acc r:List Nat),(zjn f ms n todo acc).Ob D S->r.length=n->zgB ms todo r->(f (acc++r)).Ob D S:=by
 intro n;induction n with
 | zero =>
   intro todo acc r h hr _;obtain rfl:=List.length_eq_zero_iff.1 hr;rw [List.append_nil]; exact h
 | succ n ih =>
   intro todo acc r h hr ho;cases ho with
   | nil=>cases hr
   | cons hm ho =>
     rename_i m r;have hin:[m]∈zas (fun m=>[m]) (q2i ms todo):=by rw [qxa]; exact List.mem_map.2 ⟨m,hm,rfl⟩
     obtain ⟨z,hz⟩:=qcq (f:=jed fun m=>zjn f ms n (qql m todo) (app acc [m])) _ 0 hin;have h1:=hz D S (h fun _=>z);have h2:=ih (qql m todo) (app acc [m]) r h1 (by simpa using hr) ho
     rwa [q7a,List.append_assoc] at h2
end
section
variable {os:Array Oper} {s:Nat}
theorem q4r {P:Program} {Inv:Array Bool->Val->Array Value->World->Prop} {acc:List Nat} {mv:Nat->Bool} (he:qmb os.toList 0=true) (ht:qwe (qnb (qca os.toList []) s) s=true)
  (fr:Frame) (ds:List Deferred) (k:List Item) (cs:List Frame)
  (hsz:∀ {l β ts w},Inv l β ts w->l.size=os.size) (htl:∀ {l β ts w},Inv l β ts w->∀ i,s<=i->l.getD i false=false)
  (hcl:∀ {l β ts w},Inv l β ts w->∀ (i m:Nat),l.getD i false=true->(qca os.toList [])[i]? = some m->∀ j,m.testBit j=true->l.getD j false=true)
  (hturn:∀ {l:Array Bool} {β ts w} {i:Nat},Inv l β ts w->i∈Region.ready .any os l->i<s->(mv i=true->∃ done tl,acc=done++i::tl/\∀ j∈done,l.getD j false=true)->∀ rest:List Nat,∃ β' ts' w',β.le β'/\Inv (l.setIfInBounds i true) β' ts' w' /\
   Steps P (lone (fr.atR ⟨ts,ds⟩ (.inRegion os (i::rest)::k)) cs w) (lone (fr.atR ⟨ts',ds⟩ (.inRegion os rest::k)) cs w')) :
  ∀ (fuel t:Nat) (listed:Array Bool) (β:Val) (ts:Array Value) (w:World) (done:List Nat),Inv listed β ts w->unl listed os.size<=fuel->(∀ j∈done,listed.getD j false=true)->done++((Region.linearise.go .any os fuel t listed []).filter fun i=>mv i && decide (i<s))=acc ->
  ∃ β' ts' w' listed',β.le β'/\Inv listed' β' ts' w'/\(∀ j,j<s->j<os.size->listed'.getD j false=true) /\
    Steps P (lone (fr.atR ⟨ts,ds⟩ (.inRegion os (Region.linearise.go .any os fuel t listed [])::k)) cs w) (lone (fr.atR ⟨ts',ds⟩ (.inRegion os (List.range' s (os.size - s))::k)) cs w'):=by
 have htm:∀ (i m:Nat),s<=i->(qca os.toList [])[i]? = some m->∀ j,j<i->m.testBit j=true:=by
  intro i m hi hm j hj;rw [qad] at ht;have:=qdk _ _ ht (i - s) m (by rw [List.getElem?_drop,show s+(i - s)=i from by omega]; exact hm)
  rw [show s+(i - s)=i from by omega] at this
  exact qef this hj
 intro fuel;induction fuel with
 | zero =>
   intro t listed β ts w done hI hf _ _;have hall:∀ j,j<os.size->listed.getD j true=true:=by
    intro j hj;cases h:listed.getD j true with
    | true=>rfl
    | false=>have:=qzk hj h; omega
   have hs:os.size<=s:=by
    rcases Nat.lt_or_ge s os.size with h | h
    . have h1:=htl hI s (Nat.le_refl _);rw [qia (by rw [(hsz hI)]; exact h),hall s h] at h1; cases h1
    . exact h
   refine ⟨β,ts,w,listed,Val.le_refl β,hI,fun j _ hj=>by rw [qia (by rw [(hsz hI)]; exact hj)]; exact hall j hj,?_⟩
   rw [show os.size - s=0 from by omega]
   exact .refl _ _
 | succ fuel ih =>
   intro t listed β ts w done hI hf hdone hacc;by_cases hall:∀ j,j<s->j<os.size->listed.getD j false=true
   . refine ⟨β,ts,w,listed,Val.le_refl β,hI,hall,?_⟩;rcases Nat.lt_or_ge os.size s with h | h
     . rw [show os.size - s=0 from by omega]
       rw [qdj]
       . exact .refl _ _
       . apply List.eq_nil_iff_forall_not_mem.2;intro j hj;rw [mem_ready] at hj;obtain ⟨h1,o,ho,_⟩:=hj;have hlt:=(Array.getElem?_eq_some_iff.1 ho).1;rw [← qia (by rw [(hsz hI)]; exact hlt),hall j (by omega) hlt] at h1
         cases h1
     . have hdec:∀ j,j<os.size->listed.getD j true=decide (j<s):=by
        intro j hj;rw [← qia (by rw [(hsz hI)]; exact hj)]
        by_cases hjs:j<s
        . rw [hall j hjs hj]; simp [hjs]
        . rw [htl hI j (by omega)]; simp [hjs]
       rw [q9l he htm (os.size - s) (fuel+1) t s listed (hsz hI) (Nat.le_refl _) (by omega) hdec ?_]
       . exact .refl _ _
       . exact Nat.le_trans (qay (s:=s) (n:=os.size) (fun j h1 h2=>by rw [hdec j h2]; simp; omega) _ (by omega)) hf
   ·
    have hex:∃ i,i<s/\i<os.size/\listed.getD i true=false/\∀ j,j<i->listed.getD j false=true:=by
     have hgen:∀ n,(∃ i,i<n/\i<s/\i<os.size/\listed.getD i true=false/\∀ j,j<i->listed.getD j false=true)\/(∀ j,j<n->j<s->j<os.size->listed.getD j false=true):=by
      intro n;induction n with
      | zero=>exact .inr fun j hj=>by omega
      | succ n ih2 =>
        rcases ih2 with ⟨i,h1,h2⟩ | h
        . exact .inl ⟨i,by omega,h2⟩
        . by_cases hn:n<s/\n<os.size/\listed.getD n false=false
          . refine .inl ⟨n,by omega,hn.1,hn.2.1,?_,fun j hj=>h j hj (by omega) (by omega)⟩
            rw [← qia (by rw [(hsz hI)]; exact hn.2.1)]; exact hn.2.2
          . refine .inr fun j hj h1 h2 => ?_
            by_cases hjn:j=n
            . subst hjn;cases hx:listed.getD j false with
              | true=>rfl
              | false=>exact absurd ⟨h1,h2,hx⟩ hn
            . exact h j (by omega) h1 h2
     rcases hgen s with ⟨i,_,h⟩ | h
     . exact ⟨i,h⟩
     . exact absurd (fun j h1 h2=>h j h1 h1 h2) hall
    obtain ⟨i0,h1,h2,h3,h4⟩:=hex;have hin:=qoe he h2 h3 h4;obtain ⟨i,hi,t',heq⟩:=qag (List.ne_nil_of_mem hin) fuel t;have hio:i<os.size:=by
     obtain ⟨_,o,ho,_⟩:=mem_ready.1 hi;exact (Array.getElem?_eq_some_iff.1 ho).1
    have his:i<s:=by
     rcases Nat.lt_or_ge i s with h | h
     . exact h
     . exfalso;obtain ⟨_,hml,_⟩:=qcd os.toList [];have hlt:i<(qca os.toList []).length:=by rw [hml]; simpa using hio
       have:=qxb (hcl hI) hi (List.getElem?_eq_getElem hlt) (htm i _ h (List.getElem?_eq_getElem hlt) i0 (by omega))
       rw [qia (by rw [(hsz hI)]; exact h2),h3] at this; cases this
    rw [heq] at hacc;obtain ⟨β1,ts1,w1,hle,hI1,hst⟩:=hturn hI hi his (fun hm=>by
     rw [List.filter_cons_of_pos (by simp [hm,his])] at hacc
     exact ⟨done,_,hacc.symm,hdone⟩) (Region.linearise.go .any os fuel t' (listed.setIfInBounds i true) [])
    have hu:=qti (mem_ready.1 hi).1 os.size;rw [if_pos hio] at hu;have hset:∀ j,(listed.setIfInBounds i true).getD j false=if i=j then true else listed.getD j false:=by
     intro j;by_cases hij:i=j
     . subst hij; rw [if_pos rfl]; simp [Array.getD_eq_getD_getElem?,hsz hI,hio]
     . rw [if_neg hij,getD_set_ne false hij]
    obtain ⟨β2,ts2,w2,l2,hle2,hI2,zdZ,zdT⟩:=ih t' (listed.setIfInBounds i true) β1 ts1 w1 (if mv i=true then done++[i] else done) hI1 (by omega) (fun j hj=>by
     rw [hset];split
     . rfl
     . rename_i hij;split at hj
       . rcases List.mem_append.1 hj with hj | hj
         . exact hdone j hj
         . exact absurd (List.mem_singleton.1 hj).symm hij
       . exact hdone j hj) (by
     split
     . rename_i hm;rw [List.filter_cons_of_pos (by simp [hm,his])] at hacc
       rw [List.append_assoc]; exact hacc
     . rename_i hm;rw [List.filter_cons_of_neg (by simp [hm])] at hacc
       exact hacc)
    exact ⟨β2,ts2,w2,l2,Val.le_trans hle hle2,hI2,zdZ,by rw [heq]; exact hst.trans zdT⟩
end
section
variable {os:Array Oper} {s:Nat} {mv:Nat->Bool}
def qte (mv:Nat->Bool) (s:Nat) (listed:Array Bool):List Nat:=(List.range s).filter fun i=>mv i && !(listed.getD i false)
theorem qfy (m:Nat) (l:List Nat):qql m l=l.filter fun j => !(Nat.beq j m):=by
 unfold qql;rw [q6g];congr 1;funext j;cases Nat.beq j m <;> rfl
theorem q44 {ms todo:List Nat} {m:Nat} (h:m∈todo) (hb:∀ j∈todo,zbH (atN ms m) j=false):m∈q2i ms todo:=by
 unfold q2i;rw [q6g];refine List.mem_filter.2 ⟨h,zbO.2 fun j hj => ?_⟩;rw [hb j hj]; rfl
theorem q67 {ms todo:List Nat} {m:Nat} (h:m∈q2i ms todo):m∈todo:=by
 unfold q2i at h;rw [q6g] at h;exact (List.mem_filter.1 h).1
theorem q00 {ms todo r:List Nat} (h:zgB ms todo r):todo.Nodup->r.length=todo.length:=by
 induction h with
 | nil=>intro _; rfl
 | cons hm h ih =>
   rename_i m todo r;intro hn;have hmt:=q67 hm;rw [qfy] at ih;have e:(todo.filter fun j => !(Nat.beq j m))=todo.erase m:=by
    rw [hn.erase_eq_filter];congr 1;funext j;show (!Nat.beq j m) = !(j == m);have hb:(j == m)=Nat.beq j m:=by
     by_cases h:j=m
     . subst h; simp
     . have hb:Nat.beq j m=false:=by
        cases hb:Nat.beq j m with
        | false=>rfl
        | true=>exact absurd (Nat.eq_of_beq_eq_true hb) h
       rw [hb]; simp [h]
    rw [hb]
   rw [e] at ih;have h1:=ih (hn.erase m);have h2:=List.length_erase_of_mem hmt;have h3:0<todo.length:=List.length_pos_of_mem hmt;rw [List.length_cons]; omega
theorem j7e (he:qmb os.toList 0=true) (hmv:∀ i,mv i=true->i<os.size):∀ (fuel t:Nat) (listed:Array Bool),listed.size=os.size->unl listed os.size<=fuel ->
  (∀ (i m:Nat),listed.getD i false=true->(qca os.toList [])[i]? = some m->∀ j,m.testBit j=true->listed.getD j false=true) ->
  zgB (qca os.toList []) (qte mv s listed) ((Region.linearise.go .any os fuel t listed []).filter fun i=>mv i && decide (i<s)):=by
 intro fuel;induction fuel with
 | zero =>
   intro t listed hsz hf hcl;have hall:∀ j,j<os.size->listed.getD j true=true:=by
    intro j hj;cases h:listed.getD j true with
    | true=>rfl
    | false=>have:=qzk hj h; omega
   have:qte mv s listed=[]:=by
    unfold qte;refine List.filter_eq_nil_iff.2 fun i hi => ?_
    intro hc;obtain ⟨h1,h2⟩:=Bool.and_eq_true_iff.1 hc;have:=hall i (hmv i h1);rw [← qia (by rw [hsz]; exact hmv i h1)] at this
    rw [this] at h2; cases h2
   rw [this];exact .nil
 | succ fuel ih =>
   intro t listed hsz hf hcl;by_cases hne:Region.ready .any os listed=[]
   . rw [qdj hne];have zg5:∀ j,j<os.size->listed.getD j false=true:=by
      intro j;induction j using Nat.strongRecOn with
      | ind j ihj =>
        intro hj;cases hl:listed.getD j false with
        | true=>rfl
        | false =>
          have:=qoe he hj (by rw [← qia (by rw [hsz]; exact hj)]; exact hl) fun k hk=>ihj k hk (by omega)
          rw [hne] at this; cases this
     have:qte mv s listed=[]:=by
      unfold qte;refine List.filter_eq_nil_iff.2 fun i hi => ?_
      intro hc;obtain ⟨h1,h2⟩:=Bool.and_eq_true_iff.1 hc;rw [zg5 i (hmv i h1)] at h2; cases h2
     rw [this];exact .nil
   . obtain ⟨i,hi,t',heq⟩:=qag hne fuel t;have hun:=(mem_ready.1 hi).1;have hio:i<os.size:=by
      obtain ⟨_,o,ho,_⟩:=mem_ready.1 hi;exact (Array.getElem?_eq_some_iff.1 ho).1
     have zdS:listed.getD i false=false:=by rw [qia (by rw [hsz]; exact hio)]; exact hun
     have hset:∀ j,(listed.setIfInBounds i true).getD j false=if i=j then true else listed.getD j false:=by
      intro j;by_cases hij:i=j
      . subst hij; rw [if_pos rfl]; simp [Array.getD_eq_getD_getElem?,hsz,hio]
      . rw [if_neg hij,getD_set_ne false hij]
     have hu:=qti hun os.size;rw [if_pos hio] at hu;have:=ih t' (listed.setIfInBounds i true) (by simp [hsz]) (by omega) (fun j m hj hm l hl=>by
      rw [hset] at hj ⊢;split
      . rfl
      . by_cases hij:i=j
        . subst hij; exact qxb hcl hi hm hl
        . rw [if_neg hij] at hj; exact hcl j m hj hm l hl)
     rw [heq];by_cases hc:mv i=true/\i<s
     . rw [List.filter_cons_of_pos (by simp [hc.1,hc.2])]
       have ht:i∈qte mv s listed:=List.mem_filter.2 ⟨List.mem_range.2 hc.2,by rw [hc.1,zdS]; rfl⟩
       refine .cons (q44 ht fun j hj => ?_) ?_
       . cases hb:zbH (atN (qca os.toList []) i) j with
         | false=>rfl
         | true =>
           exfalso;obtain ⟨_,h2,_⟩:=qcd os.toList [];have hil:i<(qca os.toList []).length:=by rw [h2]; simpa using hio
           have hm:=List.getElem?_eq_getElem hil;rw [q3o hm] at hb;have hl:=qxb hcl hi hm hb;have:=(List.mem_filter.1 hj).2;rw [hl] at this; simp at this
       . have e:qql i (qte mv s listed)=qte mv s (listed.setIfInBounds i true):=by
          rw [qfy];unfold qte;rw [List.filter_filter];refine List.filter_congr fun j _ => ?_
          rw [hset];by_cases hij:i=j
          . subst hij; simp
          . have:Nat.beq j i=false:=by
             cases hb:Nat.beq j i with
             | false=>rfl
             | true=>exact absurd (Nat.eq_of_beq_eq_true hb).symm hij
            rw [this,if_neg hij]; simp
         rw [e]; exact this
     . rw [List.filter_cons_of_neg (by simp; intro h1; have:¬ i<s:=fun h2=>hc ⟨h1,h2⟩; omega)]
       have e:qte mv s (listed.setIfInBounds i true)=qte mv s listed:=by
        unfold qte;refine List.filter_congr fun j hj => ?_
        rw [hset];by_cases hij:i=j
        . subst hij;have h1:i<s:=List.mem_range.1 hj;have h2:mv i=false:=by
           cases hm:mv i with
           | false=>rfl
           | true=>exact absurd ⟨hm,h1⟩ hc
          rw [h2]; simp
        . rw [if_neg hij]
       rw [← e]; exact this
end
section
variable {c:Cfg} {B:Base} {go:SS->Tree} {D:SV->List SO->Prop} {S:SS->Prop}
theorem q10 (hc:zaC c) (hP:B.P=c.P) (hgl:B.glob=c.glob) {id:Nat} {os:Array Oper} {k:List zaK} {s:SF} {rest:List SF} {H:List SO} {β:Val} {fr:Frame} {frs:List Frame} {w:World} (hF:zar β s fr) (hR:zat β rest frs) (hH:zac B.P B.O B.w0 β H w) (hG:zcD B β)
  (hl:((fr::frs).getLast?).map (·.fn)=some B.fn0) (htd:s.todo=.code (.region id os true)::k) {sh:Nat} {hid:SO->Bool} (hob:(qz3 hid os sh (qca os.toList []) k s rest c H go).Ob D S):After B go D S (lone fr (frs++B.cs) w):=by
 have zbf:=hF.todo;rw [htd] at zbf;cases hft:fr.todo with
 | nil=>rw [hft] at zbf; exact zbf.elim
 | cons y k' =>
   rw [hft] at zbf;obtain ⟨hxy,hkk⟩:=zbf;cases y <;> first | exact hxy.elim | skip
   rename_i cd;have hcd:cd=.region id os true:=hxy;subst hcd;have hstep:step B.P (lone fr (frs++B.cs) w)=.next (lone (fr.atR ⟨fr.tmps,fr.defers⟩ (.inRegion os (Region.linearise.go .any os os.size (w.tape w.drawn (.order fr.fn id)) (Array.replicate os.size false) [])::k')) (frs++B.cs) { w with drawn:=w.drawn+1 }):=by
    conv=>lhs; rw [qvb hF.mode,hft]
    rw [stepR_region_draw];simp only [Region.schedule,hP,hc.prog.mixed,Bool.true_or,if_true,Region.linearise]
   refine .step hstep ?_
   have hH':zac B.P B.O B.w0 β H { w with drawn:=w.drawn+1 }:=hH.sameHeap rfl rfl rfl rfl
   generalize ({ w with drawn:=w.drawn+1 }:World)=w1 at hH'
   generalize w.tape w.drawn (.order fr.fn id)=tp;have hlist:∀ j,(Array.replicate os.size false).getD j false=false:=by
    intro j;rw [Array.getD_eq_getD_getElem?,Array.getElem?_replicate];split <;> rfl
   have hun:∀ k,unl (Array.replicate os.size false) k<=k:=by
    intro k;induction k with
    | zero=>exact Nat.le_refl _
    | succ k ih =>
      show unl _ k+_<=k+1;split <;> omega
   let mv:Nat->Bool:=fun i=>zah (nth os.toList i) false (q9b c.P)
   have hmv:∀ i,mv i=true->i<os.size:=fun i hi=>by
    have hi:zah (nth os.toList i) false (q9b c.P)=true:=hi;rw [qda,Array.getElem?_toList] at hi;by_cases h:i<os.size
    . exact h
    . rw [Array.getElem?_eq_none (by omega)] at hi; cases hi
   unfold qz3 at hob;by_cases he:qmb os.toList 0=true
   . rw [he,zak] at hob;have hmo:=j7e (s:=sh) (mv:=mv) he hmv os.size tp (Array.replicate os.size false) (by simp) (hun _) (fun i m hi=>by rw [hlist] at hi; cases hi)
     have htodo:qte mv sh (Array.replicate os.size false)=qpk c.P os sh:=by
      unfold qpk qte;rw [q6g,qpd,List.range_eq_range'];refine List.filter_congr fun i _ => ?_
      rw [hlist]; simp [mv]
     rw [htodo] at hmo;have hnd:(qpk c.P os sh).Nodup:=by
      rw [← htodo];exact List.nodup_range.filter _
     have hlen:=q00 hmo hnd;have hchain:=j6e _ _ _ _ hob (by rw [qha]; exact hlen) hmo
     rw [List.nil_append] at hchain;generalize hacc:((Region.linearise.go .any os os.size tp (Array.replicate os.size false) []).filter fun i=>mv i && decide (i<sh))=acc at hchain hmo;have hchain:(q4w hid os sh (qca os.toList []) acc k s rest c H go).Ob D S:=hchain;unfold q4w at hchain;generalize hpi:piM (qca os.toList []) acc sh=pi at hchain;cases hok:okQ os (opsE os.toList pi) sh (qca os.toList []) acc pi (msP (qca os.toList []) acc pi) with
     | false=>rw [hok] at hchain; exact hchain.elim
     | true =>
       rw [hok,zak] at hchain;obtain ⟨_,hok⟩:=qhb (show zab (qmb os.toList 0) (zab (qid os (opsE os.toList pi) (opsE os.toList pi) (msP (qca os.toList []) acc pi) 0) (zab (qwe (qnb (qca os.toList []) sh) sh) (zab (jdd sh acc pi) (zaO (fun i=>zab (Nat.blt i sh) (Nat.blt i (zay os.toList)) false) pi) false) false) false) false=true from hok)
       obtain ⟨hh,hok⟩:=qhb hok;obtain ⟨ht,hok⟩:=qhb hok;obtain ⟨hpm,hol⟩:=qhb hok;obtain ⟨hp1,hpm⟩:=qhb (show zab (Nat.beq (zay pi) sh) (zab (qmg pi) (zab (zaO (fun i=>zbD i pi) (qqa sh 0)) (zhM (qgh (fun i=>zbD i acc) pi) acc) false) false) false=true from hpm)
       obtain ⟨hp2,hpm⟩:=qhb hpm;obtain ⟨hp3,hp4⟩:=qhb hpm;have hpl:pi.length=sh:=by rw [← qha]; exact Nat.eq_of_beq_eq_true hp1
       have hpn:=qtd hp2;have hpa:∀ i,i<sh->i∈pi:=fun i hi=>q3n (zbO.1 hp3 i (by rw [qpd,← List.range_eq_range']; exact List.mem_range.2 hi))
       have hpf:pi.filter (fun i=>zbD i acc)=acc:=by rw [← q6g]; exact qhu hp4
       have hpin:∀ i∈pi,i<sh:=fun i hi=>Nat.le_of_ble_eq_true (qhb (zbO.1 hol i hi)).1;have hpos:∀ i∈pi,i<os.size:=fun i hi=>by
        have:=Nat.le_of_ble_eq_true (qhb (zbO.1 hol i hi)).2;rw [qha,Array.length_toList] at this;exact this
       have hols:(opsE os.toList pi).length=sh:=(qeq (os:=os) hpos).1.trans hpl;obtain ⟨_,hget⟩:=qeq (os:=os) hpos;generalize hxe:(⟨hid,c,os,H,opsE os.toList pi,msP (qca os.toList []) acc pi,fun T H'=>go ⟨⟨s.fn,T,.ops os (qnb os.toList sh)::k,s.defers,s.roundOf⟩::rest,H'⟩⟩:zcy)=x at hchain;have hxc:x.c=c:=by rw [← hxe]
       have hxo:x.os=os:=by rw [← hxe]
       have hxH:x.H=H:=by rw [← hxe]
       have hxh:x.hd=opsE os.toList pi:=by rw [← hxe]
       have hxm:x.ms=msP (qca os.toList []) acc pi:=by rw [← hxe]
       have hxf:x.fin=fun T H'=>go ⟨⟨s.fn,T,.ops os (qnb os.toList sh)::k,s.defers,s.roundOf⟩::rest,H'⟩:=by rw [← hxe]
       obtain ⟨TF,Fs,hs,hFa,hfin⟩:=q0n (x:=x) (hxc▸hc) _ _ _ _ _ (by rw [hxH]; exact fun n e h _=>h) hchain
       rw [hxf] at hfin;replace hfin:(go ⟨⟨s.fn,TF,.ops os (qnb os.toList sh)::k,s.defers,s.roundOf⟩::rest,hs (opsE os.toList pi).length⟩).Ob D S:=hfin;rw [qad,hols] at hfin;rw [← hxh,← hxm] at hFa;have hxhl:x.hd.length=sh:=by rw [hxh]; exact hols
       have hI:zhT x pi sh TF hs B.O B.w0 (Array.replicate os.size false) β fr.tmps w1:=by
        have zda:fr.tmps.size=s.tmps.length:=by have:=qra hF.tmps; simpa using this
        have hno:∀ p,¬ At (Array.replicate os.size false) pi p:=fun p=>by
         rintro ⟨i,_,h⟩;rw [hlist] at h; cases h
        refine ⟨by simp [hxo],by rw [zda,hFa.zdn],fun t ht => ?_,⟨0,Nat.zero_le _,fun j o _ _ => ?_,?_⟩,fun i m hi => ?_,fun p m hp=>absurd hp (hno p),fun i _=>hlist i,hxc▸hgl▸hG.glob⟩
        . rw [hFa.same t (fun o ho hd => ?_) β]
          . have:=qne (glob:=fun _=>none) (a:=⟨fr.tmps,fr.defers⟩) hF.tmps (fun _ _ h=>by cases h) (.tmp t)
            have e:evS (fun _=>none) s.tmps (.tmp t)=zbg s.tmps t:=by
             show zah (nth s.tmps t) qsa (fun v=>v)=_;unfold zbg; cases nth s.tmps t <;> rfl
            rw [e] at this; exact this
          . obtain ⟨j,hj⟩:=List.mem_iff_getElem?.1 ho;exact hno j (ht j o hj hd)
        . exact ⟨fun h=>absurd h (hno j),fun h=>by omega⟩
        . rw [hFa.zero,hxc,← hP]; exact hH'
        . rw [hlist] at hi; cases hi
       have hsteps:=q4r (os:=os) (s:=sh) (P:=c.P) (acc:=acc) (mv:=mv) (Inv:=fun l β ts w=>zhT x pi sh TF hs B.O B.w0 l β ts w) he ht fr fr.defers k' (frs++B.cs)
        (fun h=>by rw [← hxo]; exact h.size) (fun h=>h.tail) (fun h=>by rw [← hxo]; exact h.closed)
        (fun {l β ts w i} h hi his hma rest=>by
         obtain ⟨p,hp⟩:=List.mem_iff_getElem?.1 (hpa i his);have hpp:=(List.getElem?_eq_some_iff.1 hp).1;have:=q57 (x:=x) (s:=sh) hpn (fun p i hp=>by rw [hxh,hxo]; exact hget p i hp) (fun p m q hm hb=>by
           rw [hxm] at hm;have hpq:p<pi.length:=by
            have:=(List.getElem?_eq_some_iff.1 hm).1;unfold msP at this
            rwa [qxa,qha,qpd,List.length_map,List.length_range'] at this
           rw [qx1 _ _ _ _ hpq] at hm;cases hm;rw [qbm] at hb;exact of_decide_eq_true (Bool.and_eq_true_iff.1 hb).1) (by rw [hxo,hxh,hxm]; exact hh) hFa h hp (by rw [hxo]; exact hi) his (fun q hq=>by
           rw [hxm,qx1 _ _ _ _ hpp] at hq;simp only [Option.getD_some] at hq;rw [qbm] at hq;obtain ⟨hqp,hb⟩:=Bool.and_eq_true_iff.1 hq;have hqp:=of_decide_eq_true hqp;have hql:q<pi.length:=by omega
           have hqj:pi[q]? = some pi[q]:=List.getElem?_eq_getElem hql;rw [q3o hp,q3o hqj] at hb;refine ⟨pi[q],hqj,?_⟩;unfold zkC at hb;cases hbit:zbH (atN (qca os.toList []) i) pi[q] with
           | true =>
             obtain ⟨_,h2,_⟩:=qcd os.toList [];have hio:i<os.size:=hpos i (hpa i his);have hil:i<(qca os.toList []).length:=by rw [h2]; simpa using hio
             have hm:=List.getElem?_eq_getElem hil;rw [q3o hm] at hbit;exact qxb (by rw [← hxo]; exact h.closed) hi hm hbit
           | false =>
             rw [hbit,zam] at hb;obtain ⟨hb1,hb2⟩:=qhb hb;have hia:i∈acc:=q3n hb1;have hmi:mv i=true:=by
              rw [← hacc] at hia;have:=(List.mem_filter.1 hia).2;exact (Bool.and_eq_true_iff.1 this).1
             obtain ⟨done,tl,ha,hd⟩:=hma hmi;exact hd _ (joa hpn hpf ha hp hqj hqp hb2)) fr fr.defers rest k' (frs++B.cs)
         rw [hxo,hxc] at this;exact this)
       obtain ⟨β2,ts2,w2,l2,hle,hI2,hall,hst⟩:=hsteps os.size tp (Array.replicate os.size false) β fr.tmps w1 [] hI (hun _) (fun j hj=>by cases hj) (by rw [List.nil_append]; exact hacc)
       rw [← hP] at hst;have hatt:∀ p,p<pi.length->At l2 pi p:=fun p hp=>⟨pi[p],List.getElem?_eq_getElem hp,hall _ (hpin _ (List.getElem_mem hp)) (hpos _ (List.getElem_mem hp))⟩;obtain ⟨cc,hcl,hcm,hH2⟩:=hI2.heap;have hend:hs cc=hs sh:=by
        have:=qxf hFa (a:=cc) (sh - cc) (by omega) fun j o h1 h2 ho=>by
         cases hmo:q9b x.c.P o with
         | false=>rfl
         | true =>
           exfalso;have hj:=(List.getElem?_eq_some_iff.1 ho).1;have:=(hcm j o ho hmo).1 (hatt j (by omega))
           omega
        rw [show cc+(sh - cc)=sh from by omega] at this
        exact this
       rw [hend,hxc,← hP] at hH2;refine .of_steps hst ⟨_,.refl _ _,.inl ⟨_,hfin,⟨β2,_,frs,w2,rfl,⟨⟨hF.fn,?_,?_,SD.zan hle hF.defers,rfl,hF.kind,hF.round.mono hle⟩,hR.mono hle⟩,hH2,⟨by rw [hgl,← hxc]; exact hI2.glob,Val.le_trans hG.fix hle⟩,Eq.trans (qac (f:=fr) (f':=fr.atR ⟨ts2,fr.defers⟩ _) rfl) hl⟩⟩⟩
       ·
        refine q4f (show ts2.toList.length=_ by rw [Array.length_toList]; exact hI2.tsz) fun i v hv => ?_
        have hi:=hI2.tmps i fun j o ho _=>hatt j (by have:=(List.getElem?_eq_some_iff.1 ho).1; omega)
        have hg:zbg TF i=v:=by unfold zbg; rw [qda,hv]; rfl
        have hil:i<ts2.size:=by rw [hI2.tsz]; exact (List.getElem?_eq_some_iff.1 hv).1
        rw [hg] at hi;refine ⟨_,?_,hi⟩;show ts2.toList[i]? = some (ts2.getD i undef);rw [Array.getElem?_toList];exact q8f hil rfl
       . exact ⟨⟨rfl,zbX.drop os sh⟩,hkk.mono hle⟩
   . have he:qmb os.toList 0=false:=by simpa using he
     rw [he] at hob;exact hob.elim
theorem q20 (hc:zaC c) (hP:B.P=c.P) (hgl:B.glob=c.glob) {id:Nat} {os:Array Oper} {k:List zaK} {s:SF} {rest:List SF} {H:List SO} {β:Val} {fr:Frame} {frs:List Frame} {w:World} (hF:zar β s fr) (hR:zat β rest frs) (hH:zac B.P B.O B.w0 β H w) (hG:zcD B β)
  (hl:((fr::frs).getLast?).map (·.fn)=some B.fn0) (htd:s.todo=.code (.region id os true)::k) (hob:(q03 os k s rest c H go).Ob D S):After B go D S (lone fr (frs++B.cs) w):=by
 unfold q03 at hob;cases hea:c.each os with
 | true=>rw [hea,zak] at hob; exact qek hc hP hF hR hH hG hl htd hob
 | false =>
 rw [hea,zam] at hob;unfold jgd at hob;cases ha:qv6 (qta os.toList (qke (qca os.toList []) 0)) with
 | true =>
   rw [ha] at hob;rw [zak] at hob;cases hm:qo1 os.toList with
   | true=>rw [hm,zak] at hob; exact q10 hc hP hgl hF hR hH hG hl htd hob
   | false =>
   rw [hm,zam] at hob;unfold jfd at hob;cases hf:qol c.P os (qke (qca os.toList []) 0) (qca os.toList []) with
   | false =>
     rw [hf,zam] at hob;cases hb:qdr c.P (qta os.toList (qke (qca os.toList []) 0)) (qca os.toList []) (qta os.toList (qke (qca os.toList []) 0)) (qca os.toList []) 0 with
     | true=>rw [hb] at hob; exact q1n hc hP hgl hF hR hH hG hl htd hob
     | false=>rw [hb] at hob; exact qek hc hP hF hR hH hG hl htd hob
   | true =>
     rw [hf,zak] at hob;cases hb:qdr c.P (qta os.toList (Nat.pred (qke (qca os.toList []) 0))) (qca os.toList []) (qta os.toList (Nat.pred (qke (qca os.toList []) 0))) (qca os.toList []) 0 with
     | true=>rw [hb] at hob; exact q2n hc hP hgl hF hR hH hG hl htd hob
     | false=>rw [hb] at hob; exact qek hc hP hF hR hH hG hl htd hob
 | false =>
   rw [ha] at hob;unfold jcd at hob;simp only [zam] at hob;cases hr:qw6 c (qta os.toList (qke (qca os.toList []) 0)) with
   | false =>
     rw [hr,zam] at hob;unfold jbd at hob;cases hk:qsh os os.toList (qca os.toList []) (qke (qca os.toList []) 0) with
     | true=>rw [hk,zak] at hob; exact qy0 hc hP hgl hF hR hH hG hl htd hob
     | false=>rw [hk,zam] at hob; exact qz0 hc hP hgl hF hR hH hG hl htd hob
   | true =>
     rw [hr,zak] at hob;cases hf:qol c.P os (qke (qca os.toList []) 0) (qca os.toList []) with
     | false=>rw [hf] at hob; exact q1n hc hP hgl hF hR hH hG hl htd hob
     | true=>rw [hf] at hob; exact q2n hc hP hgl hF hR hH hG hl htd hob
end
end
end Go.Sim
