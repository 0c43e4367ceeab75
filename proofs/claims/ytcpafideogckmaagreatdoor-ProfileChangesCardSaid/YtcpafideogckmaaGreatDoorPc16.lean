/-
  Texts behind one another: the symbolic simulator and what it is told of the program.
-/
import Derived.Test.YtcpafideogckmaaGreatDoorCzPro11
import Derived.Test.YtcpafideogckmaaGreatDoorCzPro12
namespace Go.Proofs.YtcpafideogckmaaGreatDoor.Aes
noncomputable section
open Go.Sim
open Go.Proofs
variable {α:Type}
set_option maxRecDepth 100000
def seR (base:Nat) (p:Int) (v:SI) (n:Nat) (X:Nat->BitVec 8):SumRes:=⟨seV base p v n,[],[.own (.fn (qea X) n) false 5]⟩
def seOK (v u:SI) (k c:Sl) (n cl:Nat):Prop:=(0<=v.den/\v.den<=65535)/\(1<=u.den/\u.den<=1023)/\k.o+n<=k.N/\c.o+cl<=c.N
def seA (F:HashF) (E:CtsF) (H:List SO) (base:Nat) (v u:SI) (k:Sl) (kn n:Nat) (c:Sl) (cn:Nat) (tv:SV):R SumRes :=
 boolC (Nat.beq n 16) (qcc H tv fun t tn=>boolC (qrc [kn,cn,tn]) (.need (t.o+t.n<=t.N/\t.n<=208) (.ok (seR base 1 v (16+t.n+16) (two (cphS F E k c t u.den) (qfx F E k c t u.den))))) (.stuck 794)) (.stuck 794)
def seB (F:HashF) (H:List SO) (base:Nat) (v u:SI) (k:Sl) (kn n:Nat) (c:Sl) (cn:Nat) (tv:SV):R SumRes :=
 boolC (Nat.beq n 32) (qoi H tv fun t tn tl=>boolC (qrc [kn,cn,tn]) (boolC (Nat.beq tl 5) (.need (t.o+5<=t.N) (.ok (seR base 2 v (16+5+32) (two (cph5 F k c t u.den) (tag5 F k c t u.den))))) (.stuck 795)) (.stuck 795)) (.stuck 795)
def jhm (F:HashF) (E:CtsF):Summ:=fun args H base=>qop args fun kv uv cv tv=>kv.asAgg (.stuck 796) fun l=>qoc l fun p v s=>optC (litI p) (.stuck 796) fun p=>i64O v fun v=>i64O uv fun u=>qbf H (qoi H s fun k kn n=>qoi H cv fun c cn cl=>.need (seOK v u k c n cl)
 (boolC (Nat.beq cl 16) (boolC (Nat.beq p 1) (seA F E H base v u k kn n c cn tv) (boolC (Nat.beq p 2) (seB F H base v u k kn n c cn tv) (.stuck 796))) (.stuck 796)))
theorem jim {I:Ifc} {base j n:Nat} {p:Int} {v:SI} {X:Nat->BitVec 8} {H:List SO} (hj:I.known j=false) (ho:q6b I.ents 0=[]) (hE:H[j]? = some (.own (.fn (qea X) n) false 5)):I.Ends base [j] (seR base p v n X) (seV j p (.sym v.den) n) H:=by
 have ho':I.out base [j] j=base:=by
  unfold Ifc.out
  rw [hj]
  show base+idxN j [j]=base
  rw [show idxN j [j]=boolC (Nat.beq j j) 0 _ from rfl,Nat.beq_refl]; rfl
 have hs:I.seen [j] j=true:=by
  unfold Ifc.seen
  rw [hj]
  exact (memN_iff (n:=j) (l:=[j])).2 List.mem_cons_self
 refine ⟨?_,?_,by rw [ho]; trivial,⟨qpf hE fun _ _=>rfl,trivial⟩⟩
 . show (SV.tuple [.agg [.int .i64 (.lit p),.int .i64 (.sym v.den),.slice ⟨I.out base [j] j,.lit 0⟩ (.sym n) (.rest (I.out base [j] j) 0)],.int .i64 (.lit 0)]).Imp _
   rw [ho']
   intro γ x hx
   simp only [SV.den,SV.denL,Option.map_eq_some_iff,Option.bind_eq_some_iff] at hx
   unfold seR seV q0e
   simp only [SV.den,SV.denL,Option.map_eq_some_iff,Option.bind_eq_some_iff]
   exact hx
 . show ((true && (true && ((I.seen [j] j && I.seen [j] j) && true))) && (true && true))=true
   rw [hs]; rfl
theorem q3g {β:Val} {p v s s':SV} {ys:List SV} {vs:List Value} (h:SV.denL β (.agg [p,v,s]::ys)=some vs) (hs:∀ x,s.den β=some x->s'.den β=some x) {p' v':SV} (hp:p.Imp p') (hv:v.Imp v'):SV.denL β (.agg [p',v',s']::ys)=some vs:=by
 obtain ⟨x,zs,hx,hzs,rfl⟩:=denL_cons.1 h
 refine denL_cons.2 ⟨_,_,?_,hzs,rfl⟩
 simp only [SV.den,SV.denL,Option.map_eq_some_iff,Option.bind_eq_some_iff] at hx ⊢
 obtain ⟨us,⟨u1,hu1,us1,⟨u2,hu2,us2,⟨u3,hu3,us3,hus3,rfl⟩,rfl⟩,rfl⟩,rfl⟩:=hx
 exact ⟨_,⟨u1,hp _ _ hu1,_,⟨u2,hv _ _ hu2,_,⟨u3,hs _ hu3,us3,hus3,rfl⟩,rfl⟩,rfl⟩,rfl⟩
theorem qhh {β:Val} {p v s:SV} {ys:List SV} {vs:List Value} (h:SV.denL β (.agg [p,v,s]::ys)=some vs):(∃ x,s.den β=some x)/\∃ zs,SV.denL β ys=some zs:=by
 obtain ⟨x,zs,hx,hzs,rfl⟩:=denL_cons.1 h
 simp only [SV.den,SV.denL,Option.map_eq_some_iff,Option.bind_eq_some_iff] at hx
 obtain ⟨us,⟨u1,hu1,us1,⟨u2,hu2,us2,⟨u3,hu3,us3,hus3,rfl⟩,rfl⟩,rfl⟩,rfl⟩:=hx
 exact ⟨⟨_,hu3⟩,_,hzs⟩
theorem jwu:SumAt Tryz.prog q3b 6 (jhm shaF encF):=by
 intro O w0 β H w base args vs hH hG ha
 refine q1h fun kv uv cv tv hv => ?_
 rcases qmc kv with ⟨l,rfl⟩ | hno
 case inr=>rw [hno]; trivial
 refine qcb fun p v s hl=>qja fun p0 hp=>q2a fun v' hv'=>q2a fun u hu=>qkc fun hT=>q6e fun k kn n hn1 ht1 hi1 hkn=>q6e fun c cn cl hn2 ht2 hi2 hcl=>fun ⟨⟨hv1,hv2⟩,⟨hu1,hu2⟩,hk,hc⟩=>qfa fun h16 => ?_
 have h16:=qpa h16
 subst hl hv' hu h16
 rw [hv,qjf hp] at ha
 obtain ⟨⟨xs,hxs⟩,zs,hzs⟩:=qhh ha
 obtain ⟨m,hks⟩:=Sl.valN_den (hi1 _ _ hxs)
 obtain ⟨xu,zs1,hxu,hzs1,rfl⟩:=denL_cons.1 hzs
 obtain ⟨xc,zs2,hxc,hzs2,rfl⟩:=denL_cons.1 hzs1
 obtain ⟨xt,zs3,hxt,hzs3,rfl⟩:=denL_cons.1 hzs2
 obtain ⟨m2,hcs⟩:=Sl.valN_den (hi2 _ _ hxc)
 have harg:∀ (p:Int) (n0:Nat) (tv':SV),p0=p->n=n0->tv'.den β=some xt->SV.denL β [.agg [.int .i64 (.lit p),.int .i64 (.sym v'.den),(k.pl m).valN kn n0],.int .i64 (.sym u.den),(c.pl m2).valN cn 16,tv']=some vs:=by
  intro p n0 tv' hpp hnn htv
  subst hpp hnn
  have h1:=q3g (s':=(k.pl m).valN kn n) (p':=.int .i64 (.lit (.ofNat p0))) (v':=.int .i64 (.sym v'.den)) ha (fun x hx=>by rw [hxs] at hx; cases hx; exact hks) (.refl _) (qla rfl)
  obtain ⟨xa,ws,hxa,hws,rfl⟩:=denL_cons.1 h1
  refine denL_cons.2 ⟨_,_,hxa,?_,rfl⟩
  rw [hzs] at hws
  cases hws
  exact denL_cons.2 ⟨_,_,qla rfl _ _ hxu,denL_cons.2 ⟨_,_,hcs,denL_cons.2 ⟨_,_,htv,hzs3,rfl⟩,rfl⟩,rfl⟩
 have hdk:∀ (n:Nat) (x:BitVec 8),n<=32->okK (dkS shaF k n u.den x):=fun n x hn=>⟨by show 0+n<=n; omega,by show n<=4096; omega⟩
 have hc16:okL (c.len 16):=⟨hc,by show 16<=_; omega⟩
 refine qna (fun hp1=>qfa fun hn16=>qab fun t tn hn3 ht3 hi3=>qfa fun hd=>fun ⟨h1,h2⟩ => ?_) fun _=>qfa fun hp2=>qfa fun hn32=>q6e fun t tn tl hn3 ht3 hi3 htl=>qfa fun hd=>qfa fun h5=>fun h1 => ?_
 . have hp1:=qpa hp1
   have hn16:=qpa hn16
   subst hn16
   obtain ⟨m3,_,hts⟩:=Sl.val_den (hi3 _ _ hxt)
   refine qka qf6 8000 hH (qqa [kn,cn,tn] [k.row,c.row,t.row] [.agg [.int .i64 (.lit 1),.int .i64 (.sym v'.den),(k.pl m).valN 4 16],.int .i64 (.sym u.den),(c.pl m2).valN 5 16,(t.pl m3).val 6]) (qma hG) ?_ (Ifc.fits (nd4 hd (by simp only [List.mem_cons,List.not_mem_nil,or_false]; rintro x (rfl | rfl | rfl) <;> assumption)) ?_ (qdb hT ⟨⟨ht1 _,k.row_uses _⟩,⟨ht2 _,c.row_uses _⟩,⟨ht3 _,t.row_uses _⟩,trivial⟩)) [20] (by simp [qqa]) (by simp) (jdq shaF encF v'.den u.den k c t m m2 m3) ?_ fun H2 hH2=>jim rfl rfl (List.cons.inj hH2).1
   . show SV.denL β [.agg [.int .i64 (.lit 1),.int .i64 (.sym v'.den),((k.pl m).valN 4 16).ren _],.int .i64 (.sym u.den),((c.pl m2).valN 5 16).ren _,((t.pl m3).val 6).ren _]=_
     rw [Sl.valN_ren,Sl.valN_ren,Sl.val_ren]
     exact harg 1 16 _ (by rw [hp1]; rfl) rfl hts
   . rfl
   . have hcp:okL (cphS shaF encF k c t u.den):=⟨by show 0+(16+t.n)<=16+t.n; omega,by show 16+t.n<=_; omega⟩
     exact all_cons (decide_eq_true hv1) (all_cons (decide_eq_true hv2) (all_cons (decide_eq_true hu1) (all_cons (decide_eq_true hu2) (all_cons (decide_eq_false (by omega)) (all_cons (qda _) (all_cons hk (all_cons (qda _) (all_cons (qda _) (all_cons ⟨⟨hc16,by omega⟩,h1,by omega⟩ (all_cons (by omega) (all_cons (by omega) (all_cons (decide_eq_false (by omega)) (all_cons (decide_eq_true (by omega)) (all_cons (qda _) (all_cons ⟨by omega,by omega⟩ (all_cons (qda _) (all_cons hk (all_cons (qda _) (all_cons ⟨hdk 16 _ (by omega),hcp⟩ (all_cons (qda _) (all_cons ⟨⟨hcp,by show 16+t.n≠0; omega⟩,by show 0+16<=32; omega,by show 16<=_; omega⟩ qaa)))))))))))))))))))))
 . have hp2:=qpa hp2
   have hn32:=qpa hn32
   have h5:=qpa h5
   subst hn32 h5
   obtain ⟨m3,hts⟩:=Sl.valN_den (hi3 _ _ hxt)
   refine qka qf6 8000 hH (qqa [kn,cn,tn] [k.row,c.row,t.row] [.agg [.int .i64 (.lit 2),.int .i64 (.sym v'.den),(k.pl m).valN 4 32],.int .i64 (.sym u.den),(c.pl m2).valN 5 16,(t.pl m3).valN 6 5]) (qma hG) ?_ (Ifc.fits (nd4 hd (by simp only [List.mem_cons,List.not_mem_nil,or_false]; rintro x (rfl | rfl | rfl) <;> assumption)) ?_ (qdb hT ⟨⟨ht1 _,k.row_uses _⟩,⟨ht2 _,c.row_uses _⟩,⟨ht3 _,t.row_uses _⟩,trivial⟩)) [19] (by simp [qqa]) (by simp) (jeq shaF encF v'.den u.den k c t m m2 m3) ?_ fun H2 hH2=>jim rfl rfl (List.cons.inj hH2).1
   . show SV.denL β [.agg [.int .i64 (.lit 2),.int .i64 (.sym v'.den),((k.pl m).valN 4 32).ren _],.int .i64 (.sym u.den),((c.pl m2).valN 5 16).ren _,((t.pl m3).valN 6 5).ren _]=_
     rw [Sl.valN_ren,Sl.valN_ren,Sl.valN_ren]
     exact harg 2 32 _ (by rw [hp2]; rfl) rfl hts
   . rfl
   . have hcp:okL (cph5 shaF k c t u.den):=⟨by show 0+(16+5)<=16+5; omega,by show 16+5<=_; omega⟩
     have ht5:okL (t.len 5):=⟨h1,by show 5<=_; omega⟩
     exact all_cons (decide_eq_true hv1) (all_cons (decide_eq_true hv2) (all_cons (decide_eq_true hu1) (all_cons (decide_eq_true hu2) (all_cons (qda _) (all_cons hk (all_cons (qda _) (all_cons (qda _) (all_cons ⟨hdk 32 _ (by omega),hc16,ht5⟩ (all_cons (qda _) (all_cons ⟨⟨hc16,by omega⟩,by show 0+5<=5; omega,by show 5<=_; omega⟩ (all_cons (qda _) (all_cons hk (all_cons (qda _) (all_cons ⟨hdk 32 _ (by omega),hcp⟩ (all_cons (qda _) (all_cons ⟨⟨hcp,by show 16+5≠0; omega⟩,by show 0+32<=32; omega,by show 32<=_; omega⟩ qaa))))))))))))))))
end
noncomputable section
open Go.Sim
open Go.Proofs
variable {α:Type}
set_option maxRecDepth 100000
theorem q4u {x:SI} {n:Int} {t f:R α} {a:α} (h:x.den=n->t.Leaf a) (h':x.den≠n->f.Leaf a):(isI x n t f).Leaf a:=by
 unfold isI
 by_cases hx:x.den=n
 . cases x with
   | lit m =>
     have hx:m=n:=hx
     show (boolC (eqI m n) t f).Leaf a
     rw [show eqI m n=true by rw [qqi]; simpa using hx]
     exact h hx
   | sym m=>exact .inl ⟨by simpa using hx,h hx⟩
   | b8 m=>exact .inl ⟨by simpa using hx,h hx⟩
   | b32 m=>exact .inl ⟨by simpa using hx,h hx⟩
   | b64 m=>exact .inl ⟨by simpa using hx,h hx⟩
 . cases x with
   | lit m =>
     have hx:m≠n:=hx
     show (boolC (eqI m n) t f).Leaf a
     rw [show eqI m n=false by rw [qqi]; simpa using hx]
     exact h' hx
   | sym m=>exact .inr ⟨by simpa using hx,h' hx⟩
   | b8 m=>exact .inr ⟨by simpa using hx,h' hx⟩
   | b32 m=>exact .inr ⟨by simpa using hx,h' hx⟩
   | b64 m=>exact .inr ⟨by simpa using hx,h' hx⟩
theorem qr3 {x:SI} {n:Int} {t f:R α} {a:α} (h:n<=x.den->t.Leaf a) (h':¬ n<=x.den->f.Leaf a):(leI n x t f).Leaf a:=by
 unfold leI
 by_cases hx:n<=x.den
 . cases x with
   | lit m =>
     show (boolC (decide (n<=m)) t f).Leaf a
     rw [decide_eq_true (show n<=m from hx)]
     exact h hx
   | sym m=>exact .inl ⟨decide_eq_true hx,h hx⟩
   | b8 m=>exact .inl ⟨decide_eq_true hx,h hx⟩
   | b32 m=>exact .inl ⟨decide_eq_true hx,h hx⟩
   | b64 m=>exact .inl ⟨decide_eq_true hx,h hx⟩
 . cases x with
   | lit m =>
     show (boolC (decide (n<=m)) t f).Leaf a
     rw [decide_eq_false (show ¬ n<=m from hx)]
     exact h' hx
   | sym m=>exact .inr ⟨decide_eq_false hx,h' hx⟩
   | b8 m=>exact .inr ⟨decide_eq_false hx,h' hx⟩
   | b32 m=>exact .inr ⟨decide_eq_false hx,h' hx⟩
   | b64 m=>exact .inr ⟨decide_eq_false hx,h' hx⟩
theorem qyz {x:SI} {n:Int} {t f:R SumRes} {a:SumRes} (h:x.den<=n->t.Leaf a) (h':¬ x.den<=n->f.Leaf a):(fdOne.isLe x n t f).Leaf a:=by
 unfold fdOne.isLe
 by_cases hx:x.den<=n
 . cases x with
   | lit m =>
     show (boolC (decide (m<=n)) t f).Leaf a
     rw [decide_eq_true (show m<=n from hx)]
     exact h hx
   | sym m=>exact .inl ⟨decide_eq_true hx,h hx⟩
   | b8 m=>exact .inl ⟨decide_eq_true hx,h hx⟩
   | b32 m=>exact .inl ⟨decide_eq_true hx,h hx⟩
   | b64 m=>exact .inl ⟨decide_eq_true hx,h hx⟩
 . cases x with
   | lit m =>
     show (boolC (decide (m<=n)) t f).Leaf a
     rw [decide_eq_false (show ¬ m<=n from hx)]
     exact h' hx
   | sym m=>exact .inr ⟨decide_eq_false hx,h' hx⟩
   | b8 m=>exact .inr ⟨decide_eq_false hx,h' hx⟩
   | b32 m=>exact .inr ⟨decide_eq_false hx,h' hx⟩
   | b64 m=>exact .inr ⟨decide_eq_false hx,h' hx⟩
theorem q49 {l:SN} {n:Nat} {t f:R α} {a:α} (h:l.den=n->t.Leaf a) (h':l.den≠n->f.Leaf a):(qod l n t f).Leaf a:=by
 unfold qod
 by_cases hx:l.den=n
 . cases l with
   | lit m =>
     have hx:m=n:=hx
     show (boolC (Nat.beq m n) t f).Leaf a
     subst hx
     rw [Nat.beq_refl]
     exact h rfl
   | sym m=>exact .inl ⟨decide_eq_true hx,h hx⟩
   | byt o x=>exact .inl ⟨decide_eq_true hx,h hx⟩
 . cases l with
   | lit m =>
     have hx:m≠n:=hx
     show (boolC (Nat.beq m n) t f).Leaf a
     rw [show Nat.beq m n=false from Bool.eq_false_iff.2 fun e=>hx (qpa e)]
     exact h' hx
   | sym m=>exact .inr ⟨decide_eq_false hx,h' hx⟩
   | byt o x=>exact .inr ⟨decide_eq_false hx,h' hx⟩
def q6f (p v:Int) (l:Nat):Prop:=((p=1/\l=16)\/(p=2/\l=32))/\0<=v/\v<=65535
def usQ (p v u:Int) (l:Nat):Prop:=q6f p v l/\1<=u/\u<=1023
def keyQ (H:List SO) (kv:SV) (f:SI->SI->Nat->R α):R α:=kv.asAgg (.stuck 798) fun l=>qoc l fun p v s=>i64O p fun p=>i64O v fun v=>qob s (f p v 0) fun a l=>boolC (quc (nth H a.nm)) (f p v l.den) (.stuck 798)
def qiq (i:Int) (k:SV):Summ:=fun args H _=>qdd args fun kv uv=>keyQ H kv fun p v l=>i64O uv fun u=>.need (p.den=i/\q6f p.den v.den l/\1<=u.den/\u.den<=1023) (usR k 0)
theorem qmd {i:Int} {k:SV} (hik:(i=1/\k=kv1)\/(i=2/\k=kv2)):q3a Tryz.prog 15 (qiq i k):=by
 intro glob O w0 β H w base args vs hH hG ha
 have hS:=qhq glob O w0 β H w base args vs hH hG ha
 refine qnb fun kv uv hv => ?_
 subst hv
 rcases qmc kv with ⟨l,rfl⟩ | hno
 case inr=>unfold keyQ; rw [hno]; trivial
 refine qcb fun p v s hl=>q2a fun p' hp=>q2a fun v' hv' => ?_
 subst hl hp hv'
 refine qxa (fun hn=>q2a fun u hu=>fun ⟨_,⟨hval,_⟩,_⟩ => ?_) fun a len c hs=>qfa fun hpl=>q2a fun u hu=>fun ⟨hpi,⟨hval,h2,h3⟩,h4,h5⟩ => ?_
 . rcases hval with ⟨_,h⟩ | ⟨_,h⟩ <;> cases h
 . subst hs hu
   refine (show q4a Tryz.prog H β w base 15 vs ⟨usV k 0,[],[]⟩ from R.sat_leaf hS ?_)
   show (boolC (quc (nth H a.nm)) (isI p' 1 (qex kv1 16 len v' u) (isI p' 2 (qex kv2 32 len v' u) (usR kv0 2))) (.stuck 791)).Leaf _
   rw [hpl,boolC_true]
   have one:∀ (k:SV) (n:Nat),len.den=n->(qex k n len v' u).Leaf ⟨usV k 0,[],[]⟩:=fun k n h1 =>
    q49 (fun _=>qr3 (fun _=>qyz (fun _=>qr3 (fun _=>qyz (fun _=>rfl) fun h=>absurd h5 h) fun h=>absurd h4 h) fun h=>absurd h3 h) fun h=>absurd h2 h) fun h=>absurd h1 h
   rcases hik with ⟨rfl,rfl⟩ | ⟨rfl,rfl⟩
   . refine q4u (fun _=>one kv1 16 ?_) fun h=>absurd hpi h
     rcases hval with ⟨_,h⟩ | ⟨h,_⟩
     . exact h
     . rw [hpi] at h; cases h
   . refine q4u (fun h=>by rw [hpi] at h; cases h) fun _=>q4u (fun _=>one kv2 32 ?_) fun h=>absurd hpi h
     rcases hval with ⟨h,_⟩ | ⟨_,h⟩
     . rw [hpi] at h; cases h
     . exact h
def kdOf (p:Int):Nat:=if p=1 then 1 else if p=2 then 2 else 0
def kvI (i:Nat):SV:=boolC (Nat.beq i 1) kv1 (boolC (Nat.beq i 2) kv2 kv0)
section
variable (b:Bool) (p v:Int) (o l m:Nat)
end
theorem q59 (p:Int):kdOf p=0\/kdOf p=1\/kdOf p=2:=by
 unfold kdOf
 split
 . exact .inr (.inl rfl)
 . split
   . exact .inr (.inr rfl)
   . exact .inl rfl
end
noncomputable section
open Go.Sim
open Go.Proofs
variable {α:Type}
set_option maxRecDepth 1000000
def sgT (st:Option (Nat × Nat)) (F:HashF) (k c t:Sl):Tree:=qca ((qqk F).at st) 4000 62 [k.val 4,c.val 5,t.val 6] (qpc [k.row,c.row,t.row])
def sgS0 (F:HashF) (k c t:Sl):SS:=qah (sgT (some (1,7)) F k c t) [false,true,true]
structure SgA where
 i:Int
 L:Int
 j:Nat
 G:Nat->BitVec 8
 S:Nat->BitVec 8
def sgC (F:HashF) (k c t:Sl) (A:SgA):Cut :=
 ⟨q2f (sgS0 F k c t).frames [[(0,k.val 4),(1,c.val 5),(7,.slice ⟨7,.lit 0⟩ (.sym t.n) (.rest 7 0)),(8,.int .i64 (.sym A.i)),(9,.slice ⟨8,.lit 0⟩ (.lit 32) (.lit 32)),(36,.int .i64 (.sym A.L)),(37,.int .i64 (.sym A.j))]],
  [.ent q3f,.ent q4f,.ent anyR,.ent anyR,.ent k.row,.ent c.row,.ent t.row,.ent (.own (.fn (qea A.G) t.n) false 5),.ent (.own (.lst (bx (tabB A.S 32))) true 81)]⟩
def sgK (F:HashF) (k c:Sl) (v:Int):Nat->BitVec 8:=qba (macB F k.F k.n (two c (slL (num4 v))) (c.n+4))
def sg0 (k c t:Sl) (b:Bool) (r:List Prop):List Prop:=IsB (qea t.X)::okL t::(((t.n:Int) == 0)=false)::(decide ((0:Int)<t.n)=true)::IsB (qea k.X)::IsB (qea c.X)::(okK k/\okL c/\okL (slL (num4 1)))::(decide ((t.n:Int)<32)=b)::r
def qg6 (n:Nat) (A:SgA):List Prop:=[decide ((A.j:Int)<A.L)=true,qza (A.i+A.j),0<=A.i+A.j/\A.i+A.j<n,0+(A.i+A.j).toNat * 1<n,0<=(A.j:Int)/\(A.j:Int)<32,0+(A.j:Int).toNat * 1<32,0<=A.i+A.j/\A.i+A.j<n,0+(A.i+A.j).toNat * 1<n,qza ((A.j:Int)+1)]
def sgB (A:SgA):BitVec 8:=A.G (0+(A.i+A.j).toNat * 1) ^^^ qba (tabB A.S 32) (0+(A.j:Int).toNat * 1)
def sgE (n:Nat) (A:SgA):SO:=.own (.fn (fun p=>if p=0+(A.i+A.j).toNat * 1 then .int .u8 (.b8 (sgB A)) else qea A.G p) n) false 5
def sgG (A:SgA):Nat->BitVec 8:=fun p=>if p=0+(A.i+A.j).toNat * 1 then sgB A else A.G p
def sgV (i:Int):Int:=IntKind.i64.wrap (i.tdiv 32)+1
def q0l (k c t:Sl) (A:SgA) (b:Bool) (r:List Prop):List Prop:=(decide ((A.j:Int)<A.L)=false)::qza (A.i+32)::(decide (A.i+32<t.n)=true)::qza (sgV (A.i+32))::IsB (qea k.X)::IsB (qea c.X)::(okK k/\okL c/\okL (slL (num4 (sgV (A.i+32)))))::qza (A.i+32+32)::(decide ((t.n:Int)<A.i+32+32)=b)::r
section
variable (F:HashF) (k c t:Sl) (m m2 m3:Nat) (A:SgA) (J:Junk) (z:Nat->Nat->Nat)
theorem jqi:outL [] (sgC F (k.pl m) (c.pl m2) (t.pl m3) A) [0,1,2,3,4,5,6,8,11] (sgT (some (1,7)) F (k.pl m) (c.pl m2) (t.pl m3)) [false,true,true] z =
  (sg0 k c t true [0<=(t.n:Int)/\(t.n:Int)<=t.n,0<=(t.n:Int).toNat],some (.inr (q0b [(0,8,.int .i64 (.lit 0)),(0,37,.int .i64 (.lit 0))] [] (qhb [0,1,2,3,4,5,6,8,11] 12 (sgC F (k.pl m) (c.pl m2) (t.pl m3) ⟨0,(t.n:Int).toNat,0,qhd t,sgK F k c 1⟩))))):=by kernel_rfl
theorem jri:outL [] (sgC F (k.pl m) (c.pl m2) (t.pl m3) A) [0,1,2,3,4,5,6,8,11] (sgT (some (1,7)) F (k.pl m) (c.pl m2) (t.pl m3)) [false,true,false] z =
  (sg0 k c t false [32<=t.n],some (.inr (q0b [(0,8,.int .i64 (.lit 0)),(0,37,.int .i64 (.lit 0)),(0,36,.int .i64 (.lit 32))] [] (qhb [0,1,2,3,4,5,6,8,11] 12 (sgC F (k.pl m) (c.pl m2) (t.pl m3) ⟨0,32,0,qhd t,sgK F k c 1⟩))))):=by kernel_rfl
def sgR (st:Option (Nat × Nat)):Tree:=sim1 ((qqk F).at st) 4000 ((sgC F (k.pl m) (c.pl m2) (t.pl m3) A).fill J)
theorem jfq:outL [] (sgC F (k.pl m) (c.pl m2) (t.pl m3) A) [0,1,2,3,4,5,6,7,8] (sgR F k c t m m2 m3 A J (some (1,7))) [true] z =
  (qg6 t.n A,some (.inr (q0b [] [(7,.ent (sgE t.n A))] (qhb [0,1,2,3,4,5,6,7,8] 9 (sgC F (k.pl m) (c.pl m2) (t.pl m3) ⟨A.i,A.L,A.j+1,sgG A,A.S⟩))))):=by kernel_rfl
theorem jsi:outL [] (sgC F (k.pl m) (c.pl m2) (t.pl m3) A) [0,1,2,3,4,5,6,7,11] (sgR F k c t m m2 m3 A J (some (1,7))) [false,true,true] z =
  (q0l k c t A true [0<=(t.n:Int)/\(t.n:Int)<=t.n,0<=A.i+32/\A.i+32<=((t.n:Int).toNat:Int)],some (.inr (q0b [(0,37,.int .i64 (.lit 0))] [] (qhb [0,1,2,3,4,5,6,7,11] 12 (sgC F (k.pl m) (c.pl m2) (t.pl m3) ⟨A.i+32,(((t.n:Int).toNat - (A.i+32).toNat:Nat):Int),0,A.G,sgK F k c (sgV (A.i+32))⟩))))):=by kernel_rfl
theorem jti:outL [] (sgC F (k.pl m) (c.pl m2) (t.pl m3) A) [0,1,2,3,4,5,6,7,11] (sgR F k c t m m2 m3 A J (some (1,7))) [false,true,false] z =
  (q0l k c t A false [0<=A.i+32+32/\A.i+32+32<=(t.n:Int),0<=A.i+32/\A.i+32<=((A.i+32+32).toNat:Int)],some (.inr (q0b [(0,37,.int .i64 (.lit 0))] [] (qhb [0,1,2,3,4,5,6,7,11] 12 (sgC F (k.pl m) (c.pl m2) (t.pl m3) ⟨A.i+32,(((A.i+32+32).toNat - (A.i+32).toNat:Nat):Int),0,A.G,sgK F k c (sgV (A.i+32))⟩))))):=by kernel_rfl
theorem jxu:outL [7] (sgC F (k.pl m) (c.pl m2) (t.pl m3) A) [0,1,2,3,4,5,6,7,8] (sgR F k c t m m2 m3 A J none) [false,false] z =
  ([decide ((A.j:Int)<A.L)=false,qza (A.i+32),decide (A.i+32<t.n)=false],some (.inl (q0e 7 t.n,[some (.own (.fn (qea A.G) t.n) false 5)]))):=by kernel_rfl
theorem jui (B:SgA):boolC (qvb 7 [0,1,2,3,4,5,6,7,8] (sgC F (k.pl m) (c.pl m2) (t.pl m3) A) (sgC F (k.pl m) (c.pl m2) (t.pl m3) B)) (allN qlb (sgC F (k.pl m) (c.pl m2) (t.pl m3) B).heap) false=true:=by kernel_rfl
theorem qzz (B:SgA):boolC (qvb 7 [0,1,2,3,4,5,6,7,11] (sgC F (k.pl m) (c.pl m2) (t.pl m3) A) (sgC F (k.pl m) (c.pl m2) (t.pl m3) B)) (allN qlb (sgC F (k.pl m) (c.pl m2) (t.pl m3) B).heap) false=true:=by kernel_rfl
theorem q0z (B:SgA):boolC (qvb 7 [0,1,2,3,4,5,6,8,11] (sgC F (k.pl m) (c.pl m2) (t.pl m3) A) (sgC F (k.pl m) (c.pl m2) (t.pl m3) B)) (allN qlb (sgC F (k.pl m) (c.pl m2) (t.pl m3) B).heap) false=true:=by kernel_rfl
end
end
noncomputable section
open Go.Sim
open Go.Proofs
variable {α:Type}
set_option maxRecDepth 1000000
theorem qs3 {q:Nat} (hq:q<2 ^ 50):sgV (32 * (q:Int))=(q:Int)+1:=by
 unfold sgV
 rw [show (32 * (q:Int)).tdiv 32=(q:Int) by rw [Int.tdiv_eq_ediv_of_nonneg (by omega)]; omega]
 rw [wrap_i64 ⟨by omega,by omega⟩]
theorem qwc {C:Cut} {i j:Nat} {v:SV} (h:((C.frames[i]?).bind fun p=>p.tmps[j]?)=some (some v)) {p:SP} {u:Option SV} (hp:C.frames[i]? = some p) (hu:p.tmps[j]? = some u) {w:SV} {f:Nat->Nat} (hi:w.Imp (v.ren f)):∃ x,u=some x/\w.Imp (x.ren f):=by
 rw [hp] at h
 simp only [Option.bind_some,hu,Option.some.injEq] at h
 exact ⟨v,h,hi⟩
theorem q1l (F:HashF) (k c t:Sl) (m m2 m3:Nat) (A:SgA):(((sgC F (k.pl m) (c.pl m2) (t.pl m3) A).frames[0]?).bind fun p=>p.tmps[8]?)=some (some (.int .i64 (.sym A.i)))/\(((sgC F (k.pl m) (c.pl m2) (t.pl m3) A).frames[0]?).bind fun p=>p.tmps[36]?)=some (some (.int .i64 (.sym A.L)))/\(((sgC F (k.pl m) (c.pl m2) (t.pl m3) A).frames[0]?).bind fun p=>p.tmps[37]?)=some (some (.int .i64 (.sym (A.j:Int)))):=⟨by kernel_rfl,by kernel_rfl,by kernel_rfl⟩
def strG (F:HashF) (k c t:Sl):Nat->BitVec 8:=fun p=>t.X (t.o+p) ^^^ sgK F k c (((p / 32:Nat):Int)+1) (p % 32)
structure SgQ (F:HashF) (k c t:Sl) (A:SgA) (q:Nat):Prop where
 i:A.i=32 * (q:Int)
 lt:32 * q<t.n
 L:A.L=((min 32 (t.n - 32 * q):Nat):Int)
 j:A.j<=min 32 (t.n - 32 * q)
 S:A.S=sgK F k c ((q:Int)+1)
 G:∀ p,p<t.n->A.G p=if p<32 * q+A.j then strG F k c t p else qhd t p
def sgD (F:HashF) (k c t:Sl) (v:SV) (H:List SO):Prop:=v=q0e 7 t.n/\∃ G,(∀ p,p<t.n->G p=strG F k c t p)/\H[7]? = some (.own (.fn (qea G) t.n) false 5)
theorem qht (v:Int):okL (slL (num4 v)):=q9k (n:=4) rfl (by omega)
theorem jgq {k c t:Sl} {m m2 m3:Nat} (hk:okK k) (hc:okL c) (ht:okL t) (hn:t.n≠0):Runs (qqk shaF) 62 [(k.pl m).val 4,(c.pl m2).val 5,(t.pl m3).val 6] (qpc [(k.pl m).row,(c.pl m2).row,(t.pl m3).row]) (sgD shaF k c t):=by
 have hbig:t.n<=1099511627776:=ht.2
 have hn1:((t.n:Int) == 0)=false:=by rw [beq_eq_false_iff_ne]; omega
 have hn2:decide ((0:Int)<t.n)=true:=decide_eq_true (by omega)
 have h0:∀ {b r},decide ((t.n:Int)<32)=b->(∀ p∈r,p)->∀ p∈sg0 k c t b r,p:=fun hb hr=>all_cons (qda _) (all_cons ht (all_cons hn1 (all_cons hn2 (all_cons (qda _) (all_cons (qda _) (all_cons ⟨hk,hc,qht 1⟩ (all_cons hb hr)))))))
 have hg0:∀ p,p<t.n->qhd t p=if p<32 * 0+0 then strG shaF k c t p else qhd t p:=fun p _=>by rw [if_neg (by omega)]
 refine qng qqo (sgC shaF (k.pl m) (c.pl m2) (t.pl m3)) (fun A=>∃ q,SgQ shaF k c t A q) (fun A=>33 * (t.n - A.i.toNat)+(32 - A.j)) (fun g nm hg=>Nat.lt_of_lt_of_le (q8p hg) (by show 2<=7; omega)) ?_ fun A ⟨q,hQ⟩ J => ?_
 . by_cases hl:(t.n:Int)<32
   . refine qpg (some (1,7)) 4000 ⟨0,(t.n:Int).toNat,0,qhd t,sgK shaF k c 1⟩ ⟨0,rfl,by omega,by show (((t.n:Int).toNat:Nat):Int)=_; omega,by show 0<=_; omega,rfl,hg0⟩ (jqi shaF k c t m m2 m3 ⟨0,0,0,qhd t,qhd t⟩) (q0z shaF k c t m m2 m3 _ _) ?_ (by simp) (h0 (decide_eq_true hl) (all_cons ⟨by omega,by omega⟩ (all_cons (by omega) qaa)))
     intro x hx p u hp hu
     simp only [List.mem_cons,List.not_mem_nil,or_false] at hx
     rcases hx with rfl | rfl
     . exact qwc (q1l _ _ _ _ _ _ _ _).1 hp hu (qla rfl)
     . exact qwc (q1l _ _ _ _ _ _ _ _).2.2 hp hu (qla rfl)
   . refine qpg (some (1,7)) 4000 ⟨0,32,0,qhd t,sgK shaF k c 1⟩ ⟨0,rfl,by omega,by show (32:Int)=_; omega,by show 0<=_; omega,rfl,hg0⟩ (jri shaF k c t m m2 m3 ⟨0,0,0,qhd t,qhd t⟩) (q0z shaF k c t m m2 m3 _ _) ?_ (by simp) (h0 (decide_eq_false hl) (all_cons (by omega) qaa))
     intro x hx p u hp hu
     simp only [List.mem_cons,List.not_mem_nil,or_false] at hx
     rcases hx with rfl | rfl | rfl
     . exact qwc (q1l _ _ _ _ _ _ _ _).1 hp hu (qla rfl)
     . exact qwc (q1l _ _ _ _ _ _ _ _).2.2 hp hu (qla rfl)
     . exact qwc (q1l _ _ _ _ _ _ _ _).2.1 hp hu (qla rfl)
 . obtain ⟨hi,hlt,hL,hj,hS,hG⟩:=hQ
   by_cases hjl:(A.j:Int)<A.L
   . have hidx:0+(A.i+A.j).toNat * 1=32 * q+A.j:=by omega
     refine qvc (some (1,7)) 4000 ⟨A.i,A.L,A.j+1,sgG A,A.S⟩ ⟨⟨q,hi,hlt,hL,by show A.j+1<=_; omega,hS,fun p hp => ?_⟩,by show 33 * (t.n - A.i.toNat)+(32 - (A.j+1))<33 * (t.n - A.i.toNat)+(32 - A.j); omega⟩ (jfq shaF k c t m m2 m3 A J) (jui shaF k c t m m2 m3 _ _) (by simp) ?_
      (all_cons (decide_eq_true hjl) (all_cons ⟨by omega,by omega⟩ (all_cons ⟨by omega,by omega⟩ (all_cons (by omega) (all_cons ⟨by omega,by omega⟩ (all_cons (by omega) (all_cons ⟨by omega,by omega⟩ (all_cons (by omega) (all_cons ⟨by omega,by omega⟩ qaa)))))))))
     . show sgG A p=if p<32 * q+(A.j+1) then _ else _
       unfold sgG
       rw [hidx]
       by_cases hpi:p=32 * q+A.j
       . rw [if_pos hpi,if_pos (by omega)]
         unfold sgB
         rw [hidx,hG _ (by omega),if_neg (by omega),qqc (by omega),hS]
         unfold strG qhd
         rw [hpi,show (32 * q+A.j) / 32=q by omega,show (32 * q+A.j) % 32=A.j by omega,show 0+(A.j:Int).toNat * 1=A.j by omega]
       . rw [if_neg hpi,hG p hp]
         by_cases hpl:p<32 * q+A.j
         . rw [if_pos hpl,if_pos (by omega)]
         . rw [if_neg hpl,if_neg (by omega)]
     . intro e he E0 hE0
       simp only [List.mem_cons,List.not_mem_nil,or_false] at he
       subst he
       have hE0:some (HP.ent (.own (.fn (qea (sgG A)) t.n) false 5))=some E0:=hE0
       cases hE0
       refine ⟨_,rfl,qgq fun p _ => ?_⟩
       show (if p=0+(A.i+A.j).toNat * 1 then SV.int .u8 (.b8 (sgB A)) else qea A.G p).Imp (.int .u8 (.b8 (sgG A p)))
       unfold sgG
       by_cases hpi:p=0+(A.i+A.j).toNat * 1
       . rw [if_pos hpi,if_pos hpi]; exact .refl _
       . rw [if_neg hpi,if_neg hpi]; exact .refl _
   . have hjl':A.j=min 32 (t.n - 32 * q):=by omega
     have e1:decide ((A.j:Int)<A.L)=false:=decide_eq_false hjl
     by_cases hnx:A.i+32<t.n
     . have hj32:A.j=32:=by omega
       have hi':A.i+32=32 * ((q+1:Nat):Int):=by omega
       have hv:sgV (A.i+32)=((q+1:Nat):Int)+1:=by rw [hi']; exact qs3 (by omega)
       have hg:∀ p,p<t.n->A.G p=if p<32 * (q+1)+0 then strG shaF k c t p else qhd t p:=fun p hp=>by
        rw [hG p hp,show 32 * (q+1)+0=32 * q+A.j by omega]
       have hC:∀ {b r},decide ((t.n:Int)<A.i+32+32)=b->(∀ p∈r,p)->∀ p∈q0l k c t A b r,p:=fun hb hr=>all_cons e1 (all_cons ⟨by omega,by omega⟩ (all_cons (decide_eq_true hnx) (all_cons (by rw [hv]; exact ⟨by omega,by omega⟩) (all_cons (qda _) (all_cons (qda _) (all_cons ⟨hk,hc,qht _⟩ (all_cons ⟨by omega,by omega⟩ (all_cons hb hr))))))))
       have hT:∀ (B:SgA),B.j=0->∀ x∈([(0,37,.int .i64 (.lit 0))]:List (Nat × Nat × SV)),∀ p u,(sgC shaF (k.pl m) (c.pl m2) (t.pl m3) B).frames[x.1]? = some p->p.tmps[x.2.1]? = some u->∃ w,u=some w/\x.2.2.Imp (w.ren (qjc [0,1,2,3,4,5,6,7,11] 12)):=by
        intro B hB x hx p u hp hu
        simp only [List.mem_cons,List.not_mem_nil,or_false] at hx
        subst hx
        refine qwc (q1l _ _ _ _ _ _ _ _).2.2 hp hu (qla ?_)
        show (0:Int)=(B.j:Int)
        rw [hB]; rfl
       by_cases hl:(t.n:Int)<A.i+32+32
       . refine qvc (some (1,7)) 4000 ⟨A.i+32,(((t.n:Int).toNat - (A.i+32).toNat:Nat):Int),0,A.G,sgK shaF k c (sgV (A.i+32))⟩ ⟨⟨q+1,hi',by omega,by show (((t.n:Int).toNat - (A.i+32).toNat:Nat):Int)=_; omega,by show 0<=_; omega,by show sgK shaF k c (sgV (A.i+32))=_; rw [hv],hg⟩,by show 33 * (t.n - (A.i+32).toNat)+(32 - 0)<33 * (t.n - A.i.toNat)+(32 - A.j); omega⟩ (jsi shaF k c t m m2 m3 A J) (qzz shaF k c t m m2 m3 _ _) (hT _ rfl) (by simp) (hC (decide_eq_true hl) (all_cons ⟨by omega,by omega⟩ (all_cons ⟨by omega,by omega⟩ qaa)))
       . refine qvc (some (1,7)) 4000 ⟨A.i+32,(((A.i+32+32).toNat - (A.i+32).toNat:Nat):Int),0,A.G,sgK shaF k c (sgV (A.i+32))⟩ ⟨⟨q+1,hi',by omega,by show (((A.i+32+32).toNat - (A.i+32).toNat:Nat):Int)=_; omega,by show 0<=_; omega,by show sgK shaF k c (sgV (A.i+32))=_; rw [hv],hg⟩,by show 33 * (t.n - (A.i+32).toNat)+(32 - 0)<33 * (t.n - A.i.toNat)+(32 - A.j); omega⟩ (jti shaF k c t m m2 m3 A J) (qzz shaF k c t m m2 m3 _ _) (hT _ rfl) (by simp) (hC (decide_eq_false hl) (all_cons ⟨by omega,by omega⟩ (all_cons ⟨by omega,by omega⟩ qaa)))
     . refine qti none 4000 (jxu shaF k c t m m2 m3 A J) (all_cons e1 (all_cons ⟨by omega,by omega⟩ (all_cons (decide_eq_false hnx) qaa))) fun H hH=>⟨rfl,A.G,fun p hp => ?_,(List.cons.inj hH).1⟩
       rw [hG p hp,if_pos (by omega)]
theorem jhq (F:HashF) (k c t:Sl) (m m2 m3:Nat):outO [] (sgT none F (k.pl m) (c.pl m2) (t.pl m3)) [true]=([IsB (qea t.X),okL t,((t.n:Int) == 0)=true],some (.nilSlice,[])):=by kernel_rfl
def jjm:Cfg:=cfgG q3b (qbb [])
theorem jiq:CfgOK jjm:=qwb (by simp)
theorem jyu (k c:Sl) (m m2:Nat):outO [] (qca jjm 4000 62 [(k.pl m).val 4,(c.pl m2).val 5,.nilSlice] (qpc [k.row,c.row])) []=([],some (.nilSlice,[])):=by kernel_rfl
def stGS (F:HashF):Summ:=fun args H base=>qoc args fun kv cv tv=>qbf H (qcc H kv fun k kn=>qcc H cv fun c cn=>qob tv (boolC (qrc [kn,cn]) (.ok ⟨.nilSlice,[],[]⟩) (.stuck 793)) fun _ _=>qcc H tv fun t tn=>boolC (qrc [kn,cn,tn]) (.need (okK k/\okL c/\okL t) (isI (.sym t.n) 0 (.ok ⟨.nilSlice,[],[]⟩) (.ok (q8k base t.n (strG F k c t))))) (.stuck 793))
theorem jkm:SumAt Tryz.prog q3b 62 (stGS shaF):=by
 intro O w0 β H w base args vs hH hG ha
 refine qcb fun kv cv tv hv=>qkc fun hT=>qab fun k kn hn ht hk=>qab fun c cn hn2 ht2 hk2 => ?_
 rw [hv] at ha
 obtain ⟨x,ys,hx,hys,rfl⟩:=denL_cons.1 ha
 obtain ⟨y,zs,hy,hzs,rfl⟩:=denL_cons.1 hys
 obtain ⟨q,qs,hq,hqs,rfl⟩:=denL_cons.1 hzs
 obtain ⟨m,_,hx'⟩:=Sl.val_den (hk _ _ hx)
 obtain ⟨m2,_,hy'⟩:=Sl.val_den (hk2 _ _ hy)
 refine qxa (fun hnil=>qfa fun hd => ?_) fun _ _ _ _=>qab fun t tn hn3 ht3 hk3=>qfa fun hd=>fun ⟨h1,h2,h3⟩ => ?_
 . subst hnil
   refine qka jiq 4000 hH (qqa [kn,cn] [k.row,c.row] [(k.pl m).val 4,(c.pl m2).val 5,.nilSlice]) (qma hG) ?_ (Ifc.fits (nd4 hd (by simp only [List.mem_cons,List.not_mem_nil,or_false]; rintro x (rfl | rfl) <;> assumption)) ?_ (qdb hT ⟨⟨ht _,k.row_uses _⟩,⟨ht2 _,c.row_uses _⟩,trivial⟩)) [] (by simp [qqa]) (by simp) (jyu k c m m2) qaa fun H2 _=>qkb rfl rfl rfl
   . show SV.denL β [((k.pl m).val 4).ren _,((c.pl m2).val 5).ren _,.nilSlice]=_
     rw [Sl.val_ren,Sl.val_ren]
     exact denL_cons.2 ⟨_,_,hx',denL_cons.2 ⟨_,_,hy',denL_cons.2 ⟨_,_,hq,hqs,rfl⟩,rfl⟩,rfl⟩
   . show (((k.pl m).val 4).uses _ && (((c.pl m2).val 5).uses _ && (true && true)))=true
     rw [Sl.val_uses _ _ _ rfl,Sl.val_uses _ _ _ rfl]; rfl
 . obtain ⟨m3,_,hq'⟩:=Sl.val_den (hk3 _ _ hq)
   have hfit:Ifc.Fits (qqa [kn,cn,tn] [k.row,c.row,t.row] [(k.pl m).val 4,(c.pl m2).val 5,(t.pl m3).val 6]) H:=by
    refine Ifc.fits (nd4 hd (by simp only [List.mem_cons,List.not_mem_nil,or_false]; rintro x (rfl | rfl | rfl) <;> assumption)) ?_ (qdb hT ⟨⟨ht _,k.row_uses _⟩,⟨ht2 _,c.row_uses _⟩,⟨ht3 _,t.row_uses _⟩,trivial⟩)
    show (((k.pl m).val 4).uses _ && (((c.pl m2).val 5).uses _ && (((t.pl m3).val 6).uses _ && true)))=true
    rw [Sl.val_uses _ _ _ rfl,Sl.val_uses _ _ _ rfl,Sl.val_uses _ _ _ rfl]; rfl
   have harg:SV.denL β (SV.renL (qqa [kn,cn,tn] [k.row,c.row,t.row] [(k.pl m).val 4,(c.pl m2).val 5,(t.pl m3).val 6]).big [(k.pl m).val 4,(c.pl m2).val 5,(t.pl m3).val 6])=some (x::y::q::qs):=by
    show SV.denL β [((k.pl m).val 4).ren _,((c.pl m2).val 5).ren _,((t.pl m3).val 6).ren _]=_
    rw [Sl.val_ren,Sl.val_ren,Sl.val_ren]
    exact denL_cons.2 ⟨_,_,hx',denL_cons.2 ⟨_,_,hy',denL_cons.2 ⟨_,_,hq',hqs,rfl⟩,rfl⟩,rfl⟩
   refine q1c (fun h0 => ?_) fun h0 => ?_
   . have h0:(t.n:Int)=0:=h0
     exact qka qqo 4000 hH (qqa [kn,cn,tn] [k.row,c.row,t.row] [(k.pl m).val 4,(c.pl m2).val 5,(t.pl m3).val 6]) (qma hG) harg hfit [] (by simp [qqa]) (by simp) (jhq shaF k c t m m2 m3) (all_cons (qda _) (all_cons h3 (all_cons (by rw [h0]; rfl) qaa))) fun H2 _=>qkb rfl rfl rfl
   . have h0:(t.n:Int)≠0:=h0
     refine Go.Sim.sum_runs (c:=qqk shaF) hH (qqa [kn,cn,tn] [k.row,c.row,t.row] [(k.pl m).val 4,(c.pl m2).val 5,(t.pl m3).val 6]) (qma hG) harg hfit [7] (by simp [qqa]) (by simp) (q5f (jgq h1 h2 h3 (by omega)) fun v H2 ⟨hv,G,hGe,hE⟩ => ?_)
     subst hv
     exact qen rfl rfl hE rfl hGe
end
noncomputable section
open Go.Sim
open Go.Proofs
variable {α:Type}
set_option maxRecDepth 1000000
def qgx (F:HashF) (E D:CtsF) (us:Summ):Cfg:=cfgG q3b (qbb [(15,us),(30,deS F),(64,hmS F),(43,mkS (tagB F)),(46,mkS (tagS F)),(17,qft),(32,numS),(62,stGS F),(59,ctsS E),(60,ctsS D)])
theorem qro {us:Summ} (hu:q3a Tryz.prog 15 us):CfgOK (qgx shaF encF decF us):=qwb (allS (hu _) (allS deOK (allS hmOK (allS q19 (allS q29 (allS (qbs _) (allS (qas _) (allS jkm (allS (qz8 _) (allS (jul _) (by simp)))))))))))
def qqf (i:Int) (n:Nat) (v u:Int) (k c:Sl) (t:SV):List SV:=[.agg [.int .i64 (.lit i),.int .i64 (.sym v),k.valN 4 n],.int .i64 (.sym u),c.valN 5 16,t]
def sg1T (F:HashF) (E D:CtsF) (v u:Int) (k c t:Sl):Tree:=qca (qgx F E D (qiq 1 kv1)) 8000 6 (qqf 1 16 v u k c (t.val 6)) (qpc [k.row,c.row,t.row])
def sg1N (F:HashF) (E D:CtsF) (v u:Int) (k c:Sl):Tree:=qca (qgx F E D (qiq 1 kv1)) 8000 6 (qqf 1 16 v u k c .nilSlice) (qpc [k.row,c.row])
def sg2T (F:HashF) (E D:CtsF) (v u:Int) (k c t:Sl):Tree:=qca (qgx F E D (qiq 2 kv2)) 8000 6 (qqf 2 32 v u k c (t.val 6)) (qpc [k.row,c.row,t.row])
def sg2N (F:HashF) (E D:CtsF) (v u:Int) (k c:Sl):Tree:=qca (qgx F E D (qiq 2 kv2)) 8000 6 (qqf 2 32 v u k c .nilSlice) (qpc [k.row,c.row])
def qgg (X:Nat->BitVec 8) (n:Nat):Sl:=⟨X,n,0,n,true,0⟩
def nilSl:Sl:=⟨fun _=>0#8,0,0,0,false,0⟩
def usQ1 (i:Int) (v u:Int) (l:Nat):Prop:=i=i/\q6f i v l/\1<=u/\u<=1023
def cpA (F:HashF) (E:CtsF) (k:Sl) (u:Int) (M:Nat->BitVec 8) (n:Nat):Sl:=qgg (qba (E (qha (dkS F k 16 u 0xaa#8).X 0) (qha z16.X 0) (fun j=>M (0+j)) n)) n
def tgA (F:HashF) (k:Sl) (u:Int) (x:Sl):Sl:=⟨qba (tabB (qba (tagB F (dkS F k 16 u 0x55#8) x)) 32),32,0,16,false,16⟩
def tgB (F:HashF) (k:Sl) (u:Int) (x:Sl):Sl:=⟨qba (tabB (qba (tagS F (dkS F k 32 u 0x55#8) x)) 32),32,0,32,false,32⟩
def sgO (nm:Nat) (i v:Int) (x y:Sl) (n:Nat):Option (SV × List (Option SO)):=some (seV nm i (.sym v) n,[some (.own (.fn (qea (two x y)) n) false 5)])
def tgC (k:Sl) (dk x y:Sl) (n:Nat):List Prop:=[IsB (qea k.X),k.o+n<=k.N,IsB (qea x.X),okK dk/\okL x,IsB (qea x.X),(okL x/\x.n≠0)/\okL y]
def c1C (F:HashF) (E:CtsF) (k:Sl) (u:Int) (M:Nat->BitVec 8) (n:Nat) (r:List Prop):List Prop:=IsB (qea M)::(0+n<=n/\n<=224)::app (tgC k (dkS F k 16 u 0x55#8) (cpA F E k u M n) (tgA F k u (cpA F E k u M n)) 16) r
section
variable (F:HashF) (E D:CtsF) (v u:Int) (k c t:Sl) (m m2 m3:Nat)
theorem jjq:outO [20] (sg1T F E D v u (k.pl m) (c.pl m2) (t.pl m3)) [false,false,true] =
  (usQ1 1 v u 16::(decide ((t.n:Int) > 65536)=false)::IsB (qea k.X)::(k.o+16<=k.N)::IsB (qea c.X)::IsB (qea t.X)::((okL (c.len 16)/\16≠0)/\okL t)::(0+16<=16)::(0+16<=16)::(decide (16+t.n<16)=false)::(decide (16+t.n<131073)=true)::c1C F E k u (two (c.len 16) t) (16+t.n) [],
   sgO 20 1 v (cpA F E k u (two (c.len 16) t) (16+t.n)) (tgA F k u (cpA F E k u (two (c.len 16) t) (16+t.n))) (16+t.n+16)):=by kernel_rfl
theorem jkq:outO [19] (sg1N F E D v u (k.pl m) (c.pl m2)) [false,true] =
  (usQ1 1 v u 16::IsB (qea k.X)::(k.o+16<=k.N)::IsB (qea c.X)::(okL (c.len 16)/\16≠0)::(0+16<=16)::(0+16<=16)::(decide (16<16)=false)::(decide (16<131073)=true)::c1C F E k u (c.len 16).F 16 [],sgO 19 1 v (cpA F E k u (c.len 16).F 16) (tgA F k u (cpA F E k u (c.len 16).F 16)) (16+16)):=by kernel_rfl
def str2:Sl:=qgg (strG F (dkS F k 32 u 0xaa#8) (c.len 16) t) t.n
def cpB:Sl:=qgg (two (c.len 16) (str2 F u k c t)) (16+t.n)
def c2C (r:List Prop):List Prop:=usQ1 2 v u 32::(decide ((t.n:Int) > 65536)=false)::IsB (qea k.X)::(k.o+32<=k.N)::IsB (qea c.X)::IsB (qea t.X)::(okK (dkS F k 32 u 0xaa#8)/\okL (c.len 16)/\okL t)::r
theorem jlq:outO [19] (sg2T F E D v u (k.pl m) (c.pl m2) (t.pl m3)) [false,false] =
  (c2C F v u k c t ((((t.n:Int) == 0)=false)::IsB (qea c.X)::IsB (qea (str2 F u k c t).X)::((okL (c.len 16)/\16≠0)/\okL (str2 F u k c t))::tgC k (dkS F k 32 u 0x55#8) (cpB F u k c t) (tgB F k u (cpB F u k c t)) 32),sgO 19 2 v (cpB F u k c t) (tgB F k u (cpB F u k c t)) (16+t.n+32)):=by kernel_rfl
def c2N (r:List Prop):List Prop:=IsB (qea c.X)::(okL (c.len 16)/\16≠0)::app (tgC k (dkS F k 32 u 0x55#8) (qgg (c.len 16).F 16) (tgB F k u (qgg (c.len 16).F 16)) 32) r
theorem jvi:outO [18] (sg2T F E D v u (k.pl m) (c.pl m2) (t.pl m3)) [false,true] =
  (c2C F v u k c t ((((t.n:Int) == 0)=true)::c2N F u k c []),sgO 18 2 v (qgg (c.len 16).F 16) (tgB F k u (qgg (c.len 16).F 16)) (16+32)):=by kernel_rfl
theorem jmq:outO [17] (sg2N F E D v u (k.pl m) (c.pl m2)) [] =
  (usQ1 2 v u 32::IsB (qea k.X)::(k.o+32<=k.N)::IsB (qea c.X)::c2N F u k c [],sgO 17 2 v (qgg (c.len 16).F 16) (tgB F k u (qgg (c.len 16).F 16)) (16+32)):=by kernel_rfl
end
end
noncomputable section
open Go.Sim
open Go.Proofs
variable {α:Type}
set_option maxRecDepth 100000
theorem q4g {K:Nat->BitVec 8} {n:Nat} {M M':Nat->BitVec 8} {m:Nat} (h:∀ i,i<m->M i=M' i):macB shaF K n M m=macB shaF K n M' m:=by
 unfold macB
 rw [q9p (X:=catF (xorP shaF K n 0x36#8) 64 M) (Y:=catF (xorP shaF K n 0x36#8) 64 M') fun i hi => ?_]
 unfold catF
 by_cases c:i<64
 . rw [if_pos c,if_pos c]
 . rw [if_neg c,if_neg c]; exact h _ (by omega)
theorem q69 {K V:Blk} {P P':Nat->BitVec 8} {l:Nat} (h:∀ i,i<l->P i=P' i):encF K V P l=encF K V P' l:=by
 unfold encF qzs
 rw [show qxp P l=qxp P' l from funext fun j=>by
  unfold qxp
  by_cases c:j<l
  . rw [if_pos c,if_pos c,h j c]
  . rw [if_neg c,if_neg c]]
theorem qzj {a b:Sl} {i:Nat}:two a b i=if i<a.n then a.X (a.o+i) else b.X (b.o+(i - a.n)):=rfl
def SlEq (x y:Sl):Prop:=x.n=y.n/\∀ i,i<x.n->x.X (x.o+i)=y.X (y.o+i)
theorem qhx {k x y:Sl} (h:SlEq x y):tagS shaF k x=tagS shaF k y:=by
 unfold tagS
 rw [← h.1]
 exact q4g fun i hi=>h.2 i hi
theorem q79 {k x y:Sl} (h:SlEq x y):tagB shaF k x=tagB shaF k y:=by
 unfold tagB
 rw [← h.1]
 refine q4g fun i hi => ?_
 rw [qzj,qzj]
 by_cases c:i<z16.n
 . rw [if_pos c,if_pos c]
 . rw [if_neg c,if_neg c]
   exact h.2 _ (by have:z16.n=16:=rfl; omega)
theorem jxe {k:Sl} {u:Int} {M M':Nat->BitVec 8} {n:Nat} (h:∀ i,i<n->M i=M' i):cpA shaF encF k u M n=cpA shaF encF k u M' n:=by
 unfold cpA
 rw [q69 (P:=fun j=>M (0+j)) (P':=fun j=>M' (0+j)) fun i hi=>by rw [Nat.zero_add]; exact h i hi]
theorem q1z {k:Sl} {u:Int} {x y:Sl} (h:SlEq x y):tgB shaF k u x=tgB shaF k u y:=by
 unfold tgB; rw [qhx h]
theorem qcs {a b a' b':Sl} (ha:SlEq a a') (hb:SlEq b b') {i:Nat} (hi:i<a.n+b.n):two a b i=two a' b' i:=by
 rw [qzj,qzj,← ha.1]
 by_cases c:i<a.n
 . rw [if_pos c,if_pos c]; exact ha.2 i c
 . rw [if_neg c,if_neg c]; exact hb.2 _ (by omega)
def tagN (i:Nat):Nat:=boolC (Nat.beq i 1) 16 32
def jlm (F:HashF) (E:CtsF) (i:Nat) (k:Sl) (u:Int) (c t:Sl):Sl:=boolC (Nat.beq i 1) (cpA F E k u (two (c.len 16) t) (16+t.n)) (cpB F u k c t)
def sealT (F:HashF) (i:Nat) (k:Sl) (u:Int) (x:Sl):Sl:=boolC (Nat.beq i 1) (tgA F k u x) (tgB F k u x)
def jmm (F:HashF) (E:CtsF) (i:Nat) (k:Sl) (u:Int) (c t:Sl):Nat->BitVec 8:=two (jlm F E i k u c t) (sealT F i k u (jlm F E i k u c t))
def optL (o:Option Nat):List Nat:=optC o [] fun n=>[n]
def txtL (H:List SO) (v:SV) (f:Sl->Option Nat->R α):R α:=qob v (f nilSl none) fun _ _=>qcc H v fun t tn=>f t (some tn)
def sgV2 (base:Nat) (p v:SI) (n:Nat):SV:=.tuple [.agg [.int .i64 p,.int .i64 v,q0e base n],.int .i64 (.lit 0)]
def jye (F:HashF) (E:CtsF) (i:Nat):Summ:=fun args H base=>qop args fun kv uv cv tv=>kv.asAgg (.stuck 830) fun l=>qoc l fun p v s=>i64O p fun p=>i64O v fun v=>i64O uv fun u=>qbf H (qcc H s fun k kn=>qcc H cv fun c cn=>txtL H tv fun t tn =>
 boolC (qrc (kn::cn::optL tn)) (.need (p.den=(i:Int)/\usQ i v.den u.den k.n/\c.n=16/\okL k/\okL c/\okL t/\t.n<=208) (.ok ⟨sgV2 base p v (16+t.n+tagN i),[],[.own (.fn (qea (jmm F E i k u.den c t)) (16+t.n+tagN i)) false 5]⟩)) (.stuck 830))
theorem qds {I:Ifc} {base j n n':Nat} {i:Int} {p v:SI} {X X':Nat->BitVec 8} {H:List SO} (hj:I.known j=false) (ho:q6b I.ents 0=[]) (hp:p.den=i) (hE:H[j]? = some (.own (.fn (qea X) n) false 5)) (hn:n=n') (hX:∀ x,x<n->X x=X' x) :
  I.Ends base [j] ⟨sgV2 base p v n',[],[.own (.fn (qea X') n') false 5]⟩ (seV j i (.sym v.den) n) H:=by
 subst hn
 have ho':I.out base [j] j=base:=by
  unfold Ifc.out
  rw [hj]
  show base+idxN j [j]=base
  rw [show idxN j [j]=boolC (Nat.beq j j) 0 _ from rfl,Nat.beq_refl]; rfl
 have hs:I.seen [j] j=true:=by
  unfold Ifc.seen
  rw [hj]
  exact (memN_iff (n:=j) (l:=[j])).2 List.mem_cons_self
 refine ⟨?_,?_,by rw [ho]; trivial,⟨qpf hE hX,trivial⟩⟩
 . show (SV.tuple [.agg [.int .i64 (.lit i),.int .i64 (.sym v.den),.slice ⟨I.out base [j] j,.lit 0⟩ (.sym n) (.rest (I.out base [j] j) 0)],.int .i64 (.lit 0)]).Imp _
   rw [ho']
   subst hp
   intro γ x hx
   simp only [SV.den,SV.denL,Option.map_eq_some_iff,Option.bind_eq_some_iff] at hx
   unfold sgV2 q0e
   simp only [SV.den,SV.denL,Option.map_eq_some_iff,Option.bind_eq_some_iff]
   exact hx
 . show ((true && (true && ((I.seen [j] j && I.seen [j] j) && true))) && (true && true))=true
   rw [hs]; rfl
theorem Sl.val_denN {t:Sl} {nm n:Nat} (hn:t.n=n) {γ:Val} {x:Value} (h:(t.val nm).den γ=some x):∃ m,((t.pl m).valN nm n).den γ=some x:=by
 subst hn
 obtain ⟨m,_,hd⟩:=Sl.val_den h
 exact ⟨m,qke (l:=.sym t.n) (l':=.lit t.n) rfl _ _ hd⟩
theorem qt3 {H:List SO} {v:SV} {f:Sl->Option Nat->R α} {φ:α->Prop} (h0:v=.nilSlice->(f nilSl none).Sat φ) (h:∀ t nm,qeb nm=true->(∀ g,∃ e',H[nm]? = some e'/\qrb g t.row e')->v.Imp (t.val nm)->(f t (some nm)).Sat φ):(txtL H v f).Sat φ :=
 qxa h0 fun _ _ _ _=>qab fun t tn hn ht hi=>h t tn hn ht hi
theorem jnq {i:Nat} (hi12:i=1\/i=2):SumAt Tryz.prog q3b 6 (jye shaF encF i):=by
 intro O w0 β H w base args vs hH hG ha
 refine q1h fun kv uv cv tv hv => ?_
 rcases qmc kv with ⟨l,rfl⟩ | hno
 case inr=>rw [hno]; trivial
 refine qcb fun p v s hl=>q2a fun p' hp=>q2a fun v' hv'=>q2a fun u hu=>qkc fun hT=>qab fun k kn hn1 ht1 hi1=>qab fun c cn hn2 ht2 hi2 => ?_
 subst hl hp hv' hu
 rw [hv] at ha
 obtain ⟨⟨xs,hxs⟩,zs,hzs⟩:=qhh ha
 obtain ⟨xu,zs1,hxu,hzs1,rfl⟩:=denL_cons.1 hzs
 obtain ⟨xc,zs2,hxc,hzs2,rfl⟩:=denL_cons.1 hzs1
 obtain ⟨xt,zs3,hxt,hzs3,rfl⟩:=denL_cons.1 hzs2
 have harg:∀ (n0 m m2:Nat) (tv':SV),((k.pl m).valN kn n0).den β=some xs->((c.pl m2).valN cn 16).den β=some xc->p'.den=(i:Int)->tv'.den β=some xt->SV.denL β [.agg [.int .i64 (.lit i),.int .i64 (.sym v'.den),(k.pl m).valN kn n0],.int .i64 (.sym u.den),(c.pl m2).valN cn 16,tv']=some vs:=by
  intro n0 m m2 tv' hks hcs hpi htv
  have h1:=q3g (s':=(k.pl m).valN kn n0) (p':=.int .i64 (.lit i)) (v':=.int .i64 (.sym v'.den)) ha (fun x hx=>by rw [hxs] at hx; cases hx; exact hks) (qla hpi) (qla rfl)
  obtain ⟨xa,ws,hxa,hws,rfl⟩:=denL_cons.1 h1
  refine denL_cons.2 ⟨_,_,hxa,?_,rfl⟩
  rw [hzs] at hws
  cases hws
  exact denL_cons.2 ⟨_,_,qla rfl _ _ hxu,denL_cons.2 ⟨_,_,hcs,denL_cons.2 ⟨_,_,htv,hzs3,rfl⟩,rfl⟩,rfl⟩
 have hdk:∀ (n:Nat) (x:BitVec 8),n<=32->okK (dkS shaF k n u.den x):=fun n x hn=>⟨by show 0+n<=n; omega,by show n<=4096; omega⟩
 have hallo:∀ {X:Nat->BitVec 8} {n:Nat},n<=1099511627776->okL (qgg X n):=fun h=>⟨by show 0+_<=_; rw [Nat.zero_add]; exact Nat.le_refl _,h⟩
 have htg:∀ {n0:Nat} {x y:Sl} {b:BitVec 8},n0<=32->k.o+n0<=k.N->okL x->x.n≠0->okL y->∀ q∈tgC k (dkS shaF k n0 u.den b) x y n0,q:=fun h1 h2 hx h0 hy=>all_cons (qda _) (all_cons h2 (all_cons (qda _) (all_cons ⟨hdk _ _ h1,hx⟩ (all_cons (qda _) (all_cons ⟨⟨hx,h0⟩,hy⟩ qaa)))))
 have hc1:∀ {M:Nat->BitVec 8} {n:Nat},n≠0->n<=224->k.o+16<=k.N->∀ q∈c1C shaF encF k u.den M n [],q:=fun h0 hn hk=>all_cons (qda _) (all_cons ⟨by omega,hn⟩ (htg (by omega) hk (hallo (by omega)) h0 ⟨by show 0+16<=32; omega,by show 16<=_; omega⟩))
 have n3:∀ {x:Nat},x∈[kn,cn]->qeb x=true:=by simp only [List.mem_cons,List.not_mem_nil,or_false]; rintro x (rfl | rfl) <;> assumption
 refine qt3 (fun hnil=>qfa fun hd=>fun ⟨hpi,hq,hc16,hk,hc,_,_⟩ => ?_) fun t tn hn3 ht3 hi3=>qfa fun hd=>fun ⟨hpi,hq,hc16,hk,hc,ht,h208⟩ => ?_
 ·
  subst hnil
  obtain ⟨m2,hcs⟩:=Sl.val_denN hc16 (hi2 _ _ hxc)
  have hc':okL (c.len 16):=by rw [← hc16]; exact hc
  have fit:∀ (n0 m:Nat) (j0:Int),Ifc.Fits (qqa [kn,cn] [(k.pl m).row,(c.pl m2).row] (qqf j0 n0 v'.den u.den (k.pl m) (c.pl m2) .nilSlice)) H:=fun n0 m j0=>by
   exact Ifc.fits (nd4 hd fun _=>n3) rfl (qdb hT ⟨⟨ht1 _,k.row_uses _⟩,⟨ht2 _,c.row_uses _⟩,trivial⟩)
  have arg:∀ {n0 m:Nat},((k.pl m).valN kn n0).den β=some xs->SV.denL β (SV.renL (qqa [kn,cn] [(k.pl m).row,(c.pl m2).row] (qqf i n0 v'.den u.den (k.pl m) (c.pl m2) .nilSlice)).big (qqf i n0 v'.den u.den (k.pl m) (c.pl m2) .nilSlice))=some vs:=fun {n0 m} hks=>by
   show SV.denL β [.agg [.int .i64 (.lit i),.int .i64 (.sym v'.den),((k.pl m).valN 4 n0).ren _],.int .i64 (.sym u.den),((c.pl m2).valN 5 16).ren _,.nilSlice]=_
   rw [Sl.valN_ren,Sl.valN_ren]
   exact harg n0 m m2 .nilSlice hks hcs hpi hxt
  have e16:∀ x,x<16->(c.len 16).F x=two (c.len 16) nilSl x:=fun x hx=>by rw [qzj,if_pos (show x<(c.len 16).n from hx)]; rfl
  rcases hi12 with rfl | rfl
  . have hkn:k.n=16:=by rcases hq.1.1 with ⟨_,h⟩ | ⟨h,_⟩; exact h; cases h
    obtain ⟨m,hks⟩:=Sl.val_denN hkn (hi1 _ _ hxs)
    have hk16:k.o+16<=k.N:=by rw [← hkn]; exact hk.1
    refine qka (qro (qmd (.inl ⟨rfl,rfl⟩))) 8000 hH (qqa [kn,cn] [(k.pl m).row,(c.pl m2).row] (qqf 1 16 v'.den u.den (k.pl m) (c.pl m2) .nilSlice)) (qma hG) (arg hks) (fit 16 m 1) [19] (by simp [qqa]) (by simp) (jkq shaF encF decF v'.den u.den k c m m2) ?_ fun H2 hH2=>qds rfl rfl hpi (List.cons.inj hH2).1 rfl fun x _ => ?_
    . rw [hkn] at hq
      exact all_cons ⟨rfl,hq⟩ (all_cons (qda _) (all_cons hk16 (all_cons (qda _) (all_cons ⟨hc',by omega⟩ (all_cons (by omega) (all_cons (by omega) (all_cons (decide_eq_false (by omega)) (all_cons (decide_eq_true (by omega)) (hc1 (by omega) (by omega) hk16)))))))))
    . show two _ _ x=two (cpA shaF encF k u.den (two (c.len 16) nilSl) 16) (tgA shaF k u.den (cpA shaF encF k u.den (two (c.len 16) nilSl) 16)) x
      rw [jxe e16]
  . have hkn:k.n=32:=by rcases hq.1.1 with ⟨h,_⟩ | ⟨_,h⟩; cases h; exact h
    obtain ⟨m,hks⟩:=Sl.val_denN hkn (hi1 _ _ hxs)
    have hk16:k.o+32<=k.N:=by rw [← hkn]; exact hk.1
    refine qka (qro (qmd (.inr ⟨rfl,rfl⟩))) 8000 hH (qqa [kn,cn] [(k.pl m).row,(c.pl m2).row] (qqf 2 32 v'.den u.den (k.pl m) (c.pl m2) .nilSlice)) (qma hG) (arg hks) (fit 32 m 2) [17] (by simp [qqa]) (by simp) (jmq shaF encF decF v'.den u.den k c m m2) ?_ fun H2 hH2=>qds rfl rfl hpi (List.cons.inj hH2).1 rfl fun x hx => ?_
    . rw [hkn] at hq
      exact all_cons ⟨rfl,hq⟩ (all_cons (qda _) (all_cons hk16 (all_cons (qda _) (all_cons (qda _) (all_cons ⟨hc',by omega⟩ (htg (by omega) hk16 (hallo (by omega)) (by show 16≠0; omega) ⟨by show 0+32<=32; omega,by show 32<=_; omega⟩))))))
    . have hE:SlEq (qgg (c.len 16).F 16) (cpB shaF u.den k c nilSl):=⟨rfl,fun j hj=>by show (c.len 16).F (0+j)=two (c.len 16) (str2 shaF u.den k c nilSl) (0+j); rw [Nat.zero_add,qzj,if_pos (show j<(c.len 16).n from hj)]; rfl⟩
      show two (qgg (c.len 16).F 16) (tgB shaF k u.den (qgg (c.len 16).F 16)) x=two (cpB shaF u.den k c nilSl) (tgB shaF k u.den (cpB shaF u.den k c nilSl)) x
      rw [q1z hE]
      exact qcs hE ⟨rfl,fun _ _=>rfl⟩ hx
 . obtain ⟨m2,hcs⟩:=Sl.val_denN hc16 (hi2 _ _ hxc)
   obtain ⟨m3,_,hts⟩:=Sl.val_den (hi3 _ _ hxt)
   have hc':okL (c.len 16):=by rw [← hc16]; exact hc
   have n4:∀ {x:Nat},x∈[kn,cn,tn]->qeb x=true:=by simp only [List.mem_cons,List.not_mem_nil,or_false]; rintro x (rfl | rfl | rfl) <;> assumption
   have fit:∀ (n0 m:Nat) (j0:Int),Ifc.Fits (qqa [kn,cn,tn] [(k.pl m).row,(c.pl m2).row,(t.pl m3).row] (qqf j0 n0 v'.den u.den (k.pl m) (c.pl m2) ((t.pl m3).val 6))) H:=fun n0 m j0 =>
    Ifc.fits (nd4 hd fun _=>n4) rfl (qdb hT ⟨⟨ht1 _,k.row_uses _⟩,⟨ht2 _,c.row_uses _⟩,⟨ht3 _,t.row_uses _⟩,trivial⟩)
   have arg:∀ {n0 m:Nat},((k.pl m).valN kn n0).den β=some xs->SV.denL β (SV.renL (qqa [kn,cn,tn] [(k.pl m).row,(c.pl m2).row,(t.pl m3).row] (qqf i n0 v'.den u.den (k.pl m) (c.pl m2) ((t.pl m3).val 6))).big (qqf i n0 v'.den u.den (k.pl m) (c.pl m2) ((t.pl m3).val 6)))=some vs:=fun {n0 m} hks=>by
    show SV.denL β [.agg [.int .i64 (.lit i),.int .i64 (.sym v'.den),((k.pl m).valN 4 n0).ren _],.int .i64 (.sym u.den),((c.pl m2).valN 5 16).ren _,((t.pl m3).val 6).ren _]=_
    rw [Sl.valN_ren,Sl.valN_ren,Sl.val_ren]
    exact harg n0 m m2 ((t.pl m3).val tn) hks hcs hpi hts
   have ht0:decide ((t.n:Int) > 65536)=false:=decide_eq_false (by omega)
   rcases hi12 with rfl | rfl
   . have hkn:k.n=16:=by rcases hq.1.1 with ⟨_,h⟩ | ⟨h,_⟩; exact h; cases h
     obtain ⟨m,hks⟩:=Sl.val_denN hkn (hi1 _ _ hxs)
     have hk16:k.o+16<=k.N:=by rw [← hkn]; exact hk.1
     refine qka (qro (qmd (.inl ⟨rfl,rfl⟩))) 8000 hH (qqa [kn,cn,tn] [(k.pl m).row,(c.pl m2).row,(t.pl m3).row] (qqf 1 16 v'.den u.den (k.pl m) (c.pl m2) ((t.pl m3).val 6))) (qma hG) (arg hks) (fit 16 m 1) [20] (by simp [qqa]) (by simp) (jjq shaF encF decF v'.den u.den k c t m m2 m3) ?_ fun H2 hH2=>qds rfl rfl hpi (List.cons.inj hH2).1 rfl fun x _=>rfl
     rw [hkn] at hq
     exact all_cons ⟨rfl,hq⟩ (all_cons ht0 (all_cons (qda _) (all_cons hk16 (all_cons (qda _) (all_cons (qda _) (all_cons ⟨⟨hc',by omega⟩,ht⟩ (all_cons (by omega) (all_cons (by omega) (all_cons (decide_eq_false (by omega)) (all_cons (decide_eq_true (by omega)) (hc1 (by omega) (by omega) hk16)))))))))))
   . have hkn:k.n=32:=by rcases hq.1.1 with ⟨h,_⟩ | ⟨_,h⟩; cases h; exact h
     obtain ⟨m,hks⟩:=Sl.val_denN hkn (hi1 _ _ hxs)
     have hk16:k.o+32<=k.N:=by rw [← hkn]; exact hk.1
     rw [hkn] at hq
     have hpre:∀ {r:List Prop},(∀ q∈r,q)->∀ q∈c2C shaF v'.den u.den k c t r,q:=fun hr=>all_cons ⟨rfl,hq⟩ (all_cons ht0 (all_cons (qda _) (all_cons hk16 (all_cons (qda _) (all_cons (qda _) (all_cons ⟨hdk _ _ (by omega),hc',ht⟩ hr))))))
     have hy:∀ {x:Sl},okL (tgB shaF k u.den x):=⟨by show 0+32<=32; omega,by show 32<=_; omega⟩
     by_cases h0:(t.n:Int)=0
     . have h0':t.n=0:=by omega
       refine qka (qro (qmd (.inr ⟨rfl,rfl⟩))) 8000 hH (qqa [kn,cn,tn] [(k.pl m).row,(c.pl m2).row,(t.pl m3).row] (qqf 2 32 v'.den u.den (k.pl m) (c.pl m2) ((t.pl m3).val 6))) (qma hG) (arg hks) (fit 32 m 2) [18] (by simp [qqa]) (by simp) (jvi shaF encF decF v'.den u.den k c t m m2 m3) ?_ fun H2 hH2=>qds rfl rfl hpi (List.cons.inj hH2).1 (by rw [h0']; rfl) fun x hx => ?_
       . exact hpre (all_cons (by rw [h0]; rfl) (all_cons (qda _) (all_cons ⟨hc',by omega⟩ (htg (by omega) hk16 (hallo (by omega)) (by show 16≠0; omega) hy))))
       . have hE:SlEq (qgg (c.len 16).F 16) (cpB shaF u.den k c t):=⟨by show 16=16+t.n; omega,fun j hj=>by show (c.len 16).F (0+j)=two (c.len 16) (str2 shaF u.den k c t) (0+j); rw [Nat.zero_add,qzj,if_pos (show j<(c.len 16).n from hj)]; rfl⟩
         show two (qgg (c.len 16).F 16) (tgB shaF k u.den (qgg (c.len 16).F 16)) x=two (cpB shaF u.den k c t) (tgB shaF k u.den (cpB shaF u.den k c t)) x
         rw [q1z hE]
         exact qcs hE ⟨rfl,fun _ _=>rfl⟩ hx
     . refine qka (qro (qmd (.inr ⟨rfl,rfl⟩))) 8000 hH (qqa [kn,cn,tn] [(k.pl m).row,(c.pl m2).row,(t.pl m3).row] (qqf 2 32 v'.den u.den (k.pl m) (c.pl m2) ((t.pl m3).val 6))) (qma hG) (arg hks) (fit 32 m 2) [19] (by simp [qqa]) (by simp) (jlq shaF encF decF v'.den u.den k c t m m2 m3) ?_ fun H2 hH2=>qds rfl rfl hpi (List.cons.inj hH2).1 rfl fun x _=>rfl
       have hst:okL (str2 shaF u.den k c t):=hallo (by omega)
       exact hpre (all_cons (by rw [beq_eq_false_iff_ne]; exact h0) (all_cons (qda _) (all_cons (qda _) (all_cons ⟨⟨hc',by omega⟩,hst⟩ (htg (by omega) hk16 (hallo (by omega)) (by show 16+t.n≠0; omega) hy)))))
end
end Go.Proofs.YtcpafideogckmaaGreatDoor.Aes
