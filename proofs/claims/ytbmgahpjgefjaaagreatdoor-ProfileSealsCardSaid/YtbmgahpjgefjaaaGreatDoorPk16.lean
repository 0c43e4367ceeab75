/-
  Texts behind one another: the symbolic simulator and what it is told of the program.
-/
import Derived.Test.YtbmgahpjgefjaaaGreatDoorZPro11
import Derived.Test.YtbmgahpjgefjaaaGreatDoorZPro12
namespace Go.Proofs.YtbmgahpjgefjaaaGreatDoor.Aes
open Go.Sim
open Go.Proofs
variable {α:Type}
set_option maxRecDepth 100000
noncomputable def seR (base:Nat) (p:Int) (v:SI) (n:Nat) (X:Nat→BitVec 8):SumRes:=⟨seV base p v n,[],[.own (.fn (qea X) n) false 5]⟩
noncomputable def seOK (v u:SI) (k c:Sl) (n cl:Nat):Prop:=(0≤v.den∧v.den≤65535)∧(1≤u.den∧u.den≤1023)∧k.o+n≤k.N∧c.o+cl≤c.N
noncomputable def seA (F:HashF) (E:CtsF) (H:List SO) (base:Nat) (v u:SI) (k:Sl) (kn n:Nat) (c:Sl) (cn:Nat) (tv:SV):R SumRes :=
  boolC (Nat.beq n 16) (qnc H tv fun t tn=>boolC (qfd [kn,cn,tn]) (.need (t.o+t.n≤t.N∧t.n≤208) (.ok (seR base 1 v (16+t.n+16) (two (cphS F E k c t u.den) (qhx F E k c t u.den))))) (.stuck 794)) (.stuck 794)
noncomputable def seB (F:HashF) (H:List SO) (base:Nat) (v u:SI) (k:Sl) (kn n:Nat) (c:Sl) (cn:Nat) (tv:SV):R SumRes :=
  boolC (Nat.beq n 32) (qoi H tv fun t tn tl=>boolC (qfd [kn,cn,tn]) (boolC (Nat.beq tl 5) (.need (t.o+5≤t.N) (.ok (seR base 2 v (16+5+32) (two (cph5 F k c t u.den) (tag5 F k c t u.den))))) (.stuck 795)) (.stuck 795)) (.stuck 795)
noncomputable def j6k (F:HashF) (E:CtsF):Summ:=fun args H base=>q3m args fun kv uv cv tv=>kv.asAgg (.stuck 796) fun l=>quc l fun p v s=>optC (litI p) (.stuck 796) fun p=>i64O v fun v=>i64O uv fun u=>qif H (qoi H s fun k kn n=>qoi H cv fun c cn cl=>.need (seOK v u k c n cl)
  (boolC (Nat.beq cl 16) (boolC (Nat.beq p 1) (seA F E H base v u k kn n c cn tv) (boolC (Nat.beq p 2) (seB F H base v u k kn n c cn tv) (.stuck 796))) (.stuck 796)))
theorem j7k {I:Ifc} {base j n:Nat} {p:Int} {v:SI} {X:Nat→BitVec 8} {H:List SO} (hj:I.known j=false) (ho:q8b I.ents 0=[]) (hE:H[j]? = some (.own (.fn (qea X) n) false 5)):I.Ends base [j] (seR base p v n X) (seV j p (.sym v.den) n) H:=by
  have ho':I.out base [j] j=base:=by
    unfold Ifc.out
    rw [hj]
    show base+idxN j [j]=base
    rw [show idxN j [j]=boolC (Nat.beq j j) 0 _ from rfl,Nat.beq_refl]; rfl
  have hs:I.seen [j] j=true:=by
    unfold Ifc.seen
    rw [hj]
    exact (memN_iff (n:=j) (l:=[j])).2 List.mem_cons_self
  refine ⟨?_,?_,by rw [ho]; trivial,⟨qzj hE fun _ _=>rfl,trivial⟩⟩
  · show (SV.tuple [.agg [.int .i64 (.lit p),.int .i64 (.sym v.den),.slice ⟨I.out base [j] j,.lit 0⟩ (.sym n) (.rest (I.out base [j] j) 0)],.int .i64 (.lit 0)]).Imp _
    rw [ho']
    intro γ x hx
    simp only [SV.den,SV.denL,Option.map_eq_some_iff,Option.bind_eq_some_iff] at hx
    unfold seR seV q1f
    simp only [SV.den,SV.denL,Option.map_eq_some_iff,Option.bind_eq_some_iff]
    exact hx
  · show ((true && (true && ((I.seen [j] j && I.seen [j] j) && true))) && (true && true))=true
    rw [hs]; rfl
theorem qxf {β:Val} {p v s s':SV} {ys:List SV} {vs:List Value} (h:SV.denL β (.agg [p,v,s]::ys)=some vs) (hs:∀ x,s.den β=some x→s'.den β=some x) {p' v':SV} (hp:p.Imp p') (hv:v.Imp v'):SV.denL β (.agg [p',v',s']::ys)=some vs:=by
  obtain ⟨x,zs,hx,hzs,rfl⟩:=denL_cons.1 h
  refine denL_cons.2 ⟨_,_,?_,hzs,rfl⟩
  simp only [SV.den,SV.denL,Option.map_eq_some_iff,Option.bind_eq_some_iff] at hx ⊢
  obtain ⟨us,⟨u1,hu1,us1,⟨u2,hu2,us2,⟨u3,hu3,us3,hus3,rfl⟩,rfl⟩,rfl⟩,rfl⟩:=hx
  exact ⟨_,⟨u1,hp _ _ hu1,_,⟨u2,hv _ _ hu2,_,⟨u3,hs _ hu3,us3,hus3,rfl⟩,rfl⟩,rfl⟩,rfl⟩
theorem q8g {β:Val} {p v s:SV} {ys:List SV} {vs:List Value} (h:SV.denL β (.agg [p,v,s]::ys)=some vs):(∃ x,s.den β=some x)∧∃ zs,SV.denL β ys=some zs:=by
  obtain ⟨x,zs,hx,hzs,rfl⟩:=denL_cons.1 h
  simp only [SV.den,SV.denL,Option.map_eq_some_iff,Option.bind_eq_some_iff] at hx
  obtain ⟨us,⟨u1,hu1,us1,⟨u2,hu2,us2,⟨u3,hu3,us3,hus3,rfl⟩,rfl⟩,rfl⟩,rfl⟩:=hx
  exact ⟨⟨_,hu3⟩,_,hzs⟩
theorem jat:SumAt Tryz.prog q9b 12 (j6k shaF encF):=by
  intro O w0 β H w base args vs hH hG ha
  refine qeg fun kv uv cv tv hv => ?_
  rcases qfc kv with ⟨l,rfl⟩ | hno
  case inr=>rw [hno]; trivial
  refine qib fun p v s hl=>qja fun p0 hp=>q1a fun v' hv'=>q1a fun u hu=>qwc fun hT=>q9e fun k kn n hn1 ht1 hi1 hkn=>q9e fun c cn cl hn2 ht2 hi2 hcl=>fun ⟨⟨hv1,hv2⟩,⟨hu1,hu2⟩,hk,hc⟩=>qfa fun h16 => ?_
  have h16:=qna h16
  subst hl hv' hu h16
  rw [hv,q6e hp] at ha
  obtain ⟨⟨xs,hxs⟩,zs,hzs⟩:=q8g ha
  obtain ⟨m,hks⟩:=Sl.valN_den (hi1 _ _ hxs)
  obtain ⟨xu,zs1,hxu,hzs1,rfl⟩:=denL_cons.1 hzs
  obtain ⟨xc,zs2,hxc,hzs2,rfl⟩:=denL_cons.1 hzs1
  obtain ⟨xt,zs3,hxt,hzs3,rfl⟩:=denL_cons.1 hzs2
  obtain ⟨m2,hcs⟩:=Sl.valN_den (hi2 _ _ hxc)
  have harg:∀ (p:Int) (n0:Nat) (tv':SV),p0=p→n=n0→tv'.den β=some xt→SV.denL β [.agg [.int .i64 (.lit p),.int .i64 (.sym v'.den),(k.pl m).valN kn n0],.int .i64 (.sym u.den),(c.pl m2).valN cn 16,tv']=some vs:=by
    intro p n0 tv' hpp hnn htv
    subst hpp hnn
    have h1:=qxf (s':=(k.pl m).valN kn n) (p':=.int .i64 (.lit (.ofNat p0))) (v':=.int .i64 (.sym v'.den)) ha (fun x hx=>by rw [hxs] at hx; cases hx; exact hks) (.refl _) (qoa rfl)
    obtain ⟨xa,ws,hxa,hws,rfl⟩:=denL_cons.1 h1
    refine denL_cons.2 ⟨_,_,hxa,?_,rfl⟩
    rw [hzs] at hws
    cases hws
    exact denL_cons.2 ⟨_,_,qoa rfl _ _ hxu,denL_cons.2 ⟨_,_,hcs,denL_cons.2 ⟨_,_,htv,hzs3,rfl⟩,rfl⟩,rfl⟩
  have hdk:∀ (n:Nat) (x:BitVec 8),n≤32→okK (dkS shaF k n u.den x):=fun n x hn=>⟨by show 0+n≤n; omega,by show n≤4096; omega⟩
  have hc16:okL (c.len 16):=⟨hc,by show 16≤_; omega⟩
  refine qla (fun hp1=>qfa fun hn16=>qdb fun t tn hn3 ht3 hi3=>qfa fun hd=>fun ⟨h1,h2⟩ => ?_) fun _=>qfa fun hp2=>qfa fun hn32=>q9e fun t tn tl hn3 ht3 hi3 htl=>qfa fun hd=>qfa fun h5=>fun h1 => ?_
  · have hp1:=qna hp1
    have hn16:=qna hn16
    subst hn16
    obtain ⟨m3,_,hts⟩:=Sl.val_den (hi3 _ _ hxt)
    refine q7a qb6 8000 hH (qya [kn,cn,tn] [k.row,c.row,t.row] [.agg [.int .i64 (.lit 1),.int .i64 (.sym v'.den),(k.pl m).valN 4 16],.int .i64 (.sym u.den),(c.pl m2).valN 5 16,(t.pl m3).val 6]) (q8a hG) ?_ (Ifc.fits (nd4 hd (by simp only [List.mem_cons,List.not_mem_nil,or_false]; rintro x (rfl | rfl | rfl) <;> assumption)) ?_ (qhb hT ⟨⟨ht1 _,k.row_uses _⟩,⟨ht2 _,c.row_uses _⟩,⟨ht3 _,t.row_uses _⟩,trivial⟩)) [20] (by simp [qya]) (by simp) (j0o shaF encF v'.den u.den k c t m m2 m3) ?_ fun H2 hH2=>j7k rfl rfl (List.cons.inj hH2).1
    · show SV.denL β [.agg [.int .i64 (.lit 1),.int .i64 (.sym v'.den),((k.pl m).valN 4 16).ren _],.int .i64 (.sym u.den),((c.pl m2).valN 5 16).ren _,((t.pl m3).val 6).ren _]=_
      rw [Sl.valN_ren,Sl.valN_ren,Sl.val_ren]
      exact harg 1 16 _ (by rw [hp1]; rfl) rfl hts
    · rfl
    · have hcp:okL (cphS shaF encF k c t u.den):=⟨by show 0+(16+t.n)≤16+t.n; omega,by show 16+t.n≤_; omega⟩
      exact all_cons (decide_eq_true hv1) (all_cons (decide_eq_true hv2) (all_cons (decide_eq_true hu1) (all_cons (decide_eq_true hu2) (all_cons (decide_eq_false (by omega)) (all_cons (qda _) (all_cons hk (all_cons (qda _) (all_cons (qda _) (all_cons ⟨⟨hc16,by omega⟩,h1,by omega⟩ (all_cons (by omega) (all_cons (by omega) (all_cons (decide_eq_false (by omega)) (all_cons (decide_eq_true (by omega)) (all_cons (qda _) (all_cons ⟨by omega,by omega⟩ (all_cons (qda _) (all_cons hk (all_cons (qda _) (all_cons ⟨hdk 16 _ (by omega),hcp⟩ (all_cons (qda _) (all_cons ⟨⟨hcp,by show 16+t.n≠0; omega⟩,by show 0+16≤32; omega,by show 16≤_; omega⟩ qca)))))))))))))))))))))
  · have hp2:=qna hp2
    have hn32:=qna hn32
    have h5:=qna h5
    subst hn32 h5
    obtain ⟨m3,hts⟩:=Sl.valN_den (hi3 _ _ hxt)
    refine q7a qb6 8000 hH (qya [kn,cn,tn] [k.row,c.row,t.row] [.agg [.int .i64 (.lit 2),.int .i64 (.sym v'.den),(k.pl m).valN 4 32],.int .i64 (.sym u.den),(c.pl m2).valN 5 16,(t.pl m3).valN 6 5]) (q8a hG) ?_ (Ifc.fits (nd4 hd (by simp only [List.mem_cons,List.not_mem_nil,or_false]; rintro x (rfl | rfl | rfl) <;> assumption)) ?_ (qhb hT ⟨⟨ht1 _,k.row_uses _⟩,⟨ht2 _,c.row_uses _⟩,⟨ht3 _,t.row_uses _⟩,trivial⟩)) [19] (by simp [qya]) (by simp) (j1o shaF encF v'.den u.den k c t m m2 m3) ?_ fun H2 hH2=>j7k rfl rfl (List.cons.inj hH2).1
    · show SV.denL β [.agg [.int .i64 (.lit 2),.int .i64 (.sym v'.den),((k.pl m).valN 4 32).ren _],.int .i64 (.sym u.den),((c.pl m2).valN 5 16).ren _,((t.pl m3).valN 6 5).ren _]=_
      rw [Sl.valN_ren,Sl.valN_ren,Sl.valN_ren]
      exact harg 2 32 _ (by rw [hp2]; rfl) rfl hts
    · rfl
    · have hcp:okL (cph5 shaF k c t u.den):=⟨by show 0+(16+5)≤16+5; omega,by show 16+5≤_; omega⟩
      have ht5:okL (t.len 5):=⟨h1,by show 5≤_; omega⟩
      exact all_cons (decide_eq_true hv1) (all_cons (decide_eq_true hv2) (all_cons (decide_eq_true hu1) (all_cons (decide_eq_true hu2) (all_cons (qda _) (all_cons hk (all_cons (qda _) (all_cons (qda _) (all_cons ⟨hdk 32 _ (by omega),hc16,ht5⟩ (all_cons (qda _) (all_cons ⟨⟨hc16,by omega⟩,by show 0+5≤5; omega,by show 5≤_; omega⟩ (all_cons (qda _) (all_cons hk (all_cons (qda _) (all_cons ⟨hdk 32 _ (by omega),hcp⟩ (all_cons (qda _) (all_cons ⟨⟨hcp,by show 16+5≠0; omega⟩,by show 0+32≤32; omega,by show 32≤_; omega⟩ qca))))))))))))))))
end Go.Proofs.YtbmgahpjgefjaaaGreatDoor.Aes
namespace Go.Proofs.YtbmgahpjgefjaaaGreatDoor.Aes
open Go.Sim
open Go.Proofs
variable {α:Type}
set_option maxRecDepth 100000
theorem q1u {x:SI} {n:Int} {t f:R α} {a:α} (h:x.den=n→t.Leaf a) (h':x.den≠n→f.Leaf a):(isI x n t f).Leaf a:=by
  unfold isI
  by_cases hx:x.den=n
  · cases x with
    | lit m =>
      have hx:m=n:=hx
      show (boolC (eqI m n) t f).Leaf a
      rw [show eqI m n=true by rw [qii]; simpa using hx]
      exact h hx
    | sym m=>exact .inl ⟨by simpa using hx,h hx⟩
    | b8 m=>exact .inl ⟨by simpa using hx,h hx⟩
    | b32 m=>exact .inl ⟨by simpa using hx,h hx⟩
    | b64 m=>exact .inl ⟨by simpa using hx,h hx⟩
  · cases x with
    | lit m =>
      have hx:m≠n:=hx
      show (boolC (eqI m n) t f).Leaf a
      rw [show eqI m n=false by rw [qii]; simpa using hx]
      exact h' hx
    | sym m=>exact .inr ⟨by simpa using hx,h' hx⟩
    | b8 m=>exact .inr ⟨by simpa using hx,h' hx⟩
    | b32 m=>exact .inr ⟨by simpa using hx,h' hx⟩
    | b64 m=>exact .inr ⟨by simpa using hx,h' hx⟩
theorem qt3 {x:SI} {n:Int} {t f:R α} {a:α} (h:n≤x.den→t.Leaf a) (h':¬ n≤x.den→f.Leaf a):(leI n x t f).Leaf a:=by
  unfold leI
  by_cases hx:n≤x.den
  · cases x with
    | lit m =>
      show (boolC (decide (n≤m)) t f).Leaf a
      rw [decide_eq_true (show n≤m from hx)]
      exact h hx
    | sym m=>exact .inl ⟨decide_eq_true hx,h hx⟩
    | b8 m=>exact .inl ⟨decide_eq_true hx,h hx⟩
    | b32 m=>exact .inl ⟨decide_eq_true hx,h hx⟩
    | b64 m=>exact .inl ⟨decide_eq_true hx,h hx⟩
  · cases x with
    | lit m =>
      show (boolC (decide (n≤m)) t f).Leaf a
      rw [decide_eq_false (show ¬ n≤m from hx)]
      exact h' hx
    | sym m=>exact .inr ⟨decide_eq_false hx,h' hx⟩
    | b8 m=>exact .inr ⟨decide_eq_false hx,h' hx⟩
    | b32 m=>exact .inr ⟨decide_eq_false hx,h' hx⟩
    | b64 m=>exact .inr ⟨decide_eq_false hx,h' hx⟩
theorem q1z {x:SI} {n:Int} {t f:R SumRes} {a:SumRes} (h:x.den≤n→t.Leaf a) (h':¬ x.den≤n→f.Leaf a):(fdOne.isLe x n t f).Leaf a:=by
  unfold fdOne.isLe
  by_cases hx:x.den≤n
  · cases x with
    | lit m =>
      show (boolC (decide (m≤n)) t f).Leaf a
      rw [decide_eq_true (show m≤n from hx)]
      exact h hx
    | sym m=>exact .inl ⟨decide_eq_true hx,h hx⟩
    | b8 m=>exact .inl ⟨decide_eq_true hx,h hx⟩
    | b32 m=>exact .inl ⟨decide_eq_true hx,h hx⟩
    | b64 m=>exact .inl ⟨decide_eq_true hx,h hx⟩
  · cases x with
    | lit m =>
      show (boolC (decide (m≤n)) t f).Leaf a
      rw [decide_eq_false (show ¬ m≤n from hx)]
      exact h' hx
    | sym m=>exact .inr ⟨decide_eq_false hx,h' hx⟩
    | b8 m=>exact .inr ⟨decide_eq_false hx,h' hx⟩
    | b32 m=>exact .inr ⟨decide_eq_false hx,h' hx⟩
    | b64 m=>exact .inr ⟨decide_eq_false hx,h' hx⟩
theorem qu9 {l:SN} {n:Nat} {t f:R α} {a:α} (h:l.den=n→t.Leaf a) (h':l.den≠n→f.Leaf a):(qad l n t f).Leaf a:=by
  unfold qad
  by_cases hx:l.den=n
  · cases l with
    | lit m =>
      have hx:m=n:=hx
      show (boolC (Nat.beq m n) t f).Leaf a
      subst hx
      rw [Nat.beq_refl]
      exact h rfl
    | sym m=>exact .inl ⟨decide_eq_true hx,h hx⟩
    | byt o x=>exact .inl ⟨decide_eq_true hx,h hx⟩
  · cases l with
    | lit m =>
      have hx:m≠n:=hx
      show (boolC (Nat.beq m n) t f).Leaf a
      rw [show Nat.beq m n=false from Bool.eq_false_iff.2 fun e=>hx (qna e)]
      exact h' hx
    | sym m=>exact .inr ⟨decide_eq_false hx,h' hx⟩
    | byt o x=>exact .inr ⟨decide_eq_false hx,h' hx⟩
def qrf (p v:Int) (l:Nat):Prop:=((p=1∧l=16)∨(p=2∧l=32))∧0≤v∧v≤65535
noncomputable def usQ (p v u:Int) (l:Nat):Prop:=qrf p v l∧1≤u∧u≤1023
noncomputable def keyQ (H:List SO) (kv:SV) (f:SI→SI→Nat→R α):R α:=kv.asAgg (.stuck 798) fun l=>quc l fun p v s=>i64O p fun p=>i64O v fun v=>qkb s (f p v 0) fun a l=>boolC (qrc (nth H a.nm)) (f p v l.den) (.stuck 798)
noncomputable def qix (i:Int) (k:SV):Summ:=fun args H _=>q9c args fun kv uv=>keyQ H kv fun p v l=>i64O uv fun u=>.need (p.den=i∧qrf p.den v.den l∧1≤u.den∧u.den≤1023) (usR k 0)
theorem qbs {i:Int} {k:SV} (hik:(i=1∧k=kv1)∨(i=2∧k=kv2)):q5a Tryz.prog 37 (qix i k):=by
  intro glob O w0 β H w base args vs hH hG ha
  have hS:=qfq glob O w0 β H w base args vs hH hG ha
  refine qlb fun kv uv hv => ?_
  subst hv
  rcases qfc kv with ⟨l,rfl⟩ | hno
  case inr=>unfold keyQ; rw [hno]; trivial
  refine qib fun p v s hl=>q1a fun p' hp=>q1a fun v' hv' => ?_
  subst hl hp hv'
  refine qva (fun hn=>q1a fun u hu=>fun ⟨_,⟨hval,_⟩,_⟩ => ?_) fun a len c hs=>qfa fun hpl=>q1a fun u hu=>fun ⟨hpi,⟨hval,h2,h3⟩,h4,h5⟩ => ?_
  · rcases hval with ⟨_,h⟩ | ⟨_,h⟩ <;> cases h
  · subst hs hu
    refine (show q3a Tryz.prog H β w base 37 vs ⟨usV k 0,[],[]⟩ from R.sat_leaf hS ?_)
    show (boolC (qrc (nth H a.nm)) (isI p' 1 (qgx kv1 16 len v' u) (isI p' 2 (qgx kv2 32 len v' u) (usR kv0 2))) (.stuck 791)).Leaf _
    rw [hpl,boolC_true]
    have one:∀ (k:SV) (n:Nat),len.den=n→(qgx k n len v' u).Leaf ⟨usV k 0,[],[]⟩:=fun k n h1 =>
      qu9 (fun _=>qt3 (fun _=>q1z (fun _=>qt3 (fun _=>q1z (fun _=>rfl) fun h=>absurd h5 h) fun h=>absurd h4 h) fun h=>absurd h3 h) fun h=>absurd h2 h) fun h=>absurd h1 h
    rcases hik with ⟨rfl,rfl⟩ | ⟨rfl,rfl⟩
    · refine q1u (fun _=>one kv1 16 ?_) fun h=>absurd hpi h
      rcases hval with ⟨_,h⟩ | ⟨h,_⟩
      · exact h
      · rw [hpi] at h; cases h
    · refine q1u (fun h=>by rw [hpi] at h; cases h) fun _=>q1u (fun _=>one kv2 32 ?_) fun h=>absurd hpi h
      rcases hval with ⟨h,_⟩ | ⟨_,h⟩
      · rw [hpi] at h; cases h
      · exact h
noncomputable def kdOf (p:Int):Nat:=if p=1 then 1 else if p=2 then 2 else 0
noncomputable def kvI (i:Nat):SV:=boolC (Nat.beq i 1) kv1 (boolC (Nat.beq i 2) kv2 kv0)
section
variable (b:Bool) (p v:Int) (o l m:Nat)
end
theorem qv9 (p:Int):kdOf p=0∨kdOf p=1∨kdOf p=2:=by
  unfold kdOf
  split
  · exact .inr (.inl rfl)
  · split
    · exact .inr (.inr rfl)
    · exact .inl rfl
end Go.Proofs.YtbmgahpjgefjaaaGreatDoor.Aes
namespace Go.Proofs.YtbmgahpjgefjaaaGreatDoor.Aes
open Go.Sim
open Go.Proofs
variable {α:Type}
set_option maxRecDepth 1000000
noncomputable def sgT (st:Option (Nat × Nat)) (F:HashF) (k c t:Sl):Tree:=qba ((qgt F).at st) 4000 99 [k.val 4,c.val 5,t.val 6] (q4c [k.row,c.row,t.row])
noncomputable def sgS0 (F:HashF) (k c t:Sl):SS:=qxh (sgT (some (1,7)) F k c t) [false,true,true]
structure SgA where
  i:Int
  L:Int
  j:Nat
  G:Nat→BitVec 8
  S:Nat→BitVec 8
noncomputable def sgC (F:HashF) (k c t:Sl) (A:SgA):Cut :=
  ⟨qag (sgS0 F k c t).frames [[(0,k.val 4),(1,c.val 5),(7,.slice ⟨7,.lit 0⟩ (.sym t.n) (.rest 7 0)),(8,.int .i64 (.sym A.i)),(9,.slice ⟨8,.lit 0⟩ (.lit 32) (.lit 32)),(36,.int .i64 (.sym A.L)),(37,.int .i64 (.sym A.j))]],
   [.ent qbg,.ent qcg,.ent anyR,.ent anyR,.ent k.row,.ent c.row,.ent t.row,.ent (.own (.fn (qea A.G) t.n) false 5),.ent (.own (.lst (bx (tabB A.S 32))) true 98)]⟩
noncomputable def sgK (F:HashF) (k c:Sl) (v:Int):Nat→BitVec 8:=qaa (macB F k.F k.n (two c (slL (num4 v))) (c.n+4))
noncomputable def sg0 (k c t:Sl) (b:Bool) (r:List Prop):List Prop:=IsB (qea t.X)::okL t::(((t.n:Int) == 0)=false)::(decide ((0:Int)<t.n)=true)::IsB (qea k.X)::IsB (qea c.X)::(okK k∧okL c∧okL (slL (num4 1)))::(decide ((t.n:Int)<32)=b)::r
noncomputable def j2o (n:Nat) (A:SgA):List Prop:=[decide ((A.j:Int)<A.L)=true,q4a (A.i+A.j),0≤A.i+A.j∧A.i+A.j<n,0+(A.i+A.j).toNat * 1<n,0≤(A.j:Int)∧(A.j:Int)<32,0+(A.j:Int).toNat * 1<32,0≤A.i+A.j∧A.i+A.j<n,0+(A.i+A.j).toNat * 1<n,q4a ((A.j:Int)+1)]
noncomputable def sgB (A:SgA):BitVec 8:=A.G (0+(A.i+A.j).toNat * 1) ^^^ qaa (tabB A.S 32) (0+(A.j:Int).toNat * 1)
noncomputable def sgE (n:Nat) (A:SgA):SO:=.own (.fn (fun p=>if p=0+(A.i+A.j).toNat * 1 then .int .u8 (.b8 (sgB A)) else qea A.G p) n) false 5
noncomputable def sgG (A:SgA):Nat→BitVec 8:=fun p=>if p=0+(A.i+A.j).toNat * 1 then sgB A else A.G p
noncomputable def sgV (i:Int):Int:=IntKind.i64.wrap (i.tdiv 32)+1
noncomputable def qty (k c t:Sl) (A:SgA) (b:Bool) (r:List Prop):List Prop:=(decide ((A.j:Int)<A.L)=false)::q4a (A.i+32)::(decide (A.i+32<t.n)=true)::q4a (sgV (A.i+32))::IsB (qea k.X)::IsB (qea c.X)::(okK k∧okL c∧okL (slL (num4 (sgV (A.i+32)))))::q4a (A.i+32+32)::(decide ((t.n:Int)<A.i+32+32)=b)::r
section
variable (F:HashF) (k c t:Sl) (m m2 m3:Nat) (A:SgA) (J:Junk) (z:Nat→Nat→Nat)
theorem j3h:outL [] (sgC F (k.pl m) (c.pl m2) (t.pl m3) A) [0,1,2,3,4,5,6,8,11] (sgT (some (1,7)) F (k.pl m) (c.pl m2) (t.pl m3)) [false,true,true] z =
    (sg0 k c t true [0≤(t.n:Int)∧(t.n:Int)≤t.n,0≤(t.n:Int).toNat],some (.inr (qbc [(0,8,.int .i64 (.lit 0)),(0,37,.int .i64 (.lit 0))] [] (qnb [0,1,2,3,4,5,6,8,11] 12 (sgC F (k.pl m) (c.pl m2) (t.pl m3) ⟨0,(t.n:Int).toNat,0,q2f t,sgK F k c 1⟩))))):=by kernel_rfl
theorem j4h:outL [] (sgC F (k.pl m) (c.pl m2) (t.pl m3) A) [0,1,2,3,4,5,6,8,11] (sgT (some (1,7)) F (k.pl m) (c.pl m2) (t.pl m3)) [false,true,false] z =
    (sg0 k c t false [32≤t.n],some (.inr (qbc [(0,8,.int .i64 (.lit 0)),(0,37,.int .i64 (.lit 0)),(0,36,.int .i64 (.lit 32))] [] (qnb [0,1,2,3,4,5,6,8,11] 12 (sgC F (k.pl m) (c.pl m2) (t.pl m3) ⟨0,32,0,q2f t,sgK F k c 1⟩))))):=by kernel_rfl
noncomputable def sgR (st:Option (Nat × Nat)):Tree:=sim1 ((qgt F).at st) 4000 ((sgC F (k.pl m) (c.pl m2) (t.pl m3) A).fill J)
theorem j3o:outL [] (sgC F (k.pl m) (c.pl m2) (t.pl m3) A) [0,1,2,3,4,5,6,7,8] (sgR F k c t m m2 m3 A J (some (1,7))) [true] z =
    (j2o t.n A,some (.inr (qbc [] [(7,.ent (sgE t.n A))] (qnb [0,1,2,3,4,5,6,7,8] 9 (sgC F (k.pl m) (c.pl m2) (t.pl m3) ⟨A.i,A.L,A.j+1,sgG A,A.S⟩))))):=by kernel_rfl
theorem j5h:outL [] (sgC F (k.pl m) (c.pl m2) (t.pl m3) A) [0,1,2,3,4,5,6,7,11] (sgR F k c t m m2 m3 A J (some (1,7))) [false,true,true] z =
    (qty k c t A true [0≤(t.n:Int)∧(t.n:Int)≤t.n,0≤A.i+32∧A.i+32≤((t.n:Int).toNat:Int)],some (.inr (qbc [(0,37,.int .i64 (.lit 0))] [] (qnb [0,1,2,3,4,5,6,7,11] 12 (sgC F (k.pl m) (c.pl m2) (t.pl m3) ⟨A.i+32,(((t.n:Int).toNat - (A.i+32).toNat:Nat):Int),0,A.G,sgK F k c (sgV (A.i+32))⟩))))):=by kernel_rfl
theorem j6h:outL [] (sgC F (k.pl m) (c.pl m2) (t.pl m3) A) [0,1,2,3,4,5,6,7,11] (sgR F k c t m m2 m3 A J (some (1,7))) [false,true,false] z =
    (qty k c t A false [0≤A.i+32+32∧A.i+32+32≤(t.n:Int),0≤A.i+32∧A.i+32≤((A.i+32+32).toNat:Int)],some (.inr (qbc [(0,37,.int .i64 (.lit 0))] [] (qnb [0,1,2,3,4,5,6,7,11] 12 (sgC F (k.pl m) (c.pl m2) (t.pl m3) ⟨A.i+32,(((A.i+32+32).toNat - (A.i+32).toNat:Nat):Int),0,A.G,sgK F k c (sgV (A.i+32))⟩))))):=by kernel_rfl
theorem jbt:outL [7] (sgC F (k.pl m) (c.pl m2) (t.pl m3) A) [0,1,2,3,4,5,6,7,8] (sgR F k c t m m2 m3 A J none) [false,false] z =
    ([decide ((A.j:Int)<A.L)=false,q4a (A.i+32),decide (A.i+32<t.n)=false],some (.inl (q1f 7 t.n,[some (.own (.fn (qea A.G) t.n) false 5)]))):=by kernel_rfl
theorem j7h (B:SgA):boolC (q2b 7 [0,1,2,3,4,5,6,7,8] (sgC F (k.pl m) (c.pl m2) (t.pl m3) A) (sgC F (k.pl m) (c.pl m2) (t.pl m3) B)) (allN qub (sgC F (k.pl m) (c.pl m2) (t.pl m3) B).heap) false=true:=by kernel_rfl
theorem q2z (B:SgA):boolC (q2b 7 [0,1,2,3,4,5,6,7,11] (sgC F (k.pl m) (c.pl m2) (t.pl m3) A) (sgC F (k.pl m) (c.pl m2) (t.pl m3) B)) (allN qub (sgC F (k.pl m) (c.pl m2) (t.pl m3) B).heap) false=true:=by kernel_rfl
theorem q3z (B:SgA):boolC (q2b 7 [0,1,2,3,4,5,6,8,11] (sgC F (k.pl m) (c.pl m2) (t.pl m3) A) (sgC F (k.pl m) (c.pl m2) (t.pl m3) B)) (allN qub (sgC F (k.pl m) (c.pl m2) (t.pl m3) B).heap) false=true:=by kernel_rfl
end
end Go.Proofs.YtbmgahpjgefjaaaGreatDoor.Aes
namespace Go.Proofs.YtbmgahpjgefjaaaGreatDoor.Aes
open Go.Sim
open Go.Proofs
variable {α:Type}
set_option maxRecDepth 1000000
theorem j3d {q:Nat} (hq:q<2 ^ 50):sgV (32 * (q:Int))=(q:Int)+1:=by
  unfold sgV
  rw [show (32 * (q:Int)).tdiv 32=(q:Int) by rw [Int.tdiv_eq_ediv_of_nonneg (by omega)]; omega]
  rw [wrap_i64 ⟨by omega,by omega⟩]
theorem q7d {C:Cut} {i j:Nat} {v:SV} (h:((C.frames[i]?).bind fun p=>p.tmps[j]?)=some (some v)) {p:SP} {u:Option SV} (hp:C.frames[i]? = some p) (hu:p.tmps[j]? = some u) {w:SV} {f:Nat→Nat} (hi:w.Imp (v.ren f)):∃ x,u=some x∧w.Imp (x.ren f):=by
  rw [hp] at h
  simp only [Option.bind_some,hu,Option.some.injEq] at h
  exact ⟨v,h,hi⟩
theorem qyl (F:HashF) (k c t:Sl) (m m2 m3:Nat) (A:SgA):(((sgC F (k.pl m) (c.pl m2) (t.pl m3) A).frames[0]?).bind fun p=>p.tmps[8]?)=some (some (.int .i64 (.sym A.i)))∧(((sgC F (k.pl m) (c.pl m2) (t.pl m3) A).frames[0]?).bind fun p=>p.tmps[36]?)=some (some (.int .i64 (.sym A.L)))∧(((sgC F (k.pl m) (c.pl m2) (t.pl m3) A).frames[0]?).bind fun p=>p.tmps[37]?)=some (some (.int .i64 (.sym (A.j:Int)))):=⟨by kernel_rfl,by kernel_rfl,by kernel_rfl⟩
noncomputable def strG (F:HashF) (k c t:Sl):Nat→BitVec 8:=fun p=>t.X (t.o+p) ^^^ sgK F k c (((p / 32:Nat):Int)+1) (p % 32)
structure SgQ (F:HashF) (k c t:Sl) (A:SgA) (q:Nat):Prop where
  i:A.i=32 * (q:Int)
  lt:32 * q<t.n
  L:A.L=((min 32 (t.n - 32 * q):Nat):Int)
  j:A.j≤min 32 (t.n - 32 * q)
  S:A.S=sgK F k c ((q:Int)+1)
  G:∀ p,p<t.n→A.G p=if p<32 * q+A.j then strG F k c t p else q2f t p
noncomputable def sgD (F:HashF) (k c t:Sl) (v:SV) (H:List SO):Prop:=v=q1f 7 t.n∧∃ G,(∀ p,p<t.n→G p=strG F k c t p)∧H[7]? = some (.own (.fn (qea G) t.n) false 5)
theorem qc6 (v:Int):okL (slL (num4 v)):=q6k (n:=4) rfl (by omega)
theorem j4o {k c t:Sl} {m m2 m3:Nat} (hk:okK k) (hc:okL c) (ht:okL t) (hn:t.n≠0):Runs (qgt shaF) 99 [(k.pl m).val 4,(c.pl m2).val 5,(t.pl m3).val 6] (q4c [(k.pl m).row,(c.pl m2).row,(t.pl m3).row]) (sgD shaF k c t):=by
  have hbig:t.n≤1099511627776:=ht.2
  have hn1:((t.n:Int) == 0)=false:=by rw [beq_eq_false_iff_ne]; omega
  have hn2:decide ((0:Int)<t.n)=true:=decide_eq_true (by omega)
  have h0:∀ {b r},decide ((t.n:Int)<32)=b→(∀ p∈r,p)→∀ p∈sg0 k c t b r,p:=fun hb hr=>all_cons (qda _) (all_cons ht (all_cons hn1 (all_cons hn2 (all_cons (qda _) (all_cons (qda _) (all_cons ⟨hk,hc,qc6 1⟩ (all_cons hb hr)))))))
  have hg0:∀ p,p<t.n→q2f t p=if p<32 * 0+0 then strG shaF k c t p else q2f t p:=fun p _=>by rw [if_neg (by omega)]
  refine q6g qsy (sgC shaF (k.pl m) (c.pl m2) (t.pl m3)) (fun A=>∃ q,SgQ shaF k c t A q) (fun A=>33 * (t.n - A.i.toNat)+(32 - A.j)) (fun g nm hg=>Nat.lt_of_lt_of_le (qtu hg) (by show 2≤7; omega)) ?_ fun A ⟨q,hQ⟩ J => ?_
  · by_cases hl:(t.n:Int)<32
    · refine q6i (some (1,7)) 4000 ⟨0,(t.n:Int).toNat,0,q2f t,sgK shaF k c 1⟩ ⟨0,rfl,by omega,by show (((t.n:Int).toNat:Nat):Int)=_; omega,by show 0≤_; omega,rfl,hg0⟩ (j3h shaF k c t m m2 m3 ⟨0,0,0,q2f t,q2f t⟩) (q3z shaF k c t m m2 m3 _ _) ?_ (by simp) (h0 (decide_eq_true hl) (all_cons ⟨by omega,by omega⟩ (all_cons (by omega) qca)))
      intro x hx p u hp hu
      simp only [List.mem_cons,List.not_mem_nil,or_false] at hx
      rcases hx with rfl | rfl
      · exact q7d (qyl _ _ _ _ _ _ _ _).1 hp hu (qoa rfl)
      · exact q7d (qyl _ _ _ _ _ _ _ _).2.2 hp hu (qoa rfl)
    · refine q6i (some (1,7)) 4000 ⟨0,32,0,q2f t,sgK shaF k c 1⟩ ⟨0,rfl,by omega,by show (32:Int)=_; omega,by show 0≤_; omega,rfl,hg0⟩ (j4h shaF k c t m m2 m3 ⟨0,0,0,q2f t,q2f t⟩) (q3z shaF k c t m m2 m3 _ _) ?_ (by simp) (h0 (decide_eq_false hl) (all_cons (by omega) qca))
      intro x hx p u hp hu
      simp only [List.mem_cons,List.not_mem_nil,or_false] at hx
      rcases hx with rfl | rfl | rfl
      · exact q7d (qyl _ _ _ _ _ _ _ _).1 hp hu (qoa rfl)
      · exact q7d (qyl _ _ _ _ _ _ _ _).2.2 hp hu (qoa rfl)
      · exact q7d (qyl _ _ _ _ _ _ _ _).2.1 hp hu (qoa rfl)
  · obtain ⟨hi,hlt,hL,hj,hS,hG⟩:=hQ
    by_cases hjl:(A.j:Int)<A.L
    · have hidx:0+(A.i+A.j).toNat * 1=32 * q+A.j:=by omega
      refine qkd (some (1,7)) 4000 ⟨A.i,A.L,A.j+1,sgG A,A.S⟩ ⟨⟨q,hi,hlt,hL,by show A.j+1≤_; omega,hS,fun p hp => ?_⟩,by show 33 * (t.n - A.i.toNat)+(32 - (A.j+1))<33 * (t.n - A.i.toNat)+(32 - A.j); omega⟩ (j3o shaF k c t m m2 m3 A J) (j7h shaF k c t m m2 m3 _ _) (by simp) ?_
        (all_cons (decide_eq_true hjl) (all_cons ⟨by omega,by omega⟩ (all_cons ⟨by omega,by omega⟩ (all_cons (by omega) (all_cons ⟨by omega,by omega⟩ (all_cons (by omega) (all_cons ⟨by omega,by omega⟩ (all_cons (by omega) (all_cons ⟨by omega,by omega⟩ qca)))))))))
      · show sgG A p=if p<32 * q+(A.j+1) then _ else _
        unfold sgG
        rw [hidx]
        by_cases hpi:p=32 * q+A.j
        · rw [if_pos hpi,if_pos (by omega)]
          unfold sgB
          rw [hidx,hG _ (by omega),if_neg (by omega),qvb (by omega),hS]
          unfold strG q2f
          rw [hpi,show (32 * q+A.j) / 32=q by omega,show (32 * q+A.j) % 32=A.j by omega,show 0+(A.j:Int).toNat * 1=A.j by omega]
        · rw [if_neg hpi,hG p hp]
          by_cases hpl:p<32 * q+A.j
          · rw [if_pos hpl,if_pos (by omega)]
          · rw [if_neg hpl,if_neg (by omega)]
      · intro e he E0 hE0
        simp only [List.mem_cons,List.not_mem_nil,or_false] at he
        subst he
        have hE0:some (HP.ent (.own (.fn (qea (sgG A)) t.n) false 5))=some E0:=hE0
        cases hE0
        refine ⟨_,rfl,qdq fun p _ => ?_⟩
        show (if p=0+(A.i+A.j).toNat * 1 then SV.int .u8 (.b8 (sgB A)) else qea A.G p).Imp (.int .u8 (.b8 (sgG A p)))
        unfold sgG
        by_cases hpi:p=0+(A.i+A.j).toNat * 1
        · rw [if_pos hpi,if_pos hpi]; exact .refl _
        · rw [if_neg hpi,if_neg hpi]; exact .refl _
    · have hjl':A.j=min 32 (t.n - 32 * q):=by omega
      have e1:decide ((A.j:Int)<A.L)=false:=decide_eq_false hjl
      by_cases hnx:A.i+32<t.n
      · have hj32:A.j=32:=by omega
        have hi':A.i+32=32 * ((q+1:Nat):Int):=by omega
        have hv:sgV (A.i+32)=((q+1:Nat):Int)+1:=by rw [hi']; exact j3d (by omega)
        have hg:∀ p,p<t.n→A.G p=if p<32 * (q+1)+0 then strG shaF k c t p else q2f t p:=fun p hp=>by
          rw [hG p hp,show 32 * (q+1)+0=32 * q+A.j by omega]
        have hC:∀ {b r},decide ((t.n:Int)<A.i+32+32)=b→(∀ p∈r,p)→∀ p∈qty k c t A b r,p:=fun hb hr=>all_cons e1 (all_cons ⟨by omega,by omega⟩ (all_cons (decide_eq_true hnx) (all_cons (by rw [hv]; exact ⟨by omega,by omega⟩) (all_cons (qda _) (all_cons (qda _) (all_cons ⟨hk,hc,qc6 _⟩ (all_cons ⟨by omega,by omega⟩ (all_cons hb hr))))))))
        have hT:∀ (B:SgA),B.j=0→∀ x∈([(0,37,.int .i64 (.lit 0))]:List (Nat × Nat × SV)),∀ p u,(sgC shaF (k.pl m) (c.pl m2) (t.pl m3) B).frames[x.1]? = some p→p.tmps[x.2.1]? = some u→∃ w,u=some w∧x.2.2.Imp (w.ren (qpc [0,1,2,3,4,5,6,7,11] 12)):=by
          intro B hB x hx p u hp hu
          simp only [List.mem_cons,List.not_mem_nil,or_false] at hx
          subst hx
          refine q7d (qyl _ _ _ _ _ _ _ _).2.2 hp hu (qoa ?_)
          show (0:Int)=(B.j:Int)
          rw [hB]; rfl
        by_cases hl:(t.n:Int)<A.i+32+32
        · refine qkd (some (1,7)) 4000 ⟨A.i+32,(((t.n:Int).toNat - (A.i+32).toNat:Nat):Int),0,A.G,sgK shaF k c (sgV (A.i+32))⟩ ⟨⟨q+1,hi',by omega,by show (((t.n:Int).toNat - (A.i+32).toNat:Nat):Int)=_; omega,by show 0≤_; omega,by show sgK shaF k c (sgV (A.i+32))=_; rw [hv],hg⟩,by show 33 * (t.n - (A.i+32).toNat)+(32 - 0)<33 * (t.n - A.i.toNat)+(32 - A.j); omega⟩ (j5h shaF k c t m m2 m3 A J) (q2z shaF k c t m m2 m3 _ _) (hT _ rfl) (by simp) (hC (decide_eq_true hl) (all_cons ⟨by omega,by omega⟩ (all_cons ⟨by omega,by omega⟩ qca)))
        · refine qkd (some (1,7)) 4000 ⟨A.i+32,(((A.i+32+32).toNat - (A.i+32).toNat:Nat):Int),0,A.G,sgK shaF k c (sgV (A.i+32))⟩ ⟨⟨q+1,hi',by omega,by show (((A.i+32+32).toNat - (A.i+32).toNat:Nat):Int)=_; omega,by show 0≤_; omega,by show sgK shaF k c (sgV (A.i+32))=_; rw [hv],hg⟩,by show 33 * (t.n - (A.i+32).toNat)+(32 - 0)<33 * (t.n - A.i.toNat)+(32 - A.j); omega⟩ (j6h shaF k c t m m2 m3 A J) (q2z shaF k c t m m2 m3 _ _) (hT _ rfl) (by simp) (hC (decide_eq_false hl) (all_cons ⟨by omega,by omega⟩ (all_cons ⟨by omega,by omega⟩ qca)))
      · refine qvj none 4000 (jbt shaF k c t m m2 m3 A J) (all_cons e1 (all_cons ⟨by omega,by omega⟩ (all_cons (decide_eq_false hnx) qca))) fun H hH=>⟨rfl,A.G,fun p hp => ?_,(List.cons.inj hH).1⟩
        rw [hG p hp,if_pos (by omega)]
theorem j5o (F:HashF) (k c t:Sl) (m m2 m3:Nat):outO [] (sgT none F (k.pl m) (c.pl m2) (t.pl m3)) [true]=([IsB (qea t.X),okL t,((t.n:Int) == 0)=true],some (.nilSlice,[])):=by kernel_rfl
noncomputable def j8k:Cfg:=cfgG q9b (qcb [])
theorem j6o:CfgOK j8k:=qwb (by simp)
theorem jct (k c:Sl) (m m2:Nat):outO [] (qba j8k 4000 99 [(k.pl m).val 4,(c.pl m2).val 5,.nilSlice] (q4c [k.row,c.row])) []=([],some (.nilSlice,[])):=by kernel_rfl
noncomputable def stGS (F:HashF):Summ:=fun args H base=>quc args fun kv cv tv=>qif H (qnc H kv fun k kn=>qnc H cv fun c cn=>qkb tv (boolC (qfd [kn,cn]) (.ok ⟨.nilSlice,[],[]⟩) (.stuck 793)) fun _ _=>qnc H tv fun t tn=>boolC (qfd [kn,cn,tn]) (.need (okK k∧okL c∧okL t) (isI (.sym t.n) 0 (.ok ⟨.nilSlice,[],[]⟩) (.ok (qom base t.n (strG F k c t))))) (.stuck 793))
theorem stGOK:SumAt Tryz.prog q9b 99 (stGS shaF):=by
  intro O w0 β H w base args vs hH hG ha
  refine qib fun kv cv tv hv=>qwc fun hT=>qdb fun k kn hn ht hk=>qdb fun c cn hn2 ht2 hk2 => ?_
  rw [hv] at ha
  obtain ⟨x,ys,hx,hys,rfl⟩:=denL_cons.1 ha
  obtain ⟨y,zs,hy,hzs,rfl⟩:=denL_cons.1 hys
  obtain ⟨q,qs,hq,hqs,rfl⟩:=denL_cons.1 hzs
  obtain ⟨m,_,hx'⟩:=Sl.val_den (hk _ _ hx)
  obtain ⟨m2,_,hy'⟩:=Sl.val_den (hk2 _ _ hy)
  refine qva (fun hnil=>qfa fun hd => ?_) fun _ _ _ _=>qdb fun t tn hn3 ht3 hk3=>qfa fun hd=>fun ⟨h1,h2,h3⟩ => ?_
  · subst hnil
    refine q7a j6o 4000 hH (qya [kn,cn] [k.row,c.row] [(k.pl m).val 4,(c.pl m2).val 5,.nilSlice]) (q8a hG) ?_ (Ifc.fits (nd4 hd (by simp only [List.mem_cons,List.not_mem_nil,or_false]; rintro x (rfl | rfl) <;> assumption)) ?_ (qhb hT ⟨⟨ht _,k.row_uses _⟩,⟨ht2 _,c.row_uses _⟩,trivial⟩)) [] (by simp [qya]) (by simp) (jct k c m m2) qca fun H2 _=>qmc rfl rfl rfl
    · show SV.denL β [((k.pl m).val 4).ren _,((c.pl m2).val 5).ren _,.nilSlice]=_
      rw [Sl.val_ren,Sl.val_ren]
      exact denL_cons.2 ⟨_,_,hx',denL_cons.2 ⟨_,_,hy',denL_cons.2 ⟨_,_,hq,hqs,rfl⟩,rfl⟩,rfl⟩
    · show (((k.pl m).val 4).uses _ && (((c.pl m2).val 5).uses _ && (true && true)))=true
      rw [Sl.val_uses _ _ _ rfl,Sl.val_uses _ _ _ rfl]; rfl
  · obtain ⟨m3,_,hq'⟩:=Sl.val_den (hk3 _ _ hq)
    have hfit:Ifc.Fits (qya [kn,cn,tn] [k.row,c.row,t.row] [(k.pl m).val 4,(c.pl m2).val 5,(t.pl m3).val 6]) H:=by
      refine Ifc.fits (nd4 hd (by simp only [List.mem_cons,List.not_mem_nil,or_false]; rintro x (rfl | rfl | rfl) <;> assumption)) ?_ (qhb hT ⟨⟨ht _,k.row_uses _⟩,⟨ht2 _,c.row_uses _⟩,⟨ht3 _,t.row_uses _⟩,trivial⟩)
      show (((k.pl m).val 4).uses _ && (((c.pl m2).val 5).uses _ && (((t.pl m3).val 6).uses _ && true)))=true
      rw [Sl.val_uses _ _ _ rfl,Sl.val_uses _ _ _ rfl,Sl.val_uses _ _ _ rfl]; rfl
    have harg:SV.denL β (SV.renL (qya [kn,cn,tn] [k.row,c.row,t.row] [(k.pl m).val 4,(c.pl m2).val 5,(t.pl m3).val 6]).big [(k.pl m).val 4,(c.pl m2).val 5,(t.pl m3).val 6])=some (x::y::q::qs):=by
      show SV.denL β [((k.pl m).val 4).ren _,((c.pl m2).val 5).ren _,((t.pl m3).val 6).ren _]=_
      rw [Sl.val_ren,Sl.val_ren,Sl.val_ren]
      exact denL_cons.2 ⟨_,_,hx',denL_cons.2 ⟨_,_,hy',denL_cons.2 ⟨_,_,hq',hqs,rfl⟩,rfl⟩,rfl⟩
    refine q0d (fun h0 => ?_) fun h0 => ?_
    · have h0:(t.n:Int)=0:=h0
      exact q7a qsy 4000 hH (qya [kn,cn,tn] [k.row,c.row,t.row] [(k.pl m).val 4,(c.pl m2).val 5,(t.pl m3).val 6]) (q8a hG) harg hfit [] (by simp [qya]) (by simp) (j5o shaF k c t m m2 m3) (all_cons (qda _) (all_cons h3 (all_cons (by rw [h0]; rfl) qca))) fun H2 _=>qmc rfl rfl rfl
    · have h0:(t.n:Int)≠0:=h0
      refine Go.Sim.sum_runs (c:=qgt shaF) hH (qya [kn,cn,tn] [k.row,c.row,t.row] [(k.pl m).val 4,(c.pl m2).val 5,(t.pl m3).val 6]) (q8a hG) harg hfit [7] (by simp [qya]) (by simp) (qfg (j4o h1 h2 h3 (by omega)) fun v H2 ⟨hv,G,hGe,hE⟩ => ?_)
      subst hv
      exact qeq rfl rfl hE rfl hGe
end Go.Proofs.YtbmgahpjgefjaaaGreatDoor.Aes
namespace Go.Proofs.YtbmgahpjgefjaaaGreatDoor.Aes
open Go.Sim
open Go.Proofs
variable {α:Type}
set_option maxRecDepth 1000000
noncomputable def qjx (F:HashF) (E D:CtsF) (us:Summ):Cfg:=cfgG q9b (qcb [(37,us),(60,deS F),(73,hmS F),(69,mkS (tagB F)),(72,mkS (tagS F)),(39,qex),(61,numS),(99,stGS F),(97,ctsS E),(98,ctsS D)])
theorem qoo {us:Summ} (hu:q5a Tryz.prog 37 us):CfgOK (qjx shaF encF decF us):=qwb (allS (hu _) (allS deOK (allS hmOK (allS j4k (allS j5k (allS (qfx _) (allS (qdx _) (allS stGOK (allS (jgk _) (allS (decOK _) (by simp)))))))))))
noncomputable def qef (i:Int) (n:Nat) (v u:Int) (k c:Sl) (t:SV):List SV:=[.agg [.int .i64 (.lit i),.int .i64 (.sym v),k.valN 4 n],.int .i64 (.sym u),c.valN 5 16,t]
noncomputable def sg1T (F:HashF) (E D:CtsF) (v u:Int) (k c t:Sl):Tree:=qba (qjx F E D (qix 1 kv1)) 8000 12 (qef 1 16 v u k c (t.val 6)) (q4c [k.row,c.row,t.row])
noncomputable def sg1N (F:HashF) (E D:CtsF) (v u:Int) (k c:Sl):Tree:=qba (qjx F E D (qix 1 kv1)) 8000 12 (qef 1 16 v u k c .nilSlice) (q4c [k.row,c.row])
noncomputable def sg2T (F:HashF) (E D:CtsF) (v u:Int) (k c t:Sl):Tree:=qba (qjx F E D (qix 2 kv2)) 8000 12 (qef 2 32 v u k c (t.val 6)) (q4c [k.row,c.row,t.row])
noncomputable def sg2N (F:HashF) (E D:CtsF) (v u:Int) (k c:Sl):Tree:=qba (qjx F E D (qix 2 kv2)) 8000 12 (qef 2 32 v u k c .nilSlice) (q4c [k.row,c.row])
noncomputable def q3f (X:Nat→BitVec 8) (n:Nat):Sl:=⟨X,n,0,n,true,0⟩
noncomputable def q1c:Sl:=⟨fun _=>0#8,0,0,0,false,0⟩
noncomputable def usQ1 (i:Int) (v u:Int) (l:Nat):Prop:=i=i∧qrf i v l∧1≤u∧u≤1023
noncomputable def cpA (F:HashF) (E:CtsF) (k:Sl) (u:Int) (M:Nat→BitVec 8) (n:Nat):Sl:=q3f (qaa (E (qha (dkS F k 16 u 0xaa#8).X 0) (qha z16.X 0) (fun j=>M (0+j)) n)) n
noncomputable def tgA (F:HashF) (k:Sl) (u:Int) (x:Sl):Sl:=⟨qaa (tabB (qaa (tagB F (dkS F k 16 u 0x55#8) x)) 32),32,0,16,false,16⟩
noncomputable def tgB (F:HashF) (k:Sl) (u:Int) (x:Sl):Sl:=⟨qaa (tabB (qaa (tagS F (dkS F k 32 u 0x55#8) x)) 32),32,0,32,false,32⟩
noncomputable def sgO (nm:Nat) (i v:Int) (x y:Sl) (n:Nat):Option (SV × List (Option SO)):=some (seV nm i (.sym v) n,[some (.own (.fn (qea (two x y)) n) false 5)])
noncomputable def tgC (k:Sl) (dk x y:Sl) (n:Nat):List Prop:=[IsB (qea k.X),k.o+n≤k.N,IsB (qea x.X),okK dk∧okL x,IsB (qea x.X),(okL x∧x.n≠0)∧okL y]
noncomputable def c1C (F:HashF) (E:CtsF) (k:Sl) (u:Int) (M:Nat→BitVec 8) (n:Nat) (r:List Prop):List Prop:=IsB (qea M)::(0+n≤n∧n≤224)::app (tgC k (dkS F k 16 u 0x55#8) (cpA F E k u M n) (tgA F k u (cpA F E k u M n)) 16) r
section
variable (F:HashF) (E D:CtsF) (v u:Int) (k c t:Sl) (m m2 m3:Nat)
theorem j7o:outO [20] (sg1T F E D v u (k.pl m) (c.pl m2) (t.pl m3)) [false,false,true] =
    (usQ1 1 v u 16::(decide ((t.n:Int) > 65536)=false)::IsB (qea k.X)::(k.o+16≤k.N)::IsB (qea c.X)::IsB (qea t.X)::((okL (c.len 16)∧16≠0)∧okL t)::(0+16≤16)::(0+16≤16)::(decide (16+t.n<16)=false)::(decide (16+t.n<131073)=true)::c1C F E k u (two (c.len 16) t) (16+t.n) [],
     sgO 20 1 v (cpA F E k u (two (c.len 16) t) (16+t.n)) (tgA F k u (cpA F E k u (two (c.len 16) t) (16+t.n))) (16+t.n+16)):=by kernel_rfl
theorem j8o:outO [19] (sg1N F E D v u (k.pl m) (c.pl m2)) [false,true] =
    (usQ1 1 v u 16::IsB (qea k.X)::(k.o+16≤k.N)::IsB (qea c.X)::(okL (c.len 16)∧16≠0)::(0+16≤16)::(0+16≤16)::(decide (16<16)=false)::(decide (16<131073)=true)::c1C F E k u (c.len 16).F 16 [],sgO 19 1 v (cpA F E k u (c.len 16).F 16) (tgA F k u (cpA F E k u (c.len 16).F 16)) (16+16)):=by kernel_rfl
noncomputable def str2:Sl:=q3f (strG F (dkS F k 32 u 0xaa#8) (c.len 16) t) t.n
noncomputable def cpB:Sl:=q3f (two (c.len 16) (str2 F u k c t)) (16+t.n)
noncomputable def c2C (r:List Prop):List Prop:=usQ1 2 v u 32::(decide ((t.n:Int) > 65536)=false)::IsB (qea k.X)::(k.o+32≤k.N)::IsB (qea c.X)::IsB (qea t.X)::(okK (dkS F k 32 u 0xaa#8)∧okL (c.len 16)∧okL t)::r
theorem j9o:outO [19] (sg2T F E D v u (k.pl m) (c.pl m2) (t.pl m3)) [false,false] =
    (c2C F v u k c t ((((t.n:Int) == 0)=false)::IsB (qea c.X)::IsB (qea (str2 F u k c t).X)::((okL (c.len 16)∧16≠0)∧okL (str2 F u k c t))::tgC k (dkS F k 32 u 0x55#8) (cpB F u k c t) (tgB F k u (cpB F u k c t)) 32),sgO 19 2 v (cpB F u k c t) (tgB F k u (cpB F u k c t)) (16+t.n+32)):=by kernel_rfl
noncomputable def c2N (r:List Prop):List Prop:=IsB (qea c.X)::(okL (c.len 16)∧16≠0)::app (tgC k (dkS F k 32 u 0x55#8) (q3f (c.len 16).F 16) (tgB F k u (q3f (c.len 16).F 16)) 32) r
theorem j8h:outO [18] (sg2T F E D v u (k.pl m) (c.pl m2) (t.pl m3)) [false,true] =
    (c2C F v u k c t ((((t.n:Int) == 0)=true)::c2N F u k c []),sgO 18 2 v (q3f (c.len 16).F 16) (tgB F k u (q3f (c.len 16).F 16)) (16+32)):=by kernel_rfl
theorem jap:outO [17] (sg2N F E D v u (k.pl m) (c.pl m2)) [] =
    (usQ1 2 v u 32::IsB (qea k.X)::(k.o+32≤k.N)::IsB (qea c.X)::c2N F u k c [],sgO 17 2 v (q3f (c.len 16).F 16) (tgB F k u (q3f (c.len 16).F 16)) (16+32)):=by kernel_rfl
end
end Go.Proofs.YtbmgahpjgefjaaaGreatDoor.Aes
namespace Go.Proofs.YtbmgahpjgefjaaaGreatDoor.Aes
open Go.Sim
open Go.Proofs
variable {α:Type}
set_option maxRecDepth 100000
theorem qsg {K:Nat→BitVec 8} {n:Nat} {M M':Nat→BitVec 8} {m:Nat} (h:∀ i,i<m→M i=M' i):macB shaF K n M m=macB shaF K n M' m:=by
  unfold macB
  rw [q5p (X:=catF (xorP shaF K n 0x36#8) 64 M) (Y:=catF (xorP shaF K n 0x36#8) 64 M') fun i hi => ?_]
  unfold catF
  by_cases c:i<64
  · rw [if_pos c,if_pos c]
  · rw [if_neg c,if_neg c]; exact h _ (by omega)
theorem qkx {K V:Blk} {P P':Nat→BitVec 8} {l:Nat} (h:∀ i,i<l→P i=P' i):encF K V P l=encF K V P' l:=by
  unfold encF qup
  rw [show qtp P l=qtp P' l from funext fun j=>by
    unfold qtp
    by_cases c:j<l
    · rw [if_pos c,if_pos c,h j c]
    · rw [if_neg c,if_neg c]]
theorem qff {a b:Sl} {i:Nat}:two a b i=if i<a.n then a.X (a.o+i) else b.X (b.o+(i - a.n)):=rfl
def SlEq (x y:Sl):Prop:=x.n=y.n∧∀ i,i<x.n→x.X (x.o+i)=y.X (y.o+i)
theorem qgq {k x y:Sl} (h:SlEq x y):tagS shaF k x=tagS shaF k y:=by
  unfold tagS
  rw [← h.1]
  exact qsg fun i hi=>h.2 i hi
theorem qlx {k x y:Sl} (h:SlEq x y):tagB shaF k x=tagB shaF k y:=by
  unfold tagB
  rw [← h.1]
  refine qsg fun i hi => ?_
  rw [qff,qff]
  by_cases c:i<z16.n
  · rw [if_pos c,if_pos c]
  · rw [if_neg c,if_neg c]
    exact h.2 _ (by have:z16.n=16:=rfl; omega)
theorem q4z {k:Sl} {u:Int} {M M':Nat→BitVec 8} {n:Nat} (h:∀ i,i<n→M i=M' i):cpA shaF encF k u M n=cpA shaF encF k u M' n:=by
  unfold cpA
  rw [qkx (P:=fun j=>M (0+j)) (P':=fun j=>M' (0+j)) fun i hi=>by rw [Nat.zero_add]; exact h i hi]
theorem qcs {k:Sl} {u:Int} {x y:Sl} (h:SlEq x y):tgB shaF k u x=tgB shaF k u y:=by
  unfold tgB; rw [qgq h]
theorem q9i {a b a' b':Sl} (ha:SlEq a a') (hb:SlEq b b') {i:Nat} (hi:i<a.n+b.n):two a b i=two a' b' i:=by
  rw [qff,qff,← ha.1]
  by_cases c:i<a.n
  · rw [if_pos c,if_pos c]; exact ha.2 i c
  · rw [if_neg c,if_neg c]; exact hb.2 _ (by omega)
noncomputable def tagN (i:Nat):Nat:=boolC (Nat.beq i 1) 16 32
noncomputable def qic (F:HashF) (E:CtsF) (i:Nat) (k:Sl) (u:Int) (c t:Sl):Sl:=boolC (Nat.beq i 1) (cpA F E k u (two (c.len 16) t) (16+t.n)) (cpB F u k c t)
noncomputable def qih (F:HashF) (i:Nat) (k:Sl) (u:Int) (x:Sl):Sl:=boolC (Nat.beq i 1) (tgA F k u x) (tgB F k u x)
noncomputable def qjh (F:HashF) (E:CtsF) (i:Nat) (k:Sl) (u:Int) (c t:Sl):Nat→BitVec 8:=two (qic F E i k u c t) (qih F i k u (qic F E i k u c t))
noncomputable def optL (o:Option Nat):List Nat:=optC o [] fun n=>[n]
noncomputable def txtL (H:List SO) (v:SV) (f:Sl→Option Nat→R α):R α:=qkb v (f q1c none) fun _ _=>qnc H v fun t tn=>f t (some tn)
noncomputable def sgV2 (base:Nat) (p v:SI) (n:Nat):SV:=.tuple [.agg [.int .i64 p,.int .i64 v,q1f base n],.int .i64 (.lit 0)]
noncomputable def j4d (F:HashF) (E:CtsF) (i:Nat):Summ:=fun args H base=>q3m args fun kv uv cv tv=>kv.asAgg (.stuck 830) fun l=>quc l fun p v s=>i64O p fun p=>i64O v fun v=>i64O uv fun u=>qif H (qnc H s fun k kn=>qnc H cv fun c cn=>txtL H tv fun t tn =>
  boolC (qfd (kn::cn::optL tn)) (.need (p.den=(i:Int)∧usQ i v.den u.den k.n∧c.n=16∧okL k∧okL c∧okL t∧t.n≤208) (.ok ⟨sgV2 base p v (16+t.n+tagN i),[],[.own (.fn (qea (qjh F E i k u.den c t)) (16+t.n+tagN i)) false 5]⟩)) (.stuck 830))
theorem qpm {I:Ifc} {base j n n':Nat} {i:Int} {p v:SI} {X X':Nat→BitVec 8} {H:List SO} (hj:I.known j=false) (ho:q8b I.ents 0=[]) (hp:p.den=i) (hE:H[j]? = some (.own (.fn (qea X) n) false 5)) (hn:n=n') (hX:∀ x,x<n→X x=X' x) :
    I.Ends base [j] ⟨sgV2 base p v n',[],[.own (.fn (qea X') n') false 5]⟩ (seV j i (.sym v.den) n) H:=by
  subst hn
  have ho':I.out base [j] j=base:=by
    unfold Ifc.out
    rw [hj]
    show base+idxN j [j]=base
    rw [show idxN j [j]=boolC (Nat.beq j j) 0 _ from rfl,Nat.beq_refl]; rfl
  have hs:I.seen [j] j=true:=by
    unfold Ifc.seen
    rw [hj]
    exact (memN_iff (n:=j) (l:=[j])).2 List.mem_cons_self
  refine ⟨?_,?_,by rw [ho]; trivial,⟨qzj hE hX,trivial⟩⟩
  · show (SV.tuple [.agg [.int .i64 (.lit i),.int .i64 (.sym v.den),.slice ⟨I.out base [j] j,.lit 0⟩ (.sym n) (.rest (I.out base [j] j) 0)],.int .i64 (.lit 0)]).Imp _
    rw [ho']
    subst hp
    intro γ x hx
    simp only [SV.den,SV.denL,Option.map_eq_some_iff,Option.bind_eq_some_iff] at hx
    unfold sgV2 q1f
    simp only [SV.den,SV.denL,Option.map_eq_some_iff,Option.bind_eq_some_iff]
    exact hx
  · show ((true && (true && ((I.seen [j] j && I.seen [j] j) && true))) && (true && true))=true
    rw [hs]; rfl
theorem Sl.val_denN {t:Sl} {nm n:Nat} (hn:t.n=n) {γ:Val} {x:Value} (h:(t.val nm).den γ=some x):∃ m,((t.pl m).valN nm n).den γ=some x:=by
  subst hn
  obtain ⟨m,_,hd⟩:=Sl.val_den h
  exact ⟨m,qwd (l:=.sym t.n) (l':=.lit t.n) rfl _ _ hd⟩
theorem qhk {H:List SO} {v:SV} {f:Sl→Option Nat→R α} {φ:α→Prop} (h0:v=.nilSlice→(f q1c none).Sat φ) (h:∀ t nm,qpb nm=true→(∀ g,∃ e',H[nm]? = some e'∧q3b g t.row e')→v.Imp (t.val nm)→(f t (some nm)).Sat φ):(txtL H v f).Sat φ :=
  qva h0 fun _ _ _ _=>qdb fun t tn hn ht hi=>h t tn hn ht hi
theorem jbp {i:Nat} (hi12:i=1∨i=2):SumAt Tryz.prog q9b 12 (j4d shaF encF i):=by
  intro O w0 β H w base args vs hH hG ha
  refine qeg fun kv uv cv tv hv => ?_
  rcases qfc kv with ⟨l,rfl⟩ | hno
  case inr=>rw [hno]; trivial
  refine qib fun p v s hl=>q1a fun p' hp=>q1a fun v' hv'=>q1a fun u hu=>qwc fun hT=>qdb fun k kn hn1 ht1 hi1=>qdb fun c cn hn2 ht2 hi2 => ?_
  subst hl hp hv' hu
  rw [hv] at ha
  obtain ⟨⟨xs,hxs⟩,zs,hzs⟩:=q8g ha
  obtain ⟨xu,zs1,hxu,hzs1,rfl⟩:=denL_cons.1 hzs
  obtain ⟨xc,zs2,hxc,hzs2,rfl⟩:=denL_cons.1 hzs1
  obtain ⟨xt,zs3,hxt,hzs3,rfl⟩:=denL_cons.1 hzs2
  have harg:∀ (n0 m m2:Nat) (tv':SV),((k.pl m).valN kn n0).den β=some xs→((c.pl m2).valN cn 16).den β=some xc→p'.den=(i:Int)→tv'.den β=some xt→SV.denL β [.agg [.int .i64 (.lit i),.int .i64 (.sym v'.den),(k.pl m).valN kn n0],.int .i64 (.sym u.den),(c.pl m2).valN cn 16,tv']=some vs:=by
    intro n0 m m2 tv' hks hcs hpi htv
    have h1:=qxf (s':=(k.pl m).valN kn n0) (p':=.int .i64 (.lit i)) (v':=.int .i64 (.sym v'.den)) ha (fun x hx=>by rw [hxs] at hx; cases hx; exact hks) (qoa hpi) (qoa rfl)
    obtain ⟨xa,ws,hxa,hws,rfl⟩:=denL_cons.1 h1
    refine denL_cons.2 ⟨_,_,hxa,?_,rfl⟩
    rw [hzs] at hws
    cases hws
    exact denL_cons.2 ⟨_,_,qoa rfl _ _ hxu,denL_cons.2 ⟨_,_,hcs,denL_cons.2 ⟨_,_,htv,hzs3,rfl⟩,rfl⟩,rfl⟩
  have hdk:∀ (n:Nat) (x:BitVec 8),n≤32→okK (dkS shaF k n u.den x):=fun n x hn=>⟨by show 0+n≤n; omega,by show n≤4096; omega⟩
  have hallo:∀ {X:Nat→BitVec 8} {n:Nat},n≤1099511627776→okL (q3f X n):=fun h=>⟨by show 0+_≤_; rw [Nat.zero_add]; exact Nat.le_refl _,h⟩
  have htg:∀ {n0:Nat} {x y:Sl} {b:BitVec 8},n0≤32→k.o+n0≤k.N→okL x→x.n≠0→okL y→∀ q∈tgC k (dkS shaF k n0 u.den b) x y n0,q:=fun h1 h2 hx h0 hy=>all_cons (qda _) (all_cons h2 (all_cons (qda _) (all_cons ⟨hdk _ _ h1,hx⟩ (all_cons (qda _) (all_cons ⟨⟨hx,h0⟩,hy⟩ qca)))))
  have hc1:∀ {M:Nat→BitVec 8} {n:Nat},n≠0→n≤224→k.o+16≤k.N→∀ q∈c1C shaF encF k u.den M n [],q:=fun h0 hn hk=>all_cons (qda _) (all_cons ⟨by omega,hn⟩ (htg (by omega) hk (hallo (by omega)) h0 ⟨by show 0+16≤32; omega,by show 16≤_; omega⟩))
  have n3:∀ {x:Nat},x∈[kn,cn]→qpb x=true:=by simp only [List.mem_cons,List.not_mem_nil,or_false]; rintro x (rfl | rfl) <;> assumption
  refine qhk (fun hnil=>qfa fun hd=>fun ⟨hpi,hq,hc16,hk,hc,_,_⟩ => ?_) fun t tn hn3 ht3 hi3=>qfa fun hd=>fun ⟨hpi,hq,hc16,hk,hc,ht,h208⟩ => ?_
  ·
    subst hnil
    obtain ⟨m2,hcs⟩:=Sl.val_denN hc16 (hi2 _ _ hxc)
    have hc':okL (c.len 16):=by rw [← hc16]; exact hc
    have fit:∀ (n0 m:Nat) (j0:Int),Ifc.Fits (qya [kn,cn] [(k.pl m).row,(c.pl m2).row] (qef j0 n0 v'.den u.den (k.pl m) (c.pl m2) .nilSlice)) H:=fun n0 m j0=>by
      exact Ifc.fits (nd4 hd fun _=>n3) rfl (qhb hT ⟨⟨ht1 _,k.row_uses _⟩,⟨ht2 _,c.row_uses _⟩,trivial⟩)
    have arg:∀ {n0 m:Nat},((k.pl m).valN kn n0).den β=some xs→SV.denL β (SV.renL (qya [kn,cn] [(k.pl m).row,(c.pl m2).row] (qef i n0 v'.den u.den (k.pl m) (c.pl m2) .nilSlice)).big (qef i n0 v'.den u.den (k.pl m) (c.pl m2) .nilSlice))=some vs:=fun {n0 m} hks=>by
      show SV.denL β [.agg [.int .i64 (.lit i),.int .i64 (.sym v'.den),((k.pl m).valN 4 n0).ren _],.int .i64 (.sym u.den),((c.pl m2).valN 5 16).ren _,.nilSlice]=_
      rw [Sl.valN_ren,Sl.valN_ren]
      exact harg n0 m m2 .nilSlice hks hcs hpi hxt
    have e16:∀ x,x<16→(c.len 16).F x=two (c.len 16) q1c x:=fun x hx=>by rw [qff,if_pos (show x<(c.len 16).n from hx)]; rfl
    rcases hi12 with rfl | rfl
    · have hkn:k.n=16:=by rcases hq.1.1 with ⟨_,h⟩ | ⟨h,_⟩; exact h; cases h
      obtain ⟨m,hks⟩:=Sl.val_denN hkn (hi1 _ _ hxs)
      have hk16:k.o+16≤k.N:=by rw [← hkn]; exact hk.1
      refine q7a (qoo (qbs (.inl ⟨rfl,rfl⟩))) 8000 hH (qya [kn,cn] [(k.pl m).row,(c.pl m2).row] (qef 1 16 v'.den u.den (k.pl m) (c.pl m2) .nilSlice)) (q8a hG) (arg hks) (fit 16 m 1) [19] (by simp [qya]) (by simp) (j8o shaF encF decF v'.den u.den k c m m2) ?_ fun H2 hH2=>qpm rfl rfl hpi (List.cons.inj hH2).1 rfl fun x _ => ?_
      · rw [hkn] at hq
        exact all_cons ⟨rfl,hq⟩ (all_cons (qda _) (all_cons hk16 (all_cons (qda _) (all_cons ⟨hc',by omega⟩ (all_cons (by omega) (all_cons (by omega) (all_cons (decide_eq_false (by omega)) (all_cons (decide_eq_true (by omega)) (hc1 (by omega) (by omega) hk16)))))))))
      · show two _ _ x=two (cpA shaF encF k u.den (two (c.len 16) q1c) 16) (tgA shaF k u.den (cpA shaF encF k u.den (two (c.len 16) q1c) 16)) x
        rw [q4z e16]
    · have hkn:k.n=32:=by rcases hq.1.1 with ⟨h,_⟩ | ⟨_,h⟩; cases h; exact h
      obtain ⟨m,hks⟩:=Sl.val_denN hkn (hi1 _ _ hxs)
      have hk16:k.o+32≤k.N:=by rw [← hkn]; exact hk.1
      refine q7a (qoo (qbs (.inr ⟨rfl,rfl⟩))) 8000 hH (qya [kn,cn] [(k.pl m).row,(c.pl m2).row] (qef 2 32 v'.den u.den (k.pl m) (c.pl m2) .nilSlice)) (q8a hG) (arg hks) (fit 32 m 2) [17] (by simp [qya]) (by simp) (jap shaF encF decF v'.den u.den k c m m2) ?_ fun H2 hH2=>qpm rfl rfl hpi (List.cons.inj hH2).1 rfl fun x hx => ?_
      · rw [hkn] at hq
        exact all_cons ⟨rfl,hq⟩ (all_cons (qda _) (all_cons hk16 (all_cons (qda _) (all_cons (qda _) (all_cons ⟨hc',by omega⟩ (htg (by omega) hk16 (hallo (by omega)) (by show 16≠0; omega) ⟨by show 0+32≤32; omega,by show 32≤_; omega⟩))))))
      · have hE:SlEq (q3f (c.len 16).F 16) (cpB shaF u.den k c q1c):=⟨rfl,fun j hj=>by show (c.len 16).F (0+j)=two (c.len 16) (str2 shaF u.den k c q1c) (0+j); rw [Nat.zero_add,qff,if_pos (show j<(c.len 16).n from hj)]; rfl⟩
        show two (q3f (c.len 16).F 16) (tgB shaF k u.den (q3f (c.len 16).F 16)) x=two (cpB shaF u.den k c q1c) (tgB shaF k u.den (cpB shaF u.den k c q1c)) x
        rw [qcs hE]
        exact q9i hE ⟨rfl,fun _ _=>rfl⟩ hx
  · obtain ⟨m2,hcs⟩:=Sl.val_denN hc16 (hi2 _ _ hxc)
    obtain ⟨m3,_,hts⟩:=Sl.val_den (hi3 _ _ hxt)
    have hc':okL (c.len 16):=by rw [← hc16]; exact hc
    have n4:∀ {x:Nat},x∈[kn,cn,tn]→qpb x=true:=by simp only [List.mem_cons,List.not_mem_nil,or_false]; rintro x (rfl | rfl | rfl) <;> assumption
    have fit:∀ (n0 m:Nat) (j0:Int),Ifc.Fits (qya [kn,cn,tn] [(k.pl m).row,(c.pl m2).row,(t.pl m3).row] (qef j0 n0 v'.den u.den (k.pl m) (c.pl m2) ((t.pl m3).val 6))) H:=fun n0 m j0 =>
      Ifc.fits (nd4 hd fun _=>n4) rfl (qhb hT ⟨⟨ht1 _,k.row_uses _⟩,⟨ht2 _,c.row_uses _⟩,⟨ht3 _,t.row_uses _⟩,trivial⟩)
    have arg:∀ {n0 m:Nat},((k.pl m).valN kn n0).den β=some xs→SV.denL β (SV.renL (qya [kn,cn,tn] [(k.pl m).row,(c.pl m2).row,(t.pl m3).row] (qef i n0 v'.den u.den (k.pl m) (c.pl m2) ((t.pl m3).val 6))).big (qef i n0 v'.den u.den (k.pl m) (c.pl m2) ((t.pl m3).val 6)))=some vs:=fun {n0 m} hks=>by
      show SV.denL β [.agg [.int .i64 (.lit i),.int .i64 (.sym v'.den),((k.pl m).valN 4 n0).ren _],.int .i64 (.sym u.den),((c.pl m2).valN 5 16).ren _,((t.pl m3).val 6).ren _]=_
      rw [Sl.valN_ren,Sl.valN_ren,Sl.val_ren]
      exact harg n0 m m2 ((t.pl m3).val tn) hks hcs hpi hts
    have ht0:decide ((t.n:Int) > 65536)=false:=decide_eq_false (by omega)
    rcases hi12 with rfl | rfl
    · have hkn:k.n=16:=by rcases hq.1.1 with ⟨_,h⟩ | ⟨h,_⟩; exact h; cases h
      obtain ⟨m,hks⟩:=Sl.val_denN hkn (hi1 _ _ hxs)
      have hk16:k.o+16≤k.N:=by rw [← hkn]; exact hk.1
      refine q7a (qoo (qbs (.inl ⟨rfl,rfl⟩))) 8000 hH (qya [kn,cn,tn] [(k.pl m).row,(c.pl m2).row,(t.pl m3).row] (qef 1 16 v'.den u.den (k.pl m) (c.pl m2) ((t.pl m3).val 6))) (q8a hG) (arg hks) (fit 16 m 1) [20] (by simp [qya]) (by simp) (j7o shaF encF decF v'.den u.den k c t m m2 m3) ?_ fun H2 hH2=>qpm rfl rfl hpi (List.cons.inj hH2).1 rfl fun x _=>rfl
      rw [hkn] at hq
      exact all_cons ⟨rfl,hq⟩ (all_cons ht0 (all_cons (qda _) (all_cons hk16 (all_cons (qda _) (all_cons (qda _) (all_cons ⟨⟨hc',by omega⟩,ht⟩ (all_cons (by omega) (all_cons (by omega) (all_cons (decide_eq_false (by omega)) (all_cons (decide_eq_true (by omega)) (hc1 (by omega) (by omega) hk16)))))))))))
    · have hkn:k.n=32:=by rcases hq.1.1 with ⟨h,_⟩ | ⟨_,h⟩; cases h; exact h
      obtain ⟨m,hks⟩:=Sl.val_denN hkn (hi1 _ _ hxs)
      have hk16:k.o+32≤k.N:=by rw [← hkn]; exact hk.1
      rw [hkn] at hq
      have hpre:∀ {r:List Prop},(∀ q∈r,q)→∀ q∈c2C shaF v'.den u.den k c t r,q:=fun hr=>all_cons ⟨rfl,hq⟩ (all_cons ht0 (all_cons (qda _) (all_cons hk16 (all_cons (qda _) (all_cons (qda _) (all_cons ⟨hdk _ _ (by omega),hc',ht⟩ hr))))))
      have hy:∀ {x:Sl},okL (tgB shaF k u.den x):=⟨by show 0+32≤32; omega,by show 32≤_; omega⟩
      by_cases h0:(t.n:Int)=0
      · have h0':t.n=0:=by omega
        refine q7a (qoo (qbs (.inr ⟨rfl,rfl⟩))) 8000 hH (qya [kn,cn,tn] [(k.pl m).row,(c.pl m2).row,(t.pl m3).row] (qef 2 32 v'.den u.den (k.pl m) (c.pl m2) ((t.pl m3).val 6))) (q8a hG) (arg hks) (fit 32 m 2) [18] (by simp [qya]) (by simp) (j8h shaF encF decF v'.den u.den k c t m m2 m3) ?_ fun H2 hH2=>qpm rfl rfl hpi (List.cons.inj hH2).1 (by rw [h0']; rfl) fun x hx => ?_
        · exact hpre (all_cons (by rw [h0]; rfl) (all_cons (qda _) (all_cons ⟨hc',by omega⟩ (htg (by omega) hk16 (hallo (by omega)) (by show 16≠0; omega) hy))))
        · have hE:SlEq (q3f (c.len 16).F 16) (cpB shaF u.den k c t):=⟨by show 16=16+t.n; omega,fun j hj=>by show (c.len 16).F (0+j)=two (c.len 16) (str2 shaF u.den k c t) (0+j); rw [Nat.zero_add,qff,if_pos (show j<(c.len 16).n from hj)]; rfl⟩
          show two (q3f (c.len 16).F 16) (tgB shaF k u.den (q3f (c.len 16).F 16)) x=two (cpB shaF u.den k c t) (tgB shaF k u.den (cpB shaF u.den k c t)) x
          rw [qcs hE]
          exact q9i hE ⟨rfl,fun _ _=>rfl⟩ hx
      · refine q7a (qoo (qbs (.inr ⟨rfl,rfl⟩))) 8000 hH (qya [kn,cn,tn] [(k.pl m).row,(c.pl m2).row,(t.pl m3).row] (qef 2 32 v'.den u.den (k.pl m) (c.pl m2) ((t.pl m3).val 6))) (q8a hG) (arg hks) (fit 32 m 2) [19] (by simp [qya]) (by simp) (j9o shaF encF decF v'.den u.den k c t m m2 m3) ?_ fun H2 hH2=>qpm rfl rfl hpi (List.cons.inj hH2).1 rfl fun x _=>rfl
        have hst:okL (str2 shaF u.den k c t):=hallo (by omega)
        exact hpre (all_cons (by rw [beq_eq_false_iff_ne]; exact h0) (all_cons (qda _) (all_cons (qda _) (all_cons ⟨⟨hc',by omega⟩,hst⟩ (htg (by omega) hk16 (hallo (by omega)) (by show 16+t.n≠0; omega) hy)))))
end Go.Proofs.YtbmgahpjgefjaaaGreatDoor.Aes
