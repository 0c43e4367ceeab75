/-
  Texts behind one another: the symbolic simulator and what it is told of the program.
-/
import Derived.Test.YtbmgahpjgefjaaaGreatDoorOzPro24
import Derived.Test.YtbmgahpjgefjaaaGreatDoorPo16
import Derived.Test.YtbmgahpjgefjaaaGreatDoorPo14
import Derived.Test.YtbmgahpjgefjaaaGreatDoorPo18
import Derived.Test.YtbmgahpjgefjaaaGreatDoorOzRmc3
import Derived.Test.YtbmgahpjgefjaaaGreatDoorPo11
import Derived.Test.YtbmgahpjgefjaaaGreatDoorPo6
import Derived.WideShapes
import Derived.ChangeShapes
import Derived.ChangeSlices
import Derived.Deep.Strs
namespace Go.Proofs.YtbmgahpjgefjaaaGreatDoor.Aes
open Go.Sim
open Go.Proofs
variable {α:Type}
set_option maxRecDepth 100000
noncomputable def opT1 (F:HashF) (i:Nat) (k:Sl) (u:Int) (t:Sl):Bool:=boolC (Nat.beq i 1) (eqB (tgA F k u (ocS t 16)) (otS t 16) 16) (eqB (tgB F k u (ocS t 32)) (otS t 32) 32)
noncomputable def opnX (F:HashF) (D:CtsF) (i:Nat) (k:Sl) (u:Int) (t:Sl):Nat→BitVec 8:=boolC (Nat.beq i 1) (fun j=>og1D F D u k t (16+j)) (strG F (dkS F k 32 u 0xaa#8) (t.cut t.o 16) (ogX t (t.o+16)))
noncomputable def opnA (H:List SO) (args:List SV) (f:SI→SI→SI→SI→SI→Sl→Nat→Sl→Nat→R α):R α:=qmc args fun kv uv zv=>kv.asAgg (.stuck 840) fun l=>qmc l fun p v s=>i64O p fun p=>i64O v fun v=>i64O uv fun u=>zv.asAgg (.stuck 840) fun l2=>qmc l2 fun sp sv ss=>i64O sp fun sp=>i64O sv fun sv=>qdf H (qjc H s fun k kn=>qjc H ss fun t tn=>boolC (qvc [kn,tn]) (f p v u sp sv k kn t tn) (.stuck 840))
noncomputable def opnQ (i:Nat) (p v u sp sv:Int) (k t:Sl):Prop:=p=i∧usQ i v u k.n∧sp=i∧qkk v sv∧okL k∧okL t∧16+tagN i≤t.n∧t.n≤224+tagN i
noncomputable def opnE (F:HashF) (i:Nat):Summ:=fun args H _=>opnA H args fun p v u sp sv k _ t _=>.need (opnQ i p.den v.den u.den sp.den sv.den k t∧opT1 F i k u.den t=false) (.ok ⟨opV 10,[],[]⟩)
noncomputable def opnR (F:HashF) (D:CtsF) (i base:Nat) (u:Int) (k t:Sl):R SumRes:=isI (.sym (ogL t (tagN i))) 0
  (boolC (Nat.beq i 1) (.ok ⟨.tuple [.slice ⟨base,.lit 0⟩ (.sym (ogL t 16)) (.sym (ogL t 16)),.int .i64 (.lit 0)],[],[.own (.fn (qda (og1D F D u k t)) (ogN t 16).toNat) false 5]⟩) (.ok ⟨opV 0,[],[]⟩))
  (boolC (Nat.beq i 1) (.ok ⟨.tuple [.slice ⟨base,.lit 16⟩ (.sym (ogL t 16)) (.sym (ogL t 16)),.int .i64 (.lit 0)],[],[.own (.fn (qda (og1D F D u k t)) (ogN t 16).toNat) false 5]⟩)
    (.ok ⟨.tuple [qgf base (ogL t 32),.int .i64 (.lit 0)],[],[.own (.fn (qda (opnX F D 2 k u t)) (ogL t 32)) false 5]⟩))
noncomputable def opnS (F:HashF) (D:CtsF) (i:Nat):Summ:=fun args H base=>opnA H args fun p v u sp sv k _ t _=>.need (opnQ i p.den v.den u.den sp.den sv.den k t∧opT1 F i k u.den t=true) (opnR F D i base u.den k t)
theorem qmu {H:List SO} {args:List SV} {f:SI→SI→SI→SI→SI→Sl→Nat→Sl→Nat→R α} {φ:α→Prop} {β:Val} {vs:List Value} (ha:SV.denL β args=some vs)
    (h:∀ p v u sp sv k kn t tn,ShaTP H→qib kn=true→qib tn=true→qvc [kn,tn]=true→(∀ g,∃ e',H[kn]? = some e'∧qqb g k.row e')→(∀ g,∃ e',H[tn]? = some e'∧qqb g t.row e') →
      (∀ n i,k.n=n→p.den=i→∃ m m2,SV.denL β [.agg [.int .i64 (.lit i),.int .i64 (.sym v.den),(k.pl m).valN kn n],.int .i64 (.sym u.den),.agg [.int .i64 (.sym sp.den),.int .i64 (.sym sv.den),(t.pl m2).val tn]]=some vs)→(f p v u sp sv k kn t tn).Sat φ):(opnA H args f).Sat φ:=by
  unfold opnA
  refine qab fun kv uv zv hv => ?_
  rcases quc kv with ⟨l,rfl⟩ | hno
  case inr=>rw [hno]; trivial
  refine qab fun p v s hl=>q7a fun p' hp=>q7a fun v' hv'=>q7a fun u hu => ?_
  rcases quc zv with ⟨l2,rfl⟩ | hno
  case inr=>rw [hno]; trivial
  refine qab fun sp sv ss hl2=>q7a fun sp' hsp=>q7a fun sv' hsv=>qlc fun hT=>qcb fun k kn hn1 ht1 hi1=>qcb fun t tn hn2 ht2 hi2=>qfa fun hd=>h _ _ _ _ _ _ _ _ _ hT hn1 hn2 hd ht1 ht2 fun n i hn hpi => ?_
  subst hl hp hv' hu hl2 hsp hsv
  rw [hv] at ha
  obtain ⟨⟨xs,hxs⟩,zs,hzs⟩:=qii ha
  obtain ⟨m,hks⟩:=Sl.val_denN hn (hi1 _ _ hxs)
  obtain ⟨xu,zs1,hxu,hzs1,rfl⟩:=denL_cons.1 hzs
  obtain ⟨⟨xt,hxt⟩,zs2,hzs2⟩:=qii hzs1
  obtain ⟨m2,_,hts⟩:=Sl.val_den (hi2 _ _ hxt)
  have h2:SV.denL β [.agg [.int .i64 (.sym sp'.den),.int .i64 (.sym sv'.den),(t.pl m2).val tn]]=some zs1:=q1h hzs1 (fun x hx=>by rw [hxt] at hx; cases hx; exact hts) (qoa rfl) (qoa rfl)
  have h1:=q1h (s':=(k.pl m).valN kn n) (p':=.int .i64 (.lit i)) (v':=.int .i64 (.sym v'.den)) ha (fun x hx=>by rw [hxs] at hx; cases hx; exact hks) (qoa hpi) (qoa rfl)
  obtain ⟨xa,ws,hxa,hws,rfl⟩:=denL_cons.1 h1
  refine ⟨m,m2,denL_cons.2 ⟨_,_,hxa,?_,rfl⟩⟩
  rw [hzs] at hws
  cases hws
  exact denL_cons.2 ⟨_,_,qoa rfl _ _ hxu,h2,rfl⟩
noncomputable def ogI (kn tn:Nat) (k t:Sl) (i:Int) (n:Nat) (v u sp sv:Int):Ifc:=qta [kn,tn] [k.row,t.row] (qu3 i n v u sp sv k t)
theorem qvd {β:Val} {kn tn:Nat} {k t:Sl} {i:Int} {n:Nat} {v u sp sv:Int} {vs:List Value} (h:SV.denL β [.agg [.int .i64 (.lit i),.int .i64 (.sym v),k.valN kn n],.int .i64 (.sym u),.agg [.int .i64 (.sym sp),.int .i64 (.sym sv),t.val tn]]=some vs):SV.denL β (SV.renL (ogI kn tn k t i n v u sp sv).big (ogI kn tn k t i n v u sp sv).args)=some vs:=by
  show SV.denL β [.agg [.int .i64 (.lit i),.int .i64 (.sym v),(k.valN 4 n).ren _],.int .i64 (.sym u),.agg [.int .i64 (.sym sp),.int .i64 (.sym sv),(t.val 5).ren _]]=_
  rw [Sl.valN_ren,Sl.val_ren]
  exact h
theorem q8c {H:List SO} {kn tn:Nat} {k t:Sl} {i:Int} {n:Nat} {v u sp sv:Int} (hT:ShaTP H) (hn1:qib kn=true) (hn2:qib tn=true) (hd:qvc [kn,tn]=true) (h1:∀ g,∃ e',H[kn]? = some e'∧qqb g k.row e') (h2:∀ g,∃ e',H[tn]? = some e'∧qqb g t.row e'):(ogI kn tn k t i n v u sp sv).Fits H:=by
  have n3:∀ {x:Nat},x∈[kn,tn]→qib x=true:=by simp only [List.mem_cons,List.not_mem_nil,or_false]; rintro x (rfl | rfl) <;> assumption
  refine Ifc.fits (nd4 hd fun _=>n3) ?_ (qgb hT ⟨⟨h1 _,k.row_uses _⟩,⟨h2 _,t.row_uses _⟩,trivial⟩)
  show ((true && (true && ((k.valN 4 n).uses _ && true))) && (true && ((true && (true && ((t.val 5).uses _ && true))) && true)))=true
  rw [Sl.valN_uses _ _ _ _ rfl,Sl.val_uses _ _ _ rfl]; rfl
theorem qwd {i:Int} {v u sp:Int} {t:Sl} {l:Nat} {g:Int} {b:Bool} {vs r:List Prop} (hq:usQ i v u l) (hsp:sp=i) (hv:∀ q∈vs,q) (hN:qza (ogN t g)) (hb:decide (ogN t g<16)=b) (hr:∀ q∈r,q):∀ q∈ogA i v u sp t l g b vs r,q :=
  all_cons ⟨rfl,hq⟩ (all_cons (by simp [hsp]) (qqd hv (all_cons hN (all_cons hb hr))))
theorem qxd {F:HashF} {u:Int} {k t:Sl} {l m:Nat} {g:Int} {y:Sl} {b:Bool} {r:List Prop} (hl:l=16∨l=32) (hg:g=l) (h16:16+l≤t.n) (ht:okL t) (h224:t.n≤224+l) (hm:t.n≤m) (hk:k.o+l≤k.N) (hdk:okK (dkS F k l u 0x55#8)) (hy:eqB y (otS t g) l = !b) (hr:∀ q∈r,q):∀ q∈ogB F u k t l m g y b r,q:=by
  have hN:ogN t g=(t.n:Int) - g:=rfl
  have h1:=ht.1
  have h2:=ht.2
  have hoc:okL (ocS t g):=⟨by show t.o+(ogN t g).toNat≤t.N; omega,by show (ogN t g).toNat≤_; omega⟩
  have hot:okL (otS t g):=⟨by show t.o+(ogN t g).toNat * 1+((t.n:Int).toNat - (ogN t g).toNat)≤t.N; omega,by show (t.n:Int).toNat - (ogN t g).toNat≤_; omega⟩
  exact all_cons (decide_eq_false (by omega)) (all_cons ⟨by omega,by omega⟩ (all_cons ⟨by omega,by omega⟩ (all_cons ⟨by omega,by omega⟩ (all_cons ⟨by omega,by omega⟩ (all_cons ⟨by omega,by omega⟩ (all_cons (decide_eq_false (by omega)) (all_cons (qea _) (all_cons hk (all_cons (qea _) (all_cons ⟨hdk,hoc⟩ (all_cons (qea _) (all_cons ⟨by omega,hot⟩ (all_cons (by rw [hy]; cases b <;> rfl) hr)))))))))))))
theorem qg6 {t:Sl} {g:Int} {l:Nat} {b:Bool} {r:List Prop} (hg:g=l) (h16:16+l≤t.n) (hb:decide (t.n=16+l)=b) (hr:∀ q∈r,q):∀ q∈ogM t g b r,q:=by
  have hN:ogN t g=(t.n:Int) - g:=rfl
  refine all_cons ⟨by omega,by omega⟩ (all_cons ⟨by omega,by omega⟩ (all_cons (by omega) (all_cons ?_ hr)))
  rw [← hb]
  by_cases h:t.n=16+l
  · rw [decide_eq_true h,decide_eq_true (by omega)]
  · rw [decide_eq_false h,decide_eq_false (by omega)]
theorem qee {F:HashF} {k:Sl} {n:Nat} {u:Int} {x:BitVec 8} (hn:n≤32):okK (dkS F k n u x):=⟨by show 0+n≤n; omega,by show n≤4096; omega⟩
theorem qyl {β:Val} {a b c d:SV} {t:Sl} {m2 tn:Nat} {vs:List Value} (h:SV.denL β [a,b,.agg [c,d,(t.pl m2).val tn]]=some vs):t.n≤m2:=by
  obtain ⟨_,zs,_,hzs,rfl⟩:=denL_cons.1 h
  obtain ⟨_,zs1,_,hzs1,rfl⟩:=denL_cons.1 hzs
  obtain ⟨⟨xt,hxt⟩,_⟩:=qii hzs1
  rw [show (t.pl m2).val tn=.slice ⟨tn,.sym t.o⟩ (.sym t.n) (.sym m2) from rfl,qpa] at hxt
  obtain ⟨A,C,hA,hC,hle,rfl⟩:=hxt
  cases hC; exact hle
theorem joe {i:Nat} (hi12:i=1∨i=2):SumAt Tryz.prog q6b 15 (opnE shaF i):=by
  intro O w0 β H w base args vs hH hG ha
  refine qmu ha fun p v u sp sv k kn t tn hT hn1 hn2 hd ht1 ht2 harg=>fun ⟨⟨hpi,hq,hsp,hvs,hk,ht,h16,h224⟩,hb⟩ => ?_
  rcases hi12 with rfl | rfl
  · have hkn:k.n=16:=by rcases hq.1.1 with ⟨_,h⟩ | ⟨h,_⟩; exact h; cases h
    have h16:16+16≤t.n:=h16
    have h224:t.n≤224+16:=h224
    rw [hkn] at hq
    obtain ⟨m,m2,ha'⟩:=harg 16 1 hkn hpi
    have hm2:t.n≤m2:=qyl ha'
    have hN:qza (ogN t 16):=⟨by show _≤(t.n:Int) - 16; omega,by show (t.n:Int) - 16≤_; have:=ht.2; omega⟩
    have hS:decide (ogN t 16<16)=false:=decide_eq_false (by show ¬ (t.n:Int) - 16<16; omega)
    rcases qoc hvs with hv | hv | hv
    · exact qka (qud (qme (.inl ⟨rfl,rfl⟩))) 8000 hH (ogI kn tn (k.pl m) (t.pl m2) 1 16 v.den u.den sp.den sv.den) (qqa hG) (qvd ha') (q8c hT hn1 hn2 hd ht1 ht2) [] (by simp [ogI,qta]) (by simp) (q79 shaF encF decF v.den u.den sp.den sv.den k t m m2) (qwd hq hsp hv hN hS (qxd (.inl rfl) rfl h16 ht h224 hm2 (by rw [← hkn]; exact hk.1) (qee (by omega)) hb qba)) fun _ _=>qkb rfl rfl rfl
    · exact qka (qud (qme (.inl ⟨rfl,rfl⟩))) 8000 hH (ogI kn tn (k.pl m) (t.pl m2) 1 16 v.den u.den sp.den sv.den) (qqa hG) (qvd ha') (q8c hT hn1 hn2 hd ht1 ht2) [] (by simp [ogI,qta]) (by simp) (q89 shaF encF decF v.den u.den sp.den sv.den k t m m2) (qwd hq hsp hv hN hS (qxd (.inl rfl) rfl h16 ht h224 hm2 (by rw [← hkn]; exact hk.1) (qee (by omega)) hb qba)) fun _ _=>qkb rfl rfl rfl
    · exact qka (qud (qme (.inl ⟨rfl,rfl⟩))) 8000 hH (ogI kn tn (k.pl m) (t.pl m2) 1 16 v.den u.den sp.den sv.den) (qqa hG) (qvd ha') (q8c hT hn1 hn2 hd ht1 ht2) [] (by simp [ogI,qta]) (by simp) (q99 shaF encF decF v.den u.den sp.den sv.den k t m m2) (qwd hq hsp hv hN hS (qxd (.inl rfl) rfl h16 ht h224 hm2 (by rw [← hkn]; exact hk.1) (qee (by omega)) hb qba)) fun _ _=>qkb rfl rfl rfl
  · have hkn:k.n=32:=by rcases hq.1.1 with ⟨h,_⟩ | ⟨_,h⟩; cases h; exact h
    have h16:16+32≤t.n:=h16
    have h224:t.n≤224+32:=h224
    rw [hkn] at hq
    obtain ⟨m,m2,ha'⟩:=harg 32 2 hkn hpi
    have hm2:t.n≤m2:=qyl ha'
    have hN:qza (ogN t 32):=⟨by show _≤(t.n:Int) - 32; omega,by show (t.n:Int) - 32≤_; have:=ht.2; omega⟩
    have hS:decide (ogN t 32<16)=false:=decide_eq_false (by show ¬ (t.n:Int) - 32<16; omega)
    rcases qoc hvs with hv | hv | hv
    · exact qka (qud (qme (.inr ⟨rfl,rfl⟩))) 8000 hH (ogI kn tn (k.pl m) (t.pl m2) 2 32 v.den u.den sp.den sv.den) (qqa hG) (qvd ha') (q8c hT hn1 hn2 hd ht1 ht2) [] (by simp [ogI,qta]) (by simp) (jaa shaF encF decF v.den u.den sp.den sv.den k t m m2) (qwd hq hsp hv hN hS (qxd (.inr rfl) rfl h16 ht h224 hm2 (by rw [← hkn]; exact hk.1) (qee (by omega)) hb qba)) fun _ _=>qkb rfl rfl rfl
    · exact qka (qud (qme (.inr ⟨rfl,rfl⟩))) 8000 hH (ogI kn tn (k.pl m) (t.pl m2) 2 32 v.den u.den sp.den sv.den) (qqa hG) (qvd ha') (q8c hT hn1 hn2 hd ht1 ht2) [] (by simp [ogI,qta]) (by simp) (jba shaF encF decF v.den u.den sp.den sv.den k t m m2) (qwd hq hsp hv hN hS (qxd (.inr rfl) rfl h16 ht h224 hm2 (by rw [← hkn]; exact hk.1) (qee (by omega)) hb qba)) fun _ _=>qkb rfl rfl rfl
    · exact qka (qud (qme (.inr ⟨rfl,rfl⟩))) 8000 hH (ogI kn tn (k.pl m) (t.pl m2) 2 32 v.den u.den sp.den sv.den) (qqa hG) (qvd ha') (q8c hT hn1 hn2 hd ht1 ht2) [] (by simp [ogI,qta]) (by simp) (jca shaF encF decF v.den u.den sp.den sv.den k t m m2) (qwd hq hsp hv hN hS (qxd (.inr rfl) rfl h16 ht h224 hm2 (by rw [← hkn]; exact hk.1) (qee (by omega)) hb qba)) fun _ _=>qkb rfl rfl rfl
theorem qpo {I:Ifc} {base j o n:Nat} {E:SO} {X:Nat→BitVec 8} {N:Nat} {H:List SO} (hj:I.known j=false) (ho:q7b I.ents 0=[]) (hE:H[j]? = some E) (he:E=.own (.fn (qda X) N) false 5):I.Ends base [j] ⟨.tuple [.slice ⟨base,.lit o⟩ (.sym n) (.sym n),.int .i64 (.lit 0)],[],[E]⟩ (.tuple [.slice ⟨j,.lit o⟩ (.sym n) (.sym n),.int .i64 (.lit 0)]) H:=by
  have ho':I.out base [j] j=base:=by
    unfold Ifc.out
    rw [hj]
    show base+idxN j [j]=base
    rw [show idxN j [j]=boolC (Nat.beq j j) 0 _ from rfl,Nat.beq_refl]; rfl
  have hs:I.seen [j] j=true:=by
    unfold Ifc.seen
    rw [hj]
    exact (memN_iff (n:=j) (l:=[j])).2 List.mem_cons_self
  subst he
  refine ⟨?_,?_,by rw [ho]; trivial,⟨qgg hE fun _ _=>rfl,trivial⟩⟩
  · show (SV.tuple [.slice ⟨I.out base [j] j,.lit o⟩ (.sym n) (.sym n),.int .i64 (.lit 0)]).Imp _
    rw [ho']; exact .refl _
  · show ((I.seen [j] j && true) && (true && true))=true
    rw [hs]; rfl
theorem qv3 {I:Ifc} {base j n:Nat} {X:Nat→BitVec 8} {H:List SO} (hj:I.known j=false) (ho:q7b I.ents 0=[]) (hE:H[j]? = some (.own (.fn (qda X) n) false 5)):I.Ends base [j] ⟨.tuple [qgf base n,.int .i64 (.lit 0)],[],[.own (.fn (qda X) n) false 5]⟩ (.tuple [qgf j n,.int .i64 (.lit 0)]) H:=by
  have ho':I.out base [j] j=base:=by
    unfold Ifc.out
    rw [hj]
    show base+idxN j [j]=base
    rw [show idxN j [j]=boolC (Nat.beq j j) 0 _ from rfl,Nat.beq_refl]; rfl
  have hs:I.seen [j] j=true:=by
    unfold Ifc.seen
    rw [hj]
    exact (memN_iff (n:=j) (l:=[j])).2 List.mem_cons_self
  refine ⟨?_,?_,by rw [ho]; trivial,⟨qgg hE fun _ _=>rfl,trivial⟩⟩
  · show (SV.tuple [.slice ⟨I.out base [j] j,.lit 0⟩ (.sym n) (.rest (I.out base [j] j) 0),.int .i64 (.lit 0)]).Imp _
    rw [ho']; exact .refl _
  · show ((I.seen [j] j && I.seen [j] j) && (true && true))=true
    rw [hs]; rfl
theorem qz0 {i:Nat} (hi12:i=1∨i=2):SumAt Tryz.prog q6b 15 (opnS shaF decF i):=by
  intro O w0 β H w base args vs hH hG ha
  refine qmu ha fun p v u sp sv k kn t tn hT hn1 hn2 hd ht1 ht2 harg=>fun ⟨⟨hpi,hq,hsp,hvs,hk,ht,h16,h224⟩,hb⟩ => ?_
  rcases hi12 with rfl | rfl
  · have hkn:k.n=16:=by rcases hq.1.1 with ⟨_,h⟩ | ⟨h,_⟩; exact h; cases h
    have h16:16+16≤t.n:=h16
    have h224:t.n≤224+16:=h224
    rw [hkn] at hq
    obtain ⟨m,m2,ha'⟩:=harg 16 1 hkn hpi
    have hm2:t.n≤m2:=qyl ha'
    have hN:qza (ogN t 16):=⟨by show _≤(t.n:Int) - 16; omega,by show (t.n:Int) - 16≤_; have:=ht.2; omega⟩
    have hS:decide (ogN t 16<16)=false:=decide_eq_false (by show ¬ (t.n:Int) - 16<16; omega)
    have hoN:ogN t 16=(t.n:Int) - 16:=rfl
    have hL:ogL t 16=t.n - 16 - 16:=by show (((ogN t 16).toNat:Nat):Int).toNat - 16=_; omega
    have hC:∀ {b},decide (t.n=16+16)=b→∀ q∈og1C k t b,q:=fun hb=>all_cons (qea _) (all_cons (by rw [← hkn]; exact hk.1) (all_cons (by omega) (all_cons (by omega) (all_cons (decide_eq_false (by omega)) (all_cons (decide_eq_true (by omega)) (all_cons (qea _) (all_cons ⟨by have:=ht.1; omega,by omega⟩ (qg6 rfl h16 hb qba))))))))
    refine qzc (fun h0 => ?_) fun h0 => ?_
    · have h0:(ogL t 16:Int)=0:=h0
      rcases qoc hvs with hv | hv | hv
      · exact qka (qud (qme (.inl ⟨rfl,rfl⟩))) 8000 hH (ogI kn tn (k.pl m) (t.pl m2) 1 16 v.den u.den sp.den sv.den) (qqa hG) (qvd ha') (q8c hT hn1 hn2 hd ht1 ht2) [15] (by simp [ogI,qta]) (by simp) (jyi shaF encF decF v.den u.den sp.den sv.den k t m m2) (qwd hq hsp hv hN hS (qxd (.inl rfl) rfl h16 ht h224 hm2 (by rw [← hkn]; exact hk.1) (qee (by omega)) hb (hC (decide_eq_true (by omega))))) fun H2 hH2=>qpo rfl rfl (List.cons.inj hH2).1 rfl
      · exact qka (qud (qme (.inl ⟨rfl,rfl⟩))) 8000 hH (ogI kn tn (k.pl m) (t.pl m2) 1 16 v.den u.den sp.den sv.den) (qqa hG) (qvd ha') (q8c hT hn1 hn2 hd ht1 ht2) [15] (by simp [ogI,qta]) (by simp) (jzi shaF encF decF v.den u.den sp.den sv.den k t m m2) (qwd hq hsp hv hN hS (qxd (.inl rfl) rfl h16 ht h224 hm2 (by rw [← hkn]; exact hk.1) (qee (by omega)) hb (hC (decide_eq_true (by omega))))) fun H2 hH2=>qpo rfl rfl (List.cons.inj hH2).1 rfl
      · exact qka (qud (qme (.inl ⟨rfl,rfl⟩))) 8000 hH (ogI kn tn (k.pl m) (t.pl m2) 1 16 v.den u.den sp.den sv.den) (qqa hG) (qvd ha') (q8c hT hn1 hn2 hd ht1 ht2) [15] (by simp [ogI,qta]) (by simp) (j0i shaF encF decF v.den u.den sp.den sv.den k t m m2) (qwd hq hsp hv hN hS (qxd (.inl rfl) rfl h16 ht h224 hm2 (by rw [← hkn]; exact hk.1) (qee (by omega)) hb (hC (decide_eq_true (by omega))))) fun H2 hH2=>qpo rfl rfl (List.cons.inj hH2).1 rfl
    · have h0:(ogL t 16:Int)≠0:=h0
      rcases qoc hvs with hv | hv | hv
      · exact qka (qud (qme (.inl ⟨rfl,rfl⟩))) 8000 hH (ogI kn tn (k.pl m) (t.pl m2) 1 16 v.den u.den sp.den sv.den) (qqa hG) (qvd ha') (q8c hT hn1 hn2 hd ht1 ht2) [15] (by simp [ogI,qta]) (by simp) (jbq shaF encF decF v.den u.den sp.den sv.den k t m m2) (qwd hq hsp hv hN hS (qxd (.inl rfl) rfl h16 ht h224 hm2 (by rw [← hkn]; exact hk.1) (qee (by omega)) hb (hC (decide_eq_false (by omega))))) fun H2 hH2=>qpo rfl rfl (List.cons.inj hH2).1 rfl
      · exact qka (qud (qme (.inl ⟨rfl,rfl⟩))) 8000 hH (ogI kn tn (k.pl m) (t.pl m2) 1 16 v.den u.den sp.den sv.den) (qqa hG) (qvd ha') (q8c hT hn1 hn2 hd ht1 ht2) [15] (by simp [ogI,qta]) (by simp) (jcq shaF encF decF v.den u.den sp.den sv.den k t m m2) (qwd hq hsp hv hN hS (qxd (.inl rfl) rfl h16 ht h224 hm2 (by rw [← hkn]; exact hk.1) (qee (by omega)) hb (hC (decide_eq_false (by omega))))) fun H2 hH2=>qpo rfl rfl (List.cons.inj hH2).1 rfl
      · exact qka (qud (qme (.inl ⟨rfl,rfl⟩))) 8000 hH (ogI kn tn (k.pl m) (t.pl m2) 1 16 v.den u.den sp.den sv.den) (qqa hG) (qvd ha') (q8c hT hn1 hn2 hd ht1 ht2) [15] (by simp [ogI,qta]) (by simp) (jdq shaF encF decF v.den u.den sp.den sv.den k t m m2) (qwd hq hsp hv hN hS (qxd (.inl rfl) rfl h16 ht h224 hm2 (by rw [← hkn]; exact hk.1) (qee (by omega)) hb (hC (decide_eq_false (by omega))))) fun H2 hH2=>qpo rfl rfl (List.cons.inj hH2).1 rfl
  · have hkn:k.n=32:=by rcases hq.1.1 with ⟨h,_⟩ | ⟨_,h⟩; cases h; exact h
    have h16:16+32≤t.n:=h16
    have h224:t.n≤224+32:=h224
    rw [hkn] at hq
    obtain ⟨m,m2,ha'⟩:=harg 32 2 hkn hpi
    have hm2:t.n≤m2:=qyl ha'
    have hN:qza (ogN t 32):=⟨by show _≤(t.n:Int) - 32; omega,by show (t.n:Int) - 32≤_; have:=ht.2; omega⟩
    have hS:decide (ogN t 32<16)=false:=decide_eq_false (by show ¬ (t.n:Int) - 32<16; omega)
    have hoN:ogN t 32=(t.n:Int) - 32:=rfl
    have hL:ogL t 32=t.n - 32 - 16:=by show (((ogN t 32).toNat:Nat):Int).toNat - 16=_; omega
    have hC:∀ {b o},decide (t.n=16+32)=b→t.o≤o→o+(t.n - 32 - 16)≤t.N→∀ q∈og2C shaF u.den k t o b b,q:=fun {b o} hb ho1 ho2=>all_cons (qea _) (all_cons (by rw [← hkn]; exact hk.1) (all_cons (by omega) (qg6 rfl h16 hb (all_cons (qea _) (all_cons ⟨qee (by omega),⟨by show t.o+16≤t.N; have:=ht.1; omega,by show 16≤_; omega⟩,⟨by show o+ogL t 32≤t.N; omega,by show ogL t 32≤_; have:=ht.2; omega⟩⟩ (all_cons (by
      rw [hL,← hb]
      by_cases h:t.n=16+32
      · rw [decide_eq_true h,beq_iff_eq]; omega
      · rw [decide_eq_false h,beq_eq_false_iff_ne]; omega) qba))))))
    refine qzc (fun h0 => ?_) fun h0 => ?_
    · have h0:(ogL t 32:Int)=0:=h0
      rcases qoc hvs with hv | hv | hv
      · exact qka (qud (qme (.inr ⟨rfl,rfl⟩))) 8000 hH (ogI kn tn (k.pl m) (t.pl m2) 2 32 v.den u.den sp.den sv.den) (qqa hG) (qvd ha') (q8c hT hn1 hn2 hd ht1 ht2) [] (by simp [ogI,qta]) (by simp) (j1i shaF encF decF v.den u.den sp.den sv.den k t m m2) (qwd hq hsp hv hN hS (qxd (.inr rfl) rfl h16 ht h224 hm2 (by rw [← hkn]; exact hk.1) (qee (by omega)) hb (hC (decide_eq_true (by omega)) (Nat.le_refl _) (by have:=ht.1; omega)))) fun _ _=>qkb rfl rfl rfl
      · exact qka (qud (qme (.inr ⟨rfl,rfl⟩))) 8000 hH (ogI kn tn (k.pl m) (t.pl m2) 2 32 v.den u.den sp.den sv.den) (qqa hG) (qvd ha') (q8c hT hn1 hn2 hd ht1 ht2) [] (by simp [ogI,qta]) (by simp) (j2i shaF encF decF v.den u.den sp.den sv.den k t m m2) (qwd hq hsp hv hN hS (qxd (.inr rfl) rfl h16 ht h224 hm2 (by rw [← hkn]; exact hk.1) (qee (by omega)) hb (hC (decide_eq_true (by omega)) (Nat.le_refl _) (by have:=ht.1; omega)))) fun _ _=>qkb rfl rfl rfl
      · exact qka (qud (qme (.inr ⟨rfl,rfl⟩))) 8000 hH (ogI kn tn (k.pl m) (t.pl m2) 2 32 v.den u.den sp.den sv.den) (qqa hG) (qvd ha') (q8c hT hn1 hn2 hd ht1 ht2) [] (by simp [ogI,qta]) (by simp) (j3i shaF encF decF v.den u.den sp.den sv.den k t m m2) (qwd hq hsp hv hN hS (qxd (.inr rfl) rfl h16 ht h224 hm2 (by rw [← hkn]; exact hk.1) (qee (by omega)) hb (hC (decide_eq_true (by omega)) (Nat.le_refl _) (by have:=ht.1; omega)))) fun _ _=>qkb rfl rfl rfl
    · have h0:(ogL t 32:Int)≠0:=h0
      rcases qoc hvs with hv | hv | hv
      · exact qka (qud (qme (.inr ⟨rfl,rfl⟩))) 8000 hH (ogI kn tn (k.pl m) (t.pl m2) 2 32 v.den u.den sp.den sv.den) (qqa hG) (qvd ha') (q8c hT hn1 hn2 hd ht1 ht2) [14] (by simp [ogI,qta]) (by simp) (jeq shaF encF decF v.den u.den sp.den sv.den k t m m2) (qwd hq hsp hv hN hS (qxd (.inr rfl) rfl h16 ht h224 hm2 (by rw [← hkn]; exact hk.1) (qee (by omega)) hb (hC (decide_eq_false (by omega)) (Nat.le_add_right _ _) (by have:=ht.1; omega)))) fun H2 hH2=>qv3 rfl rfl (List.cons.inj hH2).1
      · exact qka (qud (qme (.inr ⟨rfl,rfl⟩))) 8000 hH (ogI kn tn (k.pl m) (t.pl m2) 2 32 v.den u.den sp.den sv.den) (qqa hG) (qvd ha') (q8c hT hn1 hn2 hd ht1 ht2) [14] (by simp [ogI,qta]) (by simp) (jfq shaF encF decF v.den u.den sp.den sv.den k t m m2) (qwd hq hsp hv hN hS (qxd (.inr rfl) rfl h16 ht h224 hm2 (by rw [← hkn]; exact hk.1) (qee (by omega)) hb (hC (decide_eq_false (by omega)) (Nat.le_add_right _ _) (by have:=ht.1; omega)))) fun H2 hH2=>qv3 rfl rfl (List.cons.inj hH2).1
      · exact qka (qud (qme (.inr ⟨rfl,rfl⟩))) 8000 hH (ogI kn tn (k.pl m) (t.pl m2) 2 32 v.den u.den sp.den sv.den) (qqa hG) (qvd ha') (q8c hT hn1 hn2 hd ht1 ht2) [14] (by simp [ogI,qta]) (by simp) (jgq shaF encF decF v.den u.den sp.den sv.den k t m m2) (qwd hq hsp hv hN hS (qxd (.inr rfl) rfl h16 ht h224 hm2 (by rw [← hkn]; exact hk.1) (qee (by omega)) hb (hC (decide_eq_false (by omega)) (Nat.le_add_right _ _) (by have:=ht.1; omega)))) fun H2 hH2=>qv3 rfl rfl (List.cons.inj hH2).1
end Go.Proofs.YtbmgahpjgefjaaaGreatDoor.Aes
namespace Go.Proofs.YtbmgahpjgefjaaaGreatDoor.Aes
open Go.Sim
open Go.Proofs
variable {α:Type}
set_option maxRecDepth 100000
end Go.Proofs.YtbmgahpjgefjaaaGreatDoor.Aes
namespace Go.Proofs.YtbmgahpjgefjaaaGreatDoor.Aes
open Go.Sim
open Go.Proofs
variable {α:Type}
set_option maxRecDepth 1000000
noncomputable def smY (F:HashF) (k:Sl) (u:Int) (n:Nat) (t:Sl):Sl:=⟨qaa (tabB (qaa (tagS F (dkS F k n u 0x99#8) t)) 32),32,0,n,false,n⟩
noncomputable def smL (F:HashF) (k:Sl) (u:Int) (n:Nat) (t:Sl):List (BitVec 8):=tabB (smY F k u n t).F n
section
variable (F:HashF) (v u:Int) (k t:Sl) (m m2:Nat)
end
end Go.Proofs.YtbmgahpjgefjaaaGreatDoor.Aes
namespace Go.Proofs.YtbmgahpjgefjaaaGreatDoor.Aes
open Go.Sim
open Go.Proofs
variable {α:Type}
set_option maxRecDepth 1000000
noncomputable def smA1 (F:HashF) (k:Sl) (u:Int) (i n:Nat) (b:Sl):Sl:=⟨qaa (smL F (k.len n) u (tagN i) b),n,0,n,true,0⟩
section
variable (F:HashF) (v u:Int) (k b s:Sl) (m m2 m3:Nat)
end
end Go.Proofs.YtbmgahpjgefjaaaGreatDoor.Aes
namespace Go.Proofs.YtbmgahpjgefjaaaGreatDoor.Aes
open Go.Sim
open Go.Proofs
variable {α:Type}
set_option maxRecDepth 1000000
noncomputable def jbm:Cfg:=qie (qbb [(19,vyS)])
theorem jhq:CfgOK jbm:=q8b (all1 rvyOK)
noncomputable def ruT (p v u:Int) (y:Option Addr) (l m:Nat):Tree:=qca jbm 400 40 [kyV p v y l m,.int .i64 (.sym u)] []
section
variable (p v u:Int) (y:Option Addr) (l m:Nat)
theorem ru_a:outO [] (ruT p v u y l m) [false,false,false]=(repN (vlB p v l=false) 3,some (.bool (.lit false),[])):=by kernel_rfl
theorem ru_b:outO [] (ruT p v u y l m) [true,false,false,false]=((vlB p v l=true)::repN (decide (u≥1)=false) 3,some (.bool (.lit false),[])):=by kernel_rfl
theorem ru_c:outO [] (ruT p v u y l m) [true,true]=([vlB p v l=true,decide (u≥1)=true],some (.bool (.sym (decide (u≤1023))),[])):=by kernel_rfl
end
noncomputable def ruS (b:Bool):Summ:=fun args _ _=>qcd args fun kv uv=>keyN kv fun p v l=>i64O uv fun u=>.need (usQ p.den v.den u.den l↔b=true) (.ok ⟨.bool (.lit b),[],[]⟩)
theorem ruOK {b:Bool}:q2a Tryz.prog 40 (ruS b):=by
  intro glob O w0 β H w base args vs hH hG ha
  refine qnb fun kv uv hv=>qxg fun p v s n hk hs=>q7a fun u hu=>fun hq => ?_
  subst hv hk hu
  obtain ⟨y,m,ha'⟩:=qyg ha hs
  have ha2:SV.denL β [kyV p.den v.den y n m,.int .i64 (.sym u.den)]=some vs:=qma (.refl _) (qma (qoa rfl) q9b) _ _ ha'
  have key:∀ {ds cs c},outO [] (ruT p.den v.den u.den y n m) ds=(cs,some (.bool c,[]))→(∀ q∈cs,q)→c.den=b→q4a Tryz.prog H β w base 40 vs ⟨.bool (.lit b),[],[]⟩:=by
    intro ds cs c hr hc hb
    exact qvb jhq rfl 400 hH ⟨[],[],[kyV p.den v.den y n m,.int .i64 (.sym u.den)]⟩ ha2 (qgd rfl) [] (by simp) (by simp) hr hc fun _ _=>qr3 rfl hb
  have no:¬ usQ p.den v.den u.den n→(SB.lit false).den=b:=fun h=>by
    show false=b
    cases b with
    | false=>rfl
    | true=>exact absurd (hq.2 rfl) h
  cases hv:vlB p.den v.den n with
  | false=>exact key (ru_a p.den v.den u.den y n m) (qaf hv 3) (no fun h=>by rw [vlB_iff.2 h.1] at hv; cases hv)
  | true =>
    by_cases h1:1≤u.den
    · refine key (ru_c p.den v.den u.den y n m) (all_cons hv (all_cons (decide_eq_true h1) qba)) ?_
      show decide (u.den≤1023)=b
      rw [Bool.eq_iff_iff,decide_eq_true_iff,← hq]
      exact ⟨fun h=>⟨vlB_iff.1 hv,h1,h⟩,fun h=>h.2.2⟩
    · exact key (ru_b p.den v.den u.den y n m) (all_cons hv (qaf (decide_eq_false h1) 3)) (no fun h=>h1 h.2.1)
noncomputable def rdkS (F:HashF) (k:Sl) (n:Nat) (u:Int) (x:BitVec 8):Sl:=⟨qaa (rdL F k n u x),32,0,n,true,0⟩
section
variable (F:HashF) (v u:Int) (k b:Sl) (m m2:Nat)
end
theorem jpe {k:Sl} {u:Int} {x:BitVec 8} {n:Nat} (h1:1≤u) (h2:u≤1023) (hn:n≤32):SlEq (rdkS shaF k n u x) (dkS shaF k n u x):=⟨rfl,fun i hi=>by
  have hi:i<n:=hi
  show qaa (rdL shaF k n u x) (0+i)=_
  rw [Nat.zero_add,jne h1 h2 hn hi]; rfl⟩
end Go.Proofs.YtbmgahpjgefjaaaGreatDoor.Aes
namespace Go.Proofs.YtbmgahpjgefjaaaGreatDoor.Aes
open Go.Sim
open Go.Proofs
variable {α:Type}
set_option maxRecDepth 1000000
noncomputable def qlk (F:HashF):Cfg:=cfgG qtd (qbb [(52,rhmS F)])
theorem qqo:CfgOK (qlk shaF):=q2b (allS qy9 (by simp))
structure RtA where
  i:Int
  j:Nat
  n:Nat
  G:Nat→BitVec 8
  S:Nat→BitVec 8
inductive RtS where
  | none (S:Nat→BitVec 8)
  | inn (A:RtA)
  | out (A:RtA)
noncomputable def rtG (G:Nat→BitVec 8) (n:Nat):HP:=.ent (.own (.fn (qda G) n) false 5)
noncomputable def rtH (S:Nat→BitVec 8):HP:=.ent (.own (.lst (bx (tabB S 32))) true 98)
noncomputable def rtM (c:Sl) (v:Int):Sl:=⟨qaa (app (tabB c.F 16) (num4 v)),20,0,20,true,0⟩
noncomputable def rtK (F:HashF) (k c:Sl) (v:Int):Nat→BitVec 8:=qaa (tagS F (k.len 32) (rtM c v))
noncomputable def rtHC (k c:Sl) (v:Int):List Prop:=[c.o+16≤c.N,IsB (qda k.X),k.o+32≤k.N∧okL (rtM c v)∧20≤1099511627712]
noncomputable def rtV (i:Int):Int:=IntKind.i64.wrap (i.tdiv 32)+1
noncomputable def rtx0 (t:Sl) (S:Nat→BitVec 8):BitVec 8:=t.X (t.o+0) ^^^ qaa (tabB S 32) 0
noncomputable def rtx (t:Sl) (A:RtA):BitVec 8:=t.X (t.o+(A.i+A.j).toNat * 1) ^^^ qaa (tabB A.S 32) (0+(A.j:Int).toNat * 1)
noncomputable def rtN (t:Sl) (A:RtA):Nat→BitVec 8:=catB (fun p=>A.G (0+p)) A.n (fun p=>qaa [rtx t A] (0+p))
noncomputable def rtTC (t:Sl) (A:RtA):List Prop:=[decide ((A.j:Int)<32)=true,qza (A.i+A.j),decide (A.i+A.j<t.n)=true,qza (A.i+A.j),0≤A.i+A.j∧A.i+A.j<t.n,t.o+(A.i+A.j).toNat * 1<t.N,0≤(A.j:Int)∧(A.j:Int)<32,0+(A.j:Int).toNat * 1<32,1≤1,0+A.n≤A.n∧IsB (qda A.G),((A.n+1) * 1<70368744177664∧A.n+1<70368744177664)∧1=1,qza ((A.j:Int)+1)]
noncomputable def rtT (st:Option (Nat × Nat)) (F:HashF) (k c t:Sl):Tree:=qca ((qlk F).at st) 4000 43 [k.valN 4 32,c.valN 5 16,t.val 6] (shaH [k.row,c.row,t.row])
noncomputable def rtS0 (F:HashF) (k c t:Sl):SS:=q4g (rtT (some (1,7)) F k c t) [true,true]
noncomputable def rtSo (F:HashF) (k c t:Sl):SS:=q4g (rtT (some (1,3)) F k c t) []
noncomputable def rtO (n:Nat):SV:=.slice ⟨7,.lit 0⟩ (.sym n) (.rest 7 0)
noncomputable def rtR (k c t:Sl) (r:List HP):List HP:=.ent qwf::.ent qxf::.ent qkl::.ent qkw::.ent k.row::.ent c.row::.ent t.row::r
noncomputable def rtC (F:HashF) (k c t:Sl) (A:RtS):Cut:=RtS.rec (motive:=fun _=>Cut)
  (fun S=>⟨qvf (rtS0 F k c t).frames [[(0,k.valN 4 32),(1,c.valN 5 16),(2,t.val 6),(7,.nilSlice),(8,.int .i64 (.lit 0)),(10,.slice ⟨7,.lit 0⟩ (.lit 32) (.lit 32)),(11,.int .i64 (.lit 0))]],rtR k c t [rtH S]⟩)
  (fun A=>⟨qvf (rtS0 F k c t).frames [[(0,k.valN 4 32),(1,c.valN 5 16),(2,t.val 6),(7,rtO A.n),(8,.int .i64 (.sym A.i)),(10,.slice ⟨8,.lit 0⟩ (.lit 32) (.lit 32)),(11,.int .i64 (.sym A.j))]],rtR k c t [rtG A.G A.n,rtH A.S]⟩)
  (fun A=>⟨qvf (rtSo F k c t).frames [[(0,k.valN 4 32),(1,c.valN 5 16),(2,t.val 6),(7,rtO A.n),(8,.int .i64 (.sym A.i))]],rtR k c t [rtG A.G A.n]⟩) A
noncomputable def rtX (F:HashF) (k c t:Sl) (m m2 m3:Nat) (A:RtS) (J:Junk) (st:Option (Nat × Nat)):Tree:=sim1 ((qlk F).at st) 4000 ((rtC F (k.pl m) (c.pl m2) (t.pl m3) A).fill J)
section
variable (F:HashF) (k c t:Sl) (m m2 m3:Nat) (S:Nat→BitVec 8) (A:RtA) (J:Junk) (z:Nat→Nat→Nat)
theorem jiq:outL [] (rtC F (k.pl m) (c.pl m2) (t.pl m3) (.none S)) [0,1,2,3,4,5,6,11] (rtT (some (1,7)) F (k.pl m) (c.pl m2) (t.pl m3)) [true,true] z =
    ((decide ((0:Int)<t.n)=true)::rtHC k c 1,some (.inr (qzb [] [] (qfb [0,1,2,3,4,5,6,11] 12 (rtC F (k.pl m) (c.pl m2) (t.pl m3) (.none (rtK F k c 1))))))):=by kernel_rfl
theorem j4i:outL [] (rtC F (k.pl m) (c.pl m2) (t.pl m3) (.inn A)) [0,1,2,3,4,5,6,9,7] (rtX F k c t m m2 m3 (.none S) J (some (1,7))) [true] z =
    ([decide ((0:Int)<t.n)=true,0<t.n,t.o+0<t.N],some (.inr (qzb [(0,7,.slice ⟨9,.lit 0⟩ (.lit 1) (.rest 9 0)),(0,8,.int .i64 (.lit 0)),(0,11,.int .i64 (.lit 1))] [(7,.ent (.own (.lst (bx [rtx0 t S])) false 5))] (qfb [0,1,2,3,4,5,6,9,7] 10 (rtC F (k.pl m) (c.pl m2) (t.pl m3) (.inn ⟨0,1,1,qaa [rtx0 t S],S⟩)))))):=by kernel_rfl
theorem jjq:outL [] (rtC F (k.pl m) (c.pl m2) (t.pl m3) (.inn A)) [0,1,2,3,4,5,6,10,8] (rtX F k c t m m2 m3 (.inn A) J (some (1,7))) [true,true] z =
    (rtTC t A,some (.inr (qzb [] [] (qfb [0,1,2,3,4,5,6,10,8] 11 (rtC F (k.pl m) (c.pl m2) (t.pl m3) (.inn ⟨A.i,A.j+1,A.n+1,rtN t A,A.S⟩)))))):=by kernel_rfl
theorem j5i:outL [] (rtC F (k.pl m) (c.pl m2) (t.pl m3) (.out A)) [0,1,2,3,4,5,6,7] (rtX F k c t m m2 m3 (.inn A) J (some (1,3))) [true,false] z =
    ([decide ((A.j:Int)<32)=true,qza (A.i+A.j),decide (A.i+A.j<t.n)=false,qza (A.i+1)],some (.inr (qzb [] [] (qfb [0,1,2,3,4,5,6,7] 9 (rtC F (k.pl m) (c.pl m2) (t.pl m3) (.out ⟨A.i+1,A.j,A.n,A.G,A.S⟩)))))):=by kernel_rfl
theorem j6i:outL [] (rtC F (k.pl m) (c.pl m2) (t.pl m3) (.out A)) [0,1,2,3,4,5,6,7] (rtX F k c t m m2 m3 (.inn A) J (some (1,3))) (repN false 7) z =
    (app (repN (decide ((A.j:Int)<32)=false) 7) [qza (A.i+1)],some (.inr (qzb [] [] (qfb [0,1,2,3,4,5,6,7] 9 (rtC F (k.pl m) (c.pl m2) (t.pl m3) (.out ⟨A.i+1,A.j,A.n,A.G,A.S⟩)))))):=by kernel_rfl
theorem j7i:outL [] (rtC F (k.pl m) (c.pl m2) (t.pl m3) (.out A)) [0,1,2,3,4,5,6,7] (rtX F k c t m m2 m3 (.out A) J (some (1,3))) [true,false] z =
    ([decide (A.i<t.n)=true,qza (rtV A.i),(A.i.tmod 32 == 0)=false,qza (A.i+1)],some (.inr (qzb [] [] (qfb [0,1,2,3,4,5,6,7] 8 (rtC F (k.pl m) (c.pl m2) (t.pl m3) (.out ⟨A.i+1,A.j,A.n,A.G,A.S⟩)))))):=by kernel_rfl
theorem jkq:outL [] (rtC F (k.pl m) (c.pl m2) (t.pl m3) (.inn A)) [0,1,2,3,4,5,6,7,12] (rtX F k c t m m2 m3 (.out A) J (some (1,7))) [true,true] z =
    ((decide (A.i<t.n)=true)::qza (rtV A.i)::((A.i.tmod 32 == 0)=true)::rtHC k c (rtV A.i),some (.inr (qzb [(0,11,.int .i64 (.lit 0))] [] (qfb [0,1,2,3,4,5,6,7,12] 13 (rtC F (k.pl m) (c.pl m2) (t.pl m3) (.inn ⟨A.i,0,A.n,A.G,rtK F k c (rtV A.i)⟩)))))):=by kernel_rfl
theorem jnu:outL [7] (rtC F (k.pl m) (c.pl m2) (t.pl m3) (.out A)) [0,1,2,3,4,5,6,7] (rtX F k c t m m2 m3 (.out A) J none) [false] z =
    ([decide (A.i<t.n)=false],some (.inl (rtO A.n,[some (.own (.fn (qda A.G) A.n) false 5)]))):=by kernel_rfl
theorem jlq:outO [] (rtT none F (k.pl m) (c.pl m2) (t.pl m3)) [false]=([decide ((0:Int)<t.n)=false],some (.nilSlice,[])):=by kernel_rfl
theorem jou:outO [] (qca (qlk F) 4000 43 [(k.pl m).valN 4 32,(c.pl m2).valN 5 16,.nilSlice] (shaH [k.row,c.row])) []=([],some (.nilSlice,[])):=by kernel_rfl
theorem rt_n4 (S1:Nat→BitVec 8):boolC (qub 7 [0,1,2,3,4,5,6,11] (rtC F (k.pl m) (c.pl m2) (t.pl m3) (.none S)) (rtC F (k.pl m) (c.pl m2) (t.pl m3) (.none S1))) (allN qlb (rtC F (k.pl m) (c.pl m2) (t.pl m3) (.none S1)).heap) false=true:=by kernel_rfl
theorem rt_n2 (A1:RtA):boolC (qub 7 [0,1,2,3,4,5,6,9,7] (rtC F (k.pl m) (c.pl m2) (t.pl m3) (.inn A)) (rtC F (k.pl m) (c.pl m2) (t.pl m3) (.inn A1))) (allN qlb (rtC F (k.pl m) (c.pl m2) (t.pl m3) (.inn A1)).heap) false=true:=by kernel_rfl
theorem rt_n3 (A1:RtA):boolC (qub 7 [0,1,2,3,4,5,6,10,8] (rtC F (k.pl m) (c.pl m2) (t.pl m3) (.inn A)) (rtC F (k.pl m) (c.pl m2) (t.pl m3) (.inn A1))) (allN qlb (rtC F (k.pl m) (c.pl m2) (t.pl m3) (.inn A1)).heap) false=true:=by kernel_rfl
theorem jda (A1:RtA):boolC (qub 7 [0,1,2,3,4,5,6,7] (rtC F (k.pl m) (c.pl m2) (t.pl m3) (.out A)) (rtC F (k.pl m) (c.pl m2) (t.pl m3) (.out A1))) (allN qlb (rtC F (k.pl m) (c.pl m2) (t.pl m3) (.out A1)).heap) false=true:=by kernel_rfl
theorem rt_n5 (A1:RtA):boolC (qub 7 [0,1,2,3,4,5,6,7,12] (rtC F (k.pl m) (c.pl m2) (t.pl m3) (.inn A)) (rtC F (k.pl m) (c.pl m2) (t.pl m3) (.inn A1))) (allN qlb (rtC F (k.pl m) (c.pl m2) (t.pl m3) (.inn A1)).heap) false=true:=by kernel_rfl
theorem q3s:((((rtC F (k.pl m) (c.pl m2) (t.pl m3) (.inn A)).frames[0]?).bind fun p=>p.tmps[8]?)=some (some (.int .i64 (.sym A.i))))∧((((rtC F (k.pl m) (c.pl m2) (t.pl m3) (.inn A)).frames[0]?).bind fun p=>p.tmps[11]?)=some (some (.int .i64 (.sym (A.j:Int)))))∧((((rtC F (k.pl m) (c.pl m2) (t.pl m3) (.inn A)).frames[0]?).bind fun p=>p.tmps[7]?)=some (some (rtO A.n))):=⟨by kernel_rfl,by kernel_rfl,by kernel_rfl⟩
end
end Go.Proofs.YtbmgahpjgefjaaaGreatDoor.Aes
namespace Go.Proofs.YtbmgahpjgefjaaaGreatDoor.Aes
open Go.Sim
open Go.Proofs
variable {α:Type}
set_option maxRecDepth 1000000
theorem q2c {l r:List Prop} (h:∀ q∈l,q) (h':∀ q∈r,q):∀ q∈app l r,q:=by
  intro q hq
  rw [qhb,List.mem_append] at hq
  exact hq.elim (h q) (h' q)
noncomputable def strR (F:HashF) (k c t:Sl):Nat→BitVec 8:=fun p=>t.X (t.o+p) ^^^ rtK F k c (((p / 32:Nat):Int)+1) (p % 32)
def RtQ (F:HashF) (k c t:Sl):RtS→Prop
  | .none S=>S=rtK F k c 1
  | .inn A=>∃ q:Nat,A.i=32 * (q:Int)∧32 * q<t.n∧A.j≤min 32 (t.n - 32 * q)∧A.n=32 * q+A.j∧A.S=rtK F k c ((q:Int)+1)∧∀ p,p<A.n→A.G p=strR F k c t p
  | .out A=>∃ e:Nat,A.i=(e:Int)∧1≤e∧e≤t.n∧A.n=min t.n (32 * ((e - 1) / 32+1))∧∀ p,p<A.n→A.G p=strR F k c t p
def rtMu (t:Sl):RtS→Nat
  | .none _=>40 * t.n+100
  | .inn A=>40 * (t.n - A.i.toNat)+(32 - A.j)
  | .out A=>40 * (t.n - A.i.toNat)+39
theorem jqe {q:Nat} (hq:q<2 ^ 50):rtV (32 * (q:Int))=(q:Int)+1:=qn3 hq
theorem qcx {e:Nat} (he:e<2 ^ 50):qza (rtV (e:Int)):=by
  unfold rtV
  rw [Int.tdiv_eq_ediv_of_nonneg (by omega),wrap_i64 ⟨by omega,by omega⟩]
  exact ⟨by omega,by omega⟩
theorem jpu (c:Sl) (v:Int):okL (rtM c v):=⟨by show 0+20≤20; omega,by show 20≤_; omega⟩
theorem qcq {k c:Sl} {v:Int} (hk:k.o+32≤k.N) (hc:c.o+16≤c.N):∀ q∈rtHC k c v,q:=all_cons hc (all_cons (qea _) (all_cons ⟨hk,jpu c v,by omega⟩ qba))
noncomputable def rtD (F:HashF) (k c t:Sl) (B:Nat) (v:SV) (H:List SO):Prop:=v=qgf B t.n∧∃ G,(∀ p,p<t.n→G p=strR F k c t p)∧H[B]? = some (.own (.fn (qda G) t.n) false 5)
theorem jmq {k c t:Sl} {m m2 m3:Nat} (hk:k.o+32≤k.N) (hc:c.o+16≤c.N) (ht:okL t) (hn:t.n≠0):Runs (qlk shaF) 43 [(k.pl m).valN 4 32,(c.pl m2).valN 5 16,(t.pl m3).val 6] (shaH [(k.pl m).row,(c.pl m2).row,(t.pl m3).row]) (rtD shaF k c t 7):=by
  have hbig:t.n≤1099511627776:=ht.2
  have hto:=ht.1
  refine qfg qqo (rtC shaF (k.pl m) (c.pl m2) (t.pl m3)) (RtQ shaF k c t) (rtMu t) (fun g nm hg=>Nat.lt_of_lt_of_le (q5p hg) (by show 3≤7; omega)) ?_ fun A hQ J => ?_
  · exact qig (some (1,7)) 4000 (.none (rtK shaF k c 1)) rfl (jiq shaF k c t m m2 m3 (rtK shaF k c 1)) (rt_n4 shaF k c t m m2 m3 _ _) (by simp) (by simp) (all_cons (decide_eq_true (by omega)) (qcq hk hc))
  · cases A with
    | none S =>
      have hS:S=rtK shaF k c 1:=hQ
      refine qrc (some (1,7)) 4000 (.inn ⟨0,1,1,qaa [rtx0 t S],S⟩) ⟨⟨0,rfl,by omega,by show 1≤_; omega,rfl,hS,fun p hp => ?_⟩,by show 40 * (t.n - (0:Int).toNat)+(32 - 1)<40 * t.n+100; omega⟩ (j4i shaF k c t m m2 m3 S ⟨0,0,0,qaa [],qaa []⟩ J) (rt_n2 shaF k c t m m2 m3 _ _) ?_ ?_ (all_cons (decide_eq_true (by omega)) (all_cons (by omega) (all_cons (by omega) qba)))
      · have hp:p<1:=hp
        have h0:p=0:=by omega
        subst h0
        show rtx0 t S=_
        unfold rtx0 strR
        rw [qnc (by omega),hS]; rfl
      · intro x hx p u hp hu
        simp only [List.mem_cons,List.not_mem_nil,or_false] at hx
        rcases hx with rfl | rfl | rfl
        · exact qsc (q3s _ _ _ _ _ _ _ _).2.2 hp hu (qhe (l:=.lit 1) (l':=.sym 1) rfl)
        · exact qsc (q3s _ _ _ _ _ _ _ _).1 hp hu (qoa rfl)
        · exact qsc (q3s _ _ _ _ _ _ _ _).2.1 hp hu (qoa rfl)
      · intro e he E0 hE0
        simp only [List.mem_cons,List.not_mem_nil,or_false] at he
        subst he
        have hE0:some (rtG (qaa [rtx0 t S]) 1)=some E0:=hE0
        cases hE0
        exact ⟨_,rfl,fun γ vs hv=>q8n hv⟩
    | inn A =>
      obtain ⟨q,hi,hlt,hj,hnn,hS,hG⟩:=hQ
      by_cases hjl:A.j<32
      · by_cases hl:A.i+A.j<t.n
        · refine qrc (some (1,7)) 4000 (.inn ⟨A.i,A.j+1,A.n+1,rtN t A,A.S⟩) ⟨⟨q,hi,hlt,by show A.j+1≤_; omega,by show A.n+1=32 * q+(A.j+1); omega,hS,fun p hp => ?_⟩,by show 40 * (t.n - A.i.toNat)+(32 - (A.j+1))<40 * (t.n - A.i.toNat)+(32 - A.j); omega⟩ (jjq shaF k c t m m2 m3 A J) (rt_n3 shaF k c t m m2 m3 _ _) (by simp) (by simp)
            (all_cons (decide_eq_true (by omega)) (all_cons ⟨by omega,by omega⟩ (all_cons (decide_eq_true hl) (all_cons ⟨by omega,by omega⟩ (all_cons ⟨by omega,by omega⟩ (all_cons (by omega) (all_cons ⟨by omega,by omega⟩ (all_cons (by omega) (all_cons (by omega) (all_cons ⟨by omega,qea _⟩ (all_cons ⟨⟨by omega,by omega⟩,rfl⟩ (all_cons ⟨by omega,by omega⟩ qba))))))))))))
          have hp:p<A.n+1:=hp
          show rtN t A p=_
          unfold rtN catB
          by_cases hpl:p<A.n
          · rw [if_pos hpl]
            show A.G (0+p)=_
            rw [Nat.zero_add]; exact hG p hpl
          · have hpe:p=32 * q+A.j:=by omega
            rw [if_neg hpl,show p - A.n=0 by omega]
            show rtx t A=_
            unfold rtx strR
            rw [qnc (by omega),hS,hpe,show (32 * q+A.j) / 32=q by omega,show (32 * q+A.j) % 32=A.j by omega,show 0+(A.j:Int).toNat * 1=A.j by omega,show (A.i+A.j).toNat * 1=32 * q+A.j by omega]
        · exact qrc (some (1,3)) 4000 (.out ⟨A.i+1,A.j,A.n,A.G,A.S⟩) ⟨⟨32 * q+1,by show A.i+1=_; omega,by omega,by omega,by show A.n=_; omega,hG⟩,by show 40 * (t.n - (A.i+1).toNat)+39<40 * (t.n - A.i.toNat)+(32 - A.j); omega⟩ (j5i shaF k c t m m2 m3 A J) (jda shaF k c t m m2 m3 _ _) (by simp) (by simp) (all_cons (decide_eq_true (by omega)) (all_cons ⟨by omega,by omega⟩ (all_cons (decide_eq_false hl) (all_cons ⟨by omega,by omega⟩ qba))))
      · exact qrc (some (1,3)) 4000 (.out ⟨A.i+1,A.j,A.n,A.G,A.S⟩) ⟨⟨32 * q+1,by show A.i+1=_; omega,by omega,by omega,by show A.n=_; omega,hG⟩,by show 40 * (t.n - (A.i+1).toNat)+39<40 * (t.n - A.i.toNat)+(32 - A.j); omega⟩ (j6i shaF k c t m m2 m3 A J) (jda shaF k c t m m2 m3 _ _) (by simp) (by simp) (q2c (qaf (decide_eq_false (by omega)) 7) (all_cons ⟨by omega,by omega⟩ qba))
    | out A =>
      obtain ⟨e,hi,h1,hle,hnn,hG⟩:=hQ
      by_cases hl:A.i<t.n
      · by_cases hm:e % 32=0
        · obtain ⟨q,rfl⟩:∃ q,e=32 * q:=⟨e / 32,by omega⟩
          have hi':A.i=32 * (q:Int):=by omega
          have hv:rtV A.i=(q:Int)+1:=by rw [hi']; exact jqe (by omega)
          refine qrc (some (1,7)) 4000 (.inn ⟨A.i,0,A.n,A.G,rtK shaF k c (rtV A.i)⟩) ⟨⟨q,hi',by omega,by show 0≤_; omega,by show A.n=32 * q+0; omega,by show rtK shaF k c (rtV A.i)=_; rw [hv],hG⟩,by show 40 * (t.n - A.i.toNat)+(32 - 0)<40 * (t.n - A.i.toNat)+39; omega⟩ (jkq shaF k c t m m2 m3 A J) (rt_n5 shaF k c t m m2 m3 _ _) ?_ (by simp) (all_cons (decide_eq_true hl) (all_cons (by rw [hi]; exact qcx (by omega)) (all_cons (by rw [beq_iff_eq,hi',Int.tmod_eq_emod_of_nonneg (by omega)]; omega) (qcq hk hc))))
          intro x hx p u hp hu
          simp only [List.mem_cons,List.not_mem_nil,or_false] at hx
          subst hx
          exact qsc (q3s _ _ _ _ _ _ _ _).2.1 hp hu (qoa rfl)
        · exact qrc (some (1,3)) 4000 (.out ⟨A.i+1,A.j,A.n,A.G,A.S⟩) ⟨⟨e+1,by show A.i+1=_; omega,by omega,by omega,by show A.n=_; omega,hG⟩,by show 40 * (t.n - (A.i+1).toNat)+39<40 * (t.n - A.i.toNat)+39; omega⟩ (j7i shaF k c t m m2 m3 A J) (jda shaF k c t m m2 m3 _ _) (by simp) (by simp) (all_cons (decide_eq_true hl) (all_cons (by rw [hi]; exact qcx (by omega)) (all_cons (by rw [beq_eq_false_iff_ne,hi,Int.tmod_eq_emod_of_nonneg (by omega)]; omega) (all_cons ⟨by omega,by omega⟩ qba))))
      · have hend:A.n=t.n:=by omega
        refine qni none 4000 (jnu shaF k c t m m2 m3 A J) (all_cons (decide_eq_false hl) qba) fun H hH=>⟨by rw [hend]; rfl,A.G,fun p hp=>hG p (by omega),?_⟩
        rw [← hend]
        exact (List.cons.inj hH).1
end Go.Proofs.YtbmgahpjgefjaaaGreatDoor.Aes
namespace Go.Proofs.YtbmgahpjgefjaaaGreatDoor.Aes
open Go.Sim
open Go.Proofs
variable {α:Type}
set_option maxRecDepth 1000000
noncomputable def rzT (st:Option (Nat × Nat)) (F:HashF) (k c t:Sl):Tree:=qca ((qlk F).at st) 4000 43 [k.valN 4 32,c.valN 5 16,t.val 5] (shaH [k.row,t.row])
noncomputable def rzS0 (F:HashF) (k c t:Sl):SS:=q4g (rzT (some (1,7)) F k c t) [true,true]
noncomputable def rzSo (F:HashF) (k c t:Sl):SS:=q4g (rzT (some (1,3)) F k c t) []
noncomputable def rzO (n:Nat):SV:=.slice ⟨6,.lit 0⟩ (.sym n) (.rest 6 0)
noncomputable def rzR (k _ t:Sl) (r:List HP):List HP:=.ent qwf::.ent qxf::.ent qkl::.ent qkw::.ent k.row::.ent t.row::r
noncomputable def rzC (F:HashF) (k c t:Sl) (A:RtS):Cut:=RtS.rec (motive:=fun _=>Cut)
  (fun S=>⟨qvf (rzS0 F k c t).frames [[(0,k.valN 4 32),(1,c.valN 5 16),(2,t.val 5),(7,.nilSlice),(8,.int .i64 (.lit 0)),(10,.slice ⟨6,.lit 0⟩ (.lit 32) (.lit 32)),(11,.int .i64 (.lit 0))]],rzR k c t [rtH S]⟩)
  (fun A=>⟨qvf (rzS0 F k c t).frames [[(0,k.valN 4 32),(1,c.valN 5 16),(2,t.val 5),(7,rzO A.n),(8,.int .i64 (.sym A.i)),(10,.slice ⟨7,.lit 0⟩ (.lit 32) (.lit 32)),(11,.int .i64 (.sym A.j))]],rzR k c t [rtG A.G A.n,rtH A.S]⟩)
  (fun A=>⟨qvf (rzSo F k c t).frames [[(0,k.valN 4 32),(1,c.valN 5 16),(2,t.val 5),(7,rzO A.n),(8,.int .i64 (.sym A.i))]],rzR k c t [rtG A.G A.n]⟩) A
noncomputable def rzX (F:HashF) (k t:Sl) (o n m m2 m3:Nat) (A:RtS) (J:Junk) (st:Option (Nat × Nat)):Tree:=sim1 ((qlk F).at st) 4000 ((rzC F (k.pl m) ((t.cut o n).pl m2) (t.pl m3) A).fill J)
section
variable (F:HashF) (k t:Sl) (o n m m2 m3:Nat) (S:Nat→BitVec 8) (A:RtA) (J:Junk) (z:Nat→Nat→Nat)
theorem jnq:outL [] (rzC F (k.pl m) ((t.cut o n).pl m2) (t.pl m3) (.none S)) [0,1,2,3,4,5,10] (rzT (some (1,7)) F (k.pl m) ((t.cut o n).pl m2) (t.pl m3)) [true,true] z =
    ((decide ((0:Int)<t.n)=true)::rtHC k (t.cut o n) 1,some (.inr (qzb [] [] (qfb [0,1,2,3,4,5,10] 11 (rzC F (k.pl m) ((t.cut o n).pl m2) (t.pl m3) (.none (rtK F k (t.cut o n) 1))))))):=by kernel_rfl
theorem j8i:outL [] (rzC F (k.pl m) ((t.cut o n).pl m2) (t.pl m3) (.inn A)) [0,1,2,3,4,5,8,6] (rzX F k t o n m m2 m3 (.none S) J (some (1,7))) [true] z =
    ([decide ((0:Int)<t.n)=true,0<t.n,t.o+0<t.N],some (.inr (qzb [(0,7,.slice ⟨8,.lit 0⟩ (.lit 1) (.rest 8 0)),(0,8,.int .i64 (.lit 0)),(0,11,.int .i64 (.lit 1))] [(6,.ent (.own (.lst (bx [rtx0 t S])) false 5))] (qfb [0,1,2,3,4,5,8,6] 9 (rzC F (k.pl m) ((t.cut o n).pl m2) (t.pl m3) (.inn ⟨0,1,1,qaa [rtx0 t S],S⟩)))))):=by kernel_rfl
theorem joq:outL [] (rzC F (k.pl m) ((t.cut o n).pl m2) (t.pl m3) (.inn A)) [0,1,2,3,4,5,9,7] (rzX F k t o n m m2 m3 (.inn A) J (some (1,7))) [true,true] z =
    (rtTC t A,some (.inr (qzb [] [] (qfb [0,1,2,3,4,5,9,7] 10 (rzC F (k.pl m) ((t.cut o n).pl m2) (t.pl m3) (.inn ⟨A.i,A.j+1,A.n+1,rtN t A,A.S⟩)))))):=by kernel_rfl
theorem j9i:outL [] (rzC F (k.pl m) ((t.cut o n).pl m2) (t.pl m3) (.out A)) [0,1,2,3,4,5,6] (rzX F k t o n m m2 m3 (.inn A) J (some (1,3))) [true,false] z =
    ([decide ((A.j:Int)<32)=true,qza (A.i+A.j),decide (A.i+A.j<t.n)=false,qza (A.i+1)],some (.inr (qzb [] [] (qfb [0,1,2,3,4,5,6] 8 (rzC F (k.pl m) ((t.cut o n).pl m2) (t.pl m3) (.out ⟨A.i+1,A.j,A.n,A.G,A.S⟩)))))):=by kernel_rfl
theorem jaj:outL [] (rzC F (k.pl m) ((t.cut o n).pl m2) (t.pl m3) (.out A)) [0,1,2,3,4,5,6] (rzX F k t o n m m2 m3 (.inn A) J (some (1,3))) (repN false 7) z =
    (app (repN (decide ((A.j:Int)<32)=false) 7) [qza (A.i+1)],some (.inr (qzb [] [] (qfb [0,1,2,3,4,5,6] 8 (rzC F (k.pl m) ((t.cut o n).pl m2) (t.pl m3) (.out ⟨A.i+1,A.j,A.n,A.G,A.S⟩)))))):=by kernel_rfl
theorem jbj:outL [] (rzC F (k.pl m) ((t.cut o n).pl m2) (t.pl m3) (.out A)) [0,1,2,3,4,5,6] (rzX F k t o n m m2 m3 (.out A) J (some (1,3))) [true,false] z =
    ([decide (A.i<t.n)=true,qza (rtV A.i),(A.i.tmod 32 == 0)=false,qza (A.i+1)],some (.inr (qzb [] [] (qfb [0,1,2,3,4,5,6] 7 (rzC F (k.pl m) ((t.cut o n).pl m2) (t.pl m3) (.out ⟨A.i+1,A.j,A.n,A.G,A.S⟩)))))):=by kernel_rfl
theorem jpq:outL [] (rzC F (k.pl m) ((t.cut o n).pl m2) (t.pl m3) (.inn A)) [0,1,2,3,4,5,6,11] (rzX F k t o n m m2 m3 (.out A) J (some (1,7))) [true,true] z =
    ((decide (A.i<t.n)=true)::qza (rtV A.i)::((A.i.tmod 32 == 0)=true)::rtHC k (t.cut o n) (rtV A.i),some (.inr (qzb [(0,11,.int .i64 (.lit 0))] [] (qfb [0,1,2,3,4,5,6,11] 12 (rzC F (k.pl m) ((t.cut o n).pl m2) (t.pl m3) (.inn ⟨A.i,0,A.n,A.G,rtK F k (t.cut o n) (rtV A.i)⟩)))))):=by kernel_rfl
theorem jqu:outL [6] (rzC F (k.pl m) ((t.cut o n).pl m2) (t.pl m3) (.out A)) [0,1,2,3,4,5,6] (rzX F k t o n m m2 m3 (.out A) J none) [false] z =
    ([decide (A.i<t.n)=false],some (.inl (rzO A.n,[some (.own (.fn (qda A.G) A.n) false 5)]))):=by kernel_rfl
theorem jqq:outO [] (rzT none F (k.pl m) ((t.cut o n).pl m2) (t.pl m3)) [false]=([decide ((0:Int)<t.n)=false],some (.nilSlice,[])):=by kernel_rfl
theorem rz_n4 (S1:Nat→BitVec 8):boolC (qub 6 [0,1,2,3,4,5,10] (rzC F (k.pl m) ((t.cut o n).pl m2) (t.pl m3) (.none S)) (rzC F (k.pl m) ((t.cut o n).pl m2) (t.pl m3) (.none S1))) (allN qlb (rzC F (k.pl m) ((t.cut o n).pl m2) (t.pl m3) (.none S1)).heap) false=true:=by kernel_rfl
theorem rz_n2 (A1:RtA):boolC (qub 6 [0,1,2,3,4,5,8,6] (rzC F (k.pl m) ((t.cut o n).pl m2) (t.pl m3) (.inn A)) (rzC F (k.pl m) ((t.cut o n).pl m2) (t.pl m3) (.inn A1))) (allN qlb (rzC F (k.pl m) ((t.cut o n).pl m2) (t.pl m3) (.inn A1)).heap) false=true:=by kernel_rfl
theorem rz_n3 (A1:RtA):boolC (qub 6 [0,1,2,3,4,5,9,7] (rzC F (k.pl m) ((t.cut o n).pl m2) (t.pl m3) (.inn A)) (rzC F (k.pl m) ((t.cut o n).pl m2) (t.pl m3) (.inn A1))) (allN qlb (rzC F (k.pl m) ((t.cut o n).pl m2) (t.pl m3) (.inn A1)).heap) false=true:=by kernel_rfl
theorem jea (A1:RtA):boolC (qub 6 [0,1,2,3,4,5,6] (rzC F (k.pl m) ((t.cut o n).pl m2) (t.pl m3) (.out A)) (rzC F (k.pl m) ((t.cut o n).pl m2) (t.pl m3) (.out A1))) (allN qlb (rzC F (k.pl m) ((t.cut o n).pl m2) (t.pl m3) (.out A1)).heap) false=true:=by kernel_rfl
theorem rz_n5 (A1:RtA):boolC (qub 6 [0,1,2,3,4,5,6,11] (rzC F (k.pl m) ((t.cut o n).pl m2) (t.pl m3) (.inn A)) (rzC F (k.pl m) ((t.cut o n).pl m2) (t.pl m3) (.inn A1))) (allN qlb (rzC F (k.pl m) ((t.cut o n).pl m2) (t.pl m3) (.inn A1)).heap) false=true:=by kernel_rfl
theorem q4s:((((rzC F (k.pl m) ((t.cut o n).pl m2) (t.pl m3) (.inn A)).frames[0]?).bind fun p=>p.tmps[8]?)=some (some (.int .i64 (.sym A.i))))∧((((rzC F (k.pl m) ((t.cut o n).pl m2) (t.pl m3) (.inn A)).frames[0]?).bind fun p=>p.tmps[11]?)=some (some (.int .i64 (.sym (A.j:Int)))))∧((((rzC F (k.pl m) ((t.cut o n).pl m2) (t.pl m3) (.inn A)).frames[0]?).bind fun p=>p.tmps[7]?)=some (some (rzO A.n))):=⟨by kernel_rfl,by kernel_rfl,by kernel_rfl⟩
end
theorem jrq {k t:Sl} {o n m m2 m3:Nat} (hk:k.o+32≤k.N) (hc:(t.cut o n).o+16≤(t.cut o n).N) (ht:okL t) (hn:t.n≠0):Runs (qlk shaF) 43 [(k.pl m).valN 4 32,((t.cut o n).pl m2).valN 5 16,(t.pl m3).val 5] (shaH [(k.pl m).row,(t.pl m3).row]) (rtD shaF k (t.cut o n) t 6):=by
  have hbig:t.n≤1099511627776:=ht.2
  have hto:=ht.1
  refine qfg qqo (rzC shaF (k.pl m) ((t.cut o n).pl m2) (t.pl m3)) (RtQ shaF k (t.cut o n) t) (rtMu t) (fun g nm hg=>Nat.lt_of_lt_of_le (q5p hg) (by show 3≤6; omega)) ?_ fun A hQ J => ?_
  · exact qig (some (1,7)) 4000 (.none (rtK shaF k (t.cut o n) 1)) rfl (jnq shaF k t o n m m2 m3 (rtK shaF k (t.cut o n) 1)) (rz_n4 shaF k t o n m m2 m3 _ _) (by simp) (by simp) (all_cons (decide_eq_true (by omega)) (qcq hk hc))
  · cases A with
    | none S =>
      have hS:S=rtK shaF k (t.cut o n) 1:=hQ
      refine qrc (some (1,7)) 4000 (.inn ⟨0,1,1,qaa [rtx0 t S],S⟩) ⟨⟨0,rfl,by omega,by show 1≤_; omega,rfl,hS,fun p hp => ?_⟩,by show 40 * (t.n - (0:Int).toNat)+(32 - 1)<40 * t.n+100; omega⟩ (j8i shaF k t o n m m2 m3 S ⟨0,0,0,qaa [],qaa []⟩ J) (rz_n2 shaF k t o n m m2 m3 _ _) ?_ ?_ (all_cons (decide_eq_true (by omega)) (all_cons (by omega) (all_cons (by omega) qba)))
      · have hp:p<1:=hp
        have h0:p=0:=by omega
        subst h0
        show rtx0 t S=_
        unfold rtx0 strR
        rw [qnc (by omega),hS]; rfl
      · intro x hx p u hp hu
        simp only [List.mem_cons,List.not_mem_nil,or_false] at hx
        rcases hx with rfl | rfl | rfl
        · exact qsc (q4s _ _ _ _ _ _ _ _ _).2.2 hp hu (qhe (l:=.lit 1) (l':=.sym 1) rfl)
        · exact qsc (q4s _ _ _ _ _ _ _ _ _).1 hp hu (qoa rfl)
        · exact qsc (q4s _ _ _ _ _ _ _ _ _).2.1 hp hu (qoa rfl)
      · intro e he E0 hE0
        simp only [List.mem_cons,List.not_mem_nil,or_false] at he
        subst he
        have hE0:some (rtG (qaa [rtx0 t S]) 1)=some E0:=hE0
        cases hE0
        exact ⟨_,rfl,fun γ vs hv=>q8n hv⟩
    | inn A =>
      obtain ⟨q,hi,hlt,hj,hnn,hS,hG⟩:=hQ
      by_cases hjl:A.j<32
      · by_cases hl:A.i+A.j<t.n
        · refine qrc (some (1,7)) 4000 (.inn ⟨A.i,A.j+1,A.n+1,rtN t A,A.S⟩) ⟨⟨q,hi,hlt,by show A.j+1≤_; omega,by show A.n+1=32 * q+(A.j+1); omega,hS,fun p hp => ?_⟩,by show 40 * (t.n - A.i.toNat)+(32 - (A.j+1))<40 * (t.n - A.i.toNat)+(32 - A.j); omega⟩ (joq shaF k t o n m m2 m3 A J) (rz_n3 shaF k t o n m m2 m3 _ _) (by simp) (by simp)
            (all_cons (decide_eq_true (by omega)) (all_cons ⟨by omega,by omega⟩ (all_cons (decide_eq_true hl) (all_cons ⟨by omega,by omega⟩ (all_cons ⟨by omega,by omega⟩ (all_cons (by omega) (all_cons ⟨by omega,by omega⟩ (all_cons (by omega) (all_cons (by omega) (all_cons ⟨by omega,qea _⟩ (all_cons ⟨⟨by omega,by omega⟩,rfl⟩ (all_cons ⟨by omega,by omega⟩ qba))))))))))))
          have hp:p<A.n+1:=hp
          show rtN t A p=_
          unfold rtN catB
          by_cases hpl:p<A.n
          · rw [if_pos hpl]
            show A.G (0+p)=_
            rw [Nat.zero_add]; exact hG p hpl
          · have hpe:p=32 * q+A.j:=by omega
            rw [if_neg hpl,show p - A.n=0 by omega]
            show rtx t A=_
            unfold rtx strR
            rw [qnc (by omega),hS,hpe,show (32 * q+A.j) / 32=q by omega,show (32 * q+A.j) % 32=A.j by omega,show 0+(A.j:Int).toNat * 1=A.j by omega,show (A.i+A.j).toNat * 1=32 * q+A.j by omega]
        · exact qrc (some (1,3)) 4000 (.out ⟨A.i+1,A.j,A.n,A.G,A.S⟩) ⟨⟨32 * q+1,by show A.i+1=_; omega,by omega,by omega,by show A.n=_; omega,hG⟩,by show 40 * (t.n - (A.i+1).toNat)+39<40 * (t.n - A.i.toNat)+(32 - A.j); omega⟩ (j9i shaF k t o n m m2 m3 A J) (jea shaF k t o n m m2 m3 _ _) (by simp) (by simp) (all_cons (decide_eq_true (by omega)) (all_cons ⟨by omega,by omega⟩ (all_cons (decide_eq_false hl) (all_cons ⟨by omega,by omega⟩ qba))))
      · exact qrc (some (1,3)) 4000 (.out ⟨A.i+1,A.j,A.n,A.G,A.S⟩) ⟨⟨32 * q+1,by show A.i+1=_; omega,by omega,by omega,by show A.n=_; omega,hG⟩,by show 40 * (t.n - (A.i+1).toNat)+39<40 * (t.n - A.i.toNat)+(32 - A.j); omega⟩ (jaj shaF k t o n m m2 m3 A J) (jea shaF k t o n m m2 m3 _ _) (by simp) (by simp) (q2c (qaf (decide_eq_false (by omega)) 7) (all_cons ⟨by omega,by omega⟩ qba))
    | out A =>
      obtain ⟨e,hi,h1,hle,hnn,hG⟩:=hQ
      by_cases hl:A.i<t.n
      · by_cases hm:e % 32=0
        · obtain ⟨q,rfl⟩:∃ q,e=32 * q:=⟨e / 32,by omega⟩
          have hi':A.i=32 * (q:Int):=by omega
          have hv:rtV A.i=(q:Int)+1:=by rw [hi']; exact jqe (by omega)
          refine qrc (some (1,7)) 4000 (.inn ⟨A.i,0,A.n,A.G,rtK shaF k (t.cut o n) (rtV A.i)⟩) ⟨⟨q,hi',by omega,by show 0≤_; omega,by show A.n=32 * q+0; omega,by show rtK shaF k (t.cut o n) (rtV A.i)=_; rw [hv],hG⟩,by show 40 * (t.n - A.i.toNat)+(32 - 0)<40 * (t.n - A.i.toNat)+39; omega⟩ (jpq shaF k t o n m m2 m3 A J) (rz_n5 shaF k t o n m m2 m3 _ _) ?_ (by simp) (all_cons (decide_eq_true hl) (all_cons (by rw [hi]; exact qcx (by omega)) (all_cons (by rw [beq_iff_eq,hi',Int.tmod_eq_emod_of_nonneg (by omega)]; omega) (qcq hk hc))))
          intro x hx p u hp hu
          simp only [List.mem_cons,List.not_mem_nil,or_false] at hx
          subst hx
          exact qsc (q4s _ _ _ _ _ _ _ _ _).2.1 hp hu (qoa rfl)
        · exact qrc (some (1,3)) 4000 (.out ⟨A.i+1,A.j,A.n,A.G,A.S⟩) ⟨⟨e+1,by show A.i+1=_; omega,by omega,by omega,by show A.n=_; omega,hG⟩,by show 40 * (t.n - (A.i+1).toNat)+39<40 * (t.n - A.i.toNat)+39; omega⟩ (jbj shaF k t o n m m2 m3 A J) (jea shaF k t o n m m2 m3 _ _) (by simp) (by simp) (all_cons (decide_eq_true hl) (all_cons (by rw [hi]; exact qcx (by omega)) (all_cons (by rw [beq_eq_false_iff_ne,hi,Int.tmod_eq_emod_of_nonneg (by omega)]; omega) (all_cons ⟨by omega,by omega⟩ qba))))
      · have hend:A.n=t.n:=by omega
        refine qni none 4000 (jqu shaF k t o n m m2 m3 A J) (all_cons (decide_eq_false hl) qba) fun H hH=>⟨by rw [hend]; rfl,A.G,fun p hp=>hG p (by omega),?_⟩
        rw [← hend]
        exact (List.cons.inj hH).1
end Go.Proofs.YtbmgahpjgefjaaaGreatDoor.Aes
namespace Go.Proofs.YtbmgahpjgefjaaaGreatDoor.Aes
open Go.Sim
open Go.Proofs
variable {α:Type}
set_option maxRecDepth 1000000
theorem jru {k c:Sl} {v:Int} (hk:k.n=32) (hc:c.n=16):rtK shaF k c v=sgK shaF k c v:=by
  unfold rtK sgK tagS
  refine congrArg qaa ?_
  rw [hk,hc]
  refine qwg fun i hi => ?_
  show qaa (app (tabB c.F 16) (num4 v)) (0+i)=_
  rw [Nat.zero_add,jme,qtt,qno,hc]
  by_cases h:i<16
  · rw [if_pos h,if_pos h,qnc h]; rfl
  · rw [if_neg h,if_neg h]
    show qaa (num4 v) (i - 16)=qaa (num4 v) (0+(i - 16))
    rw [Nat.zero_add]
theorem qh6 {k c t:Sl} (hk:k.n=32) (hc:c.n=16) {p:Nat}:strR shaF k c t p=strG shaF k c t p:=by
  unfold strR strG
  rw [jru hk hc]
def rstQ (k c t:Sl):Prop:=k.n=32∧c.n=16∧okL k∧okL c∧okL t
noncomputable def jcm (F:HashF):Summ:=fun args H base=>qmc args fun kv cv tv=>shaT H (qjc H kv fun k kn=>qjc H cv fun c cn=>qob tv (boolC (qvc [kn,cn]) (.need (rstQ k c q4w) (.ok ⟨.nilSlice,[],[]⟩)) (.stuck 870)) fun _ _=>qjc H tv fun t tn=>boolC (qvc [kn,cn,tn]) (.need (rstQ k c t) (isI (.sym t.n) 0 (.ok ⟨.nilSlice,[],[]⟩) (.ok (q3k base t.n (strG F k c t))))) (.stuck 870))
noncomputable def rstS (F:HashF):Summ:=fun args H base=>qmc args fun kv cv tv=>q8w H cv tv (jcm F args H base) fun c t tn=>shaT H (qjc H kv fun k kn=>boolC (qvc [kn,tn]) (.need (rstQ k c t) (isI (.sym t.n) 0 (.ok ⟨.nilSlice,[],[]⟩) (.ok (q3k base t.n (strG F k c t))))) (.stuck 870))
theorem jsu:SumAt Tryz.prog qtd 43 (jcm shaF):=by
  intro O w0 β H w base args vs hH hG ha
  refine qab fun kv cv tv hv=>qsg fun hT=>qcb fun k kn hn ht hk=>qcb fun c cn hn2 ht2 hk2 => ?_
  rw [hv] at ha
  obtain ⟨x,ys,hx,hys,rfl⟩:=denL_cons.1 ha
  obtain ⟨y,zs,hy,hzs,rfl⟩:=denL_cons.1 hys
  obtain ⟨q,qs,hq,hqs,rfl⟩:=denL_cons.1 hzs
  refine qxa (fun hnil=>qfa fun hd=>fun ⟨h32,h16,hok,hoc,_⟩ => ?_) fun _ _ _ _=>qcb fun t tn hn3 ht3 hk3=>qfa fun hd=>fun ⟨h32,h16,hok,hoc,hot⟩ => ?_
  · subst hnil
    obtain ⟨m,hx'⟩:=Sl.val_denN h32 (hk _ _ hx)
    obtain ⟨m2,hy'⟩:=Sl.val_denN h16 (hk2 _ _ hy)
    refine qka qqo 4000 hH (shaI [kn,cn] [k.row,c.row] [(k.pl m).valN 4 32,(c.pl m2).valN 5 16,.nilSlice]) (q8d hG) ?_ (Ifc.fits (nd4 hd (by simp only [List.mem_cons,List.not_mem_nil,or_false]; rintro x (rfl | rfl) <;> assumption)) ?_ (q1e hT ⟨⟨ht _,k.row_uses _⟩,⟨ht2 _,c.row_uses _⟩,trivial⟩)) [] (by simp [shaI]) (by simp) (jou shaF k c m m2) qba fun H2 _=>qkb rfl rfl rfl
    · show SV.denL β [((k.pl m).valN 4 32).ren _,((c.pl m2).valN 5 16).ren _,.nilSlice]=_
      rw [Sl.valN_ren,Sl.valN_ren]
      exact denL_cons.2 ⟨_,_,hx',denL_cons.2 ⟨_,_,hy',denL_cons.2 ⟨_,_,hq,hqs,rfl⟩,rfl⟩,rfl⟩
    · show (((k.pl m).valN 4 32).uses _ && (((c.pl m2).valN 5 16).uses _ && (true && true)))=true
      rw [Sl.valN_uses _ _ _ _ rfl,Sl.valN_uses _ _ _ _ rfl]; rfl
  · obtain ⟨m,hx'⟩:=Sl.val_denN h32 (hk _ _ hx)
    obtain ⟨m2,hy'⟩:=Sl.val_denN h16 (hk2 _ _ hy)
    obtain ⟨m3,_,hq'⟩:=Sl.val_den (hk3 _ _ hq)
    have hkl:k.o+32≤k.N:=by have:=hok.1; omega
    have hcl:c.o+16≤c.N:=by have:=hoc.1; omega
    have hfit:Ifc.Fits (shaI [kn,cn,tn] [k.row,c.row,t.row] [(k.pl m).valN 4 32,(c.pl m2).valN 5 16,(t.pl m3).val 6]) H:=by
      refine Ifc.fits (nd4 hd (by simp only [List.mem_cons,List.not_mem_nil,or_false]; rintro x (rfl | rfl | rfl) <;> assumption)) ?_ (q1e hT ⟨⟨ht _,k.row_uses _⟩,⟨ht2 _,c.row_uses _⟩,⟨ht3 _,t.row_uses _⟩,trivial⟩)
      show (((k.pl m).valN 4 32).uses _ && (((c.pl m2).valN 5 16).uses _ && (((t.pl m3).val 6).uses _ && true)))=true
      rw [Sl.valN_uses _ _ _ _ rfl,Sl.valN_uses _ _ _ _ rfl,Sl.val_uses _ _ _ rfl]; rfl
    have harg:SV.denL β (SV.renL (shaI [kn,cn,tn] [k.row,c.row,t.row] [(k.pl m).valN 4 32,(c.pl m2).valN 5 16,(t.pl m3).val 6]).big [(k.pl m).valN 4 32,(c.pl m2).valN 5 16,(t.pl m3).val 6])=some (x::y::q::qs):=by
      show SV.denL β [((k.pl m).valN 4 32).ren _,((c.pl m2).valN 5 16).ren _,((t.pl m3).val 6).ren _]=_
      rw [Sl.valN_ren,Sl.valN_ren,Sl.val_ren]
      exact denL_cons.2 ⟨_,_,hx',denL_cons.2 ⟨_,_,hy',denL_cons.2 ⟨_,_,hq',hqs,rfl⟩,rfl⟩,rfl⟩
    refine qzc (fun h0 => ?_) fun h0 => ?_
    · have h0:(t.n:Int)=0:=h0
      exact qka qqo 4000 hH (shaI [kn,cn,tn] [k.row,c.row,t.row] [(k.pl m).valN 4 32,(c.pl m2).valN 5 16,(t.pl m3).val 6]) (q8d hG) harg hfit [] (by simp [shaI]) (by simp) (jlq shaF k c t m m2 m3) (all_cons (decide_eq_false (by omega)) qba) fun H2 _=>qkb rfl rfl rfl
    · have h0:(t.n:Int)≠0:=h0
      refine Go.Sim.sum_runs (c:=qlk shaF) hH (shaI [kn,cn,tn] [k.row,c.row,t.row] [(k.pl m).valN 4 32,(c.pl m2).valN 5 16,(t.pl m3).val 6]) (q8d hG) harg hfit [7] (by simp [shaI]) (by simp) (qyf (jmq (m:=m) (m2:=m2) (m3:=m3) hkl hcl hot (by omega)) fun v H2 ⟨hv,G,hGe,hE⟩ => ?_)
      subst hv
      exact qcn rfl rfl hE rfl fun p hp=>by rw [hGe p hp]; exact qh6 h32 h16
theorem jdm:SumAt Tryz.prog qtd 43 (rstS shaF):=by
  intro O w0 β H w base args vs hH hG ha
  refine qab fun kv cv tv hv=>q9w (jsu O w0 β H w base args vs hH hG ha) fun t o n tn hn3 ht3 hic hit=>qsg fun hT=>qcb fun k kn hn ht hk=>qfa fun hd=>fun ⟨h32,h16,hok,hoc,hot⟩ => ?_
  rw [hv] at ha
  obtain ⟨x,ys,hx,hys,rfl⟩:=denL_cons.1 ha
  obtain ⟨y,zs,hy,hzs,rfl⟩:=denL_cons.1 hys
  obtain ⟨q,qs,hq,hqs,rfl⟩:=denL_cons.1 hzs
  obtain ⟨m,hx'⟩:=Sl.val_denN h32 (hk _ _ hx)
  obtain ⟨m2,hy0⟩:=hic _ _ hy
  have h16':n=16:=h16
  have hy':(((t.cut o n).pl m2).valN tn 16).den β=some y:=qhe (l:=.sym n) (l':=.lit 16) h16' _ _ hy0
  obtain ⟨m3,_,hq'⟩:=Sl.val_den (hit _ _ hq)
  have hkl:k.o+32≤k.N:=by have:=hok.1; omega
  have hcl:(t.cut o n).o+16≤(t.cut o n).N:=by have:=hoc.1; rw [h16] at this; exact this
  have hfit:Ifc.Fits (shaI [kn,tn] [(k.pl m).row,(t.pl m3).row] [(k.pl m).valN 4 32,((t.cut o n).pl m2).valN 5 16,(t.pl m3).val 5]) H:=by
    refine Ifc.fits (nd4 hd (by simp only [List.mem_cons,List.not_mem_nil,or_false]; rintro x (rfl | rfl) <;> assumption)) rfl (q1e hT ⟨⟨ht _,k.row_uses _⟩,⟨ht3 _,t.row_uses _⟩,trivial⟩)
  have harg:SV.denL β (SV.renL (shaI [kn,tn] [(k.pl m).row,(t.pl m3).row] [(k.pl m).valN 4 32,((t.cut o n).pl m2).valN 5 16,(t.pl m3).val 5]).big [(k.pl m).valN 4 32,((t.cut o n).pl m2).valN 5 16,(t.pl m3).val 5])=some (x::y::q::qs):=by
    show SV.denL β [((k.pl m).valN 4 32).ren _,(((t.cut o n).pl m2).valN 5 16).ren _,((t.pl m3).val 5).ren _]=_
    rw [Sl.valN_ren,Sl.valN_ren,Sl.val_ren]
    exact denL_cons.2 ⟨_,_,hx',denL_cons.2 ⟨_,_,hy',denL_cons.2 ⟨_,_,hq',hqs,rfl⟩,rfl⟩,rfl⟩
  refine qzc (fun h0 => ?_) fun h0 => ?_
  · have h0:(t.n:Int)=0:=h0
    exact qka qqo 4000 hH (shaI [kn,tn] [(k.pl m).row,(t.pl m3).row] [(k.pl m).valN 4 32,((t.cut o n).pl m2).valN 5 16,(t.pl m3).val 5]) (q8d hG) harg hfit [] (by simp [shaI]) (by simp) (jqq shaF k t o n m m2 m3) (all_cons (decide_eq_false (by omega)) qba) fun H2 _=>qkb rfl rfl rfl
  · have h0:(t.n:Int)≠0:=h0
    refine Go.Sim.sum_runs (c:=qlk shaF) hH (shaI [kn,tn] [(k.pl m).row,(t.pl m3).row] [(k.pl m).valN 4 32,((t.cut o n).pl m2).valN 5 16,(t.pl m3).val 5]) (q8d hG) harg hfit [6] (by simp [shaI]) (by simp) (qyf (jrq (m:=m) (m2:=m2) (m3:=m3) hkl hcl hot (by omega)) fun v H2 ⟨hv,G,hGe,hE⟩ => ?_)
    subst hv
    exact qcn rfl rfl hE rfl fun p hp=>by rw [hGe p hp]; exact qh6 h32 h16
end Go.Proofs.YtbmgahpjgefjaaaGreatDoor.Aes
namespace Go.Proofs.YtbmgahpjgefjaaaGreatDoor.Aes
open Go.Sim
open Go.Proofs
variable {α:Type}
set_option maxRecDepth 1000000
noncomputable def jem (F:HashF) (i:Nat):Cfg:=cfgG qtd (qbb [(41,rdeS F i),(52,rhmS F)])
theorem jsq {i:Nat} (hi12:i=1∨i=2):CfgOK (jem shaF i):=q2b (allS (j8l hi12) (allS qy9 (by simp)))
noncomputable def rgA (i:Int) (n:Nat) (v u:Int) (k c:Sl):List SV:=[.agg [.int .i64 (.lit i),.int .i64 (.sym v),k.valN 4 n],.int .i64 (.sym u),c.val 5]
noncomputable def rgT (F:HashF) (i n:Nat) (v u:Int) (k c:Sl):Tree:=qca (jem F i) 8000 44 (rgA i n v u k c) (shaH [k.row,c.row])
noncomputable def rgZ (c:Sl):Sl:=⟨catB (fun i=>qaa (tabB (fun _=>0#8) 16) (0+i)) 16 (fun i=>c.X (c.o+i)),16+c.n,0,16+c.n,true,0⟩
noncomputable def rgV (nm n:Nat):SV:=.slice ⟨nm,.lit 0⟩ (.lit n) (.lit 32)
section
variable (F:HashF) (v u:Int) (k c:Sl) (m m2:Nat)
theorem jtq:outO [10] (rgT F 1 16 v u (k.pl m) (c.pl m2)) []=([IsB (qda k.X),(1:Int)=1∧k.o+16≤k.N,c.o+c.n≤c.N∧IsB (qda c.X),16≤16,16<16+c.n∧((16+c.n) * 1<70368744177664∧16+c.n<70368744177664)∧1=1,IsB (qda (rgZ c).X),16≤32∧okL (rgZ c)∧16+c.n≤1099511627712],some (rgV 10 16,[some (mkE (tagS F (rdkS F k 16 u 0x55#8) (rgZ c)))])):=by kernel_rfl
theorem juq:outO [8] (rgT F 2 32 v u (k.pl m) (c.pl m2)) []=([IsB (qda k.X),(2:Int)=2∧k.o+32≤k.N,IsB (qda c.X),32≤32∧okL c∧c.n≤1099511627712],some (rgV 8 32,[some (mkE (tagS F (rdkS F k 32 u 0x55#8) c))])):=by kernel_rfl
end
noncomputable def rgL (F:HashF) (i:Nat) (k:Sl) (u:Int) (c:Sl):List (BitVec 8):=boolC (Nat.beq i 1) (tagB F (dkS F k 16 u 0x55#8) c) (tagS F (dkS F k 32 u 0x55#8) c)
theorem jre {k t:Sl} {u:Int} {n:Nat} {x:BitVec 8} (h:1≤u∧u≤1023) (hn:n≤32):tagS shaF (rdkS shaF k n u x) t=tagS shaF (dkS shaF k n u x) t:=qs3 (jpe h.1 h.2 hn) (by show n≤64; omega)
theorem jvq {k c:Sl}:tagS shaF k (rgZ c)=tagB shaF k c:=by
  unfold tagS tagB
  refine qwg fun i hi => ?_
  show catB (fun i=>qaa (tabB (fun _=>0#8) 16) (0+i)) 16 (fun i=>c.X (c.o+i)) (0+i)=two z16 c i
  rw [Nat.zero_add,qno]
  unfold catB
  have hz:z16.n=16:=rfl
  by_cases h:i<16
  · rw [if_pos h,if_pos (by omega)]
    show qaa (tabB (fun _=>0#8) 16) (0+i)=z16.X (z16.o+i)
    rw [Nat.zero_add,qnc h]
    have:∀ j,j<16→z16.X (z16.o+j)=0#8:=by decide
    exact (this i h).symm
  · rw [if_neg h,if_neg (by omega),hz]
noncomputable def rtgS (F:HashF) (i:Nat):Summ:=fun args H base=>qmc args fun kv uv cv=>kv.asAgg (.stuck 871) fun l=>qmc l fun p v s=>i64O p fun p=>i64O v fun _=>i64O uv fun u=>shaT H (qjc H s fun k kn=>qjc H cv fun c cn=>boolC (qvc [kn,cn])
  (.need (p.den=(i:Int)∧k.n=tagN i∧(1≤u.den∧u.den≤1023)∧okL k∧okL c∧1≤c.n∧c.n≤1000000) (.ok ⟨rgV base (tagN i),[],[mkE (rgL F i k u.den c)]⟩)) (.stuck 871))
theorem jtu {I:Ifc} {base j n:Nat} {L:List (BitVec 8)} {H:List SO} (hj:I.known j=false) (ho:q7b I.ents 0=[]) (hE:H[j]? = some (mkE L)):I.Ends base [j] ⟨rgV base n,[],[mkE L]⟩ (rgV j n) H:=by
  have ho':I.out base [j] j=base:=by
    unfold Ifc.out
    rw [hj]
    show base+idxN j [j]=base
    rw [show idxN j [j]=boolC (Nat.beq j j) 0 _ from rfl,Nat.beq_refl]; rfl
  have hs:I.seen [j] j=true:=by
    unfold Ifc.seen
    rw [hj]
    exact (memN_iff (n:=j) (l:=[j])).2 List.mem_cons_self
  refine ⟨?_,?_,by rw [ho]; trivial,⟨qbc hE (qed _ _) (by show SO.own (.lst (SV.renL _ (bx _))) _ _=_; rw [q7d]; rfl),trivial⟩⟩
  · show (SV.slice ⟨I.out base [j] j,.lit 0⟩ (.lit n) (.lit 32)).Imp _
    rw [ho']; exact .refl _
  · show (I.seen [j] j && true)=true
    rw [hs]; rfl
theorem jcj {p:Nat→Bool} {i:Int} {n:Nat} {v u:Int} {k c:Sl} (h4:p 4=true) (h5:p 5=true):SV.usesL p (rgA i n v u k c)=true:=by
  show ((true && (true && ((k.valN 4 n).uses p && true))) && (true && ((c.val 5).uses p && true)))=true
  rw [Sl.valN_uses _ _ _ _ h4,Sl.val_uses _ _ _ h5]; rfl
theorem rtgOK {i:Nat} (hi12:i=1∨i=2):SumAt Tryz.prog qtd 44 (rtgS shaF i):=by
  intro O w0 β H w base args vs hH hG ha
  refine qab fun kv uv cv hv => ?_
  rcases quc kv with ⟨l,rfl⟩ | hno
  case inr=>rw [hno]; trivial
  refine qab fun p v s hl=>q7a fun p' hp=>q7a fun v' hv'=>q7a fun u hu=>qsg fun hT=>qcb fun k kn hn1 ht1 hi1=>qcb fun c cn hn2 ht2 hi2=>qfa fun hd=>fun ⟨hpi,hkn,hu12,hk,hc,hc1,hc2⟩ => ?_
  subst hl hp hv' hu
  rw [hv] at ha
  obtain ⟨⟨xs,hxs⟩,zs,hzs⟩:=qii ha
  obtain ⟨xu,zs1,hxu,hzs1,rfl⟩:=denL_cons.1 hzs
  obtain ⟨xc,zs2,hxc,hzs2,rfl⟩:=denL_cons.1 hzs1
  obtain ⟨m,hks⟩:=Sl.val_denN hkn (hi1 _ _ hxs)
  obtain ⟨m2,_,hcs⟩:=Sl.val_den (hi2 _ _ hxc)
  have h1:=q1h (s':=(k.pl m).valN kn (tagN i)) (p':=.int .i64 (.lit i)) (v':=.int .i64 (.sym v'.den)) ha (fun x hx=>by rw [hxs] at hx; cases hx; exact hks) (qoa hpi) (qoa rfl)
  obtain ⟨xa,ws,hxa,hws,rfl⟩:=denL_cons.1 h1
  rw [hzs] at hws
  cases hws
  have ha':SV.denL β [.agg [.int .i64 (.lit i),.int .i64 (.sym v'.den),(k.pl m).valN kn (tagN i)],.int .i64 (.sym u.den),(c.pl m2).val cn]=some (xa::xu::xc::zs2):=denL_cons.2 ⟨_,_,hxa,denL_cons.2 ⟨_,_,qoa rfl _ _ hxu,denL_cons.2 ⟨_,_,hcs,hzs2,rfl⟩,rfl⟩,rfl⟩
  have n3:∀ {x:Nat},x∈[kn,cn]→qib x=true:=by simp only [List.mem_cons,List.not_mem_nil,or_false]; rintro x (rfl | rfl) <;> assumption
  have key:∀ {cs j L},(shaI [kn,cn] [k.row,c.row] []).known j=false→6≤j→outO [j] (rgT shaF i (tagN i) v'.den u.den (k.pl m) (c.pl m2)) []=(cs,some (rgV j (tagN i),[some (mkE L)]))→(∀ q∈cs,q)→L=rgL shaF i k u.den c→q4a Tryz.prog H β w base 44 (xa::xu::xc::zs2) ⟨rgV base (tagN i),[],[mkE (rgL shaF i k u.den c)]⟩:=by
    intro cs j L hj h6 hr hc hL
    rw [← hL]
    refine qka (jsq hi12) 8000 hH (shaI [kn,cn] [k.row,c.row] (rgA i (tagN i) v'.den u.den (k.pl m) (c.pl m2))) (q8d hG) ?_ (Ifc.fits (nd4 hd fun _=>n3) (jcj rfl rfl) (q1e hT ⟨⟨ht1 _,k.row_uses _⟩,⟨ht2 _,c.row_uses _⟩,trivial⟩)) [j] (by simp [shaI]; omega) (by simp) hr hc fun H2 hH2=>jtu hj rfl (List.cons.inj hH2).1
    show SV.denL β [.agg [.int .i64 (.lit i),.int .i64 (.sym v'.den),((k.pl m).valN 4 (tagN i)).ren _],.int .i64 (.sym u.den),((c.pl m2).val 5).ren _]=_
    rw [Sl.valN_ren,Sl.val_ren]; exact ha'
  have hko:=hk.1
  rcases hi12 with rfl | rfl
  · have hkn:k.n=16:=hkn
    exact key rfl (by omega) (jtq shaF v'.den u.den k c m m2) (all_cons (qea _) (all_cons ⟨rfl,by omega⟩ (all_cons ⟨hc.1,qea _⟩ (all_cons (by omega) (all_cons ⟨by omega,⟨by omega,by omega⟩,rfl⟩ (all_cons (qea _) (all_cons ⟨by omega,⟨by show 0+(16+c.n)≤16+c.n; omega,by show 16+c.n≤_; omega⟩,by omega⟩ qba))))))) (by rw [jre hu12 (by omega),jvq]; rfl)
  · have hkn:k.n=32:=hkn
    exact key rfl (by omega) (juq shaF v'.den u.den k c m m2) (all_cons (qea _) (all_cons ⟨rfl,by omega⟩ (all_cons (qea _) (all_cons ⟨by omega,hc,by omega⟩ qba)))) (by rw [jre hu12 (by omega)]; rfl)
end Go.Proofs.YtbmgahpjgefjaaaGreatDoor.Aes
namespace Go.Proofs.YtbmgahpjgefjaaaGreatDoor.Aes
open Go.Sim
open Go.Proofs
open Go.RowKit
variable {α:Type}
set_option maxRecDepth 1000000
noncomputable def qw3 (F:Blk→Blk→(Nat→BitVec 8)→Nat→Blk) (ok:Nat→Bool) (nl:Bool):Summ:=fun args H base=>qmc args fun k v p=>qob k (.stuck 910) fun a l1=>qob v (.stuck 910) fun b l2=>q28 H
  (boolC (Nat.beq 4 a.nm) (.stuck 911) (boolC (Nat.beq 4 b.nm) (.stuck 911) (boolC (Nat.beq a.nm b.nm) (.stuck 911) (qnd l1 16 (qnd l2 16 (q3b (nth H a.nm) fun X n=>q3b (nth H b.nm) fun Y n2=>.need (a.off.den+16≤n∧b.off.den+16≤n2)
    (qob p (boolC nl (.ok ⟨.nilSlice,[],[]⟩) (.stuck 912)) fun c l=>boolC (Nat.beq 4 c.nm) (.stuck 911) (boolC (Nat.beq a.nm c.nm) (.stuck 911) (boolC (Nat.beq b.nm c.nm) (.stuck 911)
      (q3b (nth H c.nm) fun Z n3=>.need (c.off.den+l.den≤n3∧ok l.den=true) (isI (.sym l.den) 16 (.ok ⟨.slice ⟨base,.lit 0⟩ l (.lit 16),[],[.own (fnB (F (qha X a.off.den) (qha Y b.off.den) (fun j=>Z (c.off.den+j)) l.den)) true 5]⟩) (.ok ⟨.slice ⟨base,.lit 0⟩ l (.rest base 0),[],[.own (fnB (F (qha X a.off.den) (qha Y b.off.den) (fun j=>Z (c.off.den+j)) l.den)) false 5]⟩))))))) (.stuck 913)) (.stuck 913)))))
theorem jdj {c:Cfg} (hc:CfgOK c) (hg:c.glob=qog) (hP:c.P=Tryz.prog) {f:FuncId} {F:Blk→Blk→(Nat→BitVec 8)→Nat→Blk} {ok:Nat→Bool} {nl:Bool} (hrun:RunR c f F ok dcp) (hnil:nl=true→NilR c f):SumAt Tryz.prog qef f (qw3 F ok nl):=by
  intro O w0 β H w base args vs hH hG ha
  refine qab fun k v p hv=>qxa (fun _=>trivial) fun a l1 c1 hs1=>qxa (fun _=>trivial) fun b l2 c2 hs2=>qiz fun htab=>qla (fun _=>trivial) fun h0=>qla (fun _=>trivial) fun h1=>qla (fun _=>trivial) fun hab =>
    qwb (fun hl1=>qwb (fun hl2=>q3a fun X n t1=>q3a fun Y n2 t2=>fun hn => ?_) fun _=>trivial) fun _=>trivial
  rw [hv,hs1,hs2] at ha
  rw [qga] at t1 t2
  obtain ⟨x,ys,hx,hys,rfl⟩:=denL_cons.1 ha
  obtain ⟨y,zs,hy,hz,rfl⟩:=denL_cons.1 hys
  obtain ⟨u,us,hu,hus,rfl⟩:=denL_cons.1 hz
  obtain ⟨m1,_,hd1,_,_⟩:=q8a hx
  obtain ⟨m2,_,hd2,_,_⟩:=q8a hy
  rw [hl1] at hd1
  rw [hl2] at hd2
  refine qxa (fun hn3=>qla (fun hnl => ?_) fun _=>trivial) fun c0 l c3 hs3=>qla (fun _=>trivial) fun h2=>qla (fun _=>trivial) fun hac=>qla (fun _=>trivial) fun hbc=>q3a fun Z n3 t3=>fun hn3 => ?_
  · rw [hn3] at hu
    have hnd:[4,a.nm,b.nm].Nodup:=by
      simp only [List.nodup_cons,List.mem_cons,List.not_mem_nil,or_false,not_or,not_false_eq_true,List.nodup_nil,and_true]
      exact ⟨⟨qmb h0,qmb h1⟩,qmb hab⟩
    rw [← hP] at hH ⊢
    refine qlg hc 20000 hH ⟨[4,a.nm,b.nm],[tabR,rowF X n,rowF Y n2],[.slice ⟨1,.sym a.off.den⟩ (.lit 16) (.sym m1),.slice ⟨2,.sym b.off.den⟩ (.lit 16) (.sym m2),.nilSlice]⟩ (by rw [hg]; exact q52 rfl rfl hG) (denL_cons.2 ⟨_,_,hd1,denL_cons.2 ⟨_,_,hd2,denL_cons.2 ⟨_,_,hu,hus,rfl⟩,rfl⟩,rfl⟩)
      (Ifc.fits hnd rfl ⟨⟨htab _,qvh _⟩,⟨t1 _,qya _ _ _⟩,⟨t2 _,qya _ _ _⟩,trivial⟩) [] (by simp) (by simp) (q2i (hnil hnl X Y n m1 n2 m2 a.off.den b.off.den) (all_cons (qea X) (all_cons hn.1 qba)) fun H2 _=>qkb rfl rfl rfl)
  · rw [hs3] at hu
    rw [qga] at t3
    obtain ⟨m3,hlm3,hd3,hd3',_⟩:=q8a hu
    have hd4:(SV.slice ⟨c0.nm,.sym c0.off.den⟩ (.lit l.den) (.sym m3)).den β=some u:=by
      rw [qpa] at hd3 ⊢
      exact hd3
    have hnd:[4,a.nm,b.nm,c0.nm].Nodup:=by
      simp only [List.nodup_cons,List.mem_cons,List.not_mem_nil,or_false,not_or,not_false_eq_true,List.nodup_nil,and_true]
      exact ⟨⟨qmb h0,qmb h1,qmb h2⟩,⟨qmb hab,qmb hac⟩,qmb hbc⟩
    obtain ⟨nm,ps,hnm,hr,hps⟩:=hrun X Y Z n m1 n2 m2 n3 m3 a.off.den b.off.den c0.off.den l.den hn3.2 hn.1 hn.2 hn3.1 hlm3
    rw [← hP] at hH ⊢
    have gen:q4a c.P H β w base f (x::y::u::us) ⟨.slice ⟨base,.lit 0⟩ l (capR (dcp l.den) base l.den),[],[.own (fnB (F (qha X a.off.den) (qha Y b.off.den) (fun j=>Z (c0.off.den+j)) l.den)) (dcp l.den) 5]⟩:=by
      refine qlg hc 20000 hH ⟨[4,a.nm,b.nm,c0.nm],q0k X Y Z n n2 n3,qzk m1 m2 m3 a.off.den b.off.den c0.off.den l.den⟩ (by rw [hg]; exact q52 rfl rfl hG) (denL_cons.2 ⟨_,_,hd1,denL_cons.2 ⟨_,_,hd2,denL_cons.2 ⟨_,_,hd4,hus,rfl⟩,rfl⟩,rfl⟩)
        (Ifc.fits hnd rfl ⟨⟨htab _,qvh _⟩,⟨t1 _,qya _ _ _⟩,⟨t2 _,qya _ _ _⟩,⟨t3 _,qya _ _ _⟩,trivial⟩) [nm] (by simpa using hnm) (by simp) (q2i hr hps fun H2 hH2=>⟨?_,?_,trivial,⟨jnd (List.cons.inj hH2).1,trivial⟩⟩)
      · intro γ xv hxv
        have hon:=q1x (I:=⟨[4,a.nm,b.nm,c0.nm],q0k X Y Z n n2 n3,qzk m1 m2 m3 a.off.den b.off.den c0.off.den l.den⟩) (base:=base) (nm:=nm) (by simpa using hnm)
        have hcap:SC.ren (Ifc.out ⟨[4,a.nm,b.nm,c0.nm],q0k X Y Z n n2 n3,qzk m1 m2 m3 a.off.den b.off.den c0.off.den l.den⟩ base [nm]) (capR (dcp l.den) nm l.den)=capR (dcp l.den) base l.den:=by
          unfold capR
          cases dcp l.den with
          | true=>rfl
          | false=>show SC.rest _ 0=_; rw [hon]; rfl
        simp only [SV.ren,SA.ren,hon,hcap] at hxv
        rw [qpa] at hxv ⊢
        exact hxv
      · show (Ifc.seen _ [nm] nm && SC.uses _ (capR (dcp l.den) nm l.den))=true
        rw [qkm]
        unfold capR
        cases dcp l.den with
        | true=>rfl
        | false=>exact qkm
    refine qzc (fun h => ?_) fun h => ?_
    · have h16:l.den=16:=by have h:(l.den:Int)=16:=h; omega
      have hd:dcp l.den=true:=by unfold dcp; rw [h16]; rfl
      have e:capR (dcp l.den) base l.den=.lit 16:=by rw [hd]; show SC.lit l.den=_; rw [h16]
      rw [e,hd] at gen
      exact gen
    · have h16:l.den≠16:=by have h:(l.den:Int)≠16:=h; omega
      have hd:dcp l.den=false:=by
        unfold dcp
        cases hb:Nat.beq l.den 16 with
        | true=>exact absurd (qna hb) h16
        | false=>rfl
      have e:capR (dcp l.den) base l.den=.rest base 0:=by rw [hd]; rfl
      rw [e,hd] at gen
      exact gen
noncomputable def juu:Summ:=qw3 decF tOk false
theorem jej:SumAt Tryz.prog qef 46 juu:=jdj jsn rfl rfl jbd (fun h=>by cases h)
theorem qvz (K V:Blk) (P:Nat→BitVec 8) (l:Nat):l≤lenN (decF K V P l):=by
  rw [qva]
  unfold decF
  rw [qyh _ (qfk _ _ _),qjh]
  unfold q2m
  by_cases h:l≤16
  · rw [if_pos h,qxh]; omega
  · rw [if_neg h,qhb,List.length_append,qxh]
    show l≤16 * (numB l - 2+2)
    unfold numB; omega
end Go.Proofs.YtbmgahpjgefjaaaGreatDoor.Aes
namespace Go.Proofs.YtbmgahpjgefjaaaGreatDoor.Aes
open Go.Sim
open Go.Proofs
variable {α:Type}
set_option maxRecDepth 1000000
theorem SumAt.upQ {f:FuncId} {s:Summ} (h:SumAt Tryz.prog qtd f s):SumAt Tryz.prog qef f s:=fun O w0 β H w base args vs hH hG ha=>h O w0 β H w base args vs hH (fun _ nm hg=>hG _ nm (j2s hg)) ha
noncomputable def rlTQ (i:Nat) (n:Nat) (u:Int) (k C:Sl):Prop:=(i:Int)=i∧n=tagN i∧(1≤u∧u≤1023)∧okL (k.len n)∧okL C∧1≤C.n∧C.n≤1000000
noncomputable def room (n:Nat):Prop:=(n * 1<70368744177664∧n<70368744177664)∧1=1
section
variable (F:HashF) (E D:CtsF) (v u:Int) (k c t:Sl) (m m2 m3:Nat)
end
end Go.Proofs.YtbmgahpjgefjaaaGreatDoor.Aes
namespace Go.Proofs.YtbmgahpjgefjaaaGreatDoor.Aes
open Go.Sim
open Go.Proofs
variable {α:Type}
set_option maxRecDepth 1000000
noncomputable def strL (L:List (BitVec 8)):ByteArray:=qui (mapN (fun x=>SI.b8 x) L)
theorem jwq (X:Nat→BitVec 8) (n:Nat):strL (tabB X n)=strS ⟨X,n,0,n,false,0⟩:=by
  unfold strL strS qvi qui tabB
  congr 2
  rw [qwa,qwa,q0c,List.map_map,List.map_map]
  refine List.ext_getElem? fun i => ?_
  simp only [List.getElem?_map]
  by_cases hi:i<n
  · rw [List.getElem?_range' hi,List.getElem?_range hi]
    show some (UInt8.ofNat (((X (0+1 * i)).toNat:Int)).toNat)=some (UInt8.ofNat (((X (0+i)).toNat:Int)).toNat)
    rw [Nat.one_mul]
  · rw [List.getElem?_eq_none (by simpa using hi),List.getElem?_eq_none (by simpa using hi)]; rfl
theorem strL_iff {X:Nat→BitVec 8} {n:Nat} {s:Sl}:strL (tabB X n)=strS s↔s.n=n∧∀ i,i<n→X i=s.F i:=by
  rw [jwq,strS_iff]
  constructor
  · rintro ⟨h1,h2⟩
    exact ⟨h1.symm,fun i hi=>by have:=h2 i hi; rw [Nat.zero_add] at this; exact this⟩
  · rintro ⟨h1,h2⟩
    exact ⟨h1.symm,fun i hi=>by rw [Nat.zero_add]; exact h2 i hi⟩
noncomputable def ryG (F:HashF) (k:Sl) (u:Int) (i n:Nat) (b:Sl):Nat→BitVec 8:=qaa (tagS F (dkS F (k.len n) (tagN i) u 0x99#8) b)
section
variable (F:HashF) (v u:Int) (k b s:Sl) (m m2 m3:Nat)
end
end Go.Proofs.YtbmgahpjgefjaaaGreatDoor.Aes
namespace Go.Proofs.YtbmgahpjgefjaaaGreatDoor.Aes
open Go.Sim
open Go.Proofs
variable {α:Type}
set_option maxRecDepth 1000000
noncomputable def jfm (v:SV) (no:R α) (f:SV→R α):R α :=
  match v with
  | .tail a n l (.sym m)=>.need (m≠0) (f (.slice (a.plus n) l (.sym m)))
  | _=>no
noncomputable def jgm (F:HashF):Summ:=fun args H base=>qmc args fun kv cv tv=>jfm tv (rstS F args H base) fun tv'=>rstS F [kv,cv,tv'] H base
theorem jvu:SumAt Tryz.prog qtd 43 (jgm shaF):=by
  intro O w0 β H w base args vs hH hG ha
  refine qab fun kv cv tv hv => ?_
  unfold jfm
  split
  · rename_i a n l m
    intro hm
    refine jdm O w0 β H w base _ vs hH hG ?_
    rw [hv] at ha
    obtain ⟨x,ys,hx,hys,rfl⟩:=denL_cons.1 ha
    obtain ⟨y,zs,hy,hzs,rfl⟩:=denL_cons.1 hys
    obtain ⟨q,qs,hq,hqs,rfl⟩:=denL_cons.1 hzs
    refine denL_cons.2 ⟨_,_,hx,denL_cons.2 ⟨_,_,hy,denL_cons.2 ⟨_,_,?_,hqs,rfl⟩,rfl⟩,rfl⟩
    rw [q5d] at hq
    obtain ⟨A,C,hA,hC,hle,rfl⟩:=hq
    cases hC
    rw [qpa]
    exact ⟨_,_,SA.plus_den hA n,rfl,hle,by rw [if_neg hm]⟩
  · exact jdm O w0 β H w base args vs hH hG ha
noncomputable def jhm (F:HashF) (D:CtsF) (i:Nat):Cfg:=cfgG qef (qbb [(40,ruS true),(41,rdeS F i),(44,rtgS F i),(43,jgm F),(46,qw3 D tOk false),(24,lnS 16 32)])
theorem qyd {i:Nat} (hi:i=1∨i=2):CfgOK (jhm shaF decF i):=q2b (allS (ruOK _) (allS (SumAt.upQ (j8l hi)) (allS (SumAt.upQ (rtgOK hi)) (allS (SumAt.upQ jvu) (allS jej (allS (qz9 _) (by simp)))))))
noncomputable def roA (i:Int) (n:Nat) (v u sp sv:Int) (k t:Sl):List SV:=[.agg [.int .i64 (.lit i),.int .i64 (.sym v),k.valN 5 n],.int .i64 (.sym u),.agg [.int .i64 (.sym sp),.int .i64 (.sym sv),t.val 6]]
noncomputable def roT (F:HashF) (D:CtsF) (i n:Nat) (v u sp sv:Int) (k t:Sl):Tree:=qca (jhm F D i) 8000 16 (roA i n v u sp sv k t) (shaH [tabR,k.row,t.row])
noncomputable def roC (t:Sl) (g:Int):Sl:=⟨t.X,t.N,t.o,(ogN t g).toNat,false,t.k⟩
noncomputable def roS (t:Sl) (g:Int):Sl:=⟨t.X,t.N,t.o+(ogN t g).toNat * 1,t.n - (ogN t g).toNat,false,0⟩
noncomputable def roX (t:Sl) (g:Int):Sl:=⟨t.X,t.N,t.o+16,(ogN t g).toNat - 16,false,t.k - 16⟩
noncomputable def roB (F:HashF) (i l:Nat) (u:Int) (k t:Sl):Bool:=decide (strL (tabB (qaa (rgL F i (k.len l) u (roC t l))) l)=strS (roS t l))
noncomputable def roQ (F:HashF) (i l:Nat) (v u sp:Int) (k t:Sl) (vs:List Prop) (b:Bool) (r:List Prop):List Prop :=
  (usQ i v u l↔true=true)::((sp != i)=false)::app vs (qza (ogN t l)::(decide (ogN t l<16)=false)::(decide (ogN t l > 65552)=false)::(0≤ogN t l∧ogN t l≤t.n)::IsB (qda k.X)::IsB (qda t.X)::rlTQ i l u k (roC t l) ::
    (0≤ogN t l∧ogN t l≤t.n)::(t.o+(ogN t l).toNat * 1+(t.n - (ogN t l).toNat)≤t.N∧∀ i,i<t.N→True)::((!roB F i l u k t)=b)::r)
noncomputable def ro1D (F:HashF) (D:CtsF) (u:Int) (k t:Sl):Blk:=D (qha (qaa (rdL F k 16 u 0xaa#8)) 0) (qha (qaa (tabB (fun _=>0#8) 16)) 0) (fun j=>t.X (t.o+j)) (ogN t 16).toNat
noncomputable def ro1C (k t:Sl) (b:Bool):List Prop:=[IsB (qda k.X),(1:Int)=1∧k.o+16≤k.N,16≤32∧16≤16,IsB (qda t.X),t.o+(ogN t 16).toNat≤t.N∧tOk (ogN t 16).toNat=true,(((ogN t 16).toNat:Int) == 16)=b,16≤(ogN t 16).toNat]
noncomputable def ro1E (t:Sl):SV:=.tuple [.slice ⟨12,.lit 0⟩ (.sym ((ogN t 16).toNat - 16)) (.lit 0),.int .i64 (.lit 0)]
noncomputable def ro1V (t:Sl):SV:=.tuple [.tail ⟨12,.lit 0⟩ (.lit 16) (.sym ((ogN t 16).toNat - 16)) (.rest 12 16),.int .i64 (.lit 0)]
noncomputable def ro1B (F:HashF) (D:CtsF) (u:Int) (k t:Sl) (b:Bool):Option SO:=some (.own (.fn (qda (qaa (ro1D F D u k t))) (lenN (ro1D F D u k t))) b 5)
noncomputable def ro2C (F:HashF) (u:Int) (k t:Sl) (b:Bool):List Prop:=[IsB (qda k.X),(2:Int)=2∧k.o+32≤k.N,16≤(ogN t 32).toNat,16≤(ogN t 32).toNat,t.k - 16≠0,IsB (qda t.X),rstQ (rdkS F k 32 u 0xaa#8) (t.cut t.o 16) (roX t 32),(((roX t 32).n:Int) == 0)=b]
noncomputable def ro2V (n:Nat):SV:=.tuple [qgf 11 n,.int .i64 (.lit 0)]
noncomputable def ro2B (F:HashF) (u:Int) (k t:Sl):Option SO:=some (.own (.fn (qda (strG F (rdkS F k 32 u 0xaa#8) (t.cut t.o 16) (roX t 32))) (roX t 32).n) false 5)
section
variable (F:HashF) (D:CtsF) (v u sp sv:Int) (k t:Sl) (m m2:Nat)
theorem jfa:outO [] (roT F D 1 16 v u sp sv (k.pl m) (t.pl m2)) [false,false,false,false,false,false,false,true]=((roQ F 1 16 v u sp k (t.pl m2) (v0C v sv) true []),some (opV 10,[])):=by kernel_rfl
theorem jfj:outO [12] (roT F D 1 16 v u sp sv (k.pl m) (t.pl m2)) [false,false,false,false,false,false,false,false,true]=((roQ F 1 16 v u sp k (t.pl m2) (v0C v sv) false (ro1C k (t.pl m2) true)),some (ro1E (t.pl m2),[ro1B F D u k (t.pl m2) true])):=by kernel_rfl
theorem jxq:outO [12] (roT F D 1 16 v u sp sv (k.pl m) (t.pl m2)) [false,false,false,false,false,false,false,false,false]=((roQ F 1 16 v u sp k (t.pl m2) (v0C v sv) false (ro1C k (t.pl m2) false)),some (ro1V (t.pl m2),[ro1B F D u k (t.pl m2) false])):=by kernel_rfl
theorem jga:outO [] (roT F D 1 16 v u sp sv (k.pl m) (t.pl m2)) [false,true,false,false,false,false,false,false,true]=((roQ F 1 16 v u sp k (t.pl m2) (v1C v sv) true []),some (opV 10,[])):=by kernel_rfl
theorem jgj:outO [12] (roT F D 1 16 v u sp sv (k.pl m) (t.pl m2)) [false,true,false,false,false,false,false,false,false,true]=((roQ F 1 16 v u sp k (t.pl m2) (v1C v sv) false (ro1C k (t.pl m2) true)),some (ro1E (t.pl m2),[ro1B F D u k (t.pl m2) true])):=by kernel_rfl
theorem jyq:outO [12] (roT F D 1 16 v u sp sv (k.pl m) (t.pl m2)) [false,true,false,false,false,false,false,false,false,false]=((roQ F 1 16 v u sp k (t.pl m2) (v1C v sv) false (ro1C k (t.pl m2) false)),some (ro1V (t.pl m2),[ro1B F D u k (t.pl m2) false])):=by kernel_rfl
theorem jha:outO [] (roT F D 1 16 v u sp sv (k.pl m) (t.pl m2)) [false,true,true,false,false,false,true]=((roQ F 1 16 v u sp k (t.pl m2) (v2C v sv) true []),some (opV 10,[])):=by kernel_rfl
theorem jhj:outO [12] (roT F D 1 16 v u sp sv (k.pl m) (t.pl m2)) [false,true,true,false,false,false,false,true]=((roQ F 1 16 v u sp k (t.pl m2) (v2C v sv) false (ro1C k (t.pl m2) true)),some (ro1E (t.pl m2),[ro1B F D u k (t.pl m2) true])):=by kernel_rfl
theorem jzq:outO [12] (roT F D 1 16 v u sp sv (k.pl m) (t.pl m2)) [false,true,true,false,false,false,false,false]=((roQ F 1 16 v u sp k (t.pl m2) (v2C v sv) false (ro1C k (t.pl m2) false)),some (ro1V (t.pl m2),[ro1B F D u k (t.pl m2) false])):=by kernel_rfl
theorem jia:outO [] (roT F D 2 32 v u sp sv (k.pl m) (t.pl m2)) [false,false,false,false,false,false,false,true]=((roQ F 2 32 v u sp k (t.pl m2) (v0C v sv) true []),some (opV 10,[])):=by kernel_rfl
theorem jij:outO [] (roT F D 2 32 v u sp sv (k.pl m) (t.pl m2)) [false,false,false,false,false,false,false,false,true]=((roQ F 2 32 v u sp k (t.pl m2) (v0C v sv) false (ro2C F u k (t.pl m2) true)),some (opV 0,[])):=by kernel_rfl
theorem j0q:outO [11] (roT F D 2 32 v u sp sv (k.pl m) (t.pl m2)) [false,false,false,false,false,false,false,false,false]=((roQ F 2 32 v u sp k (t.pl m2) (v0C v sv) false (ro2C F u k (t.pl m2) false)),some (ro2V (roX (t.pl m2) 32).n,[ro2B F u k (t.pl m2)])):=by kernel_rfl
theorem jja:outO [] (roT F D 2 32 v u sp sv (k.pl m) (t.pl m2)) [false,true,false,false,false,false,false,false,true]=((roQ F 2 32 v u sp k (t.pl m2) (v1C v sv) true []),some (opV 10,[])):=by kernel_rfl
theorem jjj:outO [] (roT F D 2 32 v u sp sv (k.pl m) (t.pl m2)) [false,true,false,false,false,false,false,false,false,true]=((roQ F 2 32 v u sp k (t.pl m2) (v1C v sv) false (ro2C F u k (t.pl m2) true)),some (opV 0,[])):=by kernel_rfl
theorem j1q:outO [11] (roT F D 2 32 v u sp sv (k.pl m) (t.pl m2)) [false,true,false,false,false,false,false,false,false,false]=((roQ F 2 32 v u sp k (t.pl m2) (v1C v sv) false (ro2C F u k (t.pl m2) false)),some (ro2V (roX (t.pl m2) 32).n,[ro2B F u k (t.pl m2)])):=by kernel_rfl
theorem jka:outO [] (roT F D 2 32 v u sp sv (k.pl m) (t.pl m2)) [false,true,true,false,false,false,true]=((roQ F 2 32 v u sp k (t.pl m2) (v2C v sv) true []),some (opV 10,[])):=by kernel_rfl
theorem jkj:outO [] (roT F D 2 32 v u sp sv (k.pl m) (t.pl m2)) [false,true,true,false,false,false,false,true]=((roQ F 2 32 v u sp k (t.pl m2) (v2C v sv) false (ro2C F u k (t.pl m2) true)),some (opV 0,[])):=by kernel_rfl
theorem j2q:outO [11] (roT F D 2 32 v u sp sv (k.pl m) (t.pl m2)) [false,true,true,false,false,false,false,false]=((roQ F 2 32 v u sp k (t.pl m2) (v2C v sv) false (ro2C F u k (t.pl m2) false)),some (ro2V (roX (t.pl m2) 32).n,[ro2B F u k (t.pl m2)])):=by kernel_rfl
end
end Go.Proofs.YtbmgahpjgefjaaaGreatDoor.Aes
namespace Go.Proofs.YtbmgahpjgefjaaaGreatDoor.Aes
open Go.Sim
open Go.Proofs
set_option maxRecDepth 1000000
section
variable (F:HashF) (E D:CtsF) (v u:Int) (k c t:Sl) (m m2 m3:Nat) (z:Nat→Nat→Nat)
end
end Go.Proofs.YtbmgahpjgefjaaaGreatDoor.Aes
namespace Go.Proofs.YtbmgahpjgefjaaaGreatDoor.Aes
open Go.Sim
open Go.Proofs
set_option maxRecDepth 1000000
section
variable (F:HashF) (E D:CtsF) (v u:Int) (k c t:Sl) (m m2 m3:Nat) (z:Nat→Nat→Nat)
end
end Go.Proofs.YtbmgahpjgefjaaaGreatDoor.Aes
namespace Go.Proofs.YtbmgahpjgefjaaaGreatDoor.Aes
open Go.Sim
open Go.Proofs
open Go.RowKit
variable {α:Type}
set_option maxRecDepth 1000000
theorem jlj {k k':Sl} {M:Nat→BitVec 8} {m:Nat} (h:SlEq k k') (h64:k.n≤64):macB shaF k.F k.n M m=macB shaF k'.F k'.n M m :=
  qs3 (c:=⟨M,0,0,m,false,0⟩) h h64 |> fun e=>by
    unfold tagS at e
    have e1:∀ (K:Nat→BitVec 8) (n:Nat),macB shaF K n (Sl.F ⟨M,0,0,m,false,0⟩) m=macB shaF K n M m:=fun K n=>qwg fun i _=>by show M (0+i)=M i; rw [Nat.zero_add]
    rw [← e1,e]; exact e1 _ _
theorem jmj {k k' c t:Sl} (h:SlEq k k') (h64:k.n≤64):strG shaF k c t=strG shaF k' c t:=by
  funext p
  unfold strG sgK
  rw [jlj h h64]
theorem jwu {k:Sl} {u:Int} (h:1≤u∧u≤1023):qha (qaa (rdL shaF k 16 u 0xaa#8)) 0=qha (dkS shaF k 16 u 0xaa#8).X 0:=qti fun j hj=>by
  rw [Nat.zero_add,jne h.1 h.2 (by omega) hj]
  show (dkS shaF k 16 u 0xaa#8).X (0+j)=_
  rw [Nat.zero_add]
theorem j3q:qha (qaa (tabB (fun _=>0#8) 16)) 0=qha z16.X 0:=qti (by decide)
noncomputable def qaI (names:List Nat) (ents:List SO) (args:List SV):Ifc:=shaI (4::names) (tabR::ents) args
theorem q04 {g j:Nat} (h:qef g=some j):j=0∨j=1∨j=2∨j=4:=by
  rcases qbd (show boolC (Nat.beq g 2) (some 0) _=some j from h) with ⟨_,h⟩ | h
  · cases h; exact .inl rfl
  rcases qbd h with ⟨_,h⟩ | h
  · cases h; exact .inr (.inl rfl)
  rcases qbd h with ⟨_,h⟩ | h
  · cases h; exact .inr (.inr (.inl rfl))
  obtain ⟨_,h⟩:=qsb h
  cases h; exact .inr (.inr (.inr rfl))
theorem q9c {β:Val} {names:List Nat} {ents:List SO} {args:List SV} (hG:GlobRel qef β):∀ g j,qef g=some j→(qaI names ents args).known j=true∧∃ l,β ((qaI names ents args).big j)=some l∧l.blk=g∧l.off=0:=by
  intro g j hg
  rcases q04 hg with rfl | rfl | rfl | rfl
  · exact ⟨rfl,hG g 0 hg⟩
  · exact ⟨rfl,hG g 1 hg⟩
  · exact ⟨rfl,hG g 2 hg⟩
  · exact ⟨rfl,hG g 4 hg⟩
theorem jnj {H:List SO} (hT:ShaT H) (htab:∀ g,∃ e',H[4]? = some e'∧qqb g tabR e') {names:List Nat} {ents:List SO} {args:List SV} (h:EntsOK (qaI names ents args).big (qaI names ents args).known H names ents):EntsOK (qaI names ents args).big (qaI names ents args).known H (qaI names ents args).names (qaI names ents args).ents :=
  q1e hT ⟨⟨htab _,qvh _⟩,h⟩
section
variable {k c t:Sl} {u:Int}
end
end Go.Proofs.YtbmgahpjgefjaaaGreatDoor.Aes
namespace Go.Proofs.YtbmgahpjgefjaaaGreatDoor.Aes
open Go.Sim
open Go.Proofs
open Go.RowKit
variable {α:Type}
set_option maxRecDepth 1000000
theorem qi6 {n:Nat} (h:n≤1000000):room n:=⟨⟨by omega,by omega⟩,rfl⟩
end Go.Proofs.YtbmgahpjgefjaaaGreatDoor.Aes
namespace Go.Proofs.YtbmgahpjgefjaaaGreatDoor.Aes
open Go.Sim
open Go.Proofs
open Go.RowKit
variable {α:Type}
set_option maxRecDepth 1000000
theorem jxu {i l:Nat} {u:Int} {k t:Sl} (hi:(i=1∧l=16)∨(i=2∧l=32)):roB shaF i l u k t=opT1 shaF i k u t:=by
  have hC:∀ g:Int,SlEq (roC t g) (ocS t g):=fun _=>⟨rfl,fun _ _=>rfl⟩
  rw [Bool.eq_iff_iff]
  unfold roB
  rw [decide_eq_true_iff,strL_iff]
  rcases hi with ⟨rfl,rfl⟩ | ⟨rfl,rfl⟩
  · have e:opT1 shaF 1 k u t=eqB (tgA shaF k u (ocS t 16)) (otS t 16) 16:=rfl
    rw [e,eqB_iff]
    have hT:∀ j,j<16→(tgA shaF k u (ocS t 16)).F j=qaa (rgL shaF 1 (k.len 16) u (roC t 16)) j:=fun j hj=>by
      show qaa (tabB (qaa (tagB shaF (dkS shaF k 16 u 0x55#8) (ocS t 16))) 32) (0+j)=qaa (tagB shaF (dkS shaF (k.len 16) 16 u 0x55#8) (roC t 16)) j
      rw [Nat.zero_add,qnc (by omega),← q6w (hC 16)]; rfl
    exact ⟨fun ⟨h1,h2⟩=>⟨h1,fun j hj=>(hT j hj).trans (h2 j hj)⟩,fun ⟨h1,h2⟩=>⟨h1,fun j hj=>(hT j hj).symm.trans (h2 j hj)⟩⟩
  · have e:opT1 shaF 2 k u t=eqB (tgB shaF k u (ocS t 32)) (otS t 32) 32:=rfl
    rw [e,eqB_iff]
    have hT:∀ j,j<32→(tgB shaF k u (ocS t 32)).F j=qaa (rgL shaF 2 (k.len 32) u (roC t 32)) j:=fun j hj=>by
      show qaa (tabB (qaa (tagS shaF (dkS shaF k 32 u 0x55#8) (ocS t 32))) 32) (0+j)=qaa (tagS shaF (dkS shaF (k.len 32) 32 u 0x55#8) (roC t 32)) j
      rw [Nat.zero_add,qnc (by omega),← q5w (hC 32)]; rfl
    exact ⟨fun ⟨h1,h2⟩=>⟨h1,fun j hj=>(hT j hj).trans (h2 j hj)⟩,fun ⟨h1,h2⟩=>⟨h1,fun j hj=>(hT j hj).symm.trans (h2 j hj)⟩⟩
theorem qzl {u:Int} {k t:Sl} (h:1≤u∧u≤1023):qaa (ro1D shaF decF u k t)=og1D shaF decF u k t:=by
  unfold ro1D og1D
  rw [jwu h,j3q]
theorem qfy {u:Int} {k t:Sl} (h:1≤u∧u≤1023) (c:Sl):strG shaF (rdkS shaF k 32 u 0xaa#8) c t=strG shaF (dkS shaF k 32 u 0xaa#8) c t:=jmj (jpe h.1 h.2 (by omega)) (by show 32≤64; omega)
noncomputable def ropA (H:List SO) (args:List SV) (f:SI→SI→SI→SI→SI→Sl→Nat→Sl→Nat→R SumRes):R SumRes:=shaT H (q28 H (opnA H args fun p v u sp sv k kn t tn=>boolC (qvc [4,kn,tn]) (f p v u sp sv k kn t tn) (.stuck 840)))
noncomputable def rogE (F:HashF) (i:Nat):Summ:=fun args H _=>ropA H args fun p v u sp sv k _ t _=>.need (opnQ i p.den v.den u.den sp.den sv.den k t∧opT1 F i k u.den t=false) (.ok ⟨opV 10,[],[]⟩)
noncomputable def roN (t:Sl) (g:Int):Nat:=(ogN t g).toNat - 16
noncomputable def rogR (F:HashF) (D:CtsF) (i base:Nat) (u:Int) (k t:Sl):R SumRes:=isI (.sym (roN t (tagN i))) 0
  (boolC (Nat.beq i 1) (.ok ⟨.tuple [.slice ⟨base,.lit 0⟩ (.sym (roN t 16)) (.lit 0),.int .i64 (.lit 0)],[],[.own (.fn (qda (og1D F D u k t)) (lenN (ro1D F D u k t))) true 5]⟩) (.ok ⟨opV 0,[],[]⟩))
  (boolC (Nat.beq i 1) (.ok ⟨.tuple [.tail ⟨base,.lit 0⟩ (.lit 16) (.sym (roN t 16)) (.rest base 16),.int .i64 (.lit 0)],[],[.own (.fn (qda (og1D F D u k t)) (lenN (ro1D F D u k t))) false 5]⟩)
    (.ok ⟨.tuple [qgf base (roN t 32),.int .i64 (.lit 0)],[],[.own (.fn (qda (strG F (dkS F k 32 u 0xaa#8) (t.cut t.o 16) (roX t 32))) (roN t 32)) false 5]⟩))
noncomputable def rogS (F:HashF) (D:CtsF) (i:Nat):Summ:=fun args H base=>ropA H args fun p v u sp sv k _ t _=>.need (opnQ i p.den v.den u.den sp.den sv.den k t∧opT1 F i k u.den t=true) (rogR F D i base u.den k t)
noncomputable def roI (kn tn:Nat) (k t:Sl) (i:Int) (n:Nat) (v u sp sv:Int):Ifc:=qaI [kn,tn] [k.row,t.row] (roA i n v u sp sv k t)
theorem qzd {β:Val} {kn tn:Nat} {k t:Sl} {i:Int} {n:Nat} {v u sp sv:Int} {vs:List Value} (h:SV.denL β [.agg [.int .i64 (.lit i),.int .i64 (.sym v),k.valN kn n],.int .i64 (.sym u),.agg [.int .i64 (.sym sp),.int .i64 (.sym sv),t.val tn]]=some vs):SV.denL β (SV.renL (roI kn tn k t i n v u sp sv).big (roI kn tn k t i n v u sp sv).args)=some vs:=by
  show SV.denL β [.agg [.int .i64 (.lit i),.int .i64 (.sym v),(k.valN 5 n).ren _],.int .i64 (.sym u),.agg [.int .i64 (.sym sp),.int .i64 (.sym sv),(t.val 6).ren _]]=_
  rw [Sl.valN_ren,Sl.val_ren]
  exact h
theorem joj {H:List SO} {kn tn:Nat} {k t:Sl} {i:Int} {n:Nat} {v u sp sv:Int} (hT:ShaT H) (htab:∀ g,∃ e',H[4]? = some e'∧qqb g tabR e') (hn1:qib kn=true) (hn2:qib tn=true) (hd:qvc [4,kn,tn]=true) (h1:∀ g,∃ e',H[kn]? = some e'∧qqb g k.row e') (h2:∀ g,∃ e',H[tn]? = some e'∧qqb g t.row e'):(roI kn tn k t i n v u sp sv).Fits H:=by
  have n3:∀ {x:Nat},x∈[4,kn,tn]→qib x=true:=by simp only [List.mem_cons,List.not_mem_nil,or_false]; rintro x (rfl | rfl | rfl) <;> first | rfl | assumption
  refine Ifc.fits (nd4 hd fun _=>n3) ?_ (jnj hT htab ⟨⟨h1 _,k.row_uses _⟩,⟨h2 _,t.row_uses _⟩,trivial⟩)
  show ((true && (true && ((k.valN 5 n).uses _ && true))) && (true && ((true && (true && ((t.val 6).uses _ && true))) && true)))=true
  rw [Sl.valN_uses _ _ _ _ rfl,Sl.val_uses _ _ _ rfl]; rfl
theorem qx3 {H:List SO} {args:List SV} {f:SI→SI→SI→SI→SI→Sl→Nat→Sl→Nat→R SumRes} {φ:SumRes→Prop} {β:Val} {vs:List Value} (ha:SV.denL β args=some vs)
    (h:∀ p v u sp sv k kn t tn,(∀ {i:Int} {n m m2:Nat} {v u sp sv:Int},(roI kn tn (k.pl m) (t.pl m2) i n v u sp sv).Fits H) →
      (∀ n i,k.n=n→p.den=i→∃ m m2,SV.denL β [.agg [.int .i64 (.lit i),.int .i64 (.sym v.den),(k.pl m).valN kn n],.int .i64 (.sym u.den),.agg [.int .i64 (.sym sp.den),.int .i64 (.sym sv.den),(t.pl m2).val tn]]=some vs)→(f p v u sp sv k kn t tn).Sat φ):(ropA H args f).Sat φ :=
  qsg fun hT=>qiz fun htab=>qmu ha fun p v u sp sv k kn t tn _ hn1 hn2 _ ht1 ht2 harg=>qfa fun hd=>h p v u sp sv k kn t tn (joj hT htab hn1 hn2 hd ht1 ht2) harg
theorem q0d {i l:Nat} {v u sp:Int} {k t:Sl} {m2:Nat} {vs:List Prop} {b:Bool} {r:List Prop} (hil:(i=1∧l=16)∨(i=2∧l=32)) (hq:usQ i v u l) (hsp:sp=i) (hv:∀ q∈vs,q) (hk:okL (k.len l)) (ht:okL t) (h16:16+l≤t.n) (h224:t.n≤224+l) (hb:opT1 shaF i k u t = !b) (hr:∀ q∈r,q):∀ q∈roQ shaF i l v u sp k (t.pl m2) vs b r,q:=by
  have hN:ogN (t.pl m2) l=(t.n:Int) - l:=rfl
  have htag:l=tagN i:=by rcases hil with ⟨rfl,rfl⟩ | ⟨rfl,rfl⟩ <;> rfl
  have hB:(!roB shaF i l u k (t.pl m2))=b:=by
    have:roB shaF i l u k (t.pl m2)=roB shaF i l u k t:=rfl
    rw [this,jxu hil,hb]; cases b <;> rfl
  have h1:=ht.1
  have h2:=ht.2
  have hC:okL (roC (t.pl m2) l):=⟨by show t.o+(ogN (t.pl m2) l).toNat≤t.N; omega,by show (ogN (t.pl m2) l).toNat≤_; omega⟩
  have hle:0≤ogN (t.pl m2) l∧ogN (t.pl m2) l≤((t.pl m2).n:Int):=by show 0≤ogN (t.pl m2) l∧ogN (t.pl m2) l≤(t.n:Int); omega
  exact all_cons ⟨fun _=>rfl,fun _=>hq⟩ (all_cons (by simp [hsp]) (q2c hv (all_cons ⟨by omega,by omega⟩ (all_cons (decide_eq_false (by omega)) (all_cons (decide_eq_false (by omega)) (all_cons hle (all_cons (qea _) (all_cons (qea _) (all_cons ⟨rfl,htag,hq.2,hk,hC,by show 1≤(ogN (t.pl m2) l).toNat; omega,by show (ogN (t.pl m2) l).toNat≤_; omega⟩
    (all_cons hle (all_cons ⟨by show t.o+(ogN (t.pl m2) l).toNat * 1+(t.n - (ogN (t.pl m2) l).toNat)≤t.N; omega,fun _ _=>trivial⟩ (all_cons hB hr))))))))))))
theorem jse {i:Nat} (hi12:i=1∨i=2):SumAt Tryz.prog qef 16 (rogE shaF i):=by
  intro O w0 β H w base args vs hH hG ha
  refine qx3 ha fun p v u sp sv k kn t tn hfit harg=>fun ⟨⟨hpi,hq,hsp,hvs,hk,ht,h16,h224⟩,hb⟩ => ?_
  rcases hi12 with rfl | rfl
  · have hkn:k.n=16:=by rcases hq.1.1 with ⟨_,h⟩ | ⟨h,_⟩; exact h; cases h
    have hkl:okL (k.len 16):=by rw [← hkn]; exact hk
    rw [hkn] at hq
    obtain ⟨m,m2,ha'⟩:=harg 16 1 hkn hpi
    rcases qoc hvs with hv | hv | hv
    · exact qka (qyd (.inl rfl)) 8000 hH (roI kn tn (k.pl m) (t.pl m2) 1 16 v.den u.den sp.den sv.den) (q9c hG) (qzd ha') hfit [] (by simp [roI,qaI,shaI]) (by simp) (jfa shaF decF v.den u.den sp.den sv.den k t m m2) (q0d (.inl ⟨rfl,rfl⟩) hq hsp hv hkl ht h16 h224 hb qba) fun _ _=>qkb rfl rfl rfl
    · exact qka (qyd (.inl rfl)) 8000 hH (roI kn tn (k.pl m) (t.pl m2) 1 16 v.den u.den sp.den sv.den) (q9c hG) (qzd ha') hfit [] (by simp [roI,qaI,shaI]) (by simp) (jga shaF decF v.den u.den sp.den sv.den k t m m2) (q0d (.inl ⟨rfl,rfl⟩) hq hsp hv hkl ht h16 h224 hb qba) fun _ _=>qkb rfl rfl rfl
    · exact qka (qyd (.inl rfl)) 8000 hH (roI kn tn (k.pl m) (t.pl m2) 1 16 v.den u.den sp.den sv.den) (q9c hG) (qzd ha') hfit [] (by simp [roI,qaI,shaI]) (by simp) (jha shaF decF v.den u.den sp.den sv.den k t m m2) (q0d (.inl ⟨rfl,rfl⟩) hq hsp hv hkl ht h16 h224 hb qba) fun _ _=>qkb rfl rfl rfl
  · have hkn:k.n=32:=by rcases hq.1.1 with ⟨h,_⟩ | ⟨_,h⟩; cases h; exact h
    have hkl:okL (k.len 32):=by rw [← hkn]; exact hk
    rw [hkn] at hq
    obtain ⟨m,m2,ha'⟩:=harg 32 2 hkn hpi
    rcases qoc hvs with hv | hv | hv
    · exact qka (qyd (.inr rfl)) 8000 hH (roI kn tn (k.pl m) (t.pl m2) 2 32 v.den u.den sp.den sv.den) (q9c hG) (qzd ha') hfit [] (by simp [roI,qaI,shaI]) (by simp) (jia shaF decF v.den u.den sp.den sv.den k t m m2) (q0d (.inr ⟨rfl,rfl⟩) hq hsp hv hkl ht h16 h224 hb qba) fun _ _=>qkb rfl rfl rfl
    · exact qka (qyd (.inr rfl)) 8000 hH (roI kn tn (k.pl m) (t.pl m2) 2 32 v.den u.den sp.den sv.den) (q9c hG) (qzd ha') hfit [] (by simp [roI,qaI,shaI]) (by simp) (jja shaF decF v.den u.den sp.den sv.den k t m m2) (q0d (.inr ⟨rfl,rfl⟩) hq hsp hv hkl ht h16 h224 hb qba) fun _ _=>qkb rfl rfl rfl
    · exact qka (qyd (.inr rfl)) 8000 hH (roI kn tn (k.pl m) (t.pl m2) 2 32 v.den u.den sp.den sv.den) (q9c hG) (qzd ha') hfit [] (by simp [roI,qaI,shaI]) (by simp) (jka shaF decF v.den u.den sp.den sv.den k t m m2) (q0d (.inr ⟨rfl,rfl⟩) hq hsp hv hkl ht h16 h224 hb qba) fun _ _=>qkb rfl rfl rfl
theorem qsj {I:Ifc} {base j:Nat} {v v':SV} {X Y:Nat→BitVec 8} {N:Nat} {b:Bool} {H:List SO} (hj:I.known j=false) (ho:q7b I.ents 0=[]) (hE:H[j]? = some (.own (.fn (qda X) N) b 5)) (hX:X=Y)
    (hv:∀ f:Nat→Nat,f j=base→(SV.tuple [v,.int .i64 (.lit 0)]).ren f=.tuple [v',.int .i64 (.lit 0)]) (hu:∀ p:Nat→Bool,p j=true→v.uses p=true):I.Ends base [j] ⟨.tuple [v',.int .i64 (.lit 0)],[],[.own (.fn (qda Y) N) b 5]⟩ (.tuple [v,.int .i64 (.lit 0)]) H:=by
  have ho':I.out base [j] j=base:=by
    unfold Ifc.out
    rw [hj]
    show base+idxN j [j]=base
    rw [show idxN j [j]=boolC (Nat.beq j j) 0 _ from rfl,Nat.beq_refl]; rfl
  have hs:I.seen [j] j=true:=by
    unfold Ifc.seen
    rw [hj]
    exact (memN_iff (n:=j) (l:=[j])).2 List.mem_cons_self
  subst hX
  refine ⟨?_,?_,by rw [ho]; trivial,⟨qgg hE fun _ _=>rfl,trivial⟩⟩
  · rw [hv _ ho']; exact .refl _
  · show (v.uses (I.seen [j]) && (true && true))=true
    rw [hu _ hs]; rfl
theorem q00 {i:Nat} (hi12:i=1∨i=2):SumAt Tryz.prog qef 16 (rogS shaF decF i):=by
  intro O w0 β H w base args vs hH hG ha
  refine qx3 ha fun p v u sp sv k kn t tn hfit harg=>fun ⟨⟨hpi,hq,hsp,hvs,hk,ht,h16,h224⟩,hb⟩ => ?_
  have hto:=ht.1
  rcases hi12 with rfl | rfl
  · have hkn:k.n=16:=by rcases hq.1.1 with ⟨_,h⟩ | ⟨h,_⟩; exact h; cases h
    have hkl:okL (k.len 16):=by rw [← hkn]; exact hk
    have hu:=hq.2
    rw [hkn] at hq
    have h16:16+16≤t.n:=h16
    have h224:t.n≤224+16:=h224
    obtain ⟨m,m2,ha'⟩:=harg 16 1 hkn hpi
    have hm2:t.n≤m2:=qyl ha'
    have hN:ogN (t.pl m2) 16=(t.n:Int) - 16:=rfl
    have hN':ogN t 16=(t.n:Int) - 16:=rfl
    have hC:∀ {b:Bool},(((ogN t 16).toNat:Int) == 16)=b→∀ q∈ro1C k (t.pl m2) b,q:=fun hb=>all_cons (qea _) (all_cons ⟨rfl,by rw [← hkn]; exact hk.1⟩ (all_cons ⟨by omega,by omega⟩ (all_cons (qea _) (all_cons ⟨by show t.o+(ogN (t.pl m2) 16).toNat≤t.N; omega,decide_eq_true (by omega)⟩ (all_cons hb (all_cons (by omega) qba))))))
    refine qzc (fun h0 => ?_) fun h0 => ?_
    · have h0:((roN t 16:Nat):Int)=0:=h0
      have h0:(ogN t 16).toNat - 16=0:=by have e:roN t 16=(ogN t 16).toNat - 16:=rfl; omega
      rcases qoc hvs with hv | hv | hv
      · exact qka (qyd (.inl rfl)) 8000 hH (roI kn tn (k.pl m) (t.pl m2) 1 16 v.den u.den sp.den sv.den) (q9c hG) (qzd ha') hfit [12] (by simp [roI,qaI,shaI]) (by simp) (jfj shaF decF v.den u.den sp.den sv.den k t m m2) (q0d (.inl ⟨rfl,rfl⟩) hq hsp hv hkl ht h16 h224 hb (hC (by rw [beq_iff_eq]; omega))) fun H2 hH2=>qsj rfl rfl (List.cons.inj hH2).1 (qzl hu) (fun f hf=>by show SV.tuple [.slice ⟨f 12,.lit 0⟩ _ _,_]=_; rw [hf]; rfl) fun p hp=>by show (p 12 && true)=true; rw [hp]; rfl
      · exact qka (qyd (.inl rfl)) 8000 hH (roI kn tn (k.pl m) (t.pl m2) 1 16 v.den u.den sp.den sv.den) (q9c hG) (qzd ha') hfit [12] (by simp [roI,qaI,shaI]) (by simp) (jgj shaF decF v.den u.den sp.den sv.den k t m m2) (q0d (.inl ⟨rfl,rfl⟩) hq hsp hv hkl ht h16 h224 hb (hC (by rw [beq_iff_eq]; omega))) fun H2 hH2=>qsj rfl rfl (List.cons.inj hH2).1 (qzl hu) (fun f hf=>by show SV.tuple [.slice ⟨f 12,.lit 0⟩ _ _,_]=_; rw [hf]; rfl) fun p hp=>by show (p 12 && true)=true; rw [hp]; rfl
      · exact qka (qyd (.inl rfl)) 8000 hH (roI kn tn (k.pl m) (t.pl m2) 1 16 v.den u.den sp.den sv.den) (q9c hG) (qzd ha') hfit [12] (by simp [roI,qaI,shaI]) (by simp) (jhj shaF decF v.den u.den sp.den sv.den k t m m2) (q0d (.inl ⟨rfl,rfl⟩) hq hsp hv hkl ht h16 h224 hb (hC (by rw [beq_iff_eq]; omega))) fun H2 hH2=>qsj rfl rfl (List.cons.inj hH2).1 (qzl hu) (fun f hf=>by show SV.tuple [.slice ⟨f 12,.lit 0⟩ _ _,_]=_; rw [hf]; rfl) fun p hp=>by show (p 12 && true)=true; rw [hp]; rfl
    · have h0:((roN t 16:Nat):Int)≠0:=h0
      have h0:(ogN t 16).toNat - 16≠0:=by have e:roN t 16=(ogN t 16).toNat - 16:=rfl; omega
      rcases qoc hvs with hv | hv | hv
      · exact qka (qyd (.inl rfl)) 8000 hH (roI kn tn (k.pl m) (t.pl m2) 1 16 v.den u.den sp.den sv.den) (q9c hG) (qzd ha') hfit [12] (by simp [roI,qaI,shaI]) (by simp) (jxq shaF decF v.den u.den sp.den sv.den k t m m2) (q0d (.inl ⟨rfl,rfl⟩) hq hsp hv hkl ht h16 h224 hb (hC (by rw [beq_eq_false_iff_ne]; omega))) fun H2 hH2=>qsj rfl rfl (List.cons.inj hH2).1 (qzl hu) (fun f hf=>by show SV.tuple [.tail ⟨f 12,.lit 0⟩ _ _ (.rest (f 12) 16),_]=_; rw [hf]; rfl) fun p hp=>by show (p 12 && p 12)=true; rw [hp]; rfl
      · exact qka (qyd (.inl rfl)) 8000 hH (roI kn tn (k.pl m) (t.pl m2) 1 16 v.den u.den sp.den sv.den) (q9c hG) (qzd ha') hfit [12] (by simp [roI,qaI,shaI]) (by simp) (jyq shaF decF v.den u.den sp.den sv.den k t m m2) (q0d (.inl ⟨rfl,rfl⟩) hq hsp hv hkl ht h16 h224 hb (hC (by rw [beq_eq_false_iff_ne]; omega))) fun H2 hH2=>qsj rfl rfl (List.cons.inj hH2).1 (qzl hu) (fun f hf=>by show SV.tuple [.tail ⟨f 12,.lit 0⟩ _ _ (.rest (f 12) 16),_]=_; rw [hf]; rfl) fun p hp=>by show (p 12 && p 12)=true; rw [hp]; rfl
      · exact qka (qyd (.inl rfl)) 8000 hH (roI kn tn (k.pl m) (t.pl m2) 1 16 v.den u.den sp.den sv.den) (q9c hG) (qzd ha') hfit [12] (by simp [roI,qaI,shaI]) (by simp) (jzq shaF decF v.den u.den sp.den sv.den k t m m2) (q0d (.inl ⟨rfl,rfl⟩) hq hsp hv hkl ht h16 h224 hb (hC (by rw [beq_eq_false_iff_ne]; omega))) fun H2 hH2=>qsj rfl rfl (List.cons.inj hH2).1 (qzl hu) (fun f hf=>by show SV.tuple [.tail ⟨f 12,.lit 0⟩ _ _ (.rest (f 12) 16),_]=_; rw [hf]; rfl) fun p hp=>by show (p 12 && p 12)=true; rw [hp]; rfl
  · have hkn:k.n=32:=by rcases hq.1.1 with ⟨h,_⟩ | ⟨_,h⟩; cases h; exact h
    have hkl:okL (k.len 32):=by rw [← hkn]; exact hk
    have hu:=hq.2
    rw [hkn] at hq
    have h16:16+32≤t.n:=h16
    have h224:t.n≤224+32:=h224
    obtain ⟨m,m2,ha'⟩:=harg 32 2 hkn hpi
    have hm2:t.n≤m2:=qyl ha'
    have hN:ogN (t.pl m2) 32=(t.n:Int) - 32:=rfl
    have hN':ogN t 32=(t.n:Int) - 32:=rfl
    have hC:∀ {b:Bool},(((roX t 32).n:Int) == 0)=b→∀ q∈ro2C shaF u.den k (t.pl m2) b,q:=fun hb=>all_cons (qea _) (all_cons ⟨rfl,by rw [← hkn]; exact hk.1⟩ (all_cons (by omega) (all_cons (by omega) (all_cons (by show m2 - 16≠0; omega) (all_cons (qea _) (all_cons ⟨rfl,rfl,⟨by show 0+32≤32; omega,by show 32≤_; omega⟩,⟨by show t.o+16≤t.N; omega,by show 16≤_; omega⟩,⟨by show t.o+16+((ogN (t.pl m2) 32).toNat - 16)≤t.N; omega,by show (ogN (t.pl m2) 32).toNat - 16≤_; have:=ht.2; omega⟩⟩ (all_cons hb qba)))))))
    refine qzc (fun h0 => ?_) fun h0 => ?_
    · have h0:((roN t 32:Nat):Int)=0:=h0
      have h0:(ogN t 32).toNat - 16=0:=by have e:roN t 32=(ogN t 32).toNat - 16:=rfl; omega
      rcases qoc hvs with hv | hv | hv
      · exact qka (qyd (.inr rfl)) 8000 hH (roI kn tn (k.pl m) (t.pl m2) 2 32 v.den u.den sp.den sv.den) (q9c hG) (qzd ha') hfit [] (by simp [roI,qaI,shaI]) (by simp) (jij shaF decF v.den u.den sp.den sv.den k t m m2) (q0d (.inr ⟨rfl,rfl⟩) hq hsp hv hkl ht h16 h224 hb (hC (by rw [beq_iff_eq]; show (((ogN t 32).toNat - 16:Nat):Int)=0; omega))) fun _ _=>qkb rfl rfl rfl
      · exact qka (qyd (.inr rfl)) 8000 hH (roI kn tn (k.pl m) (t.pl m2) 2 32 v.den u.den sp.den sv.den) (q9c hG) (qzd ha') hfit [] (by simp [roI,qaI,shaI]) (by simp) (jjj shaF decF v.den u.den sp.den sv.den k t m m2) (q0d (.inr ⟨rfl,rfl⟩) hq hsp hv hkl ht h16 h224 hb (hC (by rw [beq_iff_eq]; show (((ogN t 32).toNat - 16:Nat):Int)=0; omega))) fun _ _=>qkb rfl rfl rfl
      · exact qka (qyd (.inr rfl)) 8000 hH (roI kn tn (k.pl m) (t.pl m2) 2 32 v.den u.den sp.den sv.den) (q9c hG) (qzd ha') hfit [] (by simp [roI,qaI,shaI]) (by simp) (jkj shaF decF v.den u.den sp.den sv.den k t m m2) (q0d (.inr ⟨rfl,rfl⟩) hq hsp hv hkl ht h16 h224 hb (hC (by rw [beq_iff_eq]; show (((ogN t 32).toNat - 16:Nat):Int)=0; omega))) fun _ _=>qkb rfl rfl rfl
    · have h0:((roN t 32:Nat):Int)≠0:=h0
      have h0:(ogN t 32).toNat - 16≠0:=by have e:roN t 32=(ogN t 32).toNat - 16:=rfl; omega
      rcases qoc hvs with hv | hv | hv
      · exact qka (qyd (.inr rfl)) 8000 hH (roI kn tn (k.pl m) (t.pl m2) 2 32 v.den u.den sp.den sv.den) (q9c hG) (qzd ha') hfit [11] (by simp [roI,qaI,shaI]) (by simp) (j0q shaF decF v.den u.den sp.den sv.den k t m m2) (q0d (.inr ⟨rfl,rfl⟩) hq hsp hv hkl ht h16 h224 hb (hC (by rw [beq_eq_false_iff_ne]; show (((ogN t 32).toNat - 16:Nat):Int)≠0; omega))) fun H2 hH2=>qsj rfl rfl (List.cons.inj hH2).1 (qfy hu _) (fun f hf=>by show SV.tuple [.slice ⟨f 11,.lit 0⟩ _ (.rest (f 11) 0),_]=_; rw [hf]; rfl) fun p hp=>by show (p 11 && p 11)=true; rw [hp]; rfl
      · exact qka (qyd (.inr rfl)) 8000 hH (roI kn tn (k.pl m) (t.pl m2) 2 32 v.den u.den sp.den sv.den) (q9c hG) (qzd ha') hfit [11] (by simp [roI,qaI,shaI]) (by simp) (j1q shaF decF v.den u.den sp.den sv.den k t m m2) (q0d (.inr ⟨rfl,rfl⟩) hq hsp hv hkl ht h16 h224 hb (hC (by rw [beq_eq_false_iff_ne]; show (((ogN t 32).toNat - 16:Nat):Int)≠0; omega))) fun H2 hH2=>qsj rfl rfl (List.cons.inj hH2).1 (qfy hu _) (fun f hf=>by show SV.tuple [.slice ⟨f 11,.lit 0⟩ _ (.rest (f 11) 0),_]=_; rw [hf]; rfl) fun p hp=>by show (p 11 && p 11)=true; rw [hp]; rfl
      · exact qka (qyd (.inr rfl)) 8000 hH (roI kn tn (k.pl m) (t.pl m2) 2 32 v.den u.den sp.den sv.den) (q9c hG) (qzd ha') hfit [11] (by simp [roI,qaI,shaI]) (by simp) (j2q shaF decF v.den u.den sp.den sv.den k t m m2) (q0d (.inr ⟨rfl,rfl⟩) hq hsp hv hkl ht h16 h224 hb (hC (by rw [beq_eq_false_iff_ne]; show (((ogN t 32).toNat - 16:Nat):Int)≠0; omega))) fun H2 hH2=>qsj rfl rfl (List.cons.inj hH2).1 (qfy hu _) (fun f hf=>by show SV.tuple [.slice ⟨f 11,.lit 0⟩ _ (.rest (f 11) 0),_]=_; rw [hf]; rfl) fun p hp=>by show (p 11 && p 11)=true; rw [hp]; rfl
end Go.Proofs.YtbmgahpjgefjaaaGreatDoor.Aes
namespace Go.Proofs.YtbmgahpjgefjaaaGreatDoor.Aes
open Go.Sim
open Go.Proofs
variable {α:Type}
set_option maxRecDepth 1000000
noncomputable def jim (b:Bool):Cfg:=qie (qbb [(40,ruS b),(24,lnS 16 32)])
theorem j4q {b:Bool}:CfgOK (jim b):=q8b (allC (fun g=>ruOK g) (all1 fun g=>qz9 g))
def usP (p v u:Int) (l:Nat) (b:Bool):Prop:=usQ p v u l↔b=true
section
variable (p v u sp sv:Int) (y:Option Addr) (l m:Nat) (y1:Option Addr) (l1 m1:Nat) (y2:Option Addr) (l2 m2:Nat)
end
noncomputable def roqT (b:Bool) (p v u:Int) (y:Option Addr) (l m:Nat) (sp sv:Int) (y1:Option Addr) (l1 m1:Nat):Tree:=qca (jim b) 400 16 (oqA p v u y l m sp sv y1 l1 m1) []
section
variable (p v u sp sv:Int) (y:Option Addr) (l m:Nat) (y1:Option Addr) (l1 m1:Nat)
theorem j5q:outO [] (roqT false p v u y l m sp sv y1 l1 m1) []=([usP p v u l false],some (opV 2,[])):=by kernel_rfl
theorem qy3:outO [] (roqT true p v u y l m sp sv y1 l1 m1) (repN true 10)=(usP p v u l true::repN ((sp != p)=true) 10,some (opV 9,[])):=by kernel_rfl
theorem qz3:outO [] (roqT true p v u y l m sp sv y1 l1 m1) [false,true,true,true]=(usP p v u l true::[(sp != p)=false,(sv != v)=true,(sv != 0)=true,(v != 0)=true],some (opV 9,[])):=by kernel_rfl
theorem q14:outO [] (roqT true p v u y l m sp sv y1 l1 m1) [false,false,false,false,false,true,true]=(usP p v u l true::((sp != p)=false)::app (v0C v sv) (app [(p == 1)=true] (shC l1 16)),some (opV 4,[])):=by kernel_rfl
theorem q24:outO [] (roqT true p v u y l m sp sv y1 l1 m1) [false,true,false,false,false,false,true,true]=(usP p v u l true::((sp != p)=false)::app (v1C v sv) (app [(p == 1)=true] (shC l1 16)),some (opV 4,[])):=by kernel_rfl
theorem q34:outO [] (roqT true p v u y l m sp sv y1 l1 m1) [false,true,true,false,true,true]=(usP p v u l true::((sp != p)=false)::app (v2C v sv) (app [(p == 1)=true] (shC l1 16)),some (opV 4,[])):=by kernel_rfl
theorem q44:outO [] (roqT true p v u y l m sp sv y1 l1 m1) [false,false,false,false,false,false,true,true]=(usP p v u l true::((sp != p)=false)::app (v0C v sv) (app [(p == 1)=false,(p == 2)=true] (shC l1 32)),some (opV 4,[])):=by kernel_rfl
theorem q54:outO [] (roqT true p v u y l m sp sv y1 l1 m1) [false,true,false,false,false,false,false,true,true]=(usP p v u l true::((sp != p)=false)::app (v1C v sv) (app [(p == 1)=false,(p == 2)=true] (shC l1 32)),some (opV 4,[])):=by kernel_rfl
theorem q64:outO [] (roqT true p v u y l m sp sv y1 l1 m1) [false,true,true,false,false,true,true]=(usP p v u l true::((sp != p)=false)::app (v2C v sv) (app [(p == 1)=false,(p == 2)=true] (shC l1 32)),some (opV 4,[])):=by kernel_rfl
end
theorem roqOK {e:Int}:q2a Tryz.prog 16 (oqS e):=by
  intro glob O w0 β H w base args vs hH hG ha
  refine qab fun kv uv zv hv=>qxg fun p v s n hk hs=>q7a fun u hu=>qxg fun sp sv s1 l1 hz hs1=>fun hq => ?_
  subst hv hk hu hz
  obtain ⟨y,m,h1⟩:=qyg ha hs
  obtain ⟨xk,zs,hxk,hzs,rfl⟩:=denL_cons.1 h1
  obtain ⟨xu,zs1,hxu,hzs1,rfl⟩:=denL_cons.1 hzs
  obtain ⟨y1,m1,hzs1'⟩:=qyg hzs1 hs1
  have ha':SV.denL β (oqA p.den v.den u.den y n m sp.den sv.den y1 l1 m1)=some (xk::xu::zs1):=denL_cons.2 ⟨_,_,hxk,denL_cons.2 ⟨_,_,qoa rfl _ _ hxu,hzs1',rfl⟩,rfl⟩
  have key:∀ {b cs ds},outO [] (roqT b p.den v.den u.den y n m sp.den sv.den y1 l1 m1) ds=(cs,some (opV e,[]))→(∀ q∈cs,q)→q4a Tryz.prog H β w base 16 (xk::xu::zs1) ⟨opV e,[],[]⟩:=by
    intro b cs ds hr hc
    exact qvb j4q rfl 400 hH ⟨[],[],oqA p.den v.den u.den y n m sp.den sv.den y1 l1 m1⟩ ha' (qgd rfl) [] (by simp) (by simp) hr hc fun _ _=>qkb rfl rfl rfl
  rcases hq with ⟨rfl,hval⟩ | ⟨rfl,hval,hne⟩ | ⟨rfl,hval,hsp,hvs,hlt⟩
  · exact key (j5q p.den v.den u.den sp.den sv.den y n m y1 l1 m1) (all_cons ⟨fun h=>absurd h hval,fun h=>by cases h⟩ qba)
  · by_cases hsp:sp.den=p.den
    · have hv:¬ qkk v.den sv.den:=hne.resolve_left fun h=>h hsp
      have hv:¬ (sv.den=v.den∨sv.den=0∨v.den=0):=hv
      have hc:∀ q∈[(sp.den != p.den)=false,(sv.den != v.den)=true,(sv.den != 0)=true,(v.den != 0)=true],q:=all_cons (by simp [hsp]) (all_cons (by rw [bne_iff_ne]; omega) (all_cons (by rw [bne_iff_ne]; omega) (all_cons (by rw [bne_iff_ne]; omega) qba)))
      rcases hval.1.1 with ⟨h,_⟩ | ⟨h,_⟩
      · exact key (qz3 p.den v.den u.den sp.den sv.den y n m y1 l1 m1) (all_cons ⟨fun _=>rfl,fun _=>hval⟩ hc)
      · exact key (qz3 p.den v.den u.den sp.den sv.den y n m y1 l1 m1) (all_cons ⟨fun _=>rfl,fun _=>hval⟩ hc)
    · have hc:(sp.den != p.den)=true:=by simp [hsp]
      rcases hval.1.1 with ⟨h,_⟩ | ⟨h,_⟩
      · exact key (qy3 p.den v.den u.den sp.den sv.den y n m y1 l1 m1) (all_cons ⟨fun _=>rfl,fun _=>hval⟩ (qaf hc 10))
      · exact key (qy3 p.den v.den u.den sp.den sv.den y n m y1 l1 m1) (all_cons ⟨fun _=>rfl,fun _=>hval⟩ (qaf hc 10))
  · have hc:(sp.den != p.den)=false:=by simp [hsp]
    have hsh:∀ {g:Int},g=n→n≤32→∀ q∈shC l1 g,q:=fun {g} hg hn=>all_cons ⟨by omega,by omega⟩ (all_cons (decide_eq_true (by omega)) qba)
    rcases hval.1.1 with ⟨h,hn⟩ | ⟨h,hn⟩
    · rcases qoc hvs with hv | hv | hv
      · exact key (q14 p.den v.den u.den sp.den sv.den y n m y1 l1 m1) (all_cons ⟨fun _=>rfl,fun _=>hval⟩ (all_cons hc (qqd hv (qqd (all_cons (by simp [h]) qba) (hsh (by omega) (by omega))))))
      · exact key (q24 p.den v.den u.den sp.den sv.den y n m y1 l1 m1) (all_cons ⟨fun _=>rfl,fun _=>hval⟩ (all_cons hc (qqd hv (qqd (all_cons (by simp [h]) qba) (hsh (by omega) (by omega))))))
      · exact key (q34 p.den v.den u.den sp.den sv.den y n m y1 l1 m1) (all_cons ⟨fun _=>rfl,fun _=>hval⟩ (all_cons hc (qqd hv (qqd (all_cons (by simp [h]) qba) (hsh (by omega) (by omega))))))
    · rcases qoc hvs with hv | hv | hv
      · exact key (q44 p.den v.den u.den sp.den sv.den y n m y1 l1 m1) (all_cons ⟨fun _=>rfl,fun _=>hval⟩ (all_cons hc (qqd hv (qqd (all_cons (by simp [h]) (all_cons (by simp [h]) qba)) (hsh (by omega) (by omega))))))
      · exact key (q54 p.den v.den u.den sp.den sv.den y n m y1 l1 m1) (all_cons ⟨fun _=>rfl,fun _=>hval⟩ (all_cons hc (qqd hv (qqd (all_cons (by simp [h]) (all_cons (by simp [h]) qba)) (hsh (by omega) (by omega))))))
      · exact key (q64 p.den v.den u.den sp.den sv.den y n m y1 l1 m1) (all_cons ⟨fun _=>rfl,fun _=>hval⟩ (all_cons hc (qqd hv (qqd (all_cons (by simp [h]) (all_cons (by simp [h]) qba)) (hsh (by omega) (by omega))))))
end Go.Proofs.YtbmgahpjgefjaaaGreatDoor.Aes
namespace Go.Proofs.YtbmgahpjgefjaaaGreatDoor.Aes
open Go.Sim
open Go.Proofs
set_option maxRecDepth 1000000
noncomputable def slP (t:Sl):Sl:=⟨fun i=>t.X (t.o+i),t.n,0,t.n,true,0⟩
noncomputable def slR:Option (SV × List (Option SO)):=some (.bool (.lit true),[])
section
variable (F:HashF) (E:CtsF) (v u:Int) (k c t:Sl) (m m2 m3:Nat)
end
noncomputable def lvO (c:Sl) (b:Bool):List Prop:=[c.o+c.n≤c.N,decide (c.n=0)=b,boolC b (1=1) (room c.n)]
noncomputable def lvS (c:Sl):List Prop:=[rdC (slP c),rdC c,decide (strS (slP c)=strS c)=true]
noncomputable def lvZ (c:Sl):List Prop:=[rdC c,decide (strL []=strS c)=true]
section
variable (p v u:Int) (y:Option Addr) (l m:Nat) (c t:Sl) (m2 m3:Nat) (y1:Option Addr) (l1 m1:Nat) (y2:Option Addr) (l2:Nat)
end
end Go.Proofs.YtbmgahpjgefjaaaGreatDoor.Aes
namespace Go.Proofs.YtbmgahpjgefjaaaGreatDoor.Aes
open Go.Sim
open Go.Proofs
open Go.RowKit
set_option maxRecDepth 1000000
noncomputable def q10 (so sr:Summ):Cfg:=cfgG qef (qbb [(15,so),(16,sr),(11,knS)])
theorem q9j {so sr:Summ} (h1:SumAt Tryz.prog qef 15 so) (h2:SumAt Tryz.prog qef 16 sr):CfgOK (q10 so sr):=q2b (allS h1 (allS h2 (allS (SumAt.upQ (SumAt.up knOK)) (by simp))))
noncomputable def olT (so sr:Summ) (i:Int) (n:Nat) (v u sp sv:Int) (k t:Sl):Tree:=qca (q10 so sr) 8000 4 (roA i n v u sp sv k t) (shaH [tabR,k.row,t.row])
noncomputable def olvT (e p v u sp sv:Int) (y:Option Addr) (l m:Nat) (t:SV) (r:List SO):Tree:=qca (q10 (oqS e) (oqS e)) 8000 4 [kyV p v y l m,.int .i64 (.sym u),.agg [.int .i64 (.sym sp),.int .i64 (.sym sv),t]] (shaH (tabR::r))
noncomputable def olC (F:HashF) (i:Nat) (v u sp sv:Int) (k K t T:Sl) (b:Bool) (A B:List Prop):List Prop :=
  app [decide ((t.n:Int) > 200)=false,t.o+t.n≤t.N,decide (t.n=0)=false,room t.n,IsB (qda k.X),IsB (qda (slP t).X),opnQ i i v u sp sv K (slP t)∧opT1 F i K u (slP t)=b]
    (app A (app [IsB (qda k.X),IsB (qda t.X),opnQ i i v u sp sv K T∧opT1 F i K u T=b] (app B [rdC (slP t),rdC t,decide (strS (slP t)=strS t)=true])))
noncomputable def olA (i:Nat) (t:Sl) (e:Bool):List Prop:=[(((ogL (slP t) (tagN i):Nat):Int) == 0)=e]
noncomputable def olB (i:Nat) (T:Sl) (e:Bool) (S:List Prop):List Prop:=((((roN T (tagN i):Nat):Int) == 0)=e)::S
noncomputable def ol1P (F:HashF) (D:CtsF) (u:Int) (K t:Sl) (o:Nat):Sl:=⟨og1D F D u K (slP t),(ogN (slP t) 16).toNat,o,ogL (slP t) 16,false,0⟩
noncomputable def ol1R (F:HashF) (D:CtsF) (u:Int) (K T:Sl) (o:Nat):Sl:=⟨og1D F D u K T,lenN (ro1D F D u K T),o,roN T 16,false,0⟩
noncomputable def ol2P (F:HashF) (D:CtsF) (u:Int) (K t:Sl):Sl:=⟨opnX F D 2 K u (slP t),ogL (slP t) 32,0,ogL (slP t) 32,false,0⟩
noncomputable def ol2R (F:HashF) (u:Int) (K T:Sl):Sl:=⟨strG F (dkS F K 32 u 0xaa#8) (T.cut T.o 16) (roX T 32),roN T 32,0,roN T 32,false,0⟩
noncomputable def olE (x y:Sl):List Prop:=[rdC x,rdC y,decide (strS x=strS y)=true]
section
variable (F:HashF) (D:CtsF) (v u sp sv:Int) (k t:Sl) (m m2:Nat)
theorem jte:outO [] (olT (opnE F 1) (rogE F 1) 1 16 v u sp sv (k.pl m) (t.pl m2)) [false,false,true]=(olC F 1 v u sp sv k ((k.pl m).len 16) t (t.pl m2) false [] [],slR):=by kernel_rfl
theorem j6q:outO [] (olT (opnS F D 1) (rogS F D 1) 1 16 v u sp sv (k.pl m) (t.pl m2)) [false,false,true,true,true,true]=(olC F 1 v u sp sv k ((k.pl m).len 16) t (t.pl m2) true (olA 1 t true) (olB 1 (t.pl m2) true (olE (ol1P F D u ((k.pl m).len 16) t 0) (ol1R F D u ((k.pl m).len 16) (t.pl m2) 0))),slR):=by kernel_rfl
theorem jyu:outO [] (olT (opnS F D 1) (rogS F D 1) 1 16 v u sp sv (k.pl m) (t.pl m2)) [false,false,false,false,true,true]=(olC F 1 v u sp sv k ((k.pl m).len 16) t (t.pl m2) true (olA 1 t false) (olB 1 (t.pl m2) false (olE (ol1P F D u ((k.pl m).len 16) t 16) (ol1R F D u ((k.pl m).len 16) (t.pl m2) 16))),slR):=by kernel_rfl
theorem jue:outO [] (olT (opnE F 2) (rogE F 2) 2 32 v u sp sv (k.pl m) (t.pl m2)) [false,false,true]=(olC F 2 v u sp sv k ((k.pl m).len 32) t (t.pl m2) false [] [],slR):=by kernel_rfl
theorem j7q:outO [] (olT (opnS F D 2) (rogS F D 2) 2 32 v u sp sv (k.pl m) (t.pl m2)) [false,false,true,true,true,true]=(olC F 2 v u sp sv k ((k.pl m).len 32) t (t.pl m2) true (olA 2 t true) (olB 2 (t.pl m2) true []),slR):=by kernel_rfl
theorem jzu:outO [] (olT (opnS F D 2) (rogS F D 2) 2 32 v u sp sv (k.pl m) (t.pl m2)) [false,false,false,false,true,true]=(olC F 2 v u sp sv k ((k.pl m).len 32) t (t.pl m2) true (olA 2 t false) (olB 2 (t.pl m2) false (olE (ol2P F D u ((k.pl m).len 32) t) (ol2R F u ((k.pl m).len 32) (t.pl m2)))),slR):=by kernel_rfl
end
section
variable (p v u sp sv:Int) (y:Option Addr) (l m:Nat) (t:Sl) (m2:Nat) (y1:Option Addr) (l1 m1:Nat)
theorem j0u:outO [] (olvT 2 p v u sp sv y l m (vSl y1 l1 m1) []) [true]=([decide ((l1:Int) > 200)=true],slR):=by kernel_rfl
theorem j1u:outO [] (olvT 2 p v u sp sv y l m (vSl y1 l1 m1) []) [false,true]=([decide ((l1:Int) > 200)=false,decide ((l:Int) > 40)=true],slR):=by kernel_rfl
theorem j2u:outO [] (olvT 2 p v u sp sv y l m .nilSlice []) [false,true]=([decide ((l:Int) > 40)=false,oqP 2 p v u l sp sv  0,oqP 2 p v u l sp sv  0,true=true],slR):=by kernel_rfl
theorem j3u:outO [] (olvT 2 p v u sp sv y l m ((t.pl m2).val 5) [(t.pl m2).row]) [false,false,true,true]=(app [decide ((t.n:Int) > 200)=false,decide ((l:Int) > 40)=false] (app (lvO t true) (oqP 2 p v u l sp sv  0::oqP 2 p v u l sp sv  t.n::lvZ t)),slR):=by kernel_rfl
theorem j4u:outO [] (olvT 2 p v u sp sv y l m ((t.pl m2).val 5) [(t.pl m2).row]) [false,false,false,true]=(app [decide ((t.n:Int) > 200)=false,decide ((l:Int) > 40)=false] (app (lvO t false) (oqP 2 p v u l sp sv  t.n::oqP 2 p v u l sp sv  t.n::lvS t)),slR):=by kernel_rfl
theorem j5u:outO [] (olvT 9 p v u sp sv y l m .nilSlice []) [false,true]=([decide ((l:Int) > 40)=false,oqP 9 p v u l sp sv  0,oqP 9 p v u l sp sv  0,true=true],slR):=by kernel_rfl
theorem j6u:outO [] (olvT 9 p v u sp sv y l m ((t.pl m2).val 5) [(t.pl m2).row]) [false,false,true,true]=(app [decide ((t.n:Int) > 200)=false,decide ((l:Int) > 40)=false] (app (lvO t true) (oqP 9 p v u l sp sv  0::oqP 9 p v u l sp sv  t.n::lvZ t)),slR):=by kernel_rfl
theorem j7u:outO [] (olvT 9 p v u sp sv y l m ((t.pl m2).val 5) [(t.pl m2).row]) [false,false,false,true]=(app [decide ((t.n:Int) > 200)=false,decide ((l:Int) > 40)=false] (app (lvO t false) (oqP 9 p v u l sp sv  t.n::oqP 9 p v u l sp sv  t.n::lvS t)),slR):=by kernel_rfl
theorem j8u:outO [] (olvT 4 p v u sp sv y l m .nilSlice []) [false,true]=([decide ((l:Int) > 40)=false,oqP 4 p v u l sp sv  0,oqP 4 p v u l sp sv  0,true=true],slR):=by kernel_rfl
theorem j9u:outO [] (olvT 4 p v u sp sv y l m ((t.pl m2).val 5) [(t.pl m2).row]) [false,false,true,true]=(app [decide ((t.n:Int) > 200)=false,decide ((l:Int) > 40)=false] (app (lvO t true) (oqP 4 p v u l sp sv  0::oqP 4 p v u l sp sv  t.n::lvZ t)),slR):=by kernel_rfl
theorem jav:outO [] (olvT 4 p v u sp sv y l m ((t.pl m2).val 5) [(t.pl m2).row]) [false,false,false,true]=(app [decide ((t.n:Int) > 200)=false,decide ((l:Int) > 40)=false] (app (lvO t false) (oqP 4 p v u l sp sv  t.n::oqP 4 p v u l sp sv  t.n::lvS t)),slR):=by kernel_rfl
end
end Go.Proofs.YtbmgahpjgefjaaaGreatDoor.Aes
namespace Go.Proofs.YtbmgahpjgefjaaaGreatDoor.Aes
open Go.Sim
open Go.Proofs
set_option maxRecDepth 1000000
theorem jbv (x:Sl):SlEq x x:=⟨rfl,fun _ _=>rfl⟩
section
variable {i:Nat} {k:Sl} {u:Int} {c c' t t':Sl}
theorem jve {k c c':Sl} {v:Int} (h:SlEq c c'):sgK shaF k c v=sgK shaF k c' v:=by
  unfold sgK
  rw [← h.1]
  exact congrArg _ (qwg fun j hj=>jje h (jbv _) hj)
theorem jwe {k:Sl} (hc:SlEq c c') (ht:SlEq t t') {p:Nat} (hp:p<t.n):strG shaF k c t p=strG shaF k c' t' p:=by
  unfold strG
  rw [jve hc,ht.2 p hp]
end
end Go.Proofs.YtbmgahpjgefjaaaGreatDoor.Aes
namespace Go.Proofs.YtbmgahpjgefjaaaGreatDoor.Aes
open Go.Sim Go.WideShapes Go.ChangeShapes
theorem open_key {H:Type} {enc:TypeId × Value→H} {P:Program} {w:World} {r:Reach} {b0 base:Nat} {held:Bool} {t ti ts te:TypeId} {f0 f1 f2:Field} {v:Value} {d:DataW H} {ps:List MemPlace}
    (ht:P.underlying t=some (.struct #[f0,f1,f2])) (h0:f0.type=ti∧f0.offset=0) (h1:f1.type=ti∧f1.offset=1) (h2:f2.type=ts∧f2.offset=2) (hi:P.underlying ti=some (.int .i64)) (hs:P.underlying ts=some (.slice te)) (he:P.underlying te=some (.int .u8))
    (ci:P.cellsOf ti=1) (cs:P.cellsOf ts=1) (ce:P.cellsOf te=1) (ct:P.cellsOf t=3) (qec:P.cellTypes P.depth t=some [ti,ti,ts])
    (hval:Value.okWide P w r b0 t v) (hd:DataW.Trod enc P w base (fun _=>true) held t v d ps) :
    ∃ p q a len cap X,v=.agg #[.int .i64 p,.int .i64 q,.slice a len cap]∧ByteRow w a len cap X:=by
  have hval':=hval
  obtain ⟨c,rfl,hsz⟩:=okWide_struct ht hval
  obtain ⟨fuel,hf⟩:=hd
  have hf:DataW.trod enc P w base (fun _=>true) held fuel t c.toList=some (d,ps):=hf
  obtain ⟨y0,y1,y2,n,_,hl,k0,k1,k2⟩:=Go.Deep.trod_struct3 ht hf
  rw [h0.1,h0.2,ci] at k0
  rw [h1.1,h1.2,ci] at k1
  rw [h2.1,h2.2,cs] at k2
  rw [ct] at hl
  obtain ⟨z0,e0,_,_⟩:=DataW.trod_int hi k0
  obtain ⟨z1,e1,_,_⟩:=DataW.trod_int hi k1
  match hc:c.toList,hl with
  | [c0,c1,c2],_ =>
    rw [hc] at e0 e1 k2
    obtain rfl:c0=.int .i64 z0:=by simpa using e0
    obtain rfl:c1=.int .i64 z1:=by simpa using e1
    have k2:DataW.trod enc P w base (fun _=>true) held n ts [c2]=some y2:=k2
    obtain rfl:c = #[.int .i64 z0,.int .i64 z1,c2]:=by
      cases c; simp_all
    have hspot:∀ a l k,c2=.slice (some a) l k→a.spot=none:=by
      rintro a l k rfl
      simp only [Value.okWide,ht] at hval'
      obtain ⟨cs',e,_,ts',hct,_,hcell⟩:=hval'
      cases e
      rw [qec] at hct
      cases hct
      obtain ⟨u,hu,hok⟩:=hcell 2 _ rfl
      have hu:some ts=some u:=hu
      cases hu
      simp only [Cell.okWide,hs,Cell.ok] at hok
      exact hok.2.2.2.1
    rcases open_ints hs he ce k2 with ⟨hcs,_⟩ | ⟨x,l,k,zs,hcs,_,hlk,hm,hz,_,hcell,hwz⟩
    · obtain rfl:c2=.slice none 0 0:=by simpa using hcs
      exact ⟨z0,z1,none,0,0,_,rfl,q5v (.inl ⟨rfl,rfl,rfl,rfl⟩) fun _ h=>by cases h⟩
    · obtain rfl:c2=.slice (some x) l k:=by simpa using hcs
      exact ⟨z0,z1,some x,l,k,_,rfl,q5v (.inr ⟨x,rfl,hlk,hm,by simpa using hz,hcell,hwz⟩) fun y hy=>by cases hy; exact hspot _ _ _ rfl⟩
end Go.Proofs.YtbmgahpjgefjaaaGreatDoor.Aes
namespace Go.Proofs.YtbmgahpjgefjaaaGreatDoor.Aes
open Go.Sim
open Go.Proofs
open Go.RowKit
set_option maxRecDepth 1000000
theorem jcv {i:Nat} (h:i=1∨i=2):tagN i=16∨tagN i=32:=by rcases h with rfl | rfl; exact .inl rfl; exact .inr rfl
theorem jxe (t:Sl):SlEq (slP t) t:=⟨rfl,fun j _=>by show t.X (t.o+(0+j))=_; rw [Nat.zero_add]⟩
theorem jpj {t:Sl} (h:t.n=0):decide (strL []=strS t)=true:=by
  rw [decide_eq_true_iff]
  show strL (tabB (qaa []) 0)=strS t
  exact strL_iff.2 ⟨h,fun j hj=>absurd hj (Nat.not_lt_zero j)⟩
theorem q03 {x y:Sl} (h:SlEq x y):decide (strS x=strS y)=true:=decide_eq_true (strS_iff.2 h)
section
variable {i n:Nat} {v u:Int} {k c t p:Sl} {bo b1 b2 r:List Prop}
theorem q13 (ht:okL t):okL (slP t):=⟨by show 0+t.n≤t.n; omega,ht.2⟩
theorem q0l (b:Bool) (ht:okL t) (h200:t.n≤200) (hb:decide (t.n=0)=b):∀ q∈lvO t b,q:=all_cons ht.1 (all_cons hb (all_cons (by cases b; exact qi6 (by omega); exact rfl) qba))
theorem qgy (ht:okL t):∀ q∈lvS t,q:=all_cons (qmm (q13 ht)) (all_cons (qmm ht) (all_cons (q03 (jxe t)) qba))
theorem qhy (ht:okL t) (h0:t.n=0):∀ q∈lvZ t,q:=all_cons (qmm ht) (all_cons (jpj h0) qba)
end
theorem qnu:∀ q∈[true=true],q:=all_cons rfl qba
end Go.Proofs.YtbmgahpjgefjaaaGreatDoor.Aes
namespace Go.Proofs.YtbmgahpjgefjaaaGreatDoor.Aes
open Go.Sim
open Go.Proofs
open Go.RowKit
set_option maxRecDepth 1000000
theorem j8q {i:Nat} {K t:Sl} {u:Int} {m2:Nat} (hi:i=1∨i=2):opT1 shaF i K u (slP t)=opT1 shaF i K u (t.pl m2):=by
  have hoc:∀ g:Int,SlEq (ocS (slP t) g) (ocS (t.pl m2) g):=fun g=>⟨rfl,fun j _=>by show t.X (t.o+(0+j))=t.X (t.o+j); rw [Nat.zero_add]⟩
  have hot:∀ (g:Int) (j:Nat),(otS (slP t) g).F j=(otS (t.pl m2) g).F j:=fun g j=>by
    show t.X (t.o+(0+(ogN t g).toNat * 1+j))=t.X (t.o+(ogN t g).toNat * 1+j)
    rw [Nat.zero_add,Nat.add_assoc]
  rcases hi with rfl | rfl
  · show eqB (tgA shaF K u (ocS (slP t) 16)) (otS (slP t) 16) 16=eqB (tgA shaF K u (ocS (t.pl m2) 16)) (otS (t.pl m2) 16) 16
    rw [Bool.eq_iff_iff,eqB_iff,eqB_iff]
    unfold tgA
    rw [q6w (hoc 16)]
    exact ⟨fun ⟨a,b⟩=>⟨a,fun j hj=>(b j hj).trans (hot 16 j)⟩,fun ⟨a,b⟩=>⟨a,fun j hj=>(b j hj).trans (hot 16 j).symm⟩⟩
  · show eqB (tgB shaF K u (ocS (slP t) 32)) (otS (slP t) 32) 32=eqB (tgB shaF K u (ocS (t.pl m2) 32)) (otS (t.pl m2) 32) 32
    rw [Bool.eq_iff_iff,eqB_iff,eqB_iff,jie (hoc 32)]
    exact ⟨fun ⟨a,b⟩=>⟨a,fun j hj=>(b j hj).trans (hot 32 j)⟩,fun ⟨a,b⟩=>⟨a,fun j hj=>(b j hj).trans (hot 32 j).symm⟩⟩
theorem jye {K t:Sl} {u:Int} {m2 o:Nat}:SlEq (ol1P shaF decF u K t o) (ol1R shaF decF u K (t.pl m2) o):=by
  have hD:og1D shaF decF u K (slP t)=og1D shaF decF u K (t.pl m2):=by
    unfold og1D
    have:(fun j=>(slP t).X ((slP t).o+j))=fun j=>(t.pl m2).X ((t.pl m2).o+j):=by
      funext j
      show t.X (t.o+(0+j))=t.X (t.o+j)
      rw [Nat.zero_add]
    rw [this]; rfl
  refine ⟨?_,fun j _ => ?_⟩
  · show (((ogN t 16).toNat:Nat):Int).toNat - 16=(ogN t 16).toNat - 16
    rw [Int.toNat_natCast]
  · show og1D shaF decF u K (slP t) (o+j)=og1D shaF decF u K (t.pl m2) (o+j)
    rw [hD]
theorem qj6 {t:Sl} {m2:Nat}:(ogX (slP t) ((slP t).o+16)).n=(roX (t.pl m2) 32).n:=by
  show (((ogN t 32).toNat:Nat):Int).toNat - 16=(ogN t 32).toNat - 16
  rw [Int.toNat_natCast]
theorem jdv {K t:Sl} {u:Int}:∀ (F:HashF) (D:CtsF),opnX F D 2 K u (slP t)=strG F (dkS F K 32 u 0xaa#8) ((slP t).cut (slP t).o 16) (ogX (slP t) ((slP t).o+16)):=fun _ _=>rfl
theorem jev {K t:Sl} {u:Int} {j:Nat}:∀ (F:HashF) (D:CtsF),(ol2P F D u K t).F j=opnX F D 2 K u (slP t) (0+j):=fun _ _=>rfl
theorem jfv {K t:Sl} {u:Int} {m2 j:Nat}:∀ F:HashF,(ol2R F u K (t.pl m2)).F j=strG F (dkS F K 32 u 0xaa#8) ((t.pl m2).cut (t.pl m2).o 16) (roX (t.pl m2) 32) (0+j):=fun _=>rfl
theorem jgv {K t:Sl} {u:Int} {m2:Nat}:SlEq (ol2P shaF decF u K t) (ol2R shaF u K (t.pl m2)):=by
  refine ⟨qj6,fun j hj => ?_⟩
  have hj:j<(ogX (slP t) ((slP t).o+16)).n:=hj
  have e1:=@jev K t u j shaF decF
  have e2:=@jfv K t u m2 j shaF
  have h1:SlEq ((slP t).cut (slP t).o 16) ((t.pl m2).cut (t.pl m2).o 16):=⟨rfl,fun p _=>by
    show t.X (t.o+(0+p))=t.X (t.o+p)
    rw [Nat.zero_add]⟩
  have h2:SlEq (ogX (slP t) ((slP t).o+16)) (roX (t.pl m2) 32):=⟨qj6,fun p _=>by
    show t.X (t.o+(0+16+p))=t.X (t.o+16+p)
    rw [Nat.zero_add,Nat.add_assoc]⟩
  show (ol2P shaF decF u K t).F j=(ol2R shaF u K (t.pl m2)).F j
  rw [e1,e2,jdv,Nat.zero_add]
  generalize dkS shaF K 32 u 0xaa#8=kk
  exact jwe h1 h2 hj
section
variable {i:Nat} {v u sp sv:Int} {k K t:Sl} {m2:Nat} {b:Bool} {A B:List Prop}
theorem q1l (hi:i=1∨i=2) (hq:usQ i v u K.n) (hsp:sp=i) (hvs:qkk v sv) (hk:okL K) (ht:okL t) (h16:16+tagN i≤t.n) (h200:t.n≤200) (hb:opT1 shaF i K u (t.pl m2)=b) (hA:∀ q∈A,q) (hB:∀ q∈B,q):∀ q∈olC shaF i v u sp sv k K t (t.pl m2) b A B,q:=by
  have h1:=ht.1
  have h0:t.n≠0:=by omega
  have hP:opnQ i i v u sp sv K (slP t):=⟨rfl,hq,hsp,hvs,hk,q13 ht,h16,by show t.n≤_; omega⟩
  have hT:opnQ i i v u sp sv K (t.pl m2):=⟨rfl,hq,hsp,hvs,hk,⟨ht.1,ht.2⟩,h16,by show t.n≤_; omega⟩
  refine q2c (all_cons (decide_eq_false (by omega)) (all_cons h1 (all_cons (decide_eq_false h0) (all_cons (qi6 (by omega)) (all_cons (qea _) (all_cons (qea _) (all_cons ⟨hP,(j8q hi).trans hb⟩ qba))))))) ?_
  exact q2c hA (q2c (all_cons (qea _) (all_cons (qea _) (all_cons ⟨hT,hb⟩ qba))) (q2c hB (all_cons (qmm (q13 ht)) (all_cons (qmm ht) (all_cons (q03 (jxe t)) qba)))))
theorem qiy {x y:Sl} (hx:x.o+x.n≤x.N) (hx':x.n≤1000) (hy:y.o+y.n≤y.N) (hy':y.n≤1000) (h:SlEq x y):∀ q∈olE x y,q:=all_cons (qmm ⟨hx,by omega⟩) (all_cons (qmm ⟨hy,by omega⟩) (all_cons (q03 h) qba))
end
theorem jze {t:Sl} {g:Int}:ogL (slP t) g=(ogN t g).toNat - 16:=by
  show (((ogN t g).toNat:Nat):Int).toNat - 16=_
  rw [Int.toNat_natCast]
theorem ol_law {w:World} {β:Val} (hH:HeapRel Tryz.prog (fun _=>False) w β (shaH [tabR]) w) (hG:GlobRel qef β) (p v:Int) {a0:Option Addr} {len0 cap0:Nat} {X:Nat→BitVec 8} (h0:ByteRow w a0 len0 cap0 X) (u sp sv:Int) {a1:Option Addr} {len1 cap1:Nat} {Y:Nat→BitVec 8} (h1:ByteRow w a1 len1 cap1 Y) :
    Calls Tryz.prog 4 #[.agg #[.int .i64 p,.int .i64 v,.slice a0 len0 cap0],.int .i64 u,.agg #[.int .i64 sp,.int .i64 sv,.slice a1 len1 cap1]] w fun e w'=>e=.returned (.bool true)∧Below w.heap.size w w':=by
  have hcv:∀ e,CfgOK (q10 (oqS e) (oqS e)):=fun e=>q9j (oqOK _) (roqOK _)
  have args:∀ {γ:Val} {s:SV} {y:Value},s.den γ=some y→SV.denL γ [kyV p v a0 len0 cap0,.int .i64 (.sym u),.agg [.int .i64 (.sym sp),.int .i64 (.sym sv),s]]=some [.agg #[.int .i64 p,.int .i64 v,.slice a0 len0 cap0],.int .i64 u,.agg #[.int .i64 sp,.int .i64 sv,y]]:=fun {γ s y} h=>by
    refine denL_cons.2 ⟨_,_,rfl,denL_cons.2 ⟨_,_,rfl,denL_cons.2 ⟨_,_,?_,rfl,rfl⟩,rfl⟩,rfl⟩
    rw [SV.den]
    simp only [Option.map_eq_some_iff]
    exact ⟨_,denL_cons.2 ⟨_,_,rfl,denL_cons.2 ⟨_,_,rfl,denL_cons.2 ⟨_,_,h,rfl,rfl⟩,rfl⟩,rfl⟩,rfl⟩
  by_cases hb1:200<len1
  · exact q0e (hcv 2) 8000 hH hG (args (s:=vSl a1 len1 cap1) rfl) _ (j0u p v u sp sv a0 len0 cap0 a1 len1 cap1) (all_cons (decide_eq_true (by omega)) qba)
  have e1:decide ((len1:Int) > 200)=false:=decide_eq_false (by omega)
  by_cases hbk:40<len0
  · exact q0e (hcv 2) 8000 hH hG (args (s:=vSl a1 len1 cap1) rfl) _ (j1u p v u sp sv a0 len0 cap0 a1 len1 cap1) (all_cons e1 (all_cons (decide_eq_true (by omega)) qba))
  have e3:decide ((len0:Int) > 40)=false:=decide_eq_false (by omega)
  let T:Sl:=⟨Y,cap1,0,len1,false,cap1⟩
  have hT:len1≤cap1→okL T:=fun h=>⟨by show 0+len1≤cap1; omega,by show len1≤_; omega⟩
  have t200:T.n≤200:=by show len1≤200; omega
  by_cases hE2:¬ usQ p v u len0
  · have hP:∀ n,n≤len1→oqP 2 p v u len0 sp sv n:=fun n hn=>.inl ⟨rfl,hE2⟩
    rcases h1 with ⟨rfl,rfl,rfl⟩ | ⟨x1,rfl,hs1,hl1,hm1,hc1⟩
    · exact q0e (hcv 2) 8000 hH hG (args (s:=.nilSlice) rfl) _ (j2u p v u sp sv a0 len0 cap0) (all_cons e3 (all_cons (hP 0 (Nat.le_refl _)) (all_cons (hP 0 (Nat.le_refl _)) qnu)))
    · obtain ⟨β2,hH2,hle2,hd2⟩:=qwk (P:=Tryz.prog) hH hs1 hl1 hc1
      have hd2:((T.pl cap1).val 5).den β2=some (.slice (some x1) len1 cap1):=hd2
      have bg:=all_cons e1 (all_cons e3 qba)
      by_cases z:len1=0
      · exact q0e (hcv 2) 8000 hH2 (hG.mono hle2) (args hd2) _ (j3u p v u sp sv a0 len0 cap0 T cap1) (q2c bg (q2c (q0l true (hT hl1) t200 (decide_eq_true z)) (all_cons (hP 0 (Nat.zero_le _)) (all_cons (hP len1 (Nat.le_refl _)) (qhy (hT hl1) z)))))
      · exact q0e (hcv 2) 8000 hH2 (hG.mono hle2) (args hd2) _ (j4u p v u sp sv a0 len0 cap0 T cap1) (q2c bg (q2c (q0l false (hT hl1) t200 (decide_eq_false z)) (all_cons (hP len1 (Nat.le_refl _)) (all_cons (hP len1 (Nat.le_refl _)) (qgy (hT hl1))))))
  by_cases hE9:usQ p v u len0∧(sp≠p∨¬ qkk v sv)
  · have hP:∀ n,n≤len1→oqP 9 p v u len0 sp sv n:=fun n hn=>.inr (.inl ⟨rfl,hE9.1,hE9.2⟩)
    rcases h1 with ⟨rfl,rfl,rfl⟩ | ⟨x1,rfl,hs1,hl1,hm1,hc1⟩
    · exact q0e (hcv 9) 8000 hH hG (args (s:=.nilSlice) rfl) _ (j5u p v u sp sv a0 len0 cap0) (all_cons e3 (all_cons (hP 0 (Nat.le_refl _)) (all_cons (hP 0 (Nat.le_refl _)) qnu)))
    · obtain ⟨β2,hH2,hle2,hd2⟩:=qwk (P:=Tryz.prog) hH hs1 hl1 hc1
      have hd2:((T.pl cap1).val 5).den β2=some (.slice (some x1) len1 cap1):=hd2
      have bg:=all_cons e1 (all_cons e3 qba)
      by_cases z:len1=0
      · exact q0e (hcv 9) 8000 hH2 (hG.mono hle2) (args hd2) _ (j6u p v u sp sv a0 len0 cap0 T cap1) (q2c bg (q2c (q0l true (hT hl1) t200 (decide_eq_true z)) (all_cons (hP 0 (Nat.zero_le _)) (all_cons (hP len1 (Nat.le_refl _)) (qhy (hT hl1) z)))))
      · exact q0e (hcv 9) 8000 hH2 (hG.mono hle2) (args hd2) _ (j7u p v u sp sv a0 len0 cap0 T cap1) (q2c bg (q2c (q0l false (hT hl1) t200 (decide_eq_false z)) (all_cons (hP len1 (Nat.le_refl _)) (all_cons (hP len1 (Nat.le_refl _)) (qgy (hT hl1))))))
  by_cases hE4:usQ p v u len0∧sp=p∧qkk v sv∧len1<16+len0
  · have hP:∀ n,n≤len1→oqP 4 p v u len0 sp sv n:=fun n hn=>.inr (.inr ⟨rfl,hE4.1,hE4.2.1,hE4.2.2.1,by omega⟩)
    rcases h1 with ⟨rfl,rfl,rfl⟩ | ⟨x1,rfl,hs1,hl1,hm1,hc1⟩
    · exact q0e (hcv 4) 8000 hH hG (args (s:=.nilSlice) rfl) _ (j8u p v u sp sv a0 len0 cap0) (all_cons e3 (all_cons (hP 0 (Nat.le_refl _)) (all_cons (hP 0 (Nat.le_refl _)) qnu)))
    · obtain ⟨β2,hH2,hle2,hd2⟩:=qwk (P:=Tryz.prog) hH hs1 hl1 hc1
      have hd2:((T.pl cap1).val 5).den β2=some (.slice (some x1) len1 cap1):=hd2
      have bg:=all_cons e1 (all_cons e3 qba)
      by_cases z:len1=0
      · exact q0e (hcv 4) 8000 hH2 (hG.mono hle2) (args hd2) _ (j9u p v u sp sv a0 len0 cap0 T cap1) (q2c bg (q2c (q0l true (hT hl1) t200 (decide_eq_true z)) (all_cons (hP 0 (Nat.zero_le _)) (all_cons (hP len1 (Nat.le_refl _)) (qhy (hT hl1) z)))))
      · exact q0e (hcv 4) 8000 hH2 (hG.mono hle2) (args hd2) _ (jav p v u sp sv a0 len0 cap0 T cap1) (q2c bg (q2c (q0l false (hT hl1) t200 (decide_eq_false z)) (all_cons (hP len1 (Nat.le_refl _)) (all_cons (hP len1 (Nat.le_refl _)) (qgy (hT hl1))))))
  have hval:usQ p v u len0:=Classical.byContradiction fun h=>hE2 h
  have hsp:sp=p:=Classical.byContradiction fun h=>hE9 ⟨hval,.inl h⟩
  have hvs:qkk v sv:=Classical.byContradiction fun h=>hE9 ⟨hval,.inr h⟩
  have h16:16+len0≤len1:=Classical.byContradiction fun h=>hE4 ⟨hval,hsp,hvs,by omega⟩
  have hi:∃ i:Nat,(i=1∨i=2)∧p=i∧len0=tagN i:=by
    rcases hval.1.1 with ⟨hp,hn⟩ | ⟨hp,hn⟩
    · exact ⟨1,.inl rfl,hp,hn⟩
    · exact ⟨2,.inr rfl,hp,hn⟩
  obtain ⟨i,hi,rfl,rfl⟩:=hi
  have htag:=jcv hi
  rcases h0 with ⟨_,h,_⟩ | ⟨x0,rfl,hs0,hl0,hm0,hc0⟩
  · omega
  rcases h1 with ⟨_,h,_⟩ | ⟨x1,rfl,hs1,hl1,hm1,hc1⟩
  · omega
  obtain ⟨β1,hH1,hle1,hd0⟩:=qwk (P:=Tryz.prog) hH hs0 hl0 hc0
  obtain ⟨β2,hH2,hle2,hd1⟩:=qwk (P:=Tryz.prog) hH1 hs1 hl1 hc1
  have hG2:GlobRel qef β2:=(hG.mono hle1).mono hle2
  let k:Sl:=⟨X,cap0,0,tagN i,false,cap0⟩
  have hd0:(SV.slice ⟨5,.lit 0⟩ (.sym (tagN i)) (.sym cap0)).den β1=some (.slice (some x0) (tagN i) cap0):=hd0
  have hd1:((T.pl cap1).val 6).den β2=some (.slice (some x1) len1 cap1):=hd1
  have hka:∀ {γ:Val},(SV.slice ⟨5,.lit 0⟩ (.sym (tagN i)) (.sym cap0)).den γ=some (.slice (some x0) (tagN i) cap0)→(SV.agg [.int .i64 (.lit i),.int .i64 (.sym v),(k.pl cap0).valN 5 (tagN i)]).den γ=some (.agg #[.int .i64 i,.int .i64 v,.slice (some x0) (tagN i) cap0]):=by
    intro γ h
    rw [SV.den]
    simp only [Option.map_eq_some_iff]
    exact ⟨_,denL_cons.2 ⟨_,_,rfl,denL_cons.2 ⟨_,_,rfl,denL_cons.2 ⟨_,_,h,rfl,rfl⟩,rfl⟩,rfl⟩,rfl⟩
  have ha:SV.denL β2 (roA i (tagN i) v u sp sv (k.pl cap0) (T.pl cap1))=some [.agg #[.int .i64 i,.int .i64 v,.slice (some x0) (tagN i) cap0],.int .i64 u,.agg #[.int .i64 sp,.int .i64 sv,.slice (some x1) len1 cap1]]:=by
    refine denL_cons.2 ⟨_,_,hka (SV.den_mono hle2 _ hd0),denL_cons.2 ⟨_,_,rfl,denL_cons.2 ⟨_,_,?_,rfl,rfl⟩,rfl⟩,rfl⟩
    rw [SV.den]
    simp only [Option.map_eq_some_iff]
    exact ⟨_,denL_cons.2 ⟨_,_,rfl,denL_cons.2 ⟨_,_,rfl,denL_cons.2 ⟨_,_,hd1,rfl,rfl⟩,rfl⟩,rfl⟩,rfl⟩
  have hK:∀ n,n=tagN i→okL ((k.pl cap0).len n):=fun n hn=>⟨by show 0+n≤cap0; omega,by show n≤_; omega⟩
  have hT':=hT hl1
  have hN16:ogN T 16=(len1:Int) - 16:=rfl
  have hN32:ogN T 32=(len1:Int) - 32:=rfl
  rcases hi with rfl | rfl
  · have h16:16+16≤len1:=h16
    have hL:ogL (slP T) 16=len1 - 16 - 16:=by rw [jze]; omega
    have hR:roN (T.pl cap1) 16=len1 - 16 - 16:=by show (ogN T 16).toNat - 16=_; omega
    cases hb:opT1 shaF 1 ((k.pl cap0).len 16) u (T.pl cap1) with
    | false=>exact q0e (q9j (SumAt.upQ (SumAt.up (joe (.inl rfl)))) (jse (.inl rfl))) 8000 hH2 hG2 ha _ (jte shaF v u sp sv k T cap0 cap1) (q1l (k:=k) (K:=((k.pl cap0).len 16)) (t:=T) (m2:=cap1) (.inl rfl) hval hsp hvs (hK 16 rfl) hT' h16 t200 hb qba qba)
    | true =>
      by_cases z:len1=16+16
      · exact q0e (q9j (SumAt.upQ (SumAt.up (qz0 (.inl rfl)))) (q00 (.inl rfl))) 8000 hH2 hG2 ha _ (j6q shaF decF v u sp sv k T cap0 cap1) (q1l (k:=k) (K:=((k.pl cap0).len 16)) (t:=T) (m2:=cap1) (.inl rfl) hval hsp hvs (hK 16 rfl) hT' h16 t200 hb (all_cons (by show (((ogL (slP T) 16:Nat):Int) == 0)=_; rw [beq_iff_eq]; omega) qba) (all_cons (by show (((roN (T.pl cap1) 16:Nat):Int) == 0)=_; rw [beq_iff_eq]; omega) (qiy (by show 0+ogL (slP T) 16≤(ogN T 16).toNat; omega) (by show ogL (slP T) 16≤_; omega) (by have:=qvz (qha (qaa (rdL shaF ((k.pl cap0).len 16) 16 u 0xaa#8)) 0) (qha (qaa (tabB (fun _=>0#8) 16)) 0) (fun j=>T.X (T.o+j)) (ogN T 16).toNat; show 0+roN (T.pl cap1) 16≤lenN (decF (qha (qaa (rdL shaF ((k.pl cap0).len 16) 16 u 0xaa#8)) 0) (qha (qaa (tabB (fun _=>0#8) 16)) 0) (fun j=>T.X (T.o+j)) (ogN T 16).toNat); omega) (by show roN (T.pl cap1) 16≤_; omega) jye)))
      · exact q0e (q9j (SumAt.upQ (SumAt.up (qz0 (.inl rfl)))) (q00 (.inl rfl))) 8000 hH2 hG2 ha _ (jyu shaF decF v u sp sv k T cap0 cap1) (q1l (k:=k) (K:=((k.pl cap0).len 16)) (t:=T) (m2:=cap1) (.inl rfl) hval hsp hvs (hK 16 rfl) hT' h16 t200 hb (all_cons (by show (((ogL (slP T) 16:Nat):Int) == 0)=_; rw [beq_eq_false_iff_ne]; omega) qba) (all_cons (by show (((roN (T.pl cap1) 16:Nat):Int) == 0)=_; rw [beq_eq_false_iff_ne]; omega) (qiy (by show 16+ogL (slP T) 16≤(ogN T 16).toNat; omega) (by show ogL (slP T) 16≤_; omega) (by have:=qvz (qha (qaa (rdL shaF ((k.pl cap0).len 16) 16 u 0xaa#8)) 0) (qha (qaa (tabB (fun _=>0#8) 16)) 0) (fun j=>T.X (T.o+j)) (ogN T 16).toNat; show 16+roN (T.pl cap1) 16≤lenN (decF (qha (qaa (rdL shaF ((k.pl cap0).len 16) 16 u 0xaa#8)) 0) (qha (qaa (tabB (fun _=>0#8) 16)) 0) (fun j=>T.X (T.o+j)) (ogN T 16).toNat); omega) (by show roN (T.pl cap1) 16≤_; omega) jye)))
  · have h16:16+32≤len1:=h16
    have hL:ogL (slP T) 32=len1 - 32 - 16:=by rw [jze]; omega
    have hR:roN (T.pl cap1) 32=len1 - 32 - 16:=by show (ogN T 32).toNat - 16=_; omega
    cases hb:opT1 shaF 2 ((k.pl cap0).len 32) u (T.pl cap1) with
    | false=>exact q0e (q9j (SumAt.upQ (SumAt.up (joe (.inr rfl)))) (jse (.inr rfl))) 8000 hH2 hG2 ha _ (jue shaF v u sp sv k T cap0 cap1) (q1l (k:=k) (K:=((k.pl cap0).len 32)) (t:=T) (m2:=cap1) (.inr rfl) hval hsp hvs (hK 32 rfl) hT' h16 t200 hb qba qba)
    | true =>
      by_cases z:len1=16+32
      · exact q0e (q9j (SumAt.upQ (SumAt.up (qz0 (.inr rfl)))) (q00 (.inr rfl))) 8000 hH2 hG2 ha _ (j7q shaF decF v u sp sv k T cap0 cap1) (q1l (k:=k) (K:=((k.pl cap0).len 32)) (t:=T) (m2:=cap1) (.inr rfl) hval hsp hvs (hK 32 rfl) hT' h16 t200 hb (all_cons (by show (((ogL (slP T) 32:Nat):Int) == 0)=_; rw [beq_iff_eq]; omega) qba) (all_cons (by show (((roN (T.pl cap1) 32:Nat):Int) == 0)=_; rw [beq_iff_eq]; omega) qba))
      · exact q0e (q9j (SumAt.upQ (SumAt.up (qz0 (.inr rfl)))) (q00 (.inr rfl))) 8000 hH2 hG2 ha _ (jzu shaF decF v u sp sv k T cap0 cap1) (q1l (k:=k) (K:=((k.pl cap0).len 32)) (t:=T) (m2:=cap1) (.inr rfl) hval hsp hvs (hK 32 rfl) hT' h16 t200 hb (all_cons (by show (((ogL (slP T) 32:Nat):Int) == 0)=_; rw [beq_eq_false_iff_ne]; omega) qba) (all_cons (by show (((roN (T.pl cap1) 32:Nat):Int) == 0)=_; rw [beq_eq_false_iff_ne]; omega) (qiy (by show 0+ogL (slP T) 32≤ogL (slP T) 32; omega) (by show ogL (slP T) 32≤_; omega) (by show 0+roN (T.pl cap1) 32≤roN (T.pl cap1) 32; omega) (by show roN (T.pl cap1) 32≤_; omega) jgv)))
end Go.Proofs.YtbmgahpjgefjaaaGreatDoor.Aes
