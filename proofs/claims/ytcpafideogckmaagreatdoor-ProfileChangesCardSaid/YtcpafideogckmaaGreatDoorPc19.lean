/-
  Texts behind one another: the symbolic simulator and what it is told of the program.
-/
import Derived.Test.YtcpafideogckmaaGreatDoorCzPro24
import Derived.Test.YtcpafideogckmaaGreatDoorPc16
import Derived.Test.YtcpafideogckmaaGreatDoorPc14
import Derived.Test.YtcpafideogckmaaGreatDoorPc18
import Derived.Test.YtcpafideogckmaaGreatDoorCzRmc3
import Derived.Test.YtcpafideogckmaaGreatDoorPc11
import Derived.Test.YtcpafideogckmaaGreatDoorPc6
import Derived.WideShapes
import Derived.ChangeShapes
import Derived.ChangeSlices
import Derived.Deep.Strs
namespace Go.Proofs.YtcpafideogckmaaGreatDoor.Aes
noncomputable section
open Go.Sim
open Go.Proofs
variable {α:Type}
set_option maxRecDepth 100000
def opT1 (F:HashF) (i:Nat) (k:Sl) (u:Int) (t:Sl):Bool:=boolC (Nat.beq i 1) (eqB (tgA F k u (ocS t 16)) (otS t 16) 16) (eqB (tgB F k u (ocS t 32)) (otS t 32) 32)
def opnX (F:HashF) (D:CtsF) (i:Nat) (k:Sl) (u:Int) (t:Sl):Nat->BitVec 8:=boolC (Nat.beq i 1) (fun j=>og1D F D u k t (16+j)) (strG F (dkS F k 32 u 0xaa#8) (t.cut t.o 16) (ogX t (t.o+16)))
def opnA (H:List SO) (args:List SV) (f:SI->SI->SI->SI->SI->Sl->Nat->Sl->Nat->R α):R α:=qoc args fun kv uv zv=>kv.asAgg (.stuck 840) fun l=>qoc l fun p v s=>i64O p fun p=>i64O v fun v=>i64O uv fun u=>zv.asAgg (.stuck 840) fun l2=>qoc l2 fun sp sv ss=>i64O sp fun sp=>i64O sv fun sv=>qbf H (qcc H s fun k kn=>qcc H ss fun t tn=>boolC (qrc [kn,tn]) (f p v u sp sv k kn t tn) (.stuck 840))
def opnQ (i:Nat) (p v u sp sv:Int) (k t:Sl):Prop:=p=i/\usQ i v u k.n/\sp=i/\qxi v sv/\okL k/\okL t/\16+tagN i<=t.n/\t.n<=224+tagN i
def opnE (F:HashF) (i:Nat):Summ:=fun args H _=>opnA H args fun p v u sp sv k _ t _=>.need (opnQ i p.den v.den u.den sp.den sv.den k t/\opT1 F i k u.den t=false) (.ok ⟨opV 10,[],[]⟩)
def opnR (F:HashF) (D:CtsF) (i base:Nat) (u:Int) (k t:Sl):R SumRes:=isI (.sym (ogL t (tagN i))) 0
 (boolC (Nat.beq i 1) (.ok ⟨.tuple [.slice ⟨base,.lit 0⟩ (.sym (ogL t 16)) (.sym (ogL t 16)),.int .i64 (.lit 0)],[],[.own (.fn (qea (og1D F D u k t)) (ogN t 16).toNat) false 5]⟩) (.ok ⟨opV 0,[],[]⟩))
 (boolC (Nat.beq i 1) (.ok ⟨.tuple [.slice ⟨base,.lit 16⟩ (.sym (ogL t 16)) (.sym (ogL t 16)),.int .i64 (.lit 0)],[],[.own (.fn (qea (og1D F D u k t)) (ogN t 16).toNat) false 5]⟩)
  (.ok ⟨.tuple [q0e base (ogL t 32),.int .i64 (.lit 0)],[],[.own (.fn (qea (opnX F D 2 k u t)) (ogL t 32)) false 5]⟩))
def opnS (F:HashF) (D:CtsF) (i:Nat):Summ:=fun args H base=>opnA H args fun p v u sp sv k _ t _=>.need (opnQ i p.den v.den u.den sp.den sv.den k t/\opT1 F i k u.den t=true) (opnR F D i base u.den k t)
theorem q5u {H:List SO} {args:List SV} {f:SI->SI->SI->SI->SI->Sl->Nat->Sl->Nat->R α} {φ:α->Prop} {β:Val} {vs:List Value} (ha:SV.denL β args=some vs)
  (h:∀ p v u sp sv k kn t tn,ShaTP H->qeb kn=true->qeb tn=true->qrc [kn,tn]=true->(∀ g,∃ e',H[kn]? = some e'/\qrb g k.row e')->(∀ g,∃ e',H[tn]? = some e'/\qrb g t.row e') ->
   (∀ n i,k.n=n->p.den=i->∃ m m2,SV.denL β [.agg [.int .i64 (.lit i),.int .i64 (.sym v.den),(k.pl m).valN kn n],.int .i64 (.sym u.den),.agg [.int .i64 (.sym sp.den),.int .i64 (.sym sv.den),(t.pl m2).val tn]]=some vs)->(f p v u sp sv k kn t tn).Sat φ):(opnA H args f).Sat φ:=by
 unfold opnA
 refine qcb fun kv uv zv hv => ?_
 rcases qmc kv with ⟨l,rfl⟩ | hno
 case inr=>rw [hno]; trivial
 refine qcb fun p v s hl=>q2a fun p' hp=>q2a fun v' hv'=>q2a fun u hu => ?_
 rcases qmc zv with ⟨l2,rfl⟩ | hno
 case inr=>rw [hno]; trivial
 refine qcb fun sp sv ss hl2=>q2a fun sp' hsp=>q2a fun sv' hsv=>qkc fun hT=>qab fun k kn hn1 ht1 hi1=>qab fun t tn hn2 ht2 hi2=>qfa fun hd=>h _ _ _ _ _ _ _ _ _ hT hn1 hn2 hd ht1 ht2 fun n i hn hpi => ?_
 subst hl hp hv' hu hl2 hsp hsv
 rw [hv] at ha
 obtain ⟨⟨xs,hxs⟩,zs,hzs⟩:=qhh ha
 obtain ⟨m,hks⟩:=Sl.val_denN hn (hi1 _ _ hxs)
 obtain ⟨xu,zs1,hxu,hzs1,rfl⟩:=denL_cons.1 hzs
 obtain ⟨⟨xt,hxt⟩,zs2,hzs2⟩:=qhh hzs1
 obtain ⟨m2,_,hts⟩:=Sl.val_den (hi2 _ _ hxt)
 have h2:SV.denL β [.agg [.int .i64 (.sym sp'.den),.int .i64 (.sym sv'.den),(t.pl m2).val tn]]=some zs1:=q3g hzs1 (fun x hx=>by rw [hxt] at hx; cases hx; exact hts) (qla rfl) (qla rfl)
 have h1:=q3g (s':=(k.pl m).valN kn n) (p':=.int .i64 (.lit i)) (v':=.int .i64 (.sym v'.den)) ha (fun x hx=>by rw [hxs] at hx; cases hx; exact hks) (qla hpi) (qla rfl)
 obtain ⟨xa,ws,hxa,hws,rfl⟩:=denL_cons.1 h1
 refine ⟨m,m2,denL_cons.2 ⟨_,_,hxa,?_,rfl⟩⟩
 rw [hzs] at hws
 cases hws
 exact denL_cons.2 ⟨_,_,qla rfl _ _ hxu,h2,rfl⟩
def ogI (kn tn:Nat) (k t:Sl) (i:Int) (n:Nat) (v u sp sv:Int):Ifc:=qqa [kn,tn] [k.row,t.row] (q03 i n v u sp sv k t)
theorem qwd {β:Val} {kn tn:Nat} {k t:Sl} {i:Int} {n:Nat} {v u sp sv:Int} {vs:List Value} (h:SV.denL β [.agg [.int .i64 (.lit i),.int .i64 (.sym v),k.valN kn n],.int .i64 (.sym u),.agg [.int .i64 (.sym sp),.int .i64 (.sym sv),t.val tn]]=some vs):SV.denL β (SV.renL (ogI kn tn k t i n v u sp sv).big (ogI kn tn k t i n v u sp sv).args)=some vs:=by
 show SV.denL β [.agg [.int .i64 (.lit i),.int .i64 (.sym v),(k.valN 4 n).ren _],.int .i64 (.sym u),.agg [.int .i64 (.sym sp),.int .i64 (.sym sv),(t.val 5).ren _]]=_
 rw [Sl.valN_ren,Sl.val_ren]
 exact h
theorem q9c {H:List SO} {kn tn:Nat} {k t:Sl} {i:Int} {n:Nat} {v u sp sv:Int} (hT:ShaTP H) (hn1:qeb kn=true) (hn2:qeb tn=true) (hd:qrc [kn,tn]=true) (h1:∀ g,∃ e',H[kn]? = some e'/\qrb g k.row e') (h2:∀ g,∃ e',H[tn]? = some e'/\qrb g t.row e'):(ogI kn tn k t i n v u sp sv).Fits H:=by
 have n3:∀ {x:Nat},x∈[kn,tn]->qeb x=true:=by simp only [List.mem_cons,List.not_mem_nil,or_false]; rintro x (rfl | rfl) <;> assumption
 refine Ifc.fits (nd4 hd fun _=>n3) ?_ (qdb hT ⟨⟨h1 _,k.row_uses _⟩,⟨h2 _,t.row_uses _⟩,trivial⟩)
 show ((true && (true && ((k.valN 4 n).uses _ && true))) && (true && ((true && (true && ((t.val 5).uses _ && true))) && true)))=true
 rw [Sl.valN_uses _ _ _ _ rfl,Sl.val_uses _ _ _ rfl]; rfl
theorem qxd {i:Int} {v u sp:Int} {t:Sl} {l:Nat} {g:Int} {b:Bool} {vs r:List Prop} (hq:usQ i v u l) (hsp:sp=i) (hv:∀ q∈vs,q) (hN:qza (ogN t g)) (hb:decide (ogN t g<16)=b) (hr:∀ q∈r,q):∀ q∈ogA i v u sp t l g b vs r,q :=
 all_cons ⟨rfl,hq⟩ (all_cons (by simp [hsp]) (qrd hv (all_cons hN (all_cons hb hr))))
theorem qyd {F:HashF} {u:Int} {k t:Sl} {l m:Nat} {g:Int} {y:Sl} {b:Bool} {r:List Prop} (hl:l=16\/l=32) (hg:g=l) (h16:16+l<=t.n) (ht:okL t) (h224:t.n<=224+l) (hm:t.n<=m) (hk:k.o+l<=k.N) (hdk:okK (dkS F k l u 0x55#8)) (hy:eqB y (otS t g) l = !b) (hr:∀ q∈r,q):∀ q∈ogB F u k t l m g y b r,q:=by
 have hN:ogN t g=(t.n:Int) - g:=rfl
 have h1:=ht.1
 have h2:=ht.2
 have hoc:okL (ocS t g):=⟨by show t.o+(ogN t g).toNat<=t.N; omega,by show (ogN t g).toNat<=_; omega⟩
 have hot:okL (otS t g):=⟨by show t.o+(ogN t g).toNat * 1+((t.n:Int).toNat - (ogN t g).toNat)<=t.N; omega,by show (t.n:Int).toNat - (ogN t g).toNat<=_; omega⟩
 exact all_cons (decide_eq_false (by omega)) (all_cons ⟨by omega,by omega⟩ (all_cons ⟨by omega,by omega⟩ (all_cons ⟨by omega,by omega⟩ (all_cons ⟨by omega,by omega⟩ (all_cons ⟨by omega,by omega⟩ (all_cons (decide_eq_false (by omega)) (all_cons (qda _) (all_cons hk (all_cons (qda _) (all_cons ⟨hdk,hoc⟩ (all_cons (qda _) (all_cons ⟨by omega,hot⟩ (all_cons (by rw [hy]; cases b <;> rfl) hr)))))))))))))
theorem qk6 {t:Sl} {g:Int} {l:Nat} {b:Bool} {r:List Prop} (hg:g=l) (h16:16+l<=t.n) (hb:decide (t.n=16+l)=b) (hr:∀ q∈r,q):∀ q∈ogM t g b r,q:=by
 have hN:ogN t g=(t.n:Int) - g:=rfl
 refine all_cons ⟨by omega,by omega⟩ (all_cons ⟨by omega,by omega⟩ (all_cons (by omega) (all_cons ?_ hr)))
 rw [← hb]
 by_cases h:t.n=16+l
 . rw [decide_eq_true h,decide_eq_true (by omega)]
 . rw [decide_eq_false h,decide_eq_false (by omega)]
theorem qge {F:HashF} {k:Sl} {n:Nat} {u:Int} {x:BitVec 8} (hn:n<=32):okK (dkS F k n u x):=⟨by show 0+n<=n; omega,by show n<=4096; omega⟩
theorem q3l {β:Val} {a b c d:SV} {t:Sl} {m2 tn:Nat} {vs:List Value} (h:SV.denL β [a,b,.agg [c,d,(t.pl m2).val tn]]=some vs):t.n<=m2:=by
 obtain ⟨_,zs,_,hzs,rfl⟩:=denL_cons.1 h
 obtain ⟨_,zs1,_,hzs1,rfl⟩:=denL_cons.1 hzs
 obtain ⟨⟨xt,hxt⟩,_⟩:=qhh hzs1
 rw [show (t.pl m2).val tn=.slice ⟨tn,.sym t.o⟩ (.sym t.n) (.sym m2) from rfl,qra] at hxt
 obtain ⟨A,C,hA,hC,hle,rfl⟩:=hxt
 cases hC; exact hle
theorem qlx {i:Nat} (hi12:i=1\/i=2):SumAt Tryz.prog q3b 8 (opnE shaF i):=by
 intro O w0 β H w base args vs hH hG ha
 refine q5u ha fun p v u sp sv k kn t tn hT hn1 hn2 hd ht1 ht2 harg=>fun ⟨⟨hpi,hq,hsp,hvs,hk,ht,h16,h224⟩,hb⟩ => ?_
 rcases hi12 with rfl | rfl
 . have hkn:k.n=16:=by rcases hq.1.1 with ⟨_,h⟩ | ⟨h,_⟩; exact h; cases h
   have h16:16+16<=t.n:=h16
   have h224:t.n<=224+16:=h224
   rw [hkn] at hq
   obtain ⟨m,m2,ha'⟩:=harg 16 1 hkn hpi
   have hm2:t.n<=m2:=q3l ha'
   have hN:qza (ogN t 16):=⟨by show _<=(t.n:Int) - 16; omega,by show (t.n:Int) - 16<=_; have:=ht.2; omega⟩
   have hS:decide (ogN t 16<16)=false:=decide_eq_false (by show ¬ (t.n:Int) - 16<16; omega)
   rcases qsc hvs with hv | hv | hv
   . exact qka (qvd (qmd (.inl ⟨rfl,rfl⟩))) 8000 hH (ogI kn tn (k.pl m) (t.pl m2) 1 16 v.den u.den sp.den sv.den) (qma hG) (qwd ha') (q9c hT hn1 hn2 hd ht1 ht2) [] (by simp [ogI,qqa]) (by simp) (jha shaF encF decF v.den u.den sp.den sv.den k t m m2) (qxd hq hsp hv hN hS (qyd (.inl rfl) rfl h16 ht h224 hm2 (by rw [← hkn]; exact hk.1) (qge (by omega)) hb qaa)) fun _ _=>qkb rfl rfl rfl
   . exact qka (qvd (qmd (.inl ⟨rfl,rfl⟩))) 8000 hH (ogI kn tn (k.pl m) (t.pl m2) 1 16 v.den u.den sp.den sv.den) (qma hG) (qwd ha') (q9c hT hn1 hn2 hd ht1 ht2) [] (by simp [ogI,qqa]) (by simp) (jia shaF encF decF v.den u.den sp.den sv.den k t m m2) (qxd hq hsp hv hN hS (qyd (.inl rfl) rfl h16 ht h224 hm2 (by rw [← hkn]; exact hk.1) (qge (by omega)) hb qaa)) fun _ _=>qkb rfl rfl rfl
   . exact qka (qvd (qmd (.inl ⟨rfl,rfl⟩))) 8000 hH (ogI kn tn (k.pl m) (t.pl m2) 1 16 v.den u.den sp.den sv.den) (qma hG) (qwd ha') (q9c hT hn1 hn2 hd ht1 ht2) [] (by simp [ogI,qqa]) (by simp) (jja shaF encF decF v.den u.den sp.den sv.den k t m m2) (qxd hq hsp hv hN hS (qyd (.inl rfl) rfl h16 ht h224 hm2 (by rw [← hkn]; exact hk.1) (qge (by omega)) hb qaa)) fun _ _=>qkb rfl rfl rfl
 . have hkn:k.n=32:=by rcases hq.1.1 with ⟨h,_⟩ | ⟨_,h⟩; cases h; exact h
   have h16:16+32<=t.n:=h16
   have h224:t.n<=224+32:=h224
   rw [hkn] at hq
   obtain ⟨m,m2,ha'⟩:=harg 32 2 hkn hpi
   have hm2:t.n<=m2:=q3l ha'
   have hN:qza (ogN t 32):=⟨by show _<=(t.n:Int) - 32; omega,by show (t.n:Int) - 32<=_; have:=ht.2; omega⟩
   have hS:decide (ogN t 32<16)=false:=decide_eq_false (by show ¬ (t.n:Int) - 32<16; omega)
   rcases qsc hvs with hv | hv | hv
   . exact qka (qvd (qmd (.inr ⟨rfl,rfl⟩))) 8000 hH (ogI kn tn (k.pl m) (t.pl m2) 2 32 v.den u.den sp.den sv.den) (qma hG) (qwd ha') (q9c hT hn1 hn2 hd ht1 ht2) [] (by simp [ogI,qqa]) (by simp) (jka shaF encF decF v.den u.den sp.den sv.den k t m m2) (qxd hq hsp hv hN hS (qyd (.inr rfl) rfl h16 ht h224 hm2 (by rw [← hkn]; exact hk.1) (qge (by omega)) hb qaa)) fun _ _=>qkb rfl rfl rfl
   . exact qka (qvd (qmd (.inr ⟨rfl,rfl⟩))) 8000 hH (ogI kn tn (k.pl m) (t.pl m2) 2 32 v.den u.den sp.den sv.den) (qma hG) (qwd ha') (q9c hT hn1 hn2 hd ht1 ht2) [] (by simp [ogI,qqa]) (by simp) (jla shaF encF decF v.den u.den sp.den sv.den k t m m2) (qxd hq hsp hv hN hS (qyd (.inr rfl) rfl h16 ht h224 hm2 (by rw [← hkn]; exact hk.1) (qge (by omega)) hb qaa)) fun _ _=>qkb rfl rfl rfl
   . exact qka (qvd (qmd (.inr ⟨rfl,rfl⟩))) 8000 hH (ogI kn tn (k.pl m) (t.pl m2) 2 32 v.den u.den sp.den sv.den) (qma hG) (qwd ha') (q9c hT hn1 hn2 hd ht1 ht2) [] (by simp [ogI,qqa]) (by simp) (jma shaF encF decF v.den u.den sp.den sv.den k t m m2) (qxd hq hsp hv hN hS (qyd (.inr rfl) rfl h16 ht h224 hm2 (by rw [← hkn]; exact hk.1) (qge (by omega)) hb qaa)) fun _ _=>qkb rfl rfl rfl
theorem qto {I:Ifc} {base j o n:Nat} {E:SO} {X:Nat->BitVec 8} {N:Nat} {H:List SO} (hj:I.known j=false) (ho:q6b I.ents 0=[]) (hE:H[j]? = some E) (he:E=.own (.fn (qea X) N) false 5):I.Ends base [j] ⟨.tuple [.slice ⟨base,.lit o⟩ (.sym n) (.sym n),.int .i64 (.lit 0)],[],[E]⟩ (.tuple [.slice ⟨j,.lit o⟩ (.sym n) (.sym n),.int .i64 (.lit 0)]) H:=by
 have ho':I.out base [j] j=base:=by
  unfold Ifc.out
  rw [hj]
  show base+idxN j [j]=base
  rw [show idxN j [j]=boolC (Nat.beq j j) 0 _ from rfl,Nat.beq_refl]; rfl
 have hs:I.seen [j] j=true:=by
  unfold Ifc.seen
  rw [hj]
  exact (memN_iff (n:=j) (l:=[j])).2 List.mem_cons_self
 subst he
 refine ⟨?_,?_,by rw [ho]; trivial,⟨qpf hE fun _ _=>rfl,trivial⟩⟩
 . show (SV.tuple [.slice ⟨I.out base [j] j,.lit o⟩ (.sym n) (.sym n),.int .i64 (.lit 0)]).Imp _
   rw [ho']; exact .refl _
 . show ((I.seen [j] j && true) && (true && true))=true
   rw [hs]; rfl
theorem q13 {I:Ifc} {base j n:Nat} {X:Nat->BitVec 8} {H:List SO} (hj:I.known j=false) (ho:q6b I.ents 0=[]) (hE:H[j]? = some (.own (.fn (qea X) n) false 5)):I.Ends base [j] ⟨.tuple [q0e base n,.int .i64 (.lit 0)],[],[.own (.fn (qea X) n) false 5]⟩ (.tuple [q0e j n,.int .i64 (.lit 0)]) H:=by
 have ho':I.out base [j] j=base:=by
  unfold Ifc.out
  rw [hj]
  show base+idxN j [j]=base
  rw [show idxN j [j]=boolC (Nat.beq j j) 0 _ from rfl,Nat.beq_refl]; rfl
 have hs:I.seen [j] j=true:=by
  unfold Ifc.seen
  rw [hj]
  exact (memN_iff (n:=j) (l:=[j])).2 List.mem_cons_self
 refine ⟨?_,?_,by rw [ho]; trivial,⟨qpf hE fun _ _=>rfl,trivial⟩⟩
 . show (SV.tuple [.slice ⟨I.out base [j] j,.lit 0⟩ (.sym n) (.rest (I.out base [j] j) 0),.int .i64 (.lit 0)]).Imp _
   rw [ho']; exact .refl _
 . show ((I.seen [j] j && I.seen [j] j) && (true && true))=true
   rw [hs]; rfl
theorem qfn {i:Nat} (hi12:i=1\/i=2):SumAt Tryz.prog q3b 8 (opnS shaF decF i):=by
 intro O w0 β H w base args vs hH hG ha
 refine q5u ha fun p v u sp sv k kn t tn hT hn1 hn2 hd ht1 ht2 harg=>fun ⟨⟨hpi,hq,hsp,hvs,hk,ht,h16,h224⟩,hb⟩ => ?_
 rcases hi12 with rfl | rfl
 . have hkn:k.n=16:=by rcases hq.1.1 with ⟨_,h⟩ | ⟨h,_⟩; exact h; cases h
   have h16:16+16<=t.n:=h16
   have h224:t.n<=224+16:=h224
   rw [hkn] at hq
   obtain ⟨m,m2,ha'⟩:=harg 16 1 hkn hpi
   have hm2:t.n<=m2:=q3l ha'
   have hN:qza (ogN t 16):=⟨by show _<=(t.n:Int) - 16; omega,by show (t.n:Int) - 16<=_; have:=ht.2; omega⟩
   have hS:decide (ogN t 16<16)=false:=decide_eq_false (by show ¬ (t.n:Int) - 16<16; omega)
   have hoN:ogN t 16=(t.n:Int) - 16:=rfl
   have hL:ogL t 16=t.n - 16 - 16:=by show (((ogN t 16).toNat:Nat):Int).toNat - 16=_; omega
   have hC:∀ {b},decide (t.n=16+16)=b->∀ q∈og1C k t b,q:=fun hb=>all_cons (qda _) (all_cons (by rw [← hkn]; exact hk.1) (all_cons (by omega) (all_cons (by omega) (all_cons (decide_eq_false (by omega)) (all_cons (decide_eq_true (by omega)) (all_cons (qda _) (all_cons ⟨by have:=ht.1; omega,by omega⟩ (qk6 rfl h16 hb qaa))))))))
   refine q1c (fun h0 => ?_) fun h0 => ?_
   . have h0:(ogL t 16:Int)=0:=h0
     rcases qsc hvs with hv | hv | hv
     . exact qka (qvd (qmd (.inl ⟨rfl,rfl⟩))) 8000 hH (ogI kn tn (k.pl m) (t.pl m2) 1 16 v.den u.den sp.den sv.den) (qma hG) (qwd ha') (q9c hT hn1 hn2 hd ht1 ht2) [15] (by simp [ogI,qqa]) (by simp) (jdj shaF encF decF v.den u.den sp.den sv.den k t m m2) (qxd hq hsp hv hN hS (qyd (.inl rfl) rfl h16 ht h224 hm2 (by rw [← hkn]; exact hk.1) (qge (by omega)) hb (hC (decide_eq_true (by omega))))) fun H2 hH2=>qto rfl rfl (List.cons.inj hH2).1 rfl
     . exact qka (qvd (qmd (.inl ⟨rfl,rfl⟩))) 8000 hH (ogI kn tn (k.pl m) (t.pl m2) 1 16 v.den u.den sp.den sv.den) (qma hG) (qwd ha') (q9c hT hn1 hn2 hd ht1 ht2) [15] (by simp [ogI,qqa]) (by simp) (jej shaF encF decF v.den u.den sp.den sv.den k t m m2) (qxd hq hsp hv hN hS (qyd (.inl rfl) rfl h16 ht h224 hm2 (by rw [← hkn]; exact hk.1) (qge (by omega)) hb (hC (decide_eq_true (by omega))))) fun H2 hH2=>qto rfl rfl (List.cons.inj hH2).1 rfl
     . exact qka (qvd (qmd (.inl ⟨rfl,rfl⟩))) 8000 hH (ogI kn tn (k.pl m) (t.pl m2) 1 16 v.den u.den sp.den sv.den) (qma hG) (qwd ha') (q9c hT hn1 hn2 hd ht1 ht2) [15] (by simp [ogI,qqa]) (by simp) (jfj shaF encF decF v.den u.den sp.den sv.den k t m m2) (qxd hq hsp hv hN hS (qyd (.inl rfl) rfl h16 ht h224 hm2 (by rw [← hkn]; exact hk.1) (qge (by omega)) hb (hC (decide_eq_true (by omega))))) fun H2 hH2=>qto rfl rfl (List.cons.inj hH2).1 rfl
   . have h0:(ogL t 16:Int)≠0:=h0
     rcases qsc hvs with hv | hv | hv
     . exact qka (qvd (qmd (.inl ⟨rfl,rfl⟩))) 8000 hH (ogI kn tn (k.pl m) (t.pl m2) 1 16 v.den u.den sp.den sv.den) (qma hG) (qwd ha') (q9c hT hn1 hn2 hd ht1 ht2) [15] (by simp [ogI,qqa]) (by simp) (j5q shaF encF decF v.den u.den sp.den sv.den k t m m2) (qxd hq hsp hv hN hS (qyd (.inl rfl) rfl h16 ht h224 hm2 (by rw [← hkn]; exact hk.1) (qge (by omega)) hb (hC (decide_eq_false (by omega))))) fun H2 hH2=>qto rfl rfl (List.cons.inj hH2).1 rfl
     . exact qka (qvd (qmd (.inl ⟨rfl,rfl⟩))) 8000 hH (ogI kn tn (k.pl m) (t.pl m2) 1 16 v.den u.den sp.den sv.den) (qma hG) (qwd ha') (q9c hT hn1 hn2 hd ht1 ht2) [15] (by simp [ogI,qqa]) (by simp) (j6q shaF encF decF v.den u.den sp.den sv.den k t m m2) (qxd hq hsp hv hN hS (qyd (.inl rfl) rfl h16 ht h224 hm2 (by rw [← hkn]; exact hk.1) (qge (by omega)) hb (hC (decide_eq_false (by omega))))) fun H2 hH2=>qto rfl rfl (List.cons.inj hH2).1 rfl
     . exact qka (qvd (qmd (.inl ⟨rfl,rfl⟩))) 8000 hH (ogI kn tn (k.pl m) (t.pl m2) 1 16 v.den u.den sp.den sv.den) (qma hG) (qwd ha') (q9c hT hn1 hn2 hd ht1 ht2) [15] (by simp [ogI,qqa]) (by simp) (j7q shaF encF decF v.den u.den sp.den sv.den k t m m2) (qxd hq hsp hv hN hS (qyd (.inl rfl) rfl h16 ht h224 hm2 (by rw [← hkn]; exact hk.1) (qge (by omega)) hb (hC (decide_eq_false (by omega))))) fun H2 hH2=>qto rfl rfl (List.cons.inj hH2).1 rfl
 . have hkn:k.n=32:=by rcases hq.1.1 with ⟨h,_⟩ | ⟨_,h⟩; cases h; exact h
   have h16:16+32<=t.n:=h16
   have h224:t.n<=224+32:=h224
   rw [hkn] at hq
   obtain ⟨m,m2,ha'⟩:=harg 32 2 hkn hpi
   have hm2:t.n<=m2:=q3l ha'
   have hN:qza (ogN t 32):=⟨by show _<=(t.n:Int) - 32; omega,by show (t.n:Int) - 32<=_; have:=ht.2; omega⟩
   have hS:decide (ogN t 32<16)=false:=decide_eq_false (by show ¬ (t.n:Int) - 32<16; omega)
   have hoN:ogN t 32=(t.n:Int) - 32:=rfl
   have hL:ogL t 32=t.n - 32 - 16:=by show (((ogN t 32).toNat:Nat):Int).toNat - 16=_; omega
   have hC:∀ {b o},decide (t.n=16+32)=b->t.o<=o->o+(t.n - 32 - 16)<=t.N->∀ q∈og2C shaF u.den k t o b b,q:=fun {b o} hb ho1 ho2=>all_cons (qda _) (all_cons (by rw [← hkn]; exact hk.1) (all_cons (by omega) (qk6 rfl h16 hb (all_cons (qda _) (all_cons ⟨qge (by omega),⟨by show t.o+16<=t.N; have:=ht.1; omega,by show 16<=_; omega⟩,⟨by show o+ogL t 32<=t.N; omega,by show ogL t 32<=_; have:=ht.2; omega⟩⟩ (all_cons (by
    rw [hL,← hb]
    by_cases h:t.n=16+32
    . rw [decide_eq_true h,beq_iff_eq]; omega
    . rw [decide_eq_false h,beq_eq_false_iff_ne]; omega) qaa))))))
   refine q1c (fun h0 => ?_) fun h0 => ?_
   . have h0:(ogL t 32:Int)=0:=h0
     rcases qsc hvs with hv | hv | hv
     . exact qka (qvd (qmd (.inr ⟨rfl,rfl⟩))) 8000 hH (ogI kn tn (k.pl m) (t.pl m2) 2 32 v.den u.den sp.den sv.den) (qma hG) (qwd ha') (q9c hT hn1 hn2 hd ht1 ht2) [] (by simp [ogI,qqa]) (by simp) (jgj shaF encF decF v.den u.den sp.den sv.den k t m m2) (qxd hq hsp hv hN hS (qyd (.inr rfl) rfl h16 ht h224 hm2 (by rw [← hkn]; exact hk.1) (qge (by omega)) hb (hC (decide_eq_true (by omega)) (Nat.le_refl _) (by have:=ht.1; omega)))) fun _ _=>qkb rfl rfl rfl
     . exact qka (qvd (qmd (.inr ⟨rfl,rfl⟩))) 8000 hH (ogI kn tn (k.pl m) (t.pl m2) 2 32 v.den u.den sp.den sv.den) (qma hG) (qwd ha') (q9c hT hn1 hn2 hd ht1 ht2) [] (by simp [ogI,qqa]) (by simp) (jhj shaF encF decF v.den u.den sp.den sv.den k t m m2) (qxd hq hsp hv hN hS (qyd (.inr rfl) rfl h16 ht h224 hm2 (by rw [← hkn]; exact hk.1) (qge (by omega)) hb (hC (decide_eq_true (by omega)) (Nat.le_refl _) (by have:=ht.1; omega)))) fun _ _=>qkb rfl rfl rfl
     . exact qka (qvd (qmd (.inr ⟨rfl,rfl⟩))) 8000 hH (ogI kn tn (k.pl m) (t.pl m2) 2 32 v.den u.den sp.den sv.den) (qma hG) (qwd ha') (q9c hT hn1 hn2 hd ht1 ht2) [] (by simp [ogI,qqa]) (by simp) (jij shaF encF decF v.den u.den sp.den sv.den k t m m2) (qxd hq hsp hv hN hS (qyd (.inr rfl) rfl h16 ht h224 hm2 (by rw [← hkn]; exact hk.1) (qge (by omega)) hb (hC (decide_eq_true (by omega)) (Nat.le_refl _) (by have:=ht.1; omega)))) fun _ _=>qkb rfl rfl rfl
   . have h0:(ogL t 32:Int)≠0:=h0
     rcases qsc hvs with hv | hv | hv
     . exact qka (qvd (qmd (.inr ⟨rfl,rfl⟩))) 8000 hH (ogI kn tn (k.pl m) (t.pl m2) 2 32 v.den u.den sp.den sv.den) (qma hG) (qwd ha') (q9c hT hn1 hn2 hd ht1 ht2) [14] (by simp [ogI,qqa]) (by simp) (j8q shaF encF decF v.den u.den sp.den sv.den k t m m2) (qxd hq hsp hv hN hS (qyd (.inr rfl) rfl h16 ht h224 hm2 (by rw [← hkn]; exact hk.1) (qge (by omega)) hb (hC (decide_eq_false (by omega)) (Nat.le_add_right _ _) (by have:=ht.1; omega)))) fun H2 hH2=>q13 rfl rfl (List.cons.inj hH2).1
     . exact qka (qvd (qmd (.inr ⟨rfl,rfl⟩))) 8000 hH (ogI kn tn (k.pl m) (t.pl m2) 2 32 v.den u.den sp.den sv.den) (qma hG) (qwd ha') (q9c hT hn1 hn2 hd ht1 ht2) [14] (by simp [ogI,qqa]) (by simp) (j9q shaF encF decF v.den u.den sp.den sv.den k t m m2) (qxd hq hsp hv hN hS (qyd (.inr rfl) rfl h16 ht h224 hm2 (by rw [← hkn]; exact hk.1) (qge (by omega)) hb (hC (decide_eq_false (by omega)) (Nat.le_add_right _ _) (by have:=ht.1; omega)))) fun H2 hH2=>q13 rfl rfl (List.cons.inj hH2).1
     . exact qka (qvd (qmd (.inr ⟨rfl,rfl⟩))) 8000 hH (ogI kn tn (k.pl m) (t.pl m2) 2 32 v.den u.den sp.den sv.den) (qma hG) (qwd ha') (q9c hT hn1 hn2 hd ht1 ht2) [14] (by simp [ogI,qqa]) (by simp) (jar shaF encF decF v.den u.den sp.den sv.den k t m m2) (qxd hq hsp hv hN hS (qyd (.inr rfl) rfl h16 ht h224 hm2 (by rw [← hkn]; exact hk.1) (qge (by omega)) hb (hC (decide_eq_false (by omega)) (Nat.le_add_right _ _) (by have:=ht.1; omega)))) fun H2 hH2=>q13 rfl rfl (List.cons.inj hH2).1
end
noncomputable section
open Go.Sim
open Go.Proofs
variable {α:Type}
set_option maxRecDepth 100000
end
noncomputable section
open Go.Sim
open Go.Proofs
variable {α:Type}
set_option maxRecDepth 1000000
def smY (F:HashF) (k:Sl) (u:Int) (n:Nat) (t:Sl):Sl:=⟨qba (tabB (qba (tagS F (dkS F k n u 0x99#8) t)) 32),32,0,n,false,n⟩
def smL (F:HashF) (k:Sl) (u:Int) (n:Nat) (t:Sl):List (BitVec 8):=tabB (smY F k u n t).F n
section
variable (F:HashF) (v u:Int) (k t:Sl) (m m2:Nat)
end
end
noncomputable section
open Go.Sim
open Go.Proofs
variable {α:Type}
set_option maxRecDepth 1000000
def smA1 (F:HashF) (k:Sl) (u:Int) (i n:Nat) (b:Sl):Sl:=⟨qba (smL F (k.len n) u (tagN i) b),n,0,n,true,0⟩
section
variable (F:HashF) (v u:Int) (k b s:Sl) (m m2 m3:Nat)
end
end
noncomputable section
open Go.Sim
open Go.Proofs
variable {α:Type}
set_option maxRecDepth 1000000
def jwm:Cfg:=qle (qbb [(33,vyS)])
theorem jbr:CfgOK jwm:=q8b (all1 rvyOK)
def ruT (p v u:Int) (y:Option Addr) (l m:Nat):Tree:=qca jwm 400 18 [kyV p v y l m,.int .i64 (.sym u)] []
section
variable (p v u:Int) (y:Option Addr) (l m:Nat)
theorem ru_a:outO [] (ruT p v u y l m) [false,false,false]=(repN (vlB p v l=false) 3,some (.bool (.lit false),[])):=by kernel_rfl
theorem ru_b:outO [] (ruT p v u y l m) [true,false,false,false]=((vlB p v l=true)::repN (decide (u>=1)=false) 3,some (.bool (.lit false),[])):=by kernel_rfl
theorem ru_c:outO [] (ruT p v u y l m) [true,true]=([vlB p v l=true,decide (u>=1)=true],some (.bool (.sym (decide (u<=1023))),[])):=by kernel_rfl
end
def ruS (b:Bool):Summ:=fun args _ _=>qdd args fun kv uv=>keyN kv fun p v l=>i64O uv fun u=>.need (usQ p.den v.den u.den l↔b=true) (.ok ⟨.bool (.lit b),[],[]⟩)
theorem ruOK {b:Bool}:q3a Tryz.prog 18 (ruS b):=by
 intro glob O w0 β H w base args vs hH hG ha
 refine qnb fun kv uv hv=>qrf fun p v s n hk hs=>q2a fun u hu=>fun hq => ?_
 subst hv hk hu
 obtain ⟨y,m,ha'⟩:=qsf ha hs
 have ha2:SV.denL β [kyV p.den v.den y n m,.int .i64 (.sym u.den)]=some vs:=qoa (.refl _) (qoa (qla rfl) q9b) _ _ ha'
 have key:∀ {ds cs c},outO [] (ruT p.den v.den u.den y n m) ds=(cs,some (.bool c,[]))->(∀ q∈cs,q)->c.den=b->q4a Tryz.prog H β w base 18 vs ⟨.bool (.lit b),[],[]⟩:=by
  intro ds cs c hr hc hb
  exact qqb jbr rfl 400 hH ⟨[],[],[kyV p.den v.den y n m,.int .i64 (.sym u.den)]⟩ ha2 (q5c rfl) [] (by simp) (by simp) hr hc fun _ _=>qx3 rfl hb
 have no:¬ usQ p.den v.den u.den n->(SB.lit false).den=b:=fun h=>by
  show false=b
  cases b with
  | false=>rfl
  | true=>exact absurd (hq.2 rfl) h
 cases hv:vlB p.den v.den n with
 | false=>exact key (ru_a p.den v.den u.den y n m) (q8d hv 3) (no fun h=>by rw [vlB_iff.2 h.1] at hv; cases hv)
 | true =>
   by_cases h1:1<=u.den
   . refine key (ru_c p.den v.den u.den y n m) (all_cons hv (all_cons (decide_eq_true h1) qaa)) ?_
     show decide (u.den<=1023)=b
     rw [Bool.eq_iff_iff,decide_eq_true_iff,← hq]
     exact ⟨fun h=>⟨vlB_iff.1 hv,h1,h⟩,fun h=>h.2.2⟩
   . exact key (ru_b p.den v.den u.den y n m) (all_cons hv (q8d (decide_eq_false h1) 3)) (no fun h=>h1 h.2.1)
def rdkS (F:HashF) (k:Sl) (n:Nat) (u:Int) (x:BitVec 8):Sl:=⟨qba (rdL F k n u x),32,0,n,true,0⟩
section
variable (F:HashF) (v u:Int) (k b:Sl) (m m2:Nat)
end
theorem j4e {k:Sl} {u:Int} {x:BitVec 8} {n:Nat} (h1:1<=u) (h2:u<=1023) (hn:n<=32):SlEq (rdkS shaF k n u x) (dkS shaF k n u x):=⟨rfl,fun i hi=>by
 have hi:i<n:=hi
 show qba (rdL shaF k n u x) (0+i)=_
 rw [Nat.zero_add,j3e h1 h2 hn hi]; rfl⟩
end
noncomputable section
open Go.Sim
open Go.Proofs
variable {α:Type}
set_option maxRecDepth 1000000
def qrk (F:HashF):Cfg:=cfgG qud (qbb [(36,rhmS F)])
theorem qvo:CfgOK (qrk shaF):=qwb (allS q89 (by simp))
structure RtA where
 i:Int
 j:Nat
 n:Nat
 G:Nat->BitVec 8
 S:Nat->BitVec 8
inductive RtS where
 | none (S:Nat->BitVec 8)
 | inn (A:RtA)
 | out (A:RtA)
def rtG (G:Nat->BitVec 8) (n:Nat):HP:=.ent (.own (.fn (qea G) n) false 5)
def rtH (S:Nat->BitVec 8):HP:=.ent (.own (.lst (bx (tabB S 32))) true 81)
def rtM (c:Sl) (v:Int):Sl:=⟨qba (app (tabB c.F 16) (num4 v)),20,0,20,true,0⟩
def rtK (F:HashF) (k c:Sl) (v:Int):Nat->BitVec 8:=qba (tagS F (k.len 32) (rtM c v))
def rtHC (k c:Sl) (v:Int):List Prop:=[c.o+16<=c.N,IsB (qea k.X),k.o+32<=k.N/\okL (rtM c v)/\20<=1099511627712]
def rtV (i:Int):Int:=IntKind.i64.wrap (i.tdiv 32)+1
def rtx0 (t:Sl) (S:Nat->BitVec 8):BitVec 8:=t.X (t.o+0) ^^^ qba (tabB S 32) 0
def rtx (t:Sl) (A:RtA):BitVec 8:=t.X (t.o+(A.i+A.j).toNat * 1) ^^^ qba (tabB A.S 32) (0+(A.j:Int).toNat * 1)
def rtN (t:Sl) (A:RtA):Nat->BitVec 8:=catB (fun p=>A.G (0+p)) A.n (fun p=>qba [rtx t A] (0+p))
def rtTC (t:Sl) (A:RtA):List Prop:=[decide ((A.j:Int)<32)=true,qza (A.i+A.j),decide (A.i+A.j<t.n)=true,qza (A.i+A.j),0<=A.i+A.j/\A.i+A.j<t.n,t.o+(A.i+A.j).toNat * 1<t.N,0<=(A.j:Int)/\(A.j:Int)<32,0+(A.j:Int).toNat * 1<32,1<=1,0+A.n<=A.n/\IsB (qea A.G),((A.n+1) * 1<70368744177664/\A.n+1<70368744177664)/\1=1,qza ((A.j:Int)+1)]
def rtT (st:Option (Nat × Nat)) (F:HashF) (k c t:Sl):Tree:=qca ((qrk F).at st) 4000 21 [k.valN 4 32,c.valN 5 16,t.val 6] (shaH [k.row,c.row,t.row])
def rtS0 (F:HashF) (k c t:Sl):SS:=qah (rtT (some (1,7)) F k c t) [true,true]
def rtSo (F:HashF) (k c t:Sl):SS:=qah (rtT (some (1,3)) F k c t) []
def rtO (n:Nat):SV:=.slice ⟨7,.lit 0⟩ (.sym n) (.rest 7 0)
def rtR (k c t:Sl) (r:List HP):List HP:=.ent q3f::.ent q4f::.ent qpl::.ent qzw::.ent k.row::.ent c.row::.ent t.row::r
def rtC (F:HashF) (k c t:Sl) (A:RtS):Cut:=RtS.rec (motive:=fun _=>Cut)
 (fun S=>⟨q2f (rtS0 F k c t).frames [[(0,k.valN 4 32),(1,c.valN 5 16),(2,t.val 6),(7,.nilSlice),(8,.int .i64 (.lit 0)),(10,.slice ⟨7,.lit 0⟩ (.lit 32) (.lit 32)),(11,.int .i64 (.lit 0))]],rtR k c t [rtH S]⟩)
 (fun A=>⟨q2f (rtS0 F k c t).frames [[(0,k.valN 4 32),(1,c.valN 5 16),(2,t.val 6),(7,rtO A.n),(8,.int .i64 (.sym A.i)),(10,.slice ⟨8,.lit 0⟩ (.lit 32) (.lit 32)),(11,.int .i64 (.sym A.j))]],rtR k c t [rtG A.G A.n,rtH A.S]⟩)
 (fun A=>⟨q2f (rtSo F k c t).frames [[(0,k.valN 4 32),(1,c.valN 5 16),(2,t.val 6),(7,rtO A.n),(8,.int .i64 (.sym A.i))]],rtR k c t [rtG A.G A.n]⟩) A
def rtX (F:HashF) (k c t:Sl) (m m2 m3:Nat) (A:RtS) (J:Junk) (st:Option (Nat × Nat)):Tree:=sim1 ((qrk F).at st) 4000 ((rtC F (k.pl m) (c.pl m2) (t.pl m3) A).fill J)
section
variable (F:HashF) (k c t:Sl) (m m2 m3:Nat) (S:Nat->BitVec 8) (A:RtA) (J:Junk) (z:Nat->Nat->Nat)
theorem jcr:outL [] (rtC F (k.pl m) (c.pl m2) (t.pl m3) (.none S)) [0,1,2,3,4,5,6,11] (rtT (some (1,7)) F (k.pl m) (c.pl m2) (t.pl m3)) [true,true] z =
  ((decide ((0:Int)<t.n)=true)::rtHC k c 1,some (.inr (q0b [] [] (qhb [0,1,2,3,4,5,6,11] 12 (rtC F (k.pl m) (c.pl m2) (t.pl m3) (.none (rtK F k c 1))))))):=by kernel_rfl
theorem jjj:outL [] (rtC F (k.pl m) (c.pl m2) (t.pl m3) (.inn A)) [0,1,2,3,4,5,6,9,7] (rtX F k c t m m2 m3 (.none S) J (some (1,7))) [true] z =
  ([decide ((0:Int)<t.n)=true,0<t.n,t.o+0<t.N],some (.inr (q0b [(0,7,.slice ⟨9,.lit 0⟩ (.lit 1) (.rest 9 0)),(0,8,.int .i64 (.lit 0)),(0,11,.int .i64 (.lit 1))] [(7,.ent (.own (.lst (bx [rtx0 t S])) false 5))] (qhb [0,1,2,3,4,5,6,9,7] 10 (rtC F (k.pl m) (c.pl m2) (t.pl m3) (.inn ⟨0,1,1,qba [rtx0 t S],S⟩)))))):=by kernel_rfl
theorem jdr:outL [] (rtC F (k.pl m) (c.pl m2) (t.pl m3) (.inn A)) [0,1,2,3,4,5,6,10,8] (rtX F k c t m m2 m3 (.inn A) J (some (1,7))) [true,true] z =
  (rtTC t A,some (.inr (q0b [] [] (qhb [0,1,2,3,4,5,6,10,8] 11 (rtC F (k.pl m) (c.pl m2) (t.pl m3) (.inn ⟨A.i,A.j+1,A.n+1,rtN t A,A.S⟩)))))):=by kernel_rfl
theorem jkj:outL [] (rtC F (k.pl m) (c.pl m2) (t.pl m3) (.out A)) [0,1,2,3,4,5,6,7] (rtX F k c t m m2 m3 (.inn A) J (some (1,3))) [true,false] z =
  ([decide ((A.j:Int)<32)=true,qza (A.i+A.j),decide (A.i+A.j<t.n)=false,qza (A.i+1)],some (.inr (q0b [] [] (qhb [0,1,2,3,4,5,6,7] 9 (rtC F (k.pl m) (c.pl m2) (t.pl m3) (.out ⟨A.i+1,A.j,A.n,A.G,A.S⟩)))))):=by kernel_rfl
theorem jlj:outL [] (rtC F (k.pl m) (c.pl m2) (t.pl m3) (.out A)) [0,1,2,3,4,5,6,7] (rtX F k c t m m2 m3 (.inn A) J (some (1,3))) (repN false 7) z =
  (app (repN (decide ((A.j:Int)<32)=false) 7) [qza (A.i+1)],some (.inr (q0b [] [] (qhb [0,1,2,3,4,5,6,7] 9 (rtC F (k.pl m) (c.pl m2) (t.pl m3) (.out ⟨A.i+1,A.j,A.n,A.G,A.S⟩)))))):=by kernel_rfl
theorem jmj:outL [] (rtC F (k.pl m) (c.pl m2) (t.pl m3) (.out A)) [0,1,2,3,4,5,6,7] (rtX F k c t m m2 m3 (.out A) J (some (1,3))) [true,false] z =
  ([decide (A.i<t.n)=true,qza (rtV A.i),(A.i.tmod 32 == 0)=false,qza (A.i+1)],some (.inr (q0b [] [] (qhb [0,1,2,3,4,5,6,7] 8 (rtC F (k.pl m) (c.pl m2) (t.pl m3) (.out ⟨A.i+1,A.j,A.n,A.G,A.S⟩)))))):=by kernel_rfl
theorem jer:outL [] (rtC F (k.pl m) (c.pl m2) (t.pl m3) (.inn A)) [0,1,2,3,4,5,6,7,12] (rtX F k c t m m2 m3 (.out A) J (some (1,7))) [true,true] z =
  ((decide (A.i<t.n)=true)::qza (rtV A.i)::((A.i.tmod 32 == 0)=true)::rtHC k c (rtV A.i),some (.inr (q0b [(0,11,.int .i64 (.lit 0))] [] (qhb [0,1,2,3,4,5,6,7,12] 13 (rtC F (k.pl m) (c.pl m2) (t.pl m3) (.inn ⟨A.i,0,A.n,A.G,rtK F k c (rtV A.i)⟩)))))):=by kernel_rfl
theorem jmv:outL [7] (rtC F (k.pl m) (c.pl m2) (t.pl m3) (.out A)) [0,1,2,3,4,5,6,7] (rtX F k c t m m2 m3 (.out A) J none) [false] z =
  ([decide (A.i<t.n)=false],some (.inl (rtO A.n,[some (.own (.fn (qea A.G) A.n) false 5)]))):=by kernel_rfl
theorem jfr:outO [] (rtT none F (k.pl m) (c.pl m2) (t.pl m3)) [false]=([decide ((0:Int)<t.n)=false],some (.nilSlice,[])):=by kernel_rfl
theorem jnv:outO [] (qca (qrk F) 4000 21 [(k.pl m).valN 4 32,(c.pl m2).valN 5 16,.nilSlice] (shaH [k.row,c.row])) []=([],some (.nilSlice,[])):=by kernel_rfl
theorem rt_n4 (S1:Nat->BitVec 8):boolC (qvb 7 [0,1,2,3,4,5,6,11] (rtC F (k.pl m) (c.pl m2) (t.pl m3) (.none S)) (rtC F (k.pl m) (c.pl m2) (t.pl m3) (.none S1))) (allN qlb (rtC F (k.pl m) (c.pl m2) (t.pl m3) (.none S1)).heap) false=true:=by kernel_rfl
theorem rt_n2 (A1:RtA):boolC (qvb 7 [0,1,2,3,4,5,6,9,7] (rtC F (k.pl m) (c.pl m2) (t.pl m3) (.inn A)) (rtC F (k.pl m) (c.pl m2) (t.pl m3) (.inn A1))) (allN qlb (rtC F (k.pl m) (c.pl m2) (t.pl m3) (.inn A1)).heap) false=true:=by kernel_rfl
theorem rt_n3 (A1:RtA):boolC (qvb 7 [0,1,2,3,4,5,6,10,8] (rtC F (k.pl m) (c.pl m2) (t.pl m3) (.inn A)) (rtC F (k.pl m) (c.pl m2) (t.pl m3) (.inn A1))) (allN qlb (rtC F (k.pl m) (c.pl m2) (t.pl m3) (.inn A1)).heap) false=true:=by kernel_rfl
theorem jna (A1:RtA):boolC (qvb 7 [0,1,2,3,4,5,6,7] (rtC F (k.pl m) (c.pl m2) (t.pl m3) (.out A)) (rtC F (k.pl m) (c.pl m2) (t.pl m3) (.out A1))) (allN qlb (rtC F (k.pl m) (c.pl m2) (t.pl m3) (.out A1)).heap) false=true:=by kernel_rfl
theorem rt_n5 (A1:RtA):boolC (qvb 7 [0,1,2,3,4,5,6,7,12] (rtC F (k.pl m) (c.pl m2) (t.pl m3) (.inn A)) (rtC F (k.pl m) (c.pl m2) (t.pl m3) (.inn A1))) (allN qlb (rtC F (k.pl m) (c.pl m2) (t.pl m3) (.inn A1)).heap) false=true:=by kernel_rfl
theorem qkt:((((rtC F (k.pl m) (c.pl m2) (t.pl m3) (.inn A)).frames[0]?).bind fun p=>p.tmps[8]?)=some (some (.int .i64 (.sym A.i))))/\((((rtC F (k.pl m) (c.pl m2) (t.pl m3) (.inn A)).frames[0]?).bind fun p=>p.tmps[11]?)=some (some (.int .i64 (.sym (A.j:Int)))))/\((((rtC F (k.pl m) (c.pl m2) (t.pl m3) (.inn A)).frames[0]?).bind fun p=>p.tmps[7]?)=some (some (rtO A.n))):=⟨by kernel_rfl,by kernel_rfl,by kernel_rfl⟩
end
end
noncomputable section
open Go.Sim
open Go.Proofs
variable {α:Type}
set_option maxRecDepth 1000000
theorem qnc {l r:List Prop} (h:∀ q∈l,q) (h':∀ q∈r,q):∀ q∈app l r,q:=by
 intro q hq
 rw [qib,List.mem_append] at hq
 exact hq.elim (h q) (h' q)
def strR (F:HashF) (k c t:Sl):Nat->BitVec 8:=fun p=>t.X (t.o+p) ^^^ rtK F k c (((p / 32:Nat):Int)+1) (p % 32)
def RtQ (F:HashF) (k c t:Sl):RtS->Prop
 | .none S=>S=rtK F k c 1
 | .inn A=>∃ q:Nat,A.i=32 * (q:Int)/\32 * q<t.n/\A.j<=min 32 (t.n - 32 * q)/\A.n=32 * q+A.j/\A.S=rtK F k c ((q:Int)+1)/\∀ p,p<A.n->A.G p=strR F k c t p
 | .out A=>∃ e:Nat,A.i=(e:Int)/\1<=e/\e<=t.n/\A.n=min t.n (32 * ((e - 1) / 32+1))/\∀ p,p<A.n->A.G p=strR F k c t p
def rtMu (t:Sl):RtS->Nat
 | .none _=>40 * t.n+100
 | .inn A=>40 * (t.n - A.i.toNat)+(32 - A.j)
 | .out A=>40 * (t.n - A.i.toNat)+39
theorem j5e {q:Nat} (hq:q<2 ^ 50):rtV (32 * (q:Int))=(q:Int)+1:=qs3 hq
theorem qmx {e:Nat} (he:e<2 ^ 50):qza (rtV (e:Int)):=by
 unfold rtV
 rw [Int.tdiv_eq_ediv_of_nonneg (by omega),wrap_i64 ⟨by omega,by omega⟩]
 exact ⟨by omega,by omega⟩
theorem jov (c:Sl) (v:Int):okL (rtM c v):=⟨by show 0+20<=20; omega,by show 20<=_; omega⟩
theorem qkq {k c:Sl} {v:Int} (hk:k.o+32<=k.N) (hc:c.o+16<=c.N):∀ q∈rtHC k c v,q:=all_cons hc (all_cons (qda _) (all_cons ⟨hk,jov c v,by omega⟩ qaa))
def rtD (F:HashF) (k c t:Sl) (B:Nat) (v:SV) (H:List SO):Prop:=v=q0e B t.n/\∃ G,(∀ p,p<t.n->G p=strR F k c t p)/\H[B]? = some (.own (.fn (qea G) t.n) false 5)
theorem jgr {k c t:Sl} {m m2 m3:Nat} (hk:k.o+32<=k.N) (hc:c.o+16<=c.N) (ht:okL t) (hn:t.n≠0):Runs (qrk shaF) 21 [(k.pl m).valN 4 32,(c.pl m2).valN 5 16,(t.pl m3).val 6] (shaH [(k.pl m).row,(c.pl m2).row,(t.pl m3).row]) (rtD shaF k c t 7):=by
 have hbig:t.n<=1099511627776:=ht.2
 have hto:=ht.1
 refine qng qvo (rtC shaF (k.pl m) (c.pl m2) (t.pl m3)) (RtQ shaF k c t) (rtMu t) (fun g nm hg=>Nat.lt_of_lt_of_le (qbq hg) (by show 3<=7; omega)) ?_ fun A hQ J => ?_
 . exact qpg (some (1,7)) 4000 (.none (rtK shaF k c 1)) rfl (jcr shaF k c t m m2 m3 (rtK shaF k c 1)) (rt_n4 shaF k c t m m2 m3 _ _) (by simp) (by simp) (all_cons (decide_eq_true (by omega)) (qkq hk hc))
 . cases A with
   | none S =>
     have hS:S=rtK shaF k c 1:=hQ
     refine qvc (some (1,7)) 4000 (.inn ⟨0,1,1,qba [rtx0 t S],S⟩) ⟨⟨0,rfl,by omega,by show 1<=_; omega,rfl,hS,fun p hp => ?_⟩,by show 40 * (t.n - (0:Int).toNat)+(32 - 1)<40 * t.n+100; omega⟩ (jjj shaF k c t m m2 m3 S ⟨0,0,0,qba [],qba []⟩ J) (rt_n2 shaF k c t m m2 m3 _ _) ?_ ?_ (all_cons (decide_eq_true (by omega)) (all_cons (by omega) (all_cons (by omega) qaa)))
     . have hp:p<1:=hp
       have h0:p=0:=by omega
       subst h0
       show rtx0 t S=_
       unfold rtx0 strR
       rw [qqc (by omega),hS]; rfl
     . intro x hx p u hp hu
       simp only [List.mem_cons,List.not_mem_nil,or_false] at hx
       rcases hx with rfl | rfl | rfl
       . exact qwc (qkt _ _ _ _ _ _ _ _).2.2 hp hu (qke (l:=.lit 1) (l':=.sym 1) rfl)
       . exact qwc (qkt _ _ _ _ _ _ _ _).1 hp hu (qla rfl)
       . exact qwc (qkt _ _ _ _ _ _ _ _).2.1 hp hu (qla rfl)
     . intro e he E0 hE0
       simp only [List.mem_cons,List.not_mem_nil,or_false] at he
       subst he
       have hE0:some (rtG (qba [rtx0 t S]) 1)=some E0:=hE0
       cases hE0
       exact ⟨_,rfl,fun γ vs hv=>qco hv⟩
   | inn A =>
     obtain ⟨q,hi,hlt,hj,hnn,hS,hG⟩:=hQ
     by_cases hjl:A.j<32
     . by_cases hl:A.i+A.j<t.n
       . refine qvc (some (1,7)) 4000 (.inn ⟨A.i,A.j+1,A.n+1,rtN t A,A.S⟩) ⟨⟨q,hi,hlt,by show A.j+1<=_; omega,by show A.n+1=32 * q+(A.j+1); omega,hS,fun p hp => ?_⟩,by show 40 * (t.n - A.i.toNat)+(32 - (A.j+1))<40 * (t.n - A.i.toNat)+(32 - A.j); omega⟩ (jdr shaF k c t m m2 m3 A J) (rt_n3 shaF k c t m m2 m3 _ _) (by simp) (by simp)
          (all_cons (decide_eq_true (by omega)) (all_cons ⟨by omega,by omega⟩ (all_cons (decide_eq_true hl) (all_cons ⟨by omega,by omega⟩ (all_cons ⟨by omega,by omega⟩ (all_cons (by omega) (all_cons ⟨by omega,by omega⟩ (all_cons (by omega) (all_cons (by omega) (all_cons ⟨by omega,qda _⟩ (all_cons ⟨⟨by omega,by omega⟩,rfl⟩ (all_cons ⟨by omega,by omega⟩ qaa))))))))))))
         have hp:p<A.n+1:=hp
         show rtN t A p=_
         unfold rtN catB
         by_cases hpl:p<A.n
         . rw [if_pos hpl]
           show A.G (0+p)=_
           rw [Nat.zero_add]; exact hG p hpl
         . have hpe:p=32 * q+A.j:=by omega
           rw [if_neg hpl,show p - A.n=0 by omega]
           show rtx t A=_
           unfold rtx strR
           rw [qqc (by omega),hS,hpe,show (32 * q+A.j) / 32=q by omega,show (32 * q+A.j) % 32=A.j by omega,show 0+(A.j:Int).toNat * 1=A.j by omega,show (A.i+A.j).toNat * 1=32 * q+A.j by omega]
       . exact qvc (some (1,3)) 4000 (.out ⟨A.i+1,A.j,A.n,A.G,A.S⟩) ⟨⟨32 * q+1,by show A.i+1=_; omega,by omega,by omega,by show A.n=_; omega,hG⟩,by show 40 * (t.n - (A.i+1).toNat)+39<40 * (t.n - A.i.toNat)+(32 - A.j); omega⟩ (jkj shaF k c t m m2 m3 A J) (jna shaF k c t m m2 m3 _ _) (by simp) (by simp) (all_cons (decide_eq_true (by omega)) (all_cons ⟨by omega,by omega⟩ (all_cons (decide_eq_false hl) (all_cons ⟨by omega,by omega⟩ qaa))))
     . exact qvc (some (1,3)) 4000 (.out ⟨A.i+1,A.j,A.n,A.G,A.S⟩) ⟨⟨32 * q+1,by show A.i+1=_; omega,by omega,by omega,by show A.n=_; omega,hG⟩,by show 40 * (t.n - (A.i+1).toNat)+39<40 * (t.n - A.i.toNat)+(32 - A.j); omega⟩ (jlj shaF k c t m m2 m3 A J) (jna shaF k c t m m2 m3 _ _) (by simp) (by simp) (qnc (q8d (decide_eq_false (by omega)) 7) (all_cons ⟨by omega,by omega⟩ qaa))
   | out A =>
     obtain ⟨e,hi,h1,hle,hnn,hG⟩:=hQ
     by_cases hl:A.i<t.n
     . by_cases hm:e % 32=0
       . obtain ⟨q,rfl⟩:∃ q,e=32 * q:=⟨e / 32,by omega⟩
         have hi':A.i=32 * (q:Int):=by omega
         have hv:rtV A.i=(q:Int)+1:=by rw [hi']; exact j5e (by omega)
         refine qvc (some (1,7)) 4000 (.inn ⟨A.i,0,A.n,A.G,rtK shaF k c (rtV A.i)⟩) ⟨⟨q,hi',by omega,by show 0<=_; omega,by show A.n=32 * q+0; omega,by show rtK shaF k c (rtV A.i)=_; rw [hv],hG⟩,by show 40 * (t.n - A.i.toNat)+(32 - 0)<40 * (t.n - A.i.toNat)+39; omega⟩ (jer shaF k c t m m2 m3 A J) (rt_n5 shaF k c t m m2 m3 _ _) ?_ (by simp) (all_cons (decide_eq_true hl) (all_cons (by rw [hi]; exact qmx (by omega)) (all_cons (by rw [beq_iff_eq,hi',Int.tmod_eq_emod_of_nonneg (by omega)]; omega) (qkq hk hc))))
         intro x hx p u hp hu
         simp only [List.mem_cons,List.not_mem_nil,or_false] at hx
         subst hx
         exact qwc (qkt _ _ _ _ _ _ _ _).2.1 hp hu (qla rfl)
       . exact qvc (some (1,3)) 4000 (.out ⟨A.i+1,A.j,A.n,A.G,A.S⟩) ⟨⟨e+1,by show A.i+1=_; omega,by omega,by omega,by show A.n=_; omega,hG⟩,by show 40 * (t.n - (A.i+1).toNat)+39<40 * (t.n - A.i.toNat)+39; omega⟩ (jmj shaF k c t m m2 m3 A J) (jna shaF k c t m m2 m3 _ _) (by simp) (by simp) (all_cons (decide_eq_true hl) (all_cons (by rw [hi]; exact qmx (by omega)) (all_cons (by rw [beq_eq_false_iff_ne,hi,Int.tmod_eq_emod_of_nonneg (by omega)]; omega) (all_cons ⟨by omega,by omega⟩ qaa))))
     . have hend:A.n=t.n:=by omega
       refine qti none 4000 (jmv shaF k c t m m2 m3 A J) (all_cons (decide_eq_false hl) qaa) fun H hH=>⟨by rw [hend]; rfl,A.G,fun p hp=>hG p (by omega),?_⟩
       rw [← hend]
       exact (List.cons.inj hH).1
end
noncomputable section
open Go.Sim
open Go.Proofs
variable {α:Type}
set_option maxRecDepth 1000000
def rzT (st:Option (Nat × Nat)) (F:HashF) (k c t:Sl):Tree:=qca ((qrk F).at st) 4000 21 [k.valN 4 32,c.valN 5 16,t.val 5] (shaH [k.row,t.row])
def rzS0 (F:HashF) (k c t:Sl):SS:=qah (rzT (some (1,7)) F k c t) [true,true]
def rzSo (F:HashF) (k c t:Sl):SS:=qah (rzT (some (1,3)) F k c t) []
def rzO (n:Nat):SV:=.slice ⟨6,.lit 0⟩ (.sym n) (.rest 6 0)
def rzR (k _ t:Sl) (r:List HP):List HP:=.ent q3f::.ent q4f::.ent qpl::.ent qzw::.ent k.row::.ent t.row::r
def rzC (F:HashF) (k c t:Sl) (A:RtS):Cut:=RtS.rec (motive:=fun _=>Cut)
 (fun S=>⟨q2f (rzS0 F k c t).frames [[(0,k.valN 4 32),(1,c.valN 5 16),(2,t.val 5),(7,.nilSlice),(8,.int .i64 (.lit 0)),(10,.slice ⟨6,.lit 0⟩ (.lit 32) (.lit 32)),(11,.int .i64 (.lit 0))]],rzR k c t [rtH S]⟩)
 (fun A=>⟨q2f (rzS0 F k c t).frames [[(0,k.valN 4 32),(1,c.valN 5 16),(2,t.val 5),(7,rzO A.n),(8,.int .i64 (.sym A.i)),(10,.slice ⟨7,.lit 0⟩ (.lit 32) (.lit 32)),(11,.int .i64 (.sym A.j))]],rzR k c t [rtG A.G A.n,rtH A.S]⟩)
 (fun A=>⟨q2f (rzSo F k c t).frames [[(0,k.valN 4 32),(1,c.valN 5 16),(2,t.val 5),(7,rzO A.n),(8,.int .i64 (.sym A.i))]],rzR k c t [rtG A.G A.n]⟩) A
def rzX (F:HashF) (k t:Sl) (o n m m2 m3:Nat) (A:RtS) (J:Junk) (st:Option (Nat × Nat)):Tree:=sim1 ((qrk F).at st) 4000 ((rzC F (k.pl m) ((t.cut o n).pl m2) (t.pl m3) A).fill J)
section
variable (F:HashF) (k t:Sl) (o n m m2 m3:Nat) (S:Nat->BitVec 8) (A:RtA) (J:Junk) (z:Nat->Nat->Nat)
theorem jhr:outL [] (rzC F (k.pl m) ((t.cut o n).pl m2) (t.pl m3) (.none S)) [0,1,2,3,4,5,10] (rzT (some (1,7)) F (k.pl m) ((t.cut o n).pl m2) (t.pl m3)) [true,true] z =
  ((decide ((0:Int)<t.n)=true)::rtHC k (t.cut o n) 1,some (.inr (q0b [] [] (qhb [0,1,2,3,4,5,10] 11 (rzC F (k.pl m) ((t.cut o n).pl m2) (t.pl m3) (.none (rtK F k (t.cut o n) 1))))))):=by kernel_rfl
theorem jnj:outL [] (rzC F (k.pl m) ((t.cut o n).pl m2) (t.pl m3) (.inn A)) [0,1,2,3,4,5,8,6] (rzX F k t o n m m2 m3 (.none S) J (some (1,7))) [true] z =
  ([decide ((0:Int)<t.n)=true,0<t.n,t.o+0<t.N],some (.inr (q0b [(0,7,.slice ⟨8,.lit 0⟩ (.lit 1) (.rest 8 0)),(0,8,.int .i64 (.lit 0)),(0,11,.int .i64 (.lit 1))] [(6,.ent (.own (.lst (bx [rtx0 t S])) false 5))] (qhb [0,1,2,3,4,5,8,6] 9 (rzC F (k.pl m) ((t.cut o n).pl m2) (t.pl m3) (.inn ⟨0,1,1,qba [rtx0 t S],S⟩)))))):=by kernel_rfl
theorem jir:outL [] (rzC F (k.pl m) ((t.cut o n).pl m2) (t.pl m3) (.inn A)) [0,1,2,3,4,5,9,7] (rzX F k t o n m m2 m3 (.inn A) J (some (1,7))) [true,true] z =
  (rtTC t A,some (.inr (q0b [] [] (qhb [0,1,2,3,4,5,9,7] 10 (rzC F (k.pl m) ((t.cut o n).pl m2) (t.pl m3) (.inn ⟨A.i,A.j+1,A.n+1,rtN t A,A.S⟩)))))):=by kernel_rfl
theorem joj:outL [] (rzC F (k.pl m) ((t.cut o n).pl m2) (t.pl m3) (.out A)) [0,1,2,3,4,5,6] (rzX F k t o n m m2 m3 (.inn A) J (some (1,3))) [true,false] z =
  ([decide ((A.j:Int)<32)=true,qza (A.i+A.j),decide (A.i+A.j<t.n)=false,qza (A.i+1)],some (.inr (q0b [] [] (qhb [0,1,2,3,4,5,6] 8 (rzC F (k.pl m) ((t.cut o n).pl m2) (t.pl m3) (.out ⟨A.i+1,A.j,A.n,A.G,A.S⟩)))))):=by kernel_rfl
theorem jpj:outL [] (rzC F (k.pl m) ((t.cut o n).pl m2) (t.pl m3) (.out A)) [0,1,2,3,4,5,6] (rzX F k t o n m m2 m3 (.inn A) J (some (1,3))) (repN false 7) z =
  (app (repN (decide ((A.j:Int)<32)=false) 7) [qza (A.i+1)],some (.inr (q0b [] [] (qhb [0,1,2,3,4,5,6] 8 (rzC F (k.pl m) ((t.cut o n).pl m2) (t.pl m3) (.out ⟨A.i+1,A.j,A.n,A.G,A.S⟩)))))):=by kernel_rfl
theorem jqj:outL [] (rzC F (k.pl m) ((t.cut o n).pl m2) (t.pl m3) (.out A)) [0,1,2,3,4,5,6] (rzX F k t o n m m2 m3 (.out A) J (some (1,3))) [true,false] z =
  ([decide (A.i<t.n)=true,qza (rtV A.i),(A.i.tmod 32 == 0)=false,qza (A.i+1)],some (.inr (q0b [] [] (qhb [0,1,2,3,4,5,6] 7 (rzC F (k.pl m) ((t.cut o n).pl m2) (t.pl m3) (.out ⟨A.i+1,A.j,A.n,A.G,A.S⟩)))))):=by kernel_rfl
theorem jjr:outL [] (rzC F (k.pl m) ((t.cut o n).pl m2) (t.pl m3) (.inn A)) [0,1,2,3,4,5,6,11] (rzX F k t o n m m2 m3 (.out A) J (some (1,7))) [true,true] z =
  ((decide (A.i<t.n)=true)::qza (rtV A.i)::((A.i.tmod 32 == 0)=true)::rtHC k (t.cut o n) (rtV A.i),some (.inr (q0b [(0,11,.int .i64 (.lit 0))] [] (qhb [0,1,2,3,4,5,6,11] 12 (rzC F (k.pl m) ((t.cut o n).pl m2) (t.pl m3) (.inn ⟨A.i,0,A.n,A.G,rtK F k (t.cut o n) (rtV A.i)⟩)))))):=by kernel_rfl
theorem jpv:outL [6] (rzC F (k.pl m) ((t.cut o n).pl m2) (t.pl m3) (.out A)) [0,1,2,3,4,5,6] (rzX F k t o n m m2 m3 (.out A) J none) [false] z =
  ([decide (A.i<t.n)=false],some (.inl (rzO A.n,[some (.own (.fn (qea A.G) A.n) false 5)]))):=by kernel_rfl
theorem jkr:outO [] (rzT none F (k.pl m) ((t.cut o n).pl m2) (t.pl m3)) [false]=([decide ((0:Int)<t.n)=false],some (.nilSlice,[])):=by kernel_rfl
theorem rz_n4 (S1:Nat->BitVec 8):boolC (qvb 6 [0,1,2,3,4,5,10] (rzC F (k.pl m) ((t.cut o n).pl m2) (t.pl m3) (.none S)) (rzC F (k.pl m) ((t.cut o n).pl m2) (t.pl m3) (.none S1))) (allN qlb (rzC F (k.pl m) ((t.cut o n).pl m2) (t.pl m3) (.none S1)).heap) false=true:=by kernel_rfl
theorem rz_n2 (A1:RtA):boolC (qvb 6 [0,1,2,3,4,5,8,6] (rzC F (k.pl m) ((t.cut o n).pl m2) (t.pl m3) (.inn A)) (rzC F (k.pl m) ((t.cut o n).pl m2) (t.pl m3) (.inn A1))) (allN qlb (rzC F (k.pl m) ((t.cut o n).pl m2) (t.pl m3) (.inn A1)).heap) false=true:=by kernel_rfl
theorem rz_n3 (A1:RtA):boolC (qvb 6 [0,1,2,3,4,5,9,7] (rzC F (k.pl m) ((t.cut o n).pl m2) (t.pl m3) (.inn A)) (rzC F (k.pl m) ((t.cut o n).pl m2) (t.pl m3) (.inn A1))) (allN qlb (rzC F (k.pl m) ((t.cut o n).pl m2) (t.pl m3) (.inn A1)).heap) false=true:=by kernel_rfl
theorem joa (A1:RtA):boolC (qvb 6 [0,1,2,3,4,5,6] (rzC F (k.pl m) ((t.cut o n).pl m2) (t.pl m3) (.out A)) (rzC F (k.pl m) ((t.cut o n).pl m2) (t.pl m3) (.out A1))) (allN qlb (rzC F (k.pl m) ((t.cut o n).pl m2) (t.pl m3) (.out A1)).heap) false=true:=by kernel_rfl
theorem rz_n5 (A1:RtA):boolC (qvb 6 [0,1,2,3,4,5,6,11] (rzC F (k.pl m) ((t.cut o n).pl m2) (t.pl m3) (.inn A)) (rzC F (k.pl m) ((t.cut o n).pl m2) (t.pl m3) (.inn A1))) (allN qlb (rzC F (k.pl m) ((t.cut o n).pl m2) (t.pl m3) (.inn A1)).heap) false=true:=by kernel_rfl
theorem qlt:((((rzC F (k.pl m) ((t.cut o n).pl m2) (t.pl m3) (.inn A)).frames[0]?).bind fun p=>p.tmps[8]?)=some (some (.int .i64 (.sym A.i))))/\((((rzC F (k.pl m) ((t.cut o n).pl m2) (t.pl m3) (.inn A)).frames[0]?).bind fun p=>p.tmps[11]?)=some (some (.int .i64 (.sym (A.j:Int)))))/\((((rzC F (k.pl m) ((t.cut o n).pl m2) (t.pl m3) (.inn A)).frames[0]?).bind fun p=>p.tmps[7]?)=some (some (rzO A.n))):=⟨by kernel_rfl,by kernel_rfl,by kernel_rfl⟩
end
theorem jlr {k t:Sl} {o n m m2 m3:Nat} (hk:k.o+32<=k.N) (hc:(t.cut o n).o+16<=(t.cut o n).N) (ht:okL t) (hn:t.n≠0):Runs (qrk shaF) 21 [(k.pl m).valN 4 32,((t.cut o n).pl m2).valN 5 16,(t.pl m3).val 5] (shaH [(k.pl m).row,(t.pl m3).row]) (rtD shaF k (t.cut o n) t 6):=by
 have hbig:t.n<=1099511627776:=ht.2
 have hto:=ht.1
 refine qng qvo (rzC shaF (k.pl m) ((t.cut o n).pl m2) (t.pl m3)) (RtQ shaF k (t.cut o n) t) (rtMu t) (fun g nm hg=>Nat.lt_of_lt_of_le (qbq hg) (by show 3<=6; omega)) ?_ fun A hQ J => ?_
 . exact qpg (some (1,7)) 4000 (.none (rtK shaF k (t.cut o n) 1)) rfl (jhr shaF k t o n m m2 m3 (rtK shaF k (t.cut o n) 1)) (rz_n4 shaF k t o n m m2 m3 _ _) (by simp) (by simp) (all_cons (decide_eq_true (by omega)) (qkq hk hc))
 . cases A with
   | none S =>
     have hS:S=rtK shaF k (t.cut o n) 1:=hQ
     refine qvc (some (1,7)) 4000 (.inn ⟨0,1,1,qba [rtx0 t S],S⟩) ⟨⟨0,rfl,by omega,by show 1<=_; omega,rfl,hS,fun p hp => ?_⟩,by show 40 * (t.n - (0:Int).toNat)+(32 - 1)<40 * t.n+100; omega⟩ (jnj shaF k t o n m m2 m3 S ⟨0,0,0,qba [],qba []⟩ J) (rz_n2 shaF k t o n m m2 m3 _ _) ?_ ?_ (all_cons (decide_eq_true (by omega)) (all_cons (by omega) (all_cons (by omega) qaa)))
     . have hp:p<1:=hp
       have h0:p=0:=by omega
       subst h0
       show rtx0 t S=_
       unfold rtx0 strR
       rw [qqc (by omega),hS]; rfl
     . intro x hx p u hp hu
       simp only [List.mem_cons,List.not_mem_nil,or_false] at hx
       rcases hx with rfl | rfl | rfl
       . exact qwc (qlt _ _ _ _ _ _ _ _ _).2.2 hp hu (qke (l:=.lit 1) (l':=.sym 1) rfl)
       . exact qwc (qlt _ _ _ _ _ _ _ _ _).1 hp hu (qla rfl)
       . exact qwc (qlt _ _ _ _ _ _ _ _ _).2.1 hp hu (qla rfl)
     . intro e he E0 hE0
       simp only [List.mem_cons,List.not_mem_nil,or_false] at he
       subst he
       have hE0:some (rtG (qba [rtx0 t S]) 1)=some E0:=hE0
       cases hE0
       exact ⟨_,rfl,fun γ vs hv=>qco hv⟩
   | inn A =>
     obtain ⟨q,hi,hlt,hj,hnn,hS,hG⟩:=hQ
     by_cases hjl:A.j<32
     . by_cases hl:A.i+A.j<t.n
       . refine qvc (some (1,7)) 4000 (.inn ⟨A.i,A.j+1,A.n+1,rtN t A,A.S⟩) ⟨⟨q,hi,hlt,by show A.j+1<=_; omega,by show A.n+1=32 * q+(A.j+1); omega,hS,fun p hp => ?_⟩,by show 40 * (t.n - A.i.toNat)+(32 - (A.j+1))<40 * (t.n - A.i.toNat)+(32 - A.j); omega⟩ (jir shaF k t o n m m2 m3 A J) (rz_n3 shaF k t o n m m2 m3 _ _) (by simp) (by simp)
          (all_cons (decide_eq_true (by omega)) (all_cons ⟨by omega,by omega⟩ (all_cons (decide_eq_true hl) (all_cons ⟨by omega,by omega⟩ (all_cons ⟨by omega,by omega⟩ (all_cons (by omega) (all_cons ⟨by omega,by omega⟩ (all_cons (by omega) (all_cons (by omega) (all_cons ⟨by omega,qda _⟩ (all_cons ⟨⟨by omega,by omega⟩,rfl⟩ (all_cons ⟨by omega,by omega⟩ qaa))))))))))))
         have hp:p<A.n+1:=hp
         show rtN t A p=_
         unfold rtN catB
         by_cases hpl:p<A.n
         . rw [if_pos hpl]
           show A.G (0+p)=_
           rw [Nat.zero_add]; exact hG p hpl
         . have hpe:p=32 * q+A.j:=by omega
           rw [if_neg hpl,show p - A.n=0 by omega]
           show rtx t A=_
           unfold rtx strR
           rw [qqc (by omega),hS,hpe,show (32 * q+A.j) / 32=q by omega,show (32 * q+A.j) % 32=A.j by omega,show 0+(A.j:Int).toNat * 1=A.j by omega,show (A.i+A.j).toNat * 1=32 * q+A.j by omega]
       . exact qvc (some (1,3)) 4000 (.out ⟨A.i+1,A.j,A.n,A.G,A.S⟩) ⟨⟨32 * q+1,by show A.i+1=_; omega,by omega,by omega,by show A.n=_; omega,hG⟩,by show 40 * (t.n - (A.i+1).toNat)+39<40 * (t.n - A.i.toNat)+(32 - A.j); omega⟩ (joj shaF k t o n m m2 m3 A J) (joa shaF k t o n m m2 m3 _ _) (by simp) (by simp) (all_cons (decide_eq_true (by omega)) (all_cons ⟨by omega,by omega⟩ (all_cons (decide_eq_false hl) (all_cons ⟨by omega,by omega⟩ qaa))))
     . exact qvc (some (1,3)) 4000 (.out ⟨A.i+1,A.j,A.n,A.G,A.S⟩) ⟨⟨32 * q+1,by show A.i+1=_; omega,by omega,by omega,by show A.n=_; omega,hG⟩,by show 40 * (t.n - (A.i+1).toNat)+39<40 * (t.n - A.i.toNat)+(32 - A.j); omega⟩ (jpj shaF k t o n m m2 m3 A J) (joa shaF k t o n m m2 m3 _ _) (by simp) (by simp) (qnc (q8d (decide_eq_false (by omega)) 7) (all_cons ⟨by omega,by omega⟩ qaa))
   | out A =>
     obtain ⟨e,hi,h1,hle,hnn,hG⟩:=hQ
     by_cases hl:A.i<t.n
     . by_cases hm:e % 32=0
       . obtain ⟨q,rfl⟩:∃ q,e=32 * q:=⟨e / 32,by omega⟩
         have hi':A.i=32 * (q:Int):=by omega
         have hv:rtV A.i=(q:Int)+1:=by rw [hi']; exact j5e (by omega)
         refine qvc (some (1,7)) 4000 (.inn ⟨A.i,0,A.n,A.G,rtK shaF k (t.cut o n) (rtV A.i)⟩) ⟨⟨q,hi',by omega,by show 0<=_; omega,by show A.n=32 * q+0; omega,by show rtK shaF k (t.cut o n) (rtV A.i)=_; rw [hv],hG⟩,by show 40 * (t.n - A.i.toNat)+(32 - 0)<40 * (t.n - A.i.toNat)+39; omega⟩ (jjr shaF k t o n m m2 m3 A J) (rz_n5 shaF k t o n m m2 m3 _ _) ?_ (by simp) (all_cons (decide_eq_true hl) (all_cons (by rw [hi]; exact qmx (by omega)) (all_cons (by rw [beq_iff_eq,hi',Int.tmod_eq_emod_of_nonneg (by omega)]; omega) (qkq hk hc))))
         intro x hx p u hp hu
         simp only [List.mem_cons,List.not_mem_nil,or_false] at hx
         subst hx
         exact qwc (qlt _ _ _ _ _ _ _ _ _).2.1 hp hu (qla rfl)
       . exact qvc (some (1,3)) 4000 (.out ⟨A.i+1,A.j,A.n,A.G,A.S⟩) ⟨⟨e+1,by show A.i+1=_; omega,by omega,by omega,by show A.n=_; omega,hG⟩,by show 40 * (t.n - (A.i+1).toNat)+39<40 * (t.n - A.i.toNat)+39; omega⟩ (jqj shaF k t o n m m2 m3 A J) (joa shaF k t o n m m2 m3 _ _) (by simp) (by simp) (all_cons (decide_eq_true hl) (all_cons (by rw [hi]; exact qmx (by omega)) (all_cons (by rw [beq_eq_false_iff_ne,hi,Int.tmod_eq_emod_of_nonneg (by omega)]; omega) (all_cons ⟨by omega,by omega⟩ qaa))))
     . have hend:A.n=t.n:=by omega
       refine qti none 4000 (jpv shaF k t o n m m2 m3 A J) (all_cons (decide_eq_false hl) qaa) fun H hH=>⟨by rw [hend]; rfl,A.G,fun p hp=>hG p (by omega),?_⟩
       rw [← hend]
       exact (List.cons.inj hH).1
end
noncomputable section
open Go.Sim
open Go.Proofs
variable {α:Type}
set_option maxRecDepth 1000000
theorem jqv {k c:Sl} {v:Int} (hk:k.n=32) (hc:c.n=16):rtK shaF k c v=sgK shaF k c v:=by
 unfold rtK sgK tagS
 refine congrArg qba ?_
 rw [hk,hc]
 refine q4g fun i hi => ?_
 show qba (app (tabB c.F 16) (num4 v)) (0+i)=_
 rw [Nat.zero_add,j1e,qcu,qzj,hc]
 by_cases h:i<16
 . rw [if_pos h,if_pos h,qqc h]; rfl
 . rw [if_neg h,if_neg h]
   show qba (num4 v) (i - 16)=qba (num4 v) (0+(i - 16))
   rw [Nat.zero_add]
theorem ql6 {k c t:Sl} (hk:k.n=32) (hc:c.n=16) {p:Nat}:strR shaF k c t p=strG shaF k c t p:=by
 unfold strR strG
 rw [jqv hk hc]
def rstQ (k c t:Sl):Prop:=k.n=32/\c.n=16/\okL k/\okL c/\okL t
def jxm (F:HashF):Summ:=fun args H base=>qoc args fun kv cv tv=>shaT H (qcc H kv fun k kn=>qcc H cv fun c cn=>qob tv (boolC (qrc [kn,cn]) (.need (rstQ k c nilSl) (.ok ⟨.nilSlice,[],[]⟩)) (.stuck 870)) fun _ _=>qcc H tv fun t tn=>boolC (qrc [kn,cn,tn]) (.need (rstQ k c t) (isI (.sym t.n) 0 (.ok ⟨.nilSlice,[],[]⟩) (.ok (q8k base t.n (strG F k c t))))) (.stuck 870))
def rstS (F:HashF):Summ:=fun args H base=>qoc args fun kv cv tv=>qjx H cv tv (jxm F args H base) fun c t tn=>shaT H (qcc H kv fun k kn=>boolC (qrc [kn,tn]) (.need (rstQ k c t) (isI (.sym t.n) 0 (.ok ⟨.nilSlice,[],[]⟩) (.ok (q8k base t.n (strG F k c t))))) (.stuck 870))
theorem jrv:SumAt Tryz.prog qud 21 (jxm shaF):=by
 intro O w0 β H w base args vs hH hG ha
 refine qcb fun kv cv tv hv=>qzg fun hT=>qab fun k kn hn ht hk=>qab fun c cn hn2 ht2 hk2 => ?_
 rw [hv] at ha
 obtain ⟨x,ys,hx,hys,rfl⟩:=denL_cons.1 ha
 obtain ⟨y,zs,hy,hzs,rfl⟩:=denL_cons.1 hys
 obtain ⟨q,qs,hq,hqs,rfl⟩:=denL_cons.1 hzs
 refine qxa (fun hnil=>qfa fun hd=>fun ⟨h32,h16,hok,hoc,_⟩ => ?_) fun _ _ _ _=>qab fun t tn hn3 ht3 hk3=>qfa fun hd=>fun ⟨h32,h16,hok,hoc,hot⟩ => ?_
 . subst hnil
   obtain ⟨m,hx'⟩:=Sl.val_denN h32 (hk _ _ hx)
   obtain ⟨m2,hy'⟩:=Sl.val_denN h16 (hk2 _ _ hy)
   refine qka qvo 4000 hH (shaI [kn,cn] [k.row,c.row] [(k.pl m).valN 4 32,(c.pl m2).valN 5 16,.nilSlice]) (qae hG) ?_ (Ifc.fits (nd4 hd (by simp only [List.mem_cons,List.not_mem_nil,or_false]; rintro x (rfl | rfl) <;> assumption)) ?_ (q5e hT ⟨⟨ht _,k.row_uses _⟩,⟨ht2 _,c.row_uses _⟩,trivial⟩)) [] (by simp [shaI]) (by simp) (jnv shaF k c m m2) qaa fun H2 _=>qkb rfl rfl rfl
   . show SV.denL β [((k.pl m).valN 4 32).ren _,((c.pl m2).valN 5 16).ren _,.nilSlice]=_
     rw [Sl.valN_ren,Sl.valN_ren]
     exact denL_cons.2 ⟨_,_,hx',denL_cons.2 ⟨_,_,hy',denL_cons.2 ⟨_,_,hq,hqs,rfl⟩,rfl⟩,rfl⟩
   . show (((k.pl m).valN 4 32).uses _ && (((c.pl m2).valN 5 16).uses _ && (true && true)))=true
     rw [Sl.valN_uses _ _ _ _ rfl,Sl.valN_uses _ _ _ _ rfl]; rfl
 . obtain ⟨m,hx'⟩:=Sl.val_denN h32 (hk _ _ hx)
   obtain ⟨m2,hy'⟩:=Sl.val_denN h16 (hk2 _ _ hy)
   obtain ⟨m3,_,hq'⟩:=Sl.val_den (hk3 _ _ hq)
   have hkl:k.o+32<=k.N:=by have:=hok.1; omega
   have hcl:c.o+16<=c.N:=by have:=hoc.1; omega
   have hfit:Ifc.Fits (shaI [kn,cn,tn] [k.row,c.row,t.row] [(k.pl m).valN 4 32,(c.pl m2).valN 5 16,(t.pl m3).val 6]) H:=by
    refine Ifc.fits (nd4 hd (by simp only [List.mem_cons,List.not_mem_nil,or_false]; rintro x (rfl | rfl | rfl) <;> assumption)) ?_ (q5e hT ⟨⟨ht _,k.row_uses _⟩,⟨ht2 _,c.row_uses _⟩,⟨ht3 _,t.row_uses _⟩,trivial⟩)
    show (((k.pl m).valN 4 32).uses _ && (((c.pl m2).valN 5 16).uses _ && (((t.pl m3).val 6).uses _ && true)))=true
    rw [Sl.valN_uses _ _ _ _ rfl,Sl.valN_uses _ _ _ _ rfl,Sl.val_uses _ _ _ rfl]; rfl
   have harg:SV.denL β (SV.renL (shaI [kn,cn,tn] [k.row,c.row,t.row] [(k.pl m).valN 4 32,(c.pl m2).valN 5 16,(t.pl m3).val 6]).big [(k.pl m).valN 4 32,(c.pl m2).valN 5 16,(t.pl m3).val 6])=some (x::y::q::qs):=by
    show SV.denL β [((k.pl m).valN 4 32).ren _,((c.pl m2).valN 5 16).ren _,((t.pl m3).val 6).ren _]=_
    rw [Sl.valN_ren,Sl.valN_ren,Sl.val_ren]
    exact denL_cons.2 ⟨_,_,hx',denL_cons.2 ⟨_,_,hy',denL_cons.2 ⟨_,_,hq',hqs,rfl⟩,rfl⟩,rfl⟩
   refine q1c (fun h0 => ?_) fun h0 => ?_
   . have h0:(t.n:Int)=0:=h0
     exact qka qvo 4000 hH (shaI [kn,cn,tn] [k.row,c.row,t.row] [(k.pl m).valN 4 32,(c.pl m2).valN 5 16,(t.pl m3).val 6]) (qae hG) harg hfit [] (by simp [shaI]) (by simp) (jfr shaF k c t m m2 m3) (all_cons (decide_eq_false (by omega)) qaa) fun H2 _=>qkb rfl rfl rfl
   . have h0:(t.n:Int)≠0:=h0
     refine Go.Sim.sum_runs (c:=qrk shaF) hH (shaI [kn,cn,tn] [k.row,c.row,t.row] [(k.pl m).valN 4 32,(c.pl m2).valN 5 16,(t.pl m3).val 6]) (qae hG) harg hfit [7] (by simp [shaI]) (by simp) (q5f (jgr (m:=m) (m2:=m2) (m3:=m3) hkl hcl hot (by omega)) fun v H2 ⟨hv,G,hGe,hE⟩ => ?_)
     subst hv
     exact qen rfl rfl hE rfl fun p hp=>by rw [hGe p hp]; exact ql6 h32 h16
theorem jym:SumAt Tryz.prog qud 21 (rstS shaF):=by
 intro O w0 β H w base args vs hH hG ha
 refine qcb fun kv cv tv hv=>qkx (jrv O w0 β H w base args vs hH hG ha) fun t o n tn hn3 ht3 hic hit=>qzg fun hT=>qab fun k kn hn ht hk=>qfa fun hd=>fun ⟨h32,h16,hok,hoc,hot⟩ => ?_
 rw [hv] at ha
 obtain ⟨x,ys,hx,hys,rfl⟩:=denL_cons.1 ha
 obtain ⟨y,zs,hy,hzs,rfl⟩:=denL_cons.1 hys
 obtain ⟨q,qs,hq,hqs,rfl⟩:=denL_cons.1 hzs
 obtain ⟨m,hx'⟩:=Sl.val_denN h32 (hk _ _ hx)
 obtain ⟨m2,hy0⟩:=hic _ _ hy
 have h16':n=16:=h16
 have hy':(((t.cut o n).pl m2).valN tn 16).den β=some y:=qke (l:=.sym n) (l':=.lit 16) h16' _ _ hy0
 obtain ⟨m3,_,hq'⟩:=Sl.val_den (hit _ _ hq)
 have hkl:k.o+32<=k.N:=by have:=hok.1; omega
 have hcl:(t.cut o n).o+16<=(t.cut o n).N:=by have:=hoc.1; rw [h16] at this; exact this
 have hfit:Ifc.Fits (shaI [kn,tn] [(k.pl m).row,(t.pl m3).row] [(k.pl m).valN 4 32,((t.cut o n).pl m2).valN 5 16,(t.pl m3).val 5]) H:=by
  refine Ifc.fits (nd4 hd (by simp only [List.mem_cons,List.not_mem_nil,or_false]; rintro x (rfl | rfl) <;> assumption)) rfl (q5e hT ⟨⟨ht _,k.row_uses _⟩,⟨ht3 _,t.row_uses _⟩,trivial⟩)
 have harg:SV.denL β (SV.renL (shaI [kn,tn] [(k.pl m).row,(t.pl m3).row] [(k.pl m).valN 4 32,((t.cut o n).pl m2).valN 5 16,(t.pl m3).val 5]).big [(k.pl m).valN 4 32,((t.cut o n).pl m2).valN 5 16,(t.pl m3).val 5])=some (x::y::q::qs):=by
  show SV.denL β [((k.pl m).valN 4 32).ren _,(((t.cut o n).pl m2).valN 5 16).ren _,((t.pl m3).val 5).ren _]=_
  rw [Sl.valN_ren,Sl.valN_ren,Sl.val_ren]
  exact denL_cons.2 ⟨_,_,hx',denL_cons.2 ⟨_,_,hy',denL_cons.2 ⟨_,_,hq',hqs,rfl⟩,rfl⟩,rfl⟩
 refine q1c (fun h0 => ?_) fun h0 => ?_
 . have h0:(t.n:Int)=0:=h0
   exact qka qvo 4000 hH (shaI [kn,tn] [(k.pl m).row,(t.pl m3).row] [(k.pl m).valN 4 32,((t.cut o n).pl m2).valN 5 16,(t.pl m3).val 5]) (qae hG) harg hfit [] (by simp [shaI]) (by simp) (jkr shaF k t o n m m2 m3) (all_cons (decide_eq_false (by omega)) qaa) fun H2 _=>qkb rfl rfl rfl
 . have h0:(t.n:Int)≠0:=h0
   refine Go.Sim.sum_runs (c:=qrk shaF) hH (shaI [kn,tn] [(k.pl m).row,(t.pl m3).row] [(k.pl m).valN 4 32,((t.cut o n).pl m2).valN 5 16,(t.pl m3).val 5]) (qae hG) harg hfit [6] (by simp [shaI]) (by simp) (q5f (jlr (m:=m) (m2:=m2) (m3:=m3) hkl hcl hot (by omega)) fun v H2 ⟨hv,G,hGe,hE⟩ => ?_)
   subst hv
   exact qen rfl rfl hE rfl fun p hp=>by rw [hGe p hp]; exact ql6 h32 h16
end
noncomputable section
open Go.Sim
open Go.Proofs
variable {α:Type}
set_option maxRecDepth 1000000
def jzm (F:HashF) (i:Nat):Cfg:=cfgG qud (qbb [(19,rdeS F i),(36,rhmS F)])
theorem jmr {i:Nat} (hi12:i=1\/i=2):CfgOK (jzm shaF i):=qwb (allS (jsm hi12) (allS q89 (by simp)))
def rgA (i:Int) (n:Nat) (v u:Int) (k c:Sl):List SV:=[.agg [.int .i64 (.lit i),.int .i64 (.sym v),k.valN 4 n],.int .i64 (.sym u),c.val 5]
def rgT (F:HashF) (i n:Nat) (v u:Int) (k c:Sl):Tree:=qca (jzm F i) 8000 22 (rgA i n v u k c) (shaH [k.row,c.row])
def rgZ (c:Sl):Sl:=⟨catB (fun i=>qba (tabB (fun _=>0#8) 16) (0+i)) 16 (fun i=>c.X (c.o+i)),16+c.n,0,16+c.n,true,0⟩
def rgV (nm n:Nat):SV:=.slice ⟨nm,.lit 0⟩ (.lit n) (.lit 32)
section
variable (F:HashF) (v u:Int) (k c:Sl) (m m2:Nat)
theorem jnr:outO [10] (rgT F 1 16 v u (k.pl m) (c.pl m2)) []=([IsB (qea k.X),(1:Int)=1/\k.o+16<=k.N,c.o+c.n<=c.N/\IsB (qea c.X),16<=16,16<16+c.n/\((16+c.n) * 1<70368744177664/\16+c.n<70368744177664)/\1=1,IsB (qea (rgZ c).X),16<=32/\okL (rgZ c)/\16+c.n<=1099511627712],some (rgV 10 16,[some (mkE (tagS F (rdkS F k 16 u 0x55#8) (rgZ c)))])):=by kernel_rfl
theorem jor:outO [8] (rgT F 2 32 v u (k.pl m) (c.pl m2)) []=([IsB (qea k.X),(2:Int)=2/\k.o+32<=k.N,IsB (qea c.X),32<=32/\okL c/\c.n<=1099511627712],some (rgV 8 32,[some (mkE (tagS F (rdkS F k 32 u 0x55#8) c))])):=by kernel_rfl
end
def rgL (F:HashF) (i:Nat) (k:Sl) (u:Int) (c:Sl):List (BitVec 8):=boolC (Nat.beq i 1) (tagB F (dkS F k 16 u 0x55#8) c) (tagS F (dkS F k 32 u 0x55#8) c)
theorem j6e {k t:Sl} {u:Int} {n:Nat} {x:BitVec 8} (h:1<=u/\u<=1023) (hn:n<=32):tagS shaF (rdkS shaF k n u x) t=tagS shaF (dkS shaF k n u x) t:=qy3 (j4e h.1 h.2 hn) (by show n<=64; omega)
theorem jpr {k c:Sl}:tagS shaF k (rgZ c)=tagB shaF k c:=by
 unfold tagS tagB
 refine q4g fun i hi => ?_
 show catB (fun i=>qba (tabB (fun _=>0#8) 16) (0+i)) 16 (fun i=>c.X (c.o+i)) (0+i)=two z16 c i
 rw [Nat.zero_add,qzj]
 unfold catB
 have hz:z16.n=16:=rfl
 by_cases h:i<16
 . rw [if_pos h,if_pos (by omega)]
   show qba (tabB (fun _=>0#8) 16) (0+i)=z16.X (z16.o+i)
   rw [Nat.zero_add,qqc h]
   have:∀ j,j<16->z16.X (z16.o+j)=0#8:=by decide
   exact (this i h).symm
 . rw [if_neg h,if_neg (by omega),hz]
def rtgS (F:HashF) (i:Nat):Summ:=fun args H base=>qoc args fun kv uv cv=>kv.asAgg (.stuck 871) fun l=>qoc l fun p v s=>i64O p fun p=>i64O v fun _=>i64O uv fun u=>shaT H (qcc H s fun k kn=>qcc H cv fun c cn=>boolC (qrc [kn,cn])
 (.need (p.den=(i:Int)/\k.n=tagN i/\(1<=u.den/\u.den<=1023)/\okL k/\okL c/\1<=c.n/\c.n<=1000000) (.ok ⟨rgV base (tagN i),[],[mkE (rgL F i k u.den c)]⟩)) (.stuck 871))
theorem jsv {I:Ifc} {base j n:Nat} {L:List (BitVec 8)} {H:List SO} (hj:I.known j=false) (ho:q6b I.ents 0=[]) (hE:H[j]? = some (mkE L)):I.Ends base [j] ⟨rgV base n,[],[mkE L]⟩ (rgV j n) H:=by
 have ho':I.out base [j] j=base:=by
  unfold Ifc.out
  rw [hj]
  show base+idxN j [j]=base
  rw [show idxN j [j]=boolC (Nat.beq j j) 0 _ from rfl,Nat.beq_refl]; rfl
 have hs:I.seen [j] j=true:=by
  unfold Ifc.seen
  rw [hj]
  exact (memN_iff (n:=j) (l:=[j])).2 List.mem_cons_self
 refine ⟨?_,?_,by rw [ho]; trivial,⟨qbc hE (qfd _ _) (by show SO.own (.lst (SV.renL _ (bx _))) _ _=_; rw [q9d]; rfl),trivial⟩⟩
 . show (SV.slice ⟨I.out base [j] j,.lit 0⟩ (.lit n) (.lit 32)).Imp _
   rw [ho']; exact .refl _
 . show (I.seen [j] j && true)=true
   rw [hs]; rfl
theorem jrj {p:Nat->Bool} {i:Int} {n:Nat} {v u:Int} {k c:Sl} (h4:p 4=true) (h5:p 5=true):SV.usesL p (rgA i n v u k c)=true:=by
 show ((true && (true && ((k.valN 4 n).uses p && true))) && (true && ((c.val 5).uses p && true)))=true
 rw [Sl.valN_uses _ _ _ _ h4,Sl.val_uses _ _ _ h5]; rfl
theorem rtgOK {i:Nat} (hi12:i=1\/i=2):SumAt Tryz.prog qud 22 (rtgS shaF i):=by
 intro O w0 β H w base args vs hH hG ha
 refine qcb fun kv uv cv hv => ?_
 rcases qmc kv with ⟨l,rfl⟩ | hno
 case inr=>rw [hno]; trivial
 refine qcb fun p v s hl=>q2a fun p' hp=>q2a fun v' hv'=>q2a fun u hu=>qzg fun hT=>qab fun k kn hn1 ht1 hi1=>qab fun c cn hn2 ht2 hi2=>qfa fun hd=>fun ⟨hpi,hkn,hu12,hk,hc,hc1,hc2⟩ => ?_
 subst hl hp hv' hu
 rw [hv] at ha
 obtain ⟨⟨xs,hxs⟩,zs,hzs⟩:=qhh ha
 obtain ⟨xu,zs1,hxu,hzs1,rfl⟩:=denL_cons.1 hzs
 obtain ⟨xc,zs2,hxc,hzs2,rfl⟩:=denL_cons.1 hzs1
 obtain ⟨m,hks⟩:=Sl.val_denN hkn (hi1 _ _ hxs)
 obtain ⟨m2,_,hcs⟩:=Sl.val_den (hi2 _ _ hxc)
 have h1:=q3g (s':=(k.pl m).valN kn (tagN i)) (p':=.int .i64 (.lit i)) (v':=.int .i64 (.sym v'.den)) ha (fun x hx=>by rw [hxs] at hx; cases hx; exact hks) (qla hpi) (qla rfl)
 obtain ⟨xa,ws,hxa,hws,rfl⟩:=denL_cons.1 h1
 rw [hzs] at hws
 cases hws
 have ha':SV.denL β [.agg [.int .i64 (.lit i),.int .i64 (.sym v'.den),(k.pl m).valN kn (tagN i)],.int .i64 (.sym u.den),(c.pl m2).val cn]=some (xa::xu::xc::zs2):=denL_cons.2 ⟨_,_,hxa,denL_cons.2 ⟨_,_,qla rfl _ _ hxu,denL_cons.2 ⟨_,_,hcs,hzs2,rfl⟩,rfl⟩,rfl⟩
 have n3:∀ {x:Nat},x∈[kn,cn]->qeb x=true:=by simp only [List.mem_cons,List.not_mem_nil,or_false]; rintro x (rfl | rfl) <;> assumption
 have key:∀ {cs j L},(shaI [kn,cn] [k.row,c.row] []).known j=false->6<=j->outO [j] (rgT shaF i (tagN i) v'.den u.den (k.pl m) (c.pl m2)) []=(cs,some (rgV j (tagN i),[some (mkE L)]))->(∀ q∈cs,q)->L=rgL shaF i k u.den c->q4a Tryz.prog H β w base 22 (xa::xu::xc::zs2) ⟨rgV base (tagN i),[],[mkE (rgL shaF i k u.den c)]⟩:=by
  intro cs j L hj h6 hr hc hL
  rw [← hL]
  refine qka (jmr hi12) 8000 hH (shaI [kn,cn] [k.row,c.row] (rgA i (tagN i) v'.den u.den (k.pl m) (c.pl m2))) (qae hG) ?_ (Ifc.fits (nd4 hd fun _=>n3) (jrj rfl rfl) (q5e hT ⟨⟨ht1 _,k.row_uses _⟩,⟨ht2 _,c.row_uses _⟩,trivial⟩)) [j] (by simp [shaI]; omega) (by simp) hr hc fun H2 hH2=>jsv hj rfl (List.cons.inj hH2).1
  show SV.denL β [.agg [.int .i64 (.lit i),.int .i64 (.sym v'.den),((k.pl m).valN 4 (tagN i)).ren _],.int .i64 (.sym u.den),((c.pl m2).val 5).ren _]=_
  rw [Sl.valN_ren,Sl.val_ren]; exact ha'
 have hko:=hk.1
 rcases hi12 with rfl | rfl
 . have hkn:k.n=16:=hkn
   exact key rfl (by omega) (jnr shaF v'.den u.den k c m m2) (all_cons (qda _) (all_cons ⟨rfl,by omega⟩ (all_cons ⟨hc.1,qda _⟩ (all_cons (by omega) (all_cons ⟨by omega,⟨by omega,by omega⟩,rfl⟩ (all_cons (qda _) (all_cons ⟨by omega,⟨by show 0+(16+c.n)<=16+c.n; omega,by show 16+c.n<=_; omega⟩,by omega⟩ qaa))))))) (by rw [j6e hu12 (by omega),jpr]; rfl)
 . have hkn:k.n=32:=hkn
   exact key rfl (by omega) (jor shaF v'.den u.den k c m m2) (all_cons (qda _) (all_cons ⟨rfl,by omega⟩ (all_cons (qda _) (all_cons ⟨by omega,hc,by omega⟩ qaa)))) (by rw [j6e hu12 (by omega)]; rfl)
end
noncomputable section
open Go.Sim
open Go.Proofs
open Go.RowKit
variable {α:Type}
set_option maxRecDepth 1000000
def q23 (F:Blk->Blk->(Nat->BitVec 8)->Nat->Blk) (ok:Nat->Bool) (nl:Bool):Summ:=fun args H base=>qoc args fun k v p=>qob k (.stuck 910) fun a l1=>qob v (.stuck 910) fun b l2=>q98 H
 (boolC (Nat.beq 4 a.nm) (.stuck 911) (boolC (Nat.beq 4 b.nm) (.stuck 911) (boolC (Nat.beq a.nm b.nm) (.stuck 911) (qod l1 16 (qod l2 16 (q4b (nth H a.nm) fun X n=>q4b (nth H b.nm) fun Y n2=>.need (a.off.den+16<=n/\b.off.den+16<=n2)
  (qob p (boolC nl (.ok ⟨.nilSlice,[],[]⟩) (.stuck 912)) fun c l=>boolC (Nat.beq 4 c.nm) (.stuck 911) (boolC (Nat.beq a.nm c.nm) (.stuck 911) (boolC (Nat.beq b.nm c.nm) (.stuck 911)
   (q4b (nth H c.nm) fun Z n3=>.need (c.off.den+l.den<=n3/\ok l.den=true) (isI (.sym l.den) 16 (.ok ⟨.slice ⟨base,.lit 0⟩ l (.lit 16),[],[.own (fnB (F (qha X a.off.den) (qha Y b.off.den) (fun j=>Z (c.off.den+j)) l.den)) true 5]⟩) (.ok ⟨.slice ⟨base,.lit 0⟩ l (.rest base 0),[],[.own (fnB (F (qha X a.off.den) (qha Y b.off.den) (fun j=>Z (c.off.den+j)) l.den)) false 5]⟩))))))) (.stuck 913)) (.stuck 913)))))
theorem jsj {c:Cfg} (hc:CfgOK c) (hg:c.glob=qvg) (hP:c.P=Tryz.prog) {f:FuncId} {F:Blk->Blk->(Nat->BitVec 8)->Nat->Blk} {ok:Nat->Bool} {nl:Bool} (hrun:RunR c f F ok dcp) (hnil:nl=true->NilR c f):SumAt Tryz.prog qze f (q23 F ok nl):=by
 intro O w0 β H w base args vs hH hG ha
 refine qcb fun k v p hv=>qxa (fun _=>trivial) fun a l1 c1 hs1=>qxa (fun _=>trivial) fun b l2 c2 hs2=>qqz fun htab=>qna (fun _=>trivial) fun h0=>qna (fun _=>trivial) fun h1=>qna (fun _=>trivial) fun hab =>
  qxb (fun hl1=>qxb (fun hl2=>q5a fun X n t1=>q5a fun Y n2 t2=>fun hn => ?_) fun _=>trivial) fun _=>trivial
 rw [hv,hs1,hs2] at ha
 rw [qga] at t1 t2
 obtain ⟨x,ys,hx,hys,rfl⟩:=denL_cons.1 ha
 obtain ⟨y,zs,hy,hz,rfl⟩:=denL_cons.1 hys
 obtain ⟨u,us,hu,hus,rfl⟩:=denL_cons.1 hz
 obtain ⟨m1,_,hd1,_,_⟩:=q8a hx
 obtain ⟨m2,_,hd2,_,_⟩:=q8a hy
 rw [hl1] at hd1
 rw [hl2] at hd2
 refine qxa (fun hn3=>qna (fun hnl => ?_) fun _=>trivial) fun c0 l c3 hs3=>qna (fun _=>trivial) fun h2=>qna (fun _=>trivial) fun hac=>qna (fun _=>trivial) fun hbc=>q5a fun Z n3 t3=>fun hn3 => ?_
 . rw [hn3] at hu
   have hnd:[4,a.nm,b.nm].Nodup:=by
    simp only [List.nodup_cons,List.mem_cons,List.not_mem_nil,or_false,not_or,not_false_eq_true,List.nodup_nil,and_true]
    exact ⟨⟨qmb h0,qmb h1⟩,qmb hab⟩
   rw [← hP] at hH ⊢
   refine qsg hc 20000 hH ⟨[4,a.nm,b.nm],[tabR,rowF X n,rowF Y n2],[.slice ⟨1,.sym a.off.den⟩ (.lit 16) (.sym m1),.slice ⟨2,.sym b.off.den⟩ (.lit 16) (.sym m2),.nilSlice]⟩ (by rw [hg]; exact qa3 rfl rfl hG) (denL_cons.2 ⟨_,_,hd1,denL_cons.2 ⟨_,_,hd2,denL_cons.2 ⟨_,_,hu,hus,rfl⟩,rfl⟩,rfl⟩)
    (Ifc.fits hnd rfl ⟨⟨htab _,q3h _⟩,⟨t1 _,qya _ _ _⟩,⟨t2 _,qya _ _ _⟩,trivial⟩) [] (by simp) (by simp) (q9i (hnil hnl X Y n m1 n2 m2 a.off.den b.off.den) (all_cons (qda X) (all_cons hn.1 qaa)) fun H2 _=>qkb rfl rfl rfl)
 . rw [hs3] at hu
   rw [qga] at t3
   obtain ⟨m3,hlm3,hd3,hd3',_⟩:=q8a hu
   have hd4:(SV.slice ⟨c0.nm,.sym c0.off.den⟩ (.lit l.den) (.sym m3)).den β=some u:=by
    rw [qra] at hd3 ⊢
    exact hd3
   have hnd:[4,a.nm,b.nm,c0.nm].Nodup:=by
    simp only [List.nodup_cons,List.mem_cons,List.not_mem_nil,or_false,not_or,not_false_eq_true,List.nodup_nil,and_true]
    exact ⟨⟨qmb h0,qmb h1,qmb h2⟩,⟨qmb hab,qmb hac⟩,qmb hbc⟩
   obtain ⟨nm,ps,hnm,hr,hps⟩:=hrun X Y Z n m1 n2 m2 n3 m3 a.off.den b.off.den c0.off.den l.den hn3.2 hn.1 hn.2 hn3.1 hlm3
   rw [← hP] at hH ⊢
   have gen:q4a c.P H β w base f (x::y::u::us) ⟨.slice ⟨base,.lit 0⟩ l (capR (dcp l.den) base l.den),[],[.own (fnB (F (qha X a.off.den) (qha Y b.off.den) (fun j=>Z (c0.off.den+j)) l.den)) (dcp l.den) 5]⟩:=by
    refine qsg hc 20000 hH ⟨[4,a.nm,b.nm,c0.nm],q5k X Y Z n n2 n3,q4k m1 m2 m3 a.off.den b.off.den c0.off.den l.den⟩ (by rw [hg]; exact qa3 rfl rfl hG) (denL_cons.2 ⟨_,_,hd1,denL_cons.2 ⟨_,_,hd2,denL_cons.2 ⟨_,_,hd4,hus,rfl⟩,rfl⟩,rfl⟩)
     (Ifc.fits hnd rfl ⟨⟨htab _,q3h _⟩,⟨t1 _,qya _ _ _⟩,⟨t2 _,qya _ _ _⟩,⟨t3 _,qya _ _ _⟩,trivial⟩) [nm] (by simpa using hnm) (by simp) (q9i hr hps fun H2 hH2=>⟨?_,?_,trivial,⟨j2d (List.cons.inj hH2).1,trivial⟩⟩)
    . intro γ xv hxv
      have hon:=qcy (I:=⟨[4,a.nm,b.nm,c0.nm],q5k X Y Z n n2 n3,q4k m1 m2 m3 a.off.den b.off.den c0.off.den l.den⟩) (base:=base) (nm:=nm) (by simpa using hnm)
      have hcap:SC.ren (Ifc.out ⟨[4,a.nm,b.nm,c0.nm],q5k X Y Z n n2 n3,q4k m1 m2 m3 a.off.den b.off.den c0.off.den l.den⟩ base [nm]) (capR (dcp l.den) nm l.den)=capR (dcp l.den) base l.den:=by
       unfold capR
       cases dcp l.den with
       | true=>rfl
       | false=>show SC.rest _ 0=_; rw [hon]; rfl
      simp only [SV.ren,SA.ren,hon,hcap] at hxv
      rw [qra] at hxv ⊢
      exact hxv
    . show (Ifc.seen _ [nm] nm && SC.uses _ (capR (dcp l.den) nm l.den))=true
      rw [qnm]
      unfold capR
      cases dcp l.den with
      | true=>rfl
      | false=>exact qnm
   refine q1c (fun h => ?_) fun h => ?_
   . have h16:l.den=16:=by have h:(l.den:Int)=16:=h; omega
     have hd:dcp l.den=true:=by unfold dcp; rw [h16]; rfl
     have e:capR (dcp l.den) base l.den=.lit 16:=by rw [hd]; show SC.lit l.den=_; rw [h16]
     rw [e,hd] at gen
     exact gen
   . have h16:l.den≠16:=by have h:(l.den:Int)≠16:=h; omega
     have hd:dcp l.den=false:=by
      unfold dcp
      cases hb:Nat.beq l.den 16 with
      | true=>exact absurd (qpa hb) h16
      | false=>rfl
     have e:capR (dcp l.den) base l.den=.rest base 0:=by rw [hd]; rfl
     rw [e,hd] at gen
     exact gen
def jtv:Summ:=q23 decF tOk false
theorem jtj:SumAt Tryz.prog qze 25 jtv:=jsj jfo rfl rfl jqd (fun h=>by cases h)
theorem j7e (K V:Blk) (P:Nat->BitVec 8) (l:Nat):l<=lenN (decF K V P l):=by
 rw [qva]
 unfold decF
 rw [q6h _ (qmk _ _ _),qqh]
 unfold q4m
 by_cases h:l<=16
 . rw [if_pos h,q5h]; omega
 . rw [if_neg h,qib,List.length_append,q5h]
   show l<=16 * (numB l - 2+2)
   unfold numB; omega
end
noncomputable section
open Go.Sim
open Go.Proofs
variable {α:Type}
set_option maxRecDepth 1000000
theorem SumAt.upQ {f:FuncId} {s:Summ} (h:SumAt Tryz.prog qud f s):SumAt Tryz.prog qze f s:=fun O w0 β H w base args vs hH hG ha=>h O w0 β H w base args vs hH (fun _ nm hg=>hG _ nm (j0t hg)) ha
def rlTQ (i:Nat) (n:Nat) (u:Int) (k C:Sl):Prop:=(i:Int)=i/\n=tagN i/\(1<=u/\u<=1023)/\okL (k.len n)/\okL C/\1<=C.n/\C.n<=1000000
section
variable (F:HashF) (E D:CtsF) (v u:Int) (k c t:Sl) (m m2 m3:Nat)
end
end
noncomputable section
open Go.Sim
open Go.Proofs
variable {α:Type}
set_option maxRecDepth 1000000
def strL (L:List (BitVec 8)):ByteArray:=q1i (mapN (fun x=>SI.b8 x) L)
theorem jqr (X:Nat->BitVec 8) (n:Nat):strL (tabB X n)=strS ⟨X,n,0,n,false,0⟩:=by
 unfold strL strS q2i q1i tabB
 congr 2
 rw [qwa,qwa,q2c,List.map_map,List.map_map]
 refine List.ext_getElem? fun i => ?_
 simp only [List.getElem?_map]
 by_cases hi:i<n
 . rw [List.getElem?_range' hi,List.getElem?_range hi]
   show some (UInt8.ofNat (((X (0+1 * i)).toNat:Int)).toNat)=some (UInt8.ofNat (((X (0+i)).toNat:Int)).toNat)
   rw [Nat.one_mul]
 . rw [List.getElem?_eq_none (by simpa using hi),List.getElem?_eq_none (by simpa using hi)]; rfl
theorem juj {X:Nat->BitVec 8} {n:Nat} {s:Sl}:strL (tabB X n)=strS s↔s.n=n/\∀ i,i<n->X i=s.F i:=by
 rw [jqr,strS_iff]
 constructor
 . rintro ⟨h1,h2⟩
   exact ⟨h1.symm,fun i hi=>by have:=h2 i hi; rw [Nat.zero_add] at this; exact this⟩
 . rintro ⟨h1,h2⟩
   exact ⟨h1.symm,fun i hi=>by rw [Nat.zero_add]; exact h2 i hi⟩
def ryG (F:HashF) (k:Sl) (u:Int) (i n:Nat) (b:Sl):Nat->BitVec 8:=qba (tagS F (dkS F (k.len n) (tagN i) u 0x99#8) b)
section
variable (F:HashF) (v u:Int) (k b s:Sl) (m m2 m3:Nat)
end
end
noncomputable section
open Go.Sim
open Go.Proofs
variable {α:Type}
set_option maxRecDepth 1000000
def j0m (v:SV) (no:R α) (f:SV->R α):R α :=
 match v with
 | .tail a n l (.sym m)=>.need (m≠0) (f (.slice (a.plus n) l (.sym m)))
 | _=>no
def j1m (F:HashF):Summ:=fun args H base=>qoc args fun kv cv tv=>j0m tv (rstS F args H base) fun tv'=>rstS F [kv,cv,tv'] H base
theorem juv:SumAt Tryz.prog qud 21 (j1m shaF):=by
 intro O w0 β H w base args vs hH hG ha
 refine qcb fun kv cv tv hv => ?_
 unfold j0m
 split
 . rename_i a n l m
   intro hm
   refine jym O w0 β H w base _ vs hH hG ?_
   rw [hv] at ha
   obtain ⟨x,ys,hx,hys,rfl⟩:=denL_cons.1 ha
   obtain ⟨y,zs,hy,hzs,rfl⟩:=denL_cons.1 hys
   obtain ⟨q,qs,hq,hqs,rfl⟩:=denL_cons.1 hzs
   refine denL_cons.2 ⟨_,_,hx,denL_cons.2 ⟨_,_,hy,denL_cons.2 ⟨_,_,?_,hqs,rfl⟩,rfl⟩,rfl⟩
   rw [q6d] at hq
   obtain ⟨A,C,hA,hC,hle,rfl⟩:=hq
   cases hC
   rw [qra]
   exact ⟨_,_,SA.plus_den hA n,rfl,hle,by rw [if_neg hm]⟩
 . exact jym O w0 β H w base args vs hH hG ha
def j2m (F:HashF) (D:CtsF) (i:Nat):Cfg:=cfgG qze (qbb [(18,ruS true),(19,rdeS F i),(22,rtgS F i),(21,j1m F),(25,q23 D tOk false),(24,lnS 16 32)])
theorem qzd {i:Nat} (hi:i=1\/i=2):CfgOK (j2m shaF decF i):=qwb (allS (ruOK _) (allS (SumAt.upQ (jsm hi)) (allS (SumAt.upQ (rtgOK hi)) (allS (SumAt.upQ juv) (allS jtj (allS (q99 _) (by simp)))))))
def roA (i:Int) (n:Nat) (v u sp sv:Int) (k t:Sl):List SV:=[.agg [.int .i64 (.lit i),.int .i64 (.sym v),k.valN 5 n],.int .i64 (.sym u),.agg [.int .i64 (.sym sp),.int .i64 (.sym sv),t.val 6]]
def roT (F:HashF) (D:CtsF) (i n:Nat) (v u sp sv:Int) (k t:Sl):Tree:=qca (j2m F D i) 8000 9 (roA i n v u sp sv k t) (shaH [tabR,k.row,t.row])
def roC (t:Sl) (g:Int):Sl:=⟨t.X,t.N,t.o,(ogN t g).toNat,false,t.k⟩
def roS (t:Sl) (g:Int):Sl:=⟨t.X,t.N,t.o+(ogN t g).toNat * 1,t.n - (ogN t g).toNat,false,0⟩
def roX (t:Sl) (g:Int):Sl:=⟨t.X,t.N,t.o+16,(ogN t g).toNat - 16,false,t.k - 16⟩
def roB (F:HashF) (i l:Nat) (u:Int) (k t:Sl):Bool:=decide (strL (tabB (qba (rgL F i (k.len l) u (roC t l))) l)=strS (roS t l))
def roQ (F:HashF) (i l:Nat) (v u sp:Int) (k t:Sl) (vs:List Prop) (b:Bool) (r:List Prop):List Prop :=
 (usQ i v u l↔true=true)::((sp != i)=false)::app vs (qza (ogN t l)::(decide (ogN t l<16)=false)::(decide (ogN t l > 65552)=false)::(0<=ogN t l/\ogN t l<=t.n)::IsB (qea k.X)::IsB (qea t.X)::rlTQ i l u k (roC t l) ::
  (0<=ogN t l/\ogN t l<=t.n)::(t.o+(ogN t l).toNat * 1+(t.n - (ogN t l).toNat)<=t.N/\∀ i,i<t.N->True)::((!roB F i l u k t)=b)::r)
def ro1D (F:HashF) (D:CtsF) (u:Int) (k t:Sl):Blk:=D (qha (qba (rdL F k 16 u 0xaa#8)) 0) (qha (qba (tabB (fun _=>0#8) 16)) 0) (fun j=>t.X (t.o+j)) (ogN t 16).toNat
def ro1C (k t:Sl) (b:Bool):List Prop:=[IsB (qea k.X),(1:Int)=1/\k.o+16<=k.N,16<=32/\16<=16,IsB (qea t.X),t.o+(ogN t 16).toNat<=t.N/\tOk (ogN t 16).toNat=true,(((ogN t 16).toNat:Int) == 16)=b,16<=(ogN t 16).toNat]
def ro1E (t:Sl):SV:=.tuple [.slice ⟨12,.lit 0⟩ (.sym ((ogN t 16).toNat - 16)) (.lit 0),.int .i64 (.lit 0)]
def ro1V (t:Sl):SV:=.tuple [.tail ⟨12,.lit 0⟩ (.lit 16) (.sym ((ogN t 16).toNat - 16)) (.rest 12 16),.int .i64 (.lit 0)]
def ro1B (F:HashF) (D:CtsF) (u:Int) (k t:Sl) (b:Bool):Option SO:=some (.own (.fn (qea (qba (ro1D F D u k t))) (lenN (ro1D F D u k t))) b 5)
def ro2C (F:HashF) (u:Int) (k t:Sl) (b:Bool):List Prop:=[IsB (qea k.X),(2:Int)=2/\k.o+32<=k.N,16<=(ogN t 32).toNat,16<=(ogN t 32).toNat,t.k - 16≠0,IsB (qea t.X),rstQ (rdkS F k 32 u 0xaa#8) (t.cut t.o 16) (roX t 32),(((roX t 32).n:Int) == 0)=b]
def ro2V (n:Nat):SV:=.tuple [q0e 11 n,.int .i64 (.lit 0)]
def ro2B (F:HashF) (u:Int) (k t:Sl):Option SO:=some (.own (.fn (qea (strG F (rdkS F k 32 u 0xaa#8) (t.cut t.o 16) (roX t 32))) (roX t 32).n) false 5)
section
variable (F:HashF) (D:CtsF) (v u sp sv:Int) (k t:Sl) (m m2:Nat)
theorem jpa:outO [] (roT F D 1 16 v u sp sv (k.pl m) (t.pl m2)) [false,false,false,false,false,false,false,true]=((roQ F 1 16 v u sp k (t.pl m2) (v0C v sv) true []),some (opV 10,[])):=by kernel_rfl
theorem jvj:outO [12] (roT F D 1 16 v u sp sv (k.pl m) (t.pl m2)) [false,false,false,false,false,false,false,false,true]=((roQ F 1 16 v u sp k (t.pl m2) (v0C v sv) false (ro1C k (t.pl m2) true)),some (ro1E (t.pl m2),[ro1B F D u k (t.pl m2) true])):=by kernel_rfl
theorem jrr:outO [12] (roT F D 1 16 v u sp sv (k.pl m) (t.pl m2)) [false,false,false,false,false,false,false,false,false]=((roQ F 1 16 v u sp k (t.pl m2) (v0C v sv) false (ro1C k (t.pl m2) false)),some (ro1V (t.pl m2),[ro1B F D u k (t.pl m2) false])):=by kernel_rfl
theorem jqa:outO [] (roT F D 1 16 v u sp sv (k.pl m) (t.pl m2)) [false,true,false,false,false,false,false,false,true]=((roQ F 1 16 v u sp k (t.pl m2) (v1C v sv) true []),some (opV 10,[])):=by kernel_rfl
theorem jwj:outO [12] (roT F D 1 16 v u sp sv (k.pl m) (t.pl m2)) [false,true,false,false,false,false,false,false,false,true]=((roQ F 1 16 v u sp k (t.pl m2) (v1C v sv) false (ro1C k (t.pl m2) true)),some (ro1E (t.pl m2),[ro1B F D u k (t.pl m2) true])):=by kernel_rfl
theorem jsr:outO [12] (roT F D 1 16 v u sp sv (k.pl m) (t.pl m2)) [false,true,false,false,false,false,false,false,false,false]=((roQ F 1 16 v u sp k (t.pl m2) (v1C v sv) false (ro1C k (t.pl m2) false)),some (ro1V (t.pl m2),[ro1B F D u k (t.pl m2) false])):=by kernel_rfl
theorem jra:outO [] (roT F D 1 16 v u sp sv (k.pl m) (t.pl m2)) [false,true,true,false,false,false,true]=((roQ F 1 16 v u sp k (t.pl m2) (v2C v sv) true []),some (opV 10,[])):=by kernel_rfl
theorem jxj:outO [12] (roT F D 1 16 v u sp sv (k.pl m) (t.pl m2)) [false,true,true,false,false,false,false,true]=((roQ F 1 16 v u sp k (t.pl m2) (v2C v sv) false (ro1C k (t.pl m2) true)),some (ro1E (t.pl m2),[ro1B F D u k (t.pl m2) true])):=by kernel_rfl
theorem jtr:outO [12] (roT F D 1 16 v u sp sv (k.pl m) (t.pl m2)) [false,true,true,false,false,false,false,false]=((roQ F 1 16 v u sp k (t.pl m2) (v2C v sv) false (ro1C k (t.pl m2) false)),some (ro1V (t.pl m2),[ro1B F D u k (t.pl m2) false])):=by kernel_rfl
theorem jsa:outO [] (roT F D 2 32 v u sp sv (k.pl m) (t.pl m2)) [false,false,false,false,false,false,false,true]=((roQ F 2 32 v u sp k (t.pl m2) (v0C v sv) true []),some (opV 10,[])):=by kernel_rfl
theorem jyj:outO [] (roT F D 2 32 v u sp sv (k.pl m) (t.pl m2)) [false,false,false,false,false,false,false,false,true]=((roQ F 2 32 v u sp k (t.pl m2) (v0C v sv) false (ro2C F u k (t.pl m2) true)),some (opV 0,[])):=by kernel_rfl
theorem jur:outO [11] (roT F D 2 32 v u sp sv (k.pl m) (t.pl m2)) [false,false,false,false,false,false,false,false,false]=((roQ F 2 32 v u sp k (t.pl m2) (v0C v sv) false (ro2C F u k (t.pl m2) false)),some (ro2V (roX (t.pl m2) 32).n,[ro2B F u k (t.pl m2)])):=by kernel_rfl
theorem jta:outO [] (roT F D 2 32 v u sp sv (k.pl m) (t.pl m2)) [false,true,false,false,false,false,false,false,true]=((roQ F 2 32 v u sp k (t.pl m2) (v1C v sv) true []),some (opV 10,[])):=by kernel_rfl
theorem jzj:outO [] (roT F D 2 32 v u sp sv (k.pl m) (t.pl m2)) [false,true,false,false,false,false,false,false,false,true]=((roQ F 2 32 v u sp k (t.pl m2) (v1C v sv) false (ro2C F u k (t.pl m2) true)),some (opV 0,[])):=by kernel_rfl
theorem jvr:outO [11] (roT F D 2 32 v u sp sv (k.pl m) (t.pl m2)) [false,true,false,false,false,false,false,false,false,false]=((roQ F 2 32 v u sp k (t.pl m2) (v1C v sv) false (ro2C F u k (t.pl m2) false)),some (ro2V (roX (t.pl m2) 32).n,[ro2B F u k (t.pl m2)])):=by kernel_rfl
theorem jua:outO [] (roT F D 2 32 v u sp sv (k.pl m) (t.pl m2)) [false,true,true,false,false,false,true]=((roQ F 2 32 v u sp k (t.pl m2) (v2C v sv) true []),some (opV 10,[])):=by kernel_rfl
theorem j0j:outO [] (roT F D 2 32 v u sp sv (k.pl m) (t.pl m2)) [false,true,true,false,false,false,false,true]=((roQ F 2 32 v u sp k (t.pl m2) (v2C v sv) false (ro2C F u k (t.pl m2) true)),some (opV 0,[])):=by kernel_rfl
theorem jwr:outO [11] (roT F D 2 32 v u sp sv (k.pl m) (t.pl m2)) [false,true,true,false,false,false,false,false]=((roQ F 2 32 v u sp k (t.pl m2) (v2C v sv) false (ro2C F u k (t.pl m2) false)),some (ro2V (roX (t.pl m2) 32).n,[ro2B F u k (t.pl m2)])):=by kernel_rfl
end
end
noncomputable section
open Go.Sim
open Go.Proofs
set_option maxRecDepth 1000000
section
variable (F:HashF) (E D:CtsF) (v u:Int) (k c t:Sl) (m m2 m3:Nat) (z:Nat->Nat->Nat)
end
end
noncomputable section
open Go.Sim
open Go.Proofs
set_option maxRecDepth 1000000
section
variable (F:HashF) (E D:CtsF) (v u:Int) (k c t:Sl) (m m2 m3:Nat) (z:Nat->Nat->Nat)
end
end
noncomputable section
open Go.Sim
open Go.Proofs
open Go.RowKit
variable {α:Type}
set_option maxRecDepth 1000000
theorem j1j {k k':Sl} {M:Nat->BitVec 8} {m:Nat} (h:SlEq k k') (h64:k.n<=64):macB shaF k.F k.n M m=macB shaF k'.F k'.n M m :=
 qy3 (c:=⟨M,0,0,m,false,0⟩) h h64 |> fun e=>by
  unfold tagS at e
  have e1:∀ (K:Nat->BitVec 8) (n:Nat),macB shaF K n (Sl.F ⟨M,0,0,m,false,0⟩) m=macB shaF K n M m:=fun K n=>q4g fun i _=>by show M (0+i)=M i; rw [Nat.zero_add]
  rw [← e1,e]; exact e1 _ _
theorem j2j {k k' c t:Sl} (h:SlEq k k') (h64:k.n<=64):strG shaF k c t=strG shaF k' c t:=by
 funext p
 unfold strG sgK
 rw [j1j h h64]
theorem jvv {k:Sl} {u:Int} (h:1<=u/\u<=1023):qha (qba (rdL shaF k 16 u 0xaa#8)) 0=qha (dkS shaF k 16 u 0xaa#8).X 0:=q0i fun j hj=>by
 rw [Nat.zero_add,j3e h.1 h.2 (by omega) hj]
 show (dkS shaF k 16 u 0xaa#8).X (0+j)=_
 rw [Nat.zero_add]
theorem jxr:qha (qba (tabB (fun _=>0#8) 16)) 0=qha z16.X 0:=q0i (by decide)
def qaI (names:List Nat) (ents:List SO) (args:List SV):Ifc:=shaI (4::names) (tabR::ents) args
theorem q44 {g j:Nat} (h:qze g=some j):j=0\/j=1\/j=2\/j=4:=by
 rcases qcd (show boolC (Nat.beq g 3) (some 0) _=some j from h) with ⟨_,h⟩ | h
 . cases h; exact .inl rfl
 rcases qcd h with ⟨_,h⟩ | h
 . cases h; exact .inr (.inl rfl)
 rcases qcd h with ⟨_,h⟩ | h
 . cases h; exact .inr (.inr (.inl rfl))
 obtain ⟨_,h⟩:=qtb h
 cases h; exact .inr (.inr (.inr rfl))
theorem qad {β:Val} {names:List Nat} {ents:List SO} {args:List SV} (hG:GlobRel qze β):∀ g j,qze g=some j->(qaI names ents args).known j=true/\∃ l,β ((qaI names ents args).big j)=some l/\l.blk=g/\l.off=0:=by
 intro g j hg
 rcases q44 hg with rfl | rfl | rfl | rfl
 . exact ⟨rfl,hG g 0 hg⟩
 . exact ⟨rfl,hG g 1 hg⟩
 . exact ⟨rfl,hG g 2 hg⟩
 . exact ⟨rfl,hG g 4 hg⟩
theorem j3j {H:List SO} (hT:ShaT H) (htab:∀ g,∃ e',H[4]? = some e'/\qrb g tabR e') {names:List Nat} {ents:List SO} {args:List SV} (h:EntsOK (qaI names ents args).big (qaI names ents args).known H names ents):EntsOK (qaI names ents args).big (qaI names ents args).known H (qaI names ents args).names (qaI names ents args).ents :=
 q5e hT ⟨⟨htab _,q3h _⟩,h⟩
section
variable {k c t:Sl} {u:Int}
end
end
noncomputable section
open Go.Sim
open Go.Proofs
open Go.RowKit
variable {α:Type}
set_option maxRecDepth 1000000
end
noncomputable section
open Go.Sim
open Go.Proofs
open Go.RowKit
variable {α:Type}
set_option maxRecDepth 1000000
theorem jwv {i l:Nat} {u:Int} {k t:Sl} (hi:(i=1/\l=16)\/(i=2/\l=32)):roB shaF i l u k t=opT1 shaF i k u t:=by
 have hC:∀ g:Int,SlEq (roC t g) (ocS t g):=fun _=>⟨rfl,fun _ _=>rfl⟩
 rw [Bool.eq_iff_iff]
 unfold roB
 rw [decide_eq_true_iff,juj]
 rcases hi with ⟨rfl,rfl⟩ | ⟨rfl,rfl⟩
 . have e:opT1 shaF 1 k u t=eqB (tgA shaF k u (ocS t 16)) (otS t 16) 16:=rfl
   rw [e,eqB_iff]
   have hT:∀ j,j<16->(tgA shaF k u (ocS t 16)).F j=qba (rgL shaF 1 (k.len 16) u (roC t 16)) j:=fun j hj=>by
    show qba (tabB (qba (tagB shaF (dkS shaF k 16 u 0x55#8) (ocS t 16))) 32) (0+j)=qba (tagB shaF (dkS shaF (k.len 16) 16 u 0x55#8) (roC t 16)) j
    rw [Nat.zero_add,qqc (by omega),← q79 (hC 16)]; rfl
   exact ⟨fun ⟨h1,h2⟩=>⟨h1,fun j hj=>(hT j hj).trans (h2 j hj)⟩,fun ⟨h1,h2⟩=>⟨h1,fun j hj=>(hT j hj).symm.trans (h2 j hj)⟩⟩
 . have e:opT1 shaF 2 k u t=eqB (tgB shaF k u (ocS t 32)) (otS t 32) 32:=rfl
   rw [e,eqB_iff]
   have hT:∀ j,j<32->(tgB shaF k u (ocS t 32)).F j=qba (rgL shaF 2 (k.len 32) u (roC t 32)) j:=fun j hj=>by
    show qba (tabB (qba (tagS shaF (dkS shaF k 32 u 0x55#8) (ocS t 32))) 32) (0+j)=qba (tagS shaF (dkS shaF (k.len 32) 32 u 0x55#8) (roC t 32)) j
    rw [Nat.zero_add,qqc (by omega),← qhx (hC 32)]; rfl
   exact ⟨fun ⟨h1,h2⟩=>⟨h1,fun j hj=>(hT j hj).trans (h2 j hj)⟩,fun ⟨h1,h2⟩=>⟨h1,fun j hj=>(hT j hj).symm.trans (h2 j hj)⟩⟩
theorem q4l {u:Int} {k t:Sl} (h:1<=u/\u<=1023):qba (ro1D shaF decF u k t)=og1D shaF decF u k t:=by
 unfold ro1D og1D
 rw [jvv h,jxr]
theorem qqy {u:Int} {k t:Sl} (h:1<=u/\u<=1023) (c:Sl):strG shaF (rdkS shaF k 32 u 0xaa#8) c t=strG shaF (dkS shaF k 32 u 0xaa#8) c t:=j2j (j4e h.1 h.2 (by omega)) (by show 32<=64; omega)
def ropA (H:List SO) (args:List SV) (f:SI->SI->SI->SI->SI->Sl->Nat->Sl->Nat->R SumRes):R SumRes:=shaT H (q98 H (opnA H args fun p v u sp sv k kn t tn=>boolC (qrc [4,kn,tn]) (f p v u sp sv k kn t tn) (.stuck 840)))
def rogE (F:HashF) (i:Nat):Summ:=fun args H _=>ropA H args fun p v u sp sv k _ t _=>.need (opnQ i p.den v.den u.den sp.den sv.den k t/\opT1 F i k u.den t=false) (.ok ⟨opV 10,[],[]⟩)
def roN (t:Sl) (g:Int):Nat:=(ogN t g).toNat - 16
def rogR (F:HashF) (D:CtsF) (i base:Nat) (u:Int) (k t:Sl):R SumRes:=isI (.sym (roN t (tagN i))) 0
 (boolC (Nat.beq i 1) (.ok ⟨.tuple [.slice ⟨base,.lit 0⟩ (.sym (roN t 16)) (.lit 0),.int .i64 (.lit 0)],[],[.own (.fn (qea (og1D F D u k t)) (lenN (ro1D F D u k t))) true 5]⟩) (.ok ⟨opV 0,[],[]⟩))
 (boolC (Nat.beq i 1) (.ok ⟨.tuple [.tail ⟨base,.lit 0⟩ (.lit 16) (.sym (roN t 16)) (.rest base 16),.int .i64 (.lit 0)],[],[.own (.fn (qea (og1D F D u k t)) (lenN (ro1D F D u k t))) false 5]⟩)
  (.ok ⟨.tuple [q0e base (roN t 32),.int .i64 (.lit 0)],[],[.own (.fn (qea (strG F (dkS F k 32 u 0xaa#8) (t.cut t.o 16) (roX t 32))) (roN t 32)) false 5]⟩))
def rogS (F:HashF) (D:CtsF) (i:Nat):Summ:=fun args H base=>ropA H args fun p v u sp sv k _ t _=>.need (opnQ i p.den v.den u.den sp.den sv.den k t/\opT1 F i k u.den t=true) (rogR F D i base u.den k t)
def roI (kn tn:Nat) (k t:Sl) (i:Int) (n:Nat) (v u sp sv:Int):Ifc:=qaI [kn,tn] [k.row,t.row] (roA i n v u sp sv k t)
theorem q0d {β:Val} {kn tn:Nat} {k t:Sl} {i:Int} {n:Nat} {v u sp sv:Int} {vs:List Value} (h:SV.denL β [.agg [.int .i64 (.lit i),.int .i64 (.sym v),k.valN kn n],.int .i64 (.sym u),.agg [.int .i64 (.sym sp),.int .i64 (.sym sv),t.val tn]]=some vs):SV.denL β (SV.renL (roI kn tn k t i n v u sp sv).big (roI kn tn k t i n v u sp sv).args)=some vs:=by
 show SV.denL β [.agg [.int .i64 (.lit i),.int .i64 (.sym v),(k.valN 5 n).ren _],.int .i64 (.sym u),.agg [.int .i64 (.sym sp),.int .i64 (.sym sv),(t.val 6).ren _]]=_
 rw [Sl.valN_ren,Sl.val_ren]
 exact h
theorem j4j {H:List SO} {kn tn:Nat} {k t:Sl} {i:Int} {n:Nat} {v u sp sv:Int} (hT:ShaT H) (htab:∀ g,∃ e',H[4]? = some e'/\qrb g tabR e') (hn1:qeb kn=true) (hn2:qeb tn=true) (hd:qrc [4,kn,tn]=true) (h1:∀ g,∃ e',H[kn]? = some e'/\qrb g k.row e') (h2:∀ g,∃ e',H[tn]? = some e'/\qrb g t.row e'):(roI kn tn k t i n v u sp sv).Fits H:=by
 have n3:∀ {x:Nat},x∈[4,kn,tn]->qeb x=true:=by simp only [List.mem_cons,List.not_mem_nil,or_false]; rintro x (rfl | rfl | rfl) <;> first | rfl | assumption
 refine Ifc.fits (nd4 hd fun _=>n3) ?_ (j3j hT htab ⟨⟨h1 _,k.row_uses _⟩,⟨h2 _,t.row_uses _⟩,trivial⟩)
 show ((true && (true && ((k.valN 5 n).uses _ && true))) && (true && ((true && (true && ((t.val 6).uses _ && true))) && true)))=true
 rw [Sl.valN_uses _ _ _ _ rfl,Sl.val_uses _ _ _ rfl]; rfl
theorem q33 {H:List SO} {args:List SV} {f:SI->SI->SI->SI->SI->Sl->Nat->Sl->Nat->R SumRes} {φ:SumRes->Prop} {β:Val} {vs:List Value} (ha:SV.denL β args=some vs)
  (h:∀ p v u sp sv k kn t tn,(∀ {i:Int} {n m m2:Nat} {v u sp sv:Int},(roI kn tn (k.pl m) (t.pl m2) i n v u sp sv).Fits H) ->
   (∀ n i,k.n=n->p.den=i->∃ m m2,SV.denL β [.agg [.int .i64 (.lit i),.int .i64 (.sym v.den),(k.pl m).valN kn n],.int .i64 (.sym u.den),.agg [.int .i64 (.sym sp.den),.int .i64 (.sym sv.den),(t.pl m2).val tn]]=some vs)->(f p v u sp sv k kn t tn).Sat φ):(ropA H args f).Sat φ :=
 qzg fun hT=>qqz fun htab=>q5u ha fun p v u sp sv k kn t tn _ hn1 hn2 _ ht1 ht2 harg=>qfa fun hd=>h p v u sp sv k kn t tn (j4j hT htab hn1 hn2 hd ht1 ht2) harg
theorem q1d {i l:Nat} {v u sp:Int} {k t:Sl} {m2:Nat} {vs:List Prop} {b:Bool} {r:List Prop} (hil:(i=1/\l=16)\/(i=2/\l=32)) (hq:usQ i v u l) (hsp:sp=i) (hv:∀ q∈vs,q) (hk:okL (k.len l)) (ht:okL t) (h16:16+l<=t.n) (h224:t.n<=224+l) (hb:opT1 shaF i k u t = !b) (hr:∀ q∈r,q):∀ q∈roQ shaF i l v u sp k (t.pl m2) vs b r,q:=by
 have hN:ogN (t.pl m2) l=(t.n:Int) - l:=rfl
 have htag:l=tagN i:=by rcases hil with ⟨rfl,rfl⟩ | ⟨rfl,rfl⟩ <;> rfl
 have hB:(!roB shaF i l u k (t.pl m2))=b:=by
  have:roB shaF i l u k (t.pl m2)=roB shaF i l u k t:=rfl
  rw [this,jwv hil,hb]; cases b <;> rfl
 have h1:=ht.1
 have h2:=ht.2
 have hC:okL (roC (t.pl m2) l):=⟨by show t.o+(ogN (t.pl m2) l).toNat<=t.N; omega,by show (ogN (t.pl m2) l).toNat<=_; omega⟩
 have hle:0<=ogN (t.pl m2) l/\ogN (t.pl m2) l<=((t.pl m2).n:Int):=by show 0<=ogN (t.pl m2) l/\ogN (t.pl m2) l<=(t.n:Int); omega
 exact all_cons ⟨fun _=>rfl,fun _=>hq⟩ (all_cons (by simp [hsp]) (qnc hv (all_cons ⟨by omega,by omega⟩ (all_cons (decide_eq_false (by omega)) (all_cons (decide_eq_false (by omega)) (all_cons hle (all_cons (qda _) (all_cons (qda _) (all_cons ⟨rfl,htag,hq.2,hk,hC,by show 1<=(ogN (t.pl m2) l).toNat; omega,by show (ogN (t.pl m2) l).toNat<=_; omega⟩
  (all_cons hle (all_cons ⟨by show t.o+(ogN (t.pl m2) l).toNat * 1+(t.n - (ogN (t.pl m2) l).toNat)<=t.N; omega,fun _ _=>trivial⟩ (all_cons hB hr))))))))))))
theorem qnx {i:Nat} (hi12:i=1\/i=2):SumAt Tryz.prog qze 9 (rogE shaF i):=by
 intro O w0 β H w base args vs hH hG ha
 refine q33 ha fun p v u sp sv k kn t tn hfit harg=>fun ⟨⟨hpi,hq,hsp,hvs,hk,ht,h16,h224⟩,hb⟩ => ?_
 rcases hi12 with rfl | rfl
 . have hkn:k.n=16:=by rcases hq.1.1 with ⟨_,h⟩ | ⟨h,_⟩; exact h; cases h
   have hkl:okL (k.len 16):=by rw [← hkn]; exact hk
   rw [hkn] at hq
   obtain ⟨m,m2,ha'⟩:=harg 16 1 hkn hpi
   rcases qsc hvs with hv | hv | hv
   . exact qka (qzd (.inl rfl)) 8000 hH (roI kn tn (k.pl m) (t.pl m2) 1 16 v.den u.den sp.den sv.den) (qad hG) (q0d ha') hfit [] (by simp [roI,qaI,shaI]) (by simp) (jpa shaF decF v.den u.den sp.den sv.den k t m m2) (q1d (.inl ⟨rfl,rfl⟩) hq hsp hv hkl ht h16 h224 hb qaa) fun _ _=>qkb rfl rfl rfl
   . exact qka (qzd (.inl rfl)) 8000 hH (roI kn tn (k.pl m) (t.pl m2) 1 16 v.den u.den sp.den sv.den) (qad hG) (q0d ha') hfit [] (by simp [roI,qaI,shaI]) (by simp) (jqa shaF decF v.den u.den sp.den sv.den k t m m2) (q1d (.inl ⟨rfl,rfl⟩) hq hsp hv hkl ht h16 h224 hb qaa) fun _ _=>qkb rfl rfl rfl
   . exact qka (qzd (.inl rfl)) 8000 hH (roI kn tn (k.pl m) (t.pl m2) 1 16 v.den u.den sp.den sv.den) (qad hG) (q0d ha') hfit [] (by simp [roI,qaI,shaI]) (by simp) (jra shaF decF v.den u.den sp.den sv.den k t m m2) (q1d (.inl ⟨rfl,rfl⟩) hq hsp hv hkl ht h16 h224 hb qaa) fun _ _=>qkb rfl rfl rfl
 . have hkn:k.n=32:=by rcases hq.1.1 with ⟨h,_⟩ | ⟨_,h⟩; cases h; exact h
   have hkl:okL (k.len 32):=by rw [← hkn]; exact hk
   rw [hkn] at hq
   obtain ⟨m,m2,ha'⟩:=harg 32 2 hkn hpi
   rcases qsc hvs with hv | hv | hv
   . exact qka (qzd (.inr rfl)) 8000 hH (roI kn tn (k.pl m) (t.pl m2) 2 32 v.den u.den sp.den sv.den) (qad hG) (q0d ha') hfit [] (by simp [roI,qaI,shaI]) (by simp) (jsa shaF decF v.den u.den sp.den sv.den k t m m2) (q1d (.inr ⟨rfl,rfl⟩) hq hsp hv hkl ht h16 h224 hb qaa) fun _ _=>qkb rfl rfl rfl
   . exact qka (qzd (.inr rfl)) 8000 hH (roI kn tn (k.pl m) (t.pl m2) 2 32 v.den u.den sp.den sv.den) (qad hG) (q0d ha') hfit [] (by simp [roI,qaI,shaI]) (by simp) (jta shaF decF v.den u.den sp.den sv.den k t m m2) (q1d (.inr ⟨rfl,rfl⟩) hq hsp hv hkl ht h16 h224 hb qaa) fun _ _=>qkb rfl rfl rfl
   . exact qka (qzd (.inr rfl)) 8000 hH (roI kn tn (k.pl m) (t.pl m2) 2 32 v.den u.den sp.den sv.den) (qad hG) (q0d ha') hfit [] (by simp [roI,qaI,shaI]) (by simp) (jua shaF decF v.den u.den sp.den sv.den k t m m2) (q1d (.inr ⟨rfl,rfl⟩) hq hsp hv hkl ht h16 h224 hb qaa) fun _ _=>qkb rfl rfl rfl
theorem q0j {I:Ifc} {base j:Nat} {v v':SV} {X Y:Nat->BitVec 8} {N:Nat} {b:Bool} {H:List SO} (hj:I.known j=false) (ho:q6b I.ents 0=[]) (hE:H[j]? = some (.own (.fn (qea X) N) b 5)) (hX:X=Y)
  (hv:∀ f:Nat->Nat,f j=base->(SV.tuple [v,.int .i64 (.lit 0)]).ren f=.tuple [v',.int .i64 (.lit 0)]) (hu:∀ p:Nat->Bool,p j=true->v.uses p=true):I.Ends base [j] ⟨.tuple [v',.int .i64 (.lit 0)],[],[.own (.fn (qea Y) N) b 5]⟩ (.tuple [v,.int .i64 (.lit 0)]) H:=by
 have ho':I.out base [j] j=base:=by
  unfold Ifc.out
  rw [hj]
  show base+idxN j [j]=base
  rw [show idxN j [j]=boolC (Nat.beq j j) 0 _ from rfl,Nat.beq_refl]; rfl
 have hs:I.seen [j] j=true:=by
  unfold Ifc.seen
  rw [hj]
  exact (memN_iff (n:=j) (l:=[j])).2 List.mem_cons_self
 subst hX
 refine ⟨?_,?_,by rw [ho]; trivial,⟨qpf hE fun _ _=>rfl,trivial⟩⟩
 . rw [hv _ ho']; exact .refl _
 . show (v.uses (I.seen [j]) && (true && true))=true
   rw [hu _ hs]; rfl
theorem qgn {i:Nat} (hi12:i=1\/i=2):SumAt Tryz.prog qze 9 (rogS shaF decF i):=by
 intro O w0 β H w base args vs hH hG ha
 refine q33 ha fun p v u sp sv k kn t tn hfit harg=>fun ⟨⟨hpi,hq,hsp,hvs,hk,ht,h16,h224⟩,hb⟩ => ?_
 have hto:=ht.1
 rcases hi12 with rfl | rfl
 . have hkn:k.n=16:=by rcases hq.1.1 with ⟨_,h⟩ | ⟨h,_⟩; exact h; cases h
   have hkl:okL (k.len 16):=by rw [← hkn]; exact hk
   have hu:=hq.2
   rw [hkn] at hq
   have h16:16+16<=t.n:=h16
   have h224:t.n<=224+16:=h224
   obtain ⟨m,m2,ha'⟩:=harg 16 1 hkn hpi
   have hm2:t.n<=m2:=q3l ha'
   have hN:ogN (t.pl m2) 16=(t.n:Int) - 16:=rfl
   have hN':ogN t 16=(t.n:Int) - 16:=rfl
   have hC:∀ {b:Bool},(((ogN t 16).toNat:Int) == 16)=b->∀ q∈ro1C k (t.pl m2) b,q:=fun hb=>all_cons (qda _) (all_cons ⟨rfl,by rw [← hkn]; exact hk.1⟩ (all_cons ⟨by omega,by omega⟩ (all_cons (qda _) (all_cons ⟨by show t.o+(ogN (t.pl m2) 16).toNat<=t.N; omega,decide_eq_true (by omega)⟩ (all_cons hb (all_cons (by omega) qaa))))))
   refine q1c (fun h0 => ?_) fun h0 => ?_
   . have h0:((roN t 16:Nat):Int)=0:=h0
     have h0:(ogN t 16).toNat - 16=0:=by have e:roN t 16=(ogN t 16).toNat - 16:=rfl; omega
     rcases qsc hvs with hv | hv | hv
     . exact qka (qzd (.inl rfl)) 8000 hH (roI kn tn (k.pl m) (t.pl m2) 1 16 v.den u.den sp.den sv.den) (qad hG) (q0d ha') hfit [12] (by simp [roI,qaI,shaI]) (by simp) (jvj shaF decF v.den u.den sp.den sv.den k t m m2) (q1d (.inl ⟨rfl,rfl⟩) hq hsp hv hkl ht h16 h224 hb (hC (by rw [beq_iff_eq]; omega))) fun H2 hH2=>q0j rfl rfl (List.cons.inj hH2).1 (q4l hu) (fun f hf=>by show SV.tuple [.slice ⟨f 12,.lit 0⟩ _ _,_]=_; rw [hf]; rfl) fun p hp=>by show (p 12 && true)=true; rw [hp]; rfl
     . exact qka (qzd (.inl rfl)) 8000 hH (roI kn tn (k.pl m) (t.pl m2) 1 16 v.den u.den sp.den sv.den) (qad hG) (q0d ha') hfit [12] (by simp [roI,qaI,shaI]) (by simp) (jwj shaF decF v.den u.den sp.den sv.den k t m m2) (q1d (.inl ⟨rfl,rfl⟩) hq hsp hv hkl ht h16 h224 hb (hC (by rw [beq_iff_eq]; omega))) fun H2 hH2=>q0j rfl rfl (List.cons.inj hH2).1 (q4l hu) (fun f hf=>by show SV.tuple [.slice ⟨f 12,.lit 0⟩ _ _,_]=_; rw [hf]; rfl) fun p hp=>by show (p 12 && true)=true; rw [hp]; rfl
     . exact qka (qzd (.inl rfl)) 8000 hH (roI kn tn (k.pl m) (t.pl m2) 1 16 v.den u.den sp.den sv.den) (qad hG) (q0d ha') hfit [12] (by simp [roI,qaI,shaI]) (by simp) (jxj shaF decF v.den u.den sp.den sv.den k t m m2) (q1d (.inl ⟨rfl,rfl⟩) hq hsp hv hkl ht h16 h224 hb (hC (by rw [beq_iff_eq]; omega))) fun H2 hH2=>q0j rfl rfl (List.cons.inj hH2).1 (q4l hu) (fun f hf=>by show SV.tuple [.slice ⟨f 12,.lit 0⟩ _ _,_]=_; rw [hf]; rfl) fun p hp=>by show (p 12 && true)=true; rw [hp]; rfl
   . have h0:((roN t 16:Nat):Int)≠0:=h0
     have h0:(ogN t 16).toNat - 16≠0:=by have e:roN t 16=(ogN t 16).toNat - 16:=rfl; omega
     rcases qsc hvs with hv | hv | hv
     . exact qka (qzd (.inl rfl)) 8000 hH (roI kn tn (k.pl m) (t.pl m2) 1 16 v.den u.den sp.den sv.den) (qad hG) (q0d ha') hfit [12] (by simp [roI,qaI,shaI]) (by simp) (jrr shaF decF v.den u.den sp.den sv.den k t m m2) (q1d (.inl ⟨rfl,rfl⟩) hq hsp hv hkl ht h16 h224 hb (hC (by rw [beq_eq_false_iff_ne]; omega))) fun H2 hH2=>q0j rfl rfl (List.cons.inj hH2).1 (q4l hu) (fun f hf=>by show SV.tuple [.tail ⟨f 12,.lit 0⟩ _ _ (.rest (f 12) 16),_]=_; rw [hf]; rfl) fun p hp=>by show (p 12 && p 12)=true; rw [hp]; rfl
     . exact qka (qzd (.inl rfl)) 8000 hH (roI kn tn (k.pl m) (t.pl m2) 1 16 v.den u.den sp.den sv.den) (qad hG) (q0d ha') hfit [12] (by simp [roI,qaI,shaI]) (by simp) (jsr shaF decF v.den u.den sp.den sv.den k t m m2) (q1d (.inl ⟨rfl,rfl⟩) hq hsp hv hkl ht h16 h224 hb (hC (by rw [beq_eq_false_iff_ne]; omega))) fun H2 hH2=>q0j rfl rfl (List.cons.inj hH2).1 (q4l hu) (fun f hf=>by show SV.tuple [.tail ⟨f 12,.lit 0⟩ _ _ (.rest (f 12) 16),_]=_; rw [hf]; rfl) fun p hp=>by show (p 12 && p 12)=true; rw [hp]; rfl
     . exact qka (qzd (.inl rfl)) 8000 hH (roI kn tn (k.pl m) (t.pl m2) 1 16 v.den u.den sp.den sv.den) (qad hG) (q0d ha') hfit [12] (by simp [roI,qaI,shaI]) (by simp) (jtr shaF decF v.den u.den sp.den sv.den k t m m2) (q1d (.inl ⟨rfl,rfl⟩) hq hsp hv hkl ht h16 h224 hb (hC (by rw [beq_eq_false_iff_ne]; omega))) fun H2 hH2=>q0j rfl rfl (List.cons.inj hH2).1 (q4l hu) (fun f hf=>by show SV.tuple [.tail ⟨f 12,.lit 0⟩ _ _ (.rest (f 12) 16),_]=_; rw [hf]; rfl) fun p hp=>by show (p 12 && p 12)=true; rw [hp]; rfl
 . have hkn:k.n=32:=by rcases hq.1.1 with ⟨h,_⟩ | ⟨_,h⟩; cases h; exact h
   have hkl:okL (k.len 32):=by rw [← hkn]; exact hk
   have hu:=hq.2
   rw [hkn] at hq
   have h16:16+32<=t.n:=h16
   have h224:t.n<=224+32:=h224
   obtain ⟨m,m2,ha'⟩:=harg 32 2 hkn hpi
   have hm2:t.n<=m2:=q3l ha'
   have hN:ogN (t.pl m2) 32=(t.n:Int) - 32:=rfl
   have hN':ogN t 32=(t.n:Int) - 32:=rfl
   have hC:∀ {b:Bool},(((roX t 32).n:Int) == 0)=b->∀ q∈ro2C shaF u.den k (t.pl m2) b,q:=fun hb=>all_cons (qda _) (all_cons ⟨rfl,by rw [← hkn]; exact hk.1⟩ (all_cons (by omega) (all_cons (by omega) (all_cons (by show m2 - 16≠0; omega) (all_cons (qda _) (all_cons ⟨rfl,rfl,⟨by show 0+32<=32; omega,by show 32<=_; omega⟩,⟨by show t.o+16<=t.N; omega,by show 16<=_; omega⟩,⟨by show t.o+16+((ogN (t.pl m2) 32).toNat - 16)<=t.N; omega,by show (ogN (t.pl m2) 32).toNat - 16<=_; have:=ht.2; omega⟩⟩ (all_cons hb qaa)))))))
   refine q1c (fun h0 => ?_) fun h0 => ?_
   . have h0:((roN t 32:Nat):Int)=0:=h0
     have h0:(ogN t 32).toNat - 16=0:=by have e:roN t 32=(ogN t 32).toNat - 16:=rfl; omega
     rcases qsc hvs with hv | hv | hv
     . exact qka (qzd (.inr rfl)) 8000 hH (roI kn tn (k.pl m) (t.pl m2) 2 32 v.den u.den sp.den sv.den) (qad hG) (q0d ha') hfit [] (by simp [roI,qaI,shaI]) (by simp) (jyj shaF decF v.den u.den sp.den sv.den k t m m2) (q1d (.inr ⟨rfl,rfl⟩) hq hsp hv hkl ht h16 h224 hb (hC (by rw [beq_iff_eq]; show (((ogN t 32).toNat - 16:Nat):Int)=0; omega))) fun _ _=>qkb rfl rfl rfl
     . exact qka (qzd (.inr rfl)) 8000 hH (roI kn tn (k.pl m) (t.pl m2) 2 32 v.den u.den sp.den sv.den) (qad hG) (q0d ha') hfit [] (by simp [roI,qaI,shaI]) (by simp) (jzj shaF decF v.den u.den sp.den sv.den k t m m2) (q1d (.inr ⟨rfl,rfl⟩) hq hsp hv hkl ht h16 h224 hb (hC (by rw [beq_iff_eq]; show (((ogN t 32).toNat - 16:Nat):Int)=0; omega))) fun _ _=>qkb rfl rfl rfl
     . exact qka (qzd (.inr rfl)) 8000 hH (roI kn tn (k.pl m) (t.pl m2) 2 32 v.den u.den sp.den sv.den) (qad hG) (q0d ha') hfit [] (by simp [roI,qaI,shaI]) (by simp) (j0j shaF decF v.den u.den sp.den sv.den k t m m2) (q1d (.inr ⟨rfl,rfl⟩) hq hsp hv hkl ht h16 h224 hb (hC (by rw [beq_iff_eq]; show (((ogN t 32).toNat - 16:Nat):Int)=0; omega))) fun _ _=>qkb rfl rfl rfl
   . have h0:((roN t 32:Nat):Int)≠0:=h0
     have h0:(ogN t 32).toNat - 16≠0:=by have e:roN t 32=(ogN t 32).toNat - 16:=rfl; omega
     rcases qsc hvs with hv | hv | hv
     . exact qka (qzd (.inr rfl)) 8000 hH (roI kn tn (k.pl m) (t.pl m2) 2 32 v.den u.den sp.den sv.den) (qad hG) (q0d ha') hfit [11] (by simp [roI,qaI,shaI]) (by simp) (jur shaF decF v.den u.den sp.den sv.den k t m m2) (q1d (.inr ⟨rfl,rfl⟩) hq hsp hv hkl ht h16 h224 hb (hC (by rw [beq_eq_false_iff_ne]; show (((ogN t 32).toNat - 16:Nat):Int)≠0; omega))) fun H2 hH2=>q0j rfl rfl (List.cons.inj hH2).1 (qqy hu _) (fun f hf=>by show SV.tuple [.slice ⟨f 11,.lit 0⟩ _ (.rest (f 11) 0),_]=_; rw [hf]; rfl) fun p hp=>by show (p 11 && p 11)=true; rw [hp]; rfl
     . exact qka (qzd (.inr rfl)) 8000 hH (roI kn tn (k.pl m) (t.pl m2) 2 32 v.den u.den sp.den sv.den) (qad hG) (q0d ha') hfit [11] (by simp [roI,qaI,shaI]) (by simp) (jvr shaF decF v.den u.den sp.den sv.den k t m m2) (q1d (.inr ⟨rfl,rfl⟩) hq hsp hv hkl ht h16 h224 hb (hC (by rw [beq_eq_false_iff_ne]; show (((ogN t 32).toNat - 16:Nat):Int)≠0; omega))) fun H2 hH2=>q0j rfl rfl (List.cons.inj hH2).1 (qqy hu _) (fun f hf=>by show SV.tuple [.slice ⟨f 11,.lit 0⟩ _ (.rest (f 11) 0),_]=_; rw [hf]; rfl) fun p hp=>by show (p 11 && p 11)=true; rw [hp]; rfl
     . exact qka (qzd (.inr rfl)) 8000 hH (roI kn tn (k.pl m) (t.pl m2) 2 32 v.den u.den sp.den sv.den) (qad hG) (q0d ha') hfit [11] (by simp [roI,qaI,shaI]) (by simp) (jwr shaF decF v.den u.den sp.den sv.den k t m m2) (q1d (.inr ⟨rfl,rfl⟩) hq hsp hv hkl ht h16 h224 hb (hC (by rw [beq_eq_false_iff_ne]; show (((ogN t 32).toNat - 16:Nat):Int)≠0; omega))) fun H2 hH2=>q0j rfl rfl (List.cons.inj hH2).1 (qqy hu _) (fun f hf=>by show SV.tuple [.slice ⟨f 11,.lit 0⟩ _ (.rest (f 11) 0),_]=_; rw [hf]; rfl) fun p hp=>by show (p 11 && p 11)=true; rw [hp]; rfl
end
noncomputable section
open Go.Sim
open Go.Proofs
variable {α:Type}
set_option maxRecDepth 1000000
def jva (b:Bool):Cfg:=qle (qbb [(18,ruS b),(24,lnS 16 32)])
theorem qm6 {b:Bool}:CfgOK (jva b):=q8b (allC (fun g=>ruOK g) (all1 fun g=>q99 g))
def rsqT (b:Bool) (p v u:Int) (y:Option Addr) (l m:Nat) (y1:Option Addr) (l1 m1:Nat) (y2:Option Addr) (l2 m2:Nat):Tree:=qca (jva b) 400 7 (sqA p v u y l m y1 l1 m1 y2 l2 m2) []
def usP (p v u:Int) (l:Nat) (b:Bool):Prop:=usQ p v u l↔b=true
section
variable (p v u sp sv:Int) (y:Option Addr) (l m:Nat) (y1:Option Addr) (l1 m1:Nat) (y2:Option Addr) (l2 m2:Nat)
theorem jyr:outO [] (rsqT false p v u y l m y1 l1 m1 y2 l2 m2) []=([usP p v u l false],some (sqV,[])):=by kernel_rfl
theorem jzr:outO [] (rsqT true p v u y l m y1 l1 m1 y2 l2 m2) (repN true 4)=(usP p v u l true::repN (((l1:Int) != 16)=true) 4,some (sqV,[])):=by kernel_rfl
end
theorem rsqOK:q3a Tryz.prog 7 sqS:=by
 intro glob O w0 β H w base args vs hH hG ha
 refine q1h fun kv uv cv tv hv=>qrf fun p v s n hk hs=>q2a fun u hu=>qpm fun cl hc=>qpm fun tl ht=>fun hq => ?_
 subst hv hk hu
 obtain ⟨y,m,h1⟩:=qsf ha hs
 obtain ⟨xk,zs,hxk,hzs,rfl⟩:=denL_cons.1 h1
 obtain ⟨xu,zs1,hxu,hzs1,rfl⟩:=denL_cons.1 hzs
 obtain ⟨xc,zs2,hxc,hzs2,rfl⟩:=denL_cons.1 hzs1
 obtain ⟨xt,zs3,hxt,hzs3,rfl⟩:=denL_cons.1 hzs2
 obtain ⟨y1,m1,hc'⟩:=qjq hc hxc
 obtain ⟨y2,m2,ht'⟩:=qjq ht hxt
 have ha':SV.denL β (sqA p.den v.den u.den y n m y1 cl m1 y2 tl m2)=some (xk::xu::xc::xt::zs3):=denL_cons.2 ⟨_,_,hxk,denL_cons.2 ⟨_,_,qla rfl _ _ hxu,denL_cons.2 ⟨_,_,hc',denL_cons.2 ⟨_,_,ht',hzs3,rfl⟩,rfl⟩,rfl⟩,rfl⟩
 have key:∀ {b cs ds},outO [] (rsqT b p.den v.den u.den y n m y1 cl m1 y2 tl m2) ds=(cs,some (sqV,[]))->(∀ q∈cs,q)->q4a Tryz.prog H β w base 7 (xk::xu::xc::xt::zs3) ⟨sqV,[],[]⟩:=by
  intro b cs ds hr hc
  exact qqb qm6 rfl 400 hH ⟨[],[],sqA p.den v.den u.den y n m y1 cl m1 y2 tl m2⟩ ha' (q5c rfl) [] (by simp) (by simp) hr hc fun _ _=>qkb rfl rfl rfl
 by_cases hval:usQ p.den v.den u.den n
 . have hcl:((cl:Int) != 16)=true:=by
    rcases hq with h | h
    . exact absurd hval h
    . rw [bne_iff_ne]; omega
   exact key (jzr p.den v.den u.den y n m y1 cl m1 y2 tl m2) (all_cons ⟨fun _=>rfl,fun _=>hval⟩ (q8d hcl 4))
 . exact key (jyr p.den v.den u.den y n m y1 cl m1 y2 tl m2) (all_cons ⟨fun h=>absurd h hval,fun h=>by cases h⟩ qaa)
def roqT (b:Bool) (p v u:Int) (y:Option Addr) (l m:Nat) (sp sv:Int) (y1:Option Addr) (l1 m1:Nat):Tree:=qca (jva b) 400 9 (oqA p v u y l m sp sv y1 l1 m1) []
section
variable (p v u sp sv:Int) (y:Option Addr) (l m:Nat) (y1:Option Addr) (l1 m1:Nat)
theorem j0r:outO [] (roqT false p v u y l m sp sv y1 l1 m1) []=([usP p v u l false],some (opV 2,[])):=by kernel_rfl
theorem q43:outO [] (roqT true p v u y l m sp sv y1 l1 m1) (repN true 10)=(usP p v u l true::repN ((sp != p)=true) 10,some (opV 9,[])):=by kernel_rfl
theorem q53:outO [] (roqT true p v u y l m sp sv y1 l1 m1) [false,true,true,true]=(usP p v u l true::[(sp != p)=false,(sv != v)=true,(sv != 0)=true,(v != 0)=true],some (opV 9,[])):=by kernel_rfl
theorem q54:outO [] (roqT true p v u y l m sp sv y1 l1 m1) [false,false,false,false,false,true,true]=(usP p v u l true::((sp != p)=false)::app (v0C v sv) (app [(p == 1)=true] (shC l1 16)),some (opV 4,[])):=by kernel_rfl
theorem q64:outO [] (roqT true p v u y l m sp sv y1 l1 m1) [false,true,false,false,false,false,true,true]=(usP p v u l true::((sp != p)=false)::app (v1C v sv) (app [(p == 1)=true] (shC l1 16)),some (opV 4,[])):=by kernel_rfl
theorem q74:outO [] (roqT true p v u y l m sp sv y1 l1 m1) [false,true,true,false,true,true]=(usP p v u l true::((sp != p)=false)::app (v2C v sv) (app [(p == 1)=true] (shC l1 16)),some (opV 4,[])):=by kernel_rfl
theorem q84:outO [] (roqT true p v u y l m sp sv y1 l1 m1) [false,false,false,false,false,false,true,true]=(usP p v u l true::((sp != p)=false)::app (v0C v sv) (app [(p == 1)=false,(p == 2)=true] (shC l1 32)),some (opV 4,[])):=by kernel_rfl
theorem q94:outO [] (roqT true p v u y l m sp sv y1 l1 m1) [false,true,false,false,false,false,false,true,true]=(usP p v u l true::((sp != p)=false)::app (v1C v sv) (app [(p == 1)=false,(p == 2)=true] (shC l1 32)),some (opV 4,[])):=by kernel_rfl
theorem qa5:outO [] (roqT true p v u y l m sp sv y1 l1 m1) [false,true,true,false,false,true,true]=(usP p v u l true::((sp != p)=false)::app (v2C v sv) (app [(p == 1)=false,(p == 2)=true] (shC l1 32)),some (opV 4,[])):=by kernel_rfl
end
theorem q70 {e:Int}:q3a Tryz.prog 9 (oqS e):=by
 intro glob O w0 β H w base args vs hH hG ha
 refine qcb fun kv uv zv hv=>qrf fun p v s n hk hs=>q2a fun u hu=>qrf fun sp sv s1 l1 hz hs1=>fun hq => ?_
 subst hv hk hu hz
 obtain ⟨y,m,h1⟩:=qsf ha hs
 obtain ⟨xk,zs,hxk,hzs,rfl⟩:=denL_cons.1 h1
 obtain ⟨xu,zs1,hxu,hzs1,rfl⟩:=denL_cons.1 hzs
 obtain ⟨y1,m1,hzs1'⟩:=qsf hzs1 hs1
 have ha':SV.denL β (oqA p.den v.den u.den y n m sp.den sv.den y1 l1 m1)=some (xk::xu::zs1):=denL_cons.2 ⟨_,_,hxk,denL_cons.2 ⟨_,_,qla rfl _ _ hxu,hzs1',rfl⟩,rfl⟩
 have key:∀ {b cs ds},outO [] (roqT b p.den v.den u.den y n m sp.den sv.den y1 l1 m1) ds=(cs,some (opV e,[]))->(∀ q∈cs,q)->q4a Tryz.prog H β w base 9 (xk::xu::zs1) ⟨opV e,[],[]⟩:=by
  intro b cs ds hr hc
  exact qqb qm6 rfl 400 hH ⟨[],[],oqA p.den v.den u.den y n m sp.den sv.den y1 l1 m1⟩ ha' (q5c rfl) [] (by simp) (by simp) hr hc fun _ _=>qkb rfl rfl rfl
 rcases hq with ⟨rfl,hval⟩ | ⟨rfl,hval,hne⟩ | ⟨rfl,hval,hsp,hvs,hlt⟩
 . exact key (j0r p.den v.den u.den sp.den sv.den y n m y1 l1 m1) (all_cons ⟨fun h=>absurd h hval,fun h=>by cases h⟩ qaa)
 . by_cases hsp:sp.den=p.den
   . have hv:¬ qxi v.den sv.den:=hne.resolve_left fun h=>h hsp
     have hv:¬ (sv.den=v.den\/sv.den=0\/v.den=0):=hv
     have hc:∀ q∈[(sp.den != p.den)=false,(sv.den != v.den)=true,(sv.den != 0)=true,(v.den != 0)=true],q:=all_cons (by simp [hsp]) (all_cons (by rw [bne_iff_ne]; omega) (all_cons (by rw [bne_iff_ne]; omega) (all_cons (by rw [bne_iff_ne]; omega) qaa)))
     rcases hval.1.1 with ⟨h,_⟩ | ⟨h,_⟩
     . exact key (q53 p.den v.den u.den sp.den sv.den y n m y1 l1 m1) (all_cons ⟨fun _=>rfl,fun _=>hval⟩ hc)
     . exact key (q53 p.den v.den u.den sp.den sv.den y n m y1 l1 m1) (all_cons ⟨fun _=>rfl,fun _=>hval⟩ hc)
   . have hc:(sp.den != p.den)=true:=by simp [hsp]
     rcases hval.1.1 with ⟨h,_⟩ | ⟨h,_⟩
     . exact key (q43 p.den v.den u.den sp.den sv.den y n m y1 l1 m1) (all_cons ⟨fun _=>rfl,fun _=>hval⟩ (q8d hc 10))
     . exact key (q43 p.den v.den u.den sp.den sv.den y n m y1 l1 m1) (all_cons ⟨fun _=>rfl,fun _=>hval⟩ (q8d hc 10))
 . have hc:(sp.den != p.den)=false:=by simp [hsp]
   have hsh:∀ {g:Int},g=n->n<=32->∀ q∈shC l1 g,q:=fun {g} hg hn=>all_cons ⟨by omega,by omega⟩ (all_cons (decide_eq_true (by omega)) qaa)
   rcases hval.1.1 with ⟨h,hn⟩ | ⟨h,hn⟩
   . rcases qsc hvs with hv | hv | hv
     . exact key (q54 p.den v.den u.den sp.den sv.den y n m y1 l1 m1) (all_cons ⟨fun _=>rfl,fun _=>hval⟩ (all_cons hc (qrd hv (qrd (all_cons (by simp [h]) qaa) (hsh (by omega) (by omega))))))
     . exact key (q64 p.den v.den u.den sp.den sv.den y n m y1 l1 m1) (all_cons ⟨fun _=>rfl,fun _=>hval⟩ (all_cons hc (qrd hv (qrd (all_cons (by simp [h]) qaa) (hsh (by omega) (by omega))))))
     . exact key (q74 p.den v.den u.den sp.den sv.den y n m y1 l1 m1) (all_cons ⟨fun _=>rfl,fun _=>hval⟩ (all_cons hc (qrd hv (qrd (all_cons (by simp [h]) qaa) (hsh (by omega) (by omega))))))
   . rcases qsc hvs with hv | hv | hv
     . exact key (q84 p.den v.den u.den sp.den sv.den y n m y1 l1 m1) (all_cons ⟨fun _=>rfl,fun _=>hval⟩ (all_cons hc (qrd hv (qrd (all_cons (by simp [h]) (all_cons (by simp [h]) qaa)) (hsh (by omega) (by omega))))))
     . exact key (q94 p.den v.den u.den sp.den sv.den y n m y1 l1 m1) (all_cons ⟨fun _=>rfl,fun _=>hval⟩ (all_cons hc (qrd hv (qrd (all_cons (by simp [h]) (all_cons (by simp [h]) qaa)) (hsh (by omega) (by omega))))))
     . exact key (qa5 p.den v.den u.den sp.den sv.den y n m y1 l1 m1) (all_cons ⟨fun _=>rfl,fun _=>hval⟩ (all_cons hc (qrd hv (qrd (all_cons (by simp [h]) (all_cons (by simp [h]) qaa)) (hsh (by omega) (by omega))))))
end
noncomputable section
open Go.Sim
open Go.Proofs
set_option maxRecDepth 1000000
def slP (t:Sl):Sl:=⟨fun i=>t.X (t.o+i),t.n,0,t.n,true,0⟩
def slR:Option (SV × List (Option SO)):=some (.bool (.lit true),[])
section
variable (F:HashF) (E:CtsF) (v u:Int) (k c t:Sl) (m m2 m3:Nat)
end
section
variable (p v u:Int) (y:Option Addr) (l m:Nat) (c t:Sl) (m2 m3:Nat) (y1:Option Addr) (l1 m1:Nat) (y2:Option Addr) (l2:Nat)
end
end
noncomputable section
open Go.Sim
open Go.Proofs
open Go.RowKit
set_option maxRecDepth 1000000
def olE (x y:Sl):List Prop:=[rdC x,rdC y,decide (strS x=strS y)=true]
section
variable (F:HashF) (D:CtsF) (v u sp sv:Int) (k t:Sl) (m m2:Nat)
end
section
variable (p v u sp sv:Int) (y:Option Addr) (l m:Nat) (t:Sl) (m2:Nat) (y1:Option Addr) (l1 m1:Nat)
end
end
noncomputable section
open Go.Sim
open Go.Proofs
open Go.RowKit
set_option maxRecDepth 1000000
def j3m (F:HashF) (E:CtsF) (i:Nat) (so sr:Summ):Cfg:=cfgG qze (qbb [(6,jye F E i),(8,so),(9,sr),(5,knS)])
theorem qhe {i:Nat} (hi:i=1\/i=2) {so sr:Summ} (h1:SumAt Tryz.prog qze 8 so) (h2:SumAt Tryz.prog qze 9 sr):CfgOK (j3m shaF encF i so sr):=qwb (allS (SumAt.upQ (SumAt.up (jnq hi))) (allS h1 (allS h2 (allS (SumAt.upQ (SumAt.up knOK)) (by simp)))))
def chA (i:Int) (n:Nat) (v u:Int) (k c:Sl) (t:SV) (at':Int) (by' vr:BitVec 8):List SV:=[.agg [.int .i64 (.lit i),.int .i64 (.sym v),k.valN 5 n],.int .i64 (.sym u),c.valN 6 16,t,.int .u16 (.sym at'),.int .u8 (.b8 by'),.int .u8 (.b8 vr)]
def chT (F:HashF) (E:CtsF) (so sr:Summ) (i n:Nat) (v u:Int) (k c:Sl) (t:SV) (a:Int) (b x:BitVec 8) (r:List SO):Tree:=qca (j3m F E i so sr) 8000 3 (chA i n v u k c t a b x) (shaH (tabR::k.row::c.row::r))
def chI (a:Int) (n:Nat):Int:=(IntKind.i64.wrap a).tmod n
def chX (X:Nat->BitVec 8) (i:Nat) (b:BitVec 8):Nat->SV:=fun j=>if j=0+i * 1 then .int .u8 (.b8 (X (0+i * 1)+b)) else qea X j
def chN (i:Nat) (t:Sl):Nat:=16+t.n+tagN i
def chG (F:HashF) (E:CtsF) (i:Nat) (K:Sl) (u:Int) (C T:Sl) (a:Int) (b:BitVec 8):Nat->SV:=chX (jmm F E i K u C T) (chI a (chN i T)).toNat b
def chS (F:HashF) (E:CtsF) (i:Nat) (K:Sl) (u:Int) (C T:Sl) (a:Int) (b:BitVec 8):Sl:=⟨fun j=>Go.Sim.byteOf (chG F E i K u C T a b j),chN i T,0,chN i T,true,0⟩
def chV (x:BitVec 8):Int:=(x.toNat:Int).tmod 3
def chC (i:Nat) (v u:Int) (k c:Sl) (K C T:Sl) (a:Int) (bt it:List Prop) (G:Nat->SV) (A B:List Prop):List Prop :=
 app bt (app [IsB (qea k.X),IsB (qea c.X)] (app it (app [(i:Int)=i/\usQ i v u K.n/\16=16/\okL K/\okL C/\okL T/\T.n<=208,(((chN i T:Nat):Int) == 0)=false,((chN i T:Nat):Int)≠0,
  0<=chI a (chN i T)/\chI a (chN i T)<(chN i T:Nat),0+(chI a (chN i T)).toNat * 1<chN i T,0<=chI a (chN i T)/\chI a (chN i T)<(chN i T:Nat),0+(chI a (chN i T)).toNat * 1<chN i T,IsB (qea k.X),IsB G] (app A (app [IsB (qea k.X),IsB G] B)))))
def chE (i:Nat) (v u:Int) (k c:Sl) (K C T:Sl) (a:Int) (bt it:List Prop) (B:List Prop):List Prop :=
 app bt (app [IsB (qea k.X),IsB (qea c.X)] (app it (app [(i:Int)=i/\usQ i v u K.n/\16=16/\okL K/\okL C/\okL T/\T.n<=208,(((chN i T:Nat):Int) == 0)=false,((chN i T:Nat):Int)≠0,
  0<=chI a (chN i T)/\chI a (chN i T)<(chN i T:Nat),0+(chI a (chN i T)).toNat * 1<chN i T,0<=chI a (chN i T)/\chI a (chN i T)<(chN i T:Nat),0+(chI a (chN i T)).toNat * 1<chN i T] B)))
def ch1P (F:HashF) (D:CtsF) (u:Int) (K S:Sl) (o:Nat):Sl:=⟨og1D F D u K S,(ogN S 16).toNat,o,ogL S 16,false,0⟩
def ch1R (F:HashF) (D:CtsF) (u:Int) (K S:Sl) (o:Nat):Sl:=⟨og1D F D u K S,lenN (ro1D F D u K S),o,roN S 16,false,0⟩
def ch2P (F:HashF) (D:CtsF) (u:Int) (K S:Sl):Sl:=⟨opnX F D 2 K u S,ogL S 32,0,ogL S 32,false,0⟩
def ch2R (F:HashF) (u:Int) (K S:Sl):Sl:=⟨strG F (dkS F K 32 u 0xaa#8) (S.cut S.o 16) (roX S 32),roN S 32,0,roN S 32,false,0⟩
section
variable (F:HashF) (E D:CtsF) (v u a:Int) (b x:BitVec 8) (k c t:Sl) (m m2 m3:Nat)
theorem j8e:outO [] (chT F E (oqS 9) (oqS 9) 1 16 v u (k.pl m) (c.pl m2) .nilSlice a b x []) [false]=(chE 1 v u k c ((k.pl m).len 16) ((c.pl m2).len 16) nilSl a [] [] [oqP 9 1 (chV x) u ((k.pl m).len 16).n 1 v (chS F E 1 ((k.pl m).len 16) u ((c.pl m2).len 16) nilSl a b).n,oqP 9 1 (chV x) u ((k.pl m).len 16).n 1 v (chS F E 1 ((k.pl m).len 16) u ((c.pl m2).len 16) nilSl a b).n],slR):=by kernel_rfl
theorem jwa:outO [] (chT F E (opnE F 1) (rogE F 1) 1 16 v u (k.pl m) (c.pl m2) .nilSlice a b x []) [false]=(chC 1 v u k c ((k.pl m).len 16) ((c.pl m2).len 16) nilSl a [] [] (chG F E 1 ((k.pl m).len 16) u ((c.pl m2).len 16) nilSl a b) [opnQ 1 1 (chV x) u 1 v ((k.pl m).len 16) (chS F E 1 ((k.pl m).len 16) u ((c.pl m2).len 16) nilSl a b)/\opT1 F 1 ((k.pl m).len 16) u (chS F E 1 ((k.pl m).len 16) u ((c.pl m2).len 16) nilSl a b)=false] [opnQ 1 1 (chV x) u 1 v ((k.pl m).len 16) (chS F E 1 ((k.pl m).len 16) u ((c.pl m2).len 16) nilSl a b)/\opT1 F 1 ((k.pl m).len 16) u (chS F E 1 ((k.pl m).len 16) u ((c.pl m2).len 16) nilSl a b)=false],slR):=by kernel_rfl
theorem j5j:outO [] (chT F E (opnS F D 1) (rogS F D 1) 1 16 v u (k.pl m) (c.pl m2) .nilSlice a b x []) [false,true,true,true]=(chC 1 v u k c ((k.pl m).len 16) ((c.pl m2).len 16) nilSl a [] [] (chG F E 1 ((k.pl m).len 16) u ((c.pl m2).len 16) nilSl a b) [opnQ 1 1 (chV x) u 1 v ((k.pl m).len 16) (chS F E 1 ((k.pl m).len 16) u ((c.pl m2).len 16) nilSl a b)/\opT1 F 1 ((k.pl m).len 16) u (chS F E 1 ((k.pl m).len 16) u ((c.pl m2).len 16) nilSl a b)=true,(((ogL (chS F E 1 ((k.pl m).len 16) u ((c.pl m2).len 16) nilSl a b) (tagN 1):Nat):Int) == 0)=true] (app [opnQ 1 1 (chV x) u 1 v ((k.pl m).len 16) (chS F E 1 ((k.pl m).len 16) u ((c.pl m2).len 16) nilSl a b)/\opT1 F 1 ((k.pl m).len 16) u (chS F E 1 ((k.pl m).len 16) u ((c.pl m2).len 16) nilSl a b)=true,(((roN (chS F E 1 ((k.pl m).len 16) u ((c.pl m2).len 16) nilSl a b) (tagN 1):Nat):Int) == 0)=true] (olE (ch1P F D u ((k.pl m).len 16) (chS F E 1 ((k.pl m).len 16) u ((c.pl m2).len 16) nilSl a b) 0) (ch1R F D u ((k.pl m).len 16) (chS F E 1 ((k.pl m).len 16) u ((c.pl m2).len 16) nilSl a b) 0))),slR):=by kernel_rfl
theorem j1r:outO [] (chT F E (opnS F D 1) (rogS F D 1) 1 16 v u (k.pl m) (c.pl m2) .nilSlice a b x []) [false,false,false,true]=(chC 1 v u k c ((k.pl m).len 16) ((c.pl m2).len 16) nilSl a [] [] (chG F E 1 ((k.pl m).len 16) u ((c.pl m2).len 16) nilSl a b) [opnQ 1 1 (chV x) u 1 v ((k.pl m).len 16) (chS F E 1 ((k.pl m).len 16) u ((c.pl m2).len 16) nilSl a b)/\opT1 F 1 ((k.pl m).len 16) u (chS F E 1 ((k.pl m).len 16) u ((c.pl m2).len 16) nilSl a b)=true,(((ogL (chS F E 1 ((k.pl m).len 16) u ((c.pl m2).len 16) nilSl a b) (tagN 1):Nat):Int) == 0)=false] (app [opnQ 1 1 (chV x) u 1 v ((k.pl m).len 16) (chS F E 1 ((k.pl m).len 16) u ((c.pl m2).len 16) nilSl a b)/\opT1 F 1 ((k.pl m).len 16) u (chS F E 1 ((k.pl m).len 16) u ((c.pl m2).len 16) nilSl a b)=true,(((roN (chS F E 1 ((k.pl m).len 16) u ((c.pl m2).len 16) nilSl a b) (tagN 1):Nat):Int) == 0)=false] (olE (ch1P F D u ((k.pl m).len 16) (chS F E 1 ((k.pl m).len 16) u ((c.pl m2).len 16) nilSl a b) 16) (ch1R F D u ((k.pl m).len 16) (chS F E 1 ((k.pl m).len 16) u ((c.pl m2).len 16) nilSl a b) 16))),slR):=by kernel_rfl
theorem j9e:outO [] (chT F E (oqS 9) (oqS 9) 1 16 v u (k.pl m) (c.pl m2) ((t.pl m3).val 7) a b x [(t.pl m3).row]) [false,false]=(chE 1 v u k c ((k.pl m).len 16) ((c.pl m2).len 16) (t.pl m3) a [decide ((t.n:Int) > 200)=false] [IsB (qea t.X)] [oqP 9 1 (chV x) u ((k.pl m).len 16).n 1 v (chS F E 1 ((k.pl m).len 16) u ((c.pl m2).len 16) (t.pl m3) a b).n,oqP 9 1 (chV x) u ((k.pl m).len 16).n 1 v (chS F E 1 ((k.pl m).len 16) u ((c.pl m2).len 16) (t.pl m3) a b).n],slR):=by kernel_rfl
theorem jxa:outO [] (chT F E (opnE F 1) (rogE F 1) 1 16 v u (k.pl m) (c.pl m2) ((t.pl m3).val 7) a b x [(t.pl m3).row]) [false,false]=(chC 1 v u k c ((k.pl m).len 16) ((c.pl m2).len 16) (t.pl m3) a [decide ((t.n:Int) > 200)=false] [IsB (qea t.X)] (chG F E 1 ((k.pl m).len 16) u ((c.pl m2).len 16) (t.pl m3) a b) [opnQ 1 1 (chV x) u 1 v ((k.pl m).len 16) (chS F E 1 ((k.pl m).len 16) u ((c.pl m2).len 16) (t.pl m3) a b)/\opT1 F 1 ((k.pl m).len 16) u (chS F E 1 ((k.pl m).len 16) u ((c.pl m2).len 16) (t.pl m3) a b)=false] [opnQ 1 1 (chV x) u 1 v ((k.pl m).len 16) (chS F E 1 ((k.pl m).len 16) u ((c.pl m2).len 16) (t.pl m3) a b)/\opT1 F 1 ((k.pl m).len 16) u (chS F E 1 ((k.pl m).len 16) u ((c.pl m2).len 16) (t.pl m3) a b)=false],slR):=by kernel_rfl
theorem j6j:outO [] (chT F E (opnS F D 1) (rogS F D 1) 1 16 v u (k.pl m) (c.pl m2) ((t.pl m3).val 7) a b x [(t.pl m3).row]) [false,false,true,true,true]=(chC 1 v u k c ((k.pl m).len 16) ((c.pl m2).len 16) (t.pl m3) a [decide ((t.n:Int) > 200)=false] [IsB (qea t.X)] (chG F E 1 ((k.pl m).len 16) u ((c.pl m2).len 16) (t.pl m3) a b) [opnQ 1 1 (chV x) u 1 v ((k.pl m).len 16) (chS F E 1 ((k.pl m).len 16) u ((c.pl m2).len 16) (t.pl m3) a b)/\opT1 F 1 ((k.pl m).len 16) u (chS F E 1 ((k.pl m).len 16) u ((c.pl m2).len 16) (t.pl m3) a b)=true,(((ogL (chS F E 1 ((k.pl m).len 16) u ((c.pl m2).len 16) (t.pl m3) a b) (tagN 1):Nat):Int) == 0)=true] (app [opnQ 1 1 (chV x) u 1 v ((k.pl m).len 16) (chS F E 1 ((k.pl m).len 16) u ((c.pl m2).len 16) (t.pl m3) a b)/\opT1 F 1 ((k.pl m).len 16) u (chS F E 1 ((k.pl m).len 16) u ((c.pl m2).len 16) (t.pl m3) a b)=true,(((roN (chS F E 1 ((k.pl m).len 16) u ((c.pl m2).len 16) (t.pl m3) a b) (tagN 1):Nat):Int) == 0)=true] (olE (ch1P F D u ((k.pl m).len 16) (chS F E 1 ((k.pl m).len 16) u ((c.pl m2).len 16) (t.pl m3) a b) 0) (ch1R F D u ((k.pl m).len 16) (chS F E 1 ((k.pl m).len 16) u ((c.pl m2).len 16) (t.pl m3) a b) 0))),slR):=by kernel_rfl
theorem j2r:outO [] (chT F E (opnS F D 1) (rogS F D 1) 1 16 v u (k.pl m) (c.pl m2) ((t.pl m3).val 7) a b x [(t.pl m3).row]) [false,false,false,false,true]=(chC 1 v u k c ((k.pl m).len 16) ((c.pl m2).len 16) (t.pl m3) a [decide ((t.n:Int) > 200)=false] [IsB (qea t.X)] (chG F E 1 ((k.pl m).len 16) u ((c.pl m2).len 16) (t.pl m3) a b) [opnQ 1 1 (chV x) u 1 v ((k.pl m).len 16) (chS F E 1 ((k.pl m).len 16) u ((c.pl m2).len 16) (t.pl m3) a b)/\opT1 F 1 ((k.pl m).len 16) u (chS F E 1 ((k.pl m).len 16) u ((c.pl m2).len 16) (t.pl m3) a b)=true,(((ogL (chS F E 1 ((k.pl m).len 16) u ((c.pl m2).len 16) (t.pl m3) a b) (tagN 1):Nat):Int) == 0)=false] (app [opnQ 1 1 (chV x) u 1 v ((k.pl m).len 16) (chS F E 1 ((k.pl m).len 16) u ((c.pl m2).len 16) (t.pl m3) a b)/\opT1 F 1 ((k.pl m).len 16) u (chS F E 1 ((k.pl m).len 16) u ((c.pl m2).len 16) (t.pl m3) a b)=true,(((roN (chS F E 1 ((k.pl m).len 16) u ((c.pl m2).len 16) (t.pl m3) a b) (tagN 1):Nat):Int) == 0)=false] (olE (ch1P F D u ((k.pl m).len 16) (chS F E 1 ((k.pl m).len 16) u ((c.pl m2).len 16) (t.pl m3) a b) 16) (ch1R F D u ((k.pl m).len 16) (chS F E 1 ((k.pl m).len 16) u ((c.pl m2).len 16) (t.pl m3) a b) 16))),slR):=by kernel_rfl
theorem jaf:outO [] (chT F E (oqS 9) (oqS 9) 2 32 v u (k.pl m) (c.pl m2) .nilSlice a b x []) [false]=(chE 2 v u k c ((k.pl m).len 32) ((c.pl m2).len 16) nilSl a [] [] [oqP 9 2 (chV x) u ((k.pl m).len 32).n 2 v (chS F E 2 ((k.pl m).len 32) u ((c.pl m2).len 16) nilSl a b).n,oqP 9 2 (chV x) u ((k.pl m).len 32).n 2 v (chS F E 2 ((k.pl m).len 32) u ((c.pl m2).len 16) nilSl a b).n],slR):=by kernel_rfl
theorem jya:outO [] (chT F E (opnE F 2) (rogE F 2) 2 32 v u (k.pl m) (c.pl m2) .nilSlice a b x []) [false]=(chC 2 v u k c ((k.pl m).len 32) ((c.pl m2).len 16) nilSl a [] [] (chG F E 2 ((k.pl m).len 32) u ((c.pl m2).len 16) nilSl a b) [opnQ 2 2 (chV x) u 2 v ((k.pl m).len 32) (chS F E 2 ((k.pl m).len 32) u ((c.pl m2).len 16) nilSl a b)/\opT1 F 2 ((k.pl m).len 32) u (chS F E 2 ((k.pl m).len 32) u ((c.pl m2).len 16) nilSl a b)=false] [opnQ 2 2 (chV x) u 2 v ((k.pl m).len 32) (chS F E 2 ((k.pl m).len 32) u ((c.pl m2).len 16) nilSl a b)/\opT1 F 2 ((k.pl m).len 32) u (chS F E 2 ((k.pl m).len 32) u ((c.pl m2).len 16) nilSl a b)=false],slR):=by kernel_rfl
theorem j7j:outO [] (chT F E (opnS F D 2) (rogS F D 2) 2 32 v u (k.pl m) (c.pl m2) .nilSlice a b x []) [false,true,true,true]=(chC 2 v u k c ((k.pl m).len 32) ((c.pl m2).len 16) nilSl a [] [] (chG F E 2 ((k.pl m).len 32) u ((c.pl m2).len 16) nilSl a b) [opnQ 2 2 (chV x) u 2 v ((k.pl m).len 32) (chS F E 2 ((k.pl m).len 32) u ((c.pl m2).len 16) nilSl a b)/\opT1 F 2 ((k.pl m).len 32) u (chS F E 2 ((k.pl m).len 32) u ((c.pl m2).len 16) nilSl a b)=true,(((ogL (chS F E 2 ((k.pl m).len 32) u ((c.pl m2).len 16) nilSl a b) (tagN 2):Nat):Int) == 0)=true] (app [opnQ 2 2 (chV x) u 2 v ((k.pl m).len 32) (chS F E 2 ((k.pl m).len 32) u ((c.pl m2).len 16) nilSl a b)/\opT1 F 2 ((k.pl m).len 32) u (chS F E 2 ((k.pl m).len 32) u ((c.pl m2).len 16) nilSl a b)=true,(((roN (chS F E 2 ((k.pl m).len 32) u ((c.pl m2).len 16) nilSl a b) (tagN 2):Nat):Int) == 0)=true] []),slR):=by kernel_rfl
theorem j3r:outO [] (chT F E (opnS F D 2) (rogS F D 2) 2 32 v u (k.pl m) (c.pl m2) .nilSlice a b x []) [false,false,false,true]=(chC 2 v u k c ((k.pl m).len 32) ((c.pl m2).len 16) nilSl a [] [] (chG F E 2 ((k.pl m).len 32) u ((c.pl m2).len 16) nilSl a b) [opnQ 2 2 (chV x) u 2 v ((k.pl m).len 32) (chS F E 2 ((k.pl m).len 32) u ((c.pl m2).len 16) nilSl a b)/\opT1 F 2 ((k.pl m).len 32) u (chS F E 2 ((k.pl m).len 32) u ((c.pl m2).len 16) nilSl a b)=true,(((ogL (chS F E 2 ((k.pl m).len 32) u ((c.pl m2).len 16) nilSl a b) (tagN 2):Nat):Int) == 0)=false] (app [opnQ 2 2 (chV x) u 2 v ((k.pl m).len 32) (chS F E 2 ((k.pl m).len 32) u ((c.pl m2).len 16) nilSl a b)/\opT1 F 2 ((k.pl m).len 32) u (chS F E 2 ((k.pl m).len 32) u ((c.pl m2).len 16) nilSl a b)=true,(((roN (chS F E 2 ((k.pl m).len 32) u ((c.pl m2).len 16) nilSl a b) (tagN 2):Nat):Int) == 0)=false] (olE (ch2P F D u ((k.pl m).len 32) (chS F E 2 ((k.pl m).len 32) u ((c.pl m2).len 16) nilSl a b)) (ch2R F u ((k.pl m).len 32) (chS F E 2 ((k.pl m).len 32) u ((c.pl m2).len 16) nilSl a b)))),slR):=by kernel_rfl
theorem jbf:outO [] (chT F E (oqS 9) (oqS 9) 2 32 v u (k.pl m) (c.pl m2) ((t.pl m3).val 7) a b x [(t.pl m3).row]) [false,false]=(chE 2 v u k c ((k.pl m).len 32) ((c.pl m2).len 16) (t.pl m3) a [decide ((t.n:Int) > 200)=false] [IsB (qea t.X)] [oqP 9 2 (chV x) u ((k.pl m).len 32).n 2 v (chS F E 2 ((k.pl m).len 32) u ((c.pl m2).len 16) (t.pl m3) a b).n,oqP 9 2 (chV x) u ((k.pl m).len 32).n 2 v (chS F E 2 ((k.pl m).len 32) u ((c.pl m2).len 16) (t.pl m3) a b).n],slR):=by kernel_rfl
theorem jza:outO [] (chT F E (opnE F 2) (rogE F 2) 2 32 v u (k.pl m) (c.pl m2) ((t.pl m3).val 7) a b x [(t.pl m3).row]) [false,false]=(chC 2 v u k c ((k.pl m).len 32) ((c.pl m2).len 16) (t.pl m3) a [decide ((t.n:Int) > 200)=false] [IsB (qea t.X)] (chG F E 2 ((k.pl m).len 32) u ((c.pl m2).len 16) (t.pl m3) a b) [opnQ 2 2 (chV x) u 2 v ((k.pl m).len 32) (chS F E 2 ((k.pl m).len 32) u ((c.pl m2).len 16) (t.pl m3) a b)/\opT1 F 2 ((k.pl m).len 32) u (chS F E 2 ((k.pl m).len 32) u ((c.pl m2).len 16) (t.pl m3) a b)=false] [opnQ 2 2 (chV x) u 2 v ((k.pl m).len 32) (chS F E 2 ((k.pl m).len 32) u ((c.pl m2).len 16) (t.pl m3) a b)/\opT1 F 2 ((k.pl m).len 32) u (chS F E 2 ((k.pl m).len 32) u ((c.pl m2).len 16) (t.pl m3) a b)=false],slR):=by kernel_rfl
theorem j8j:outO [] (chT F E (opnS F D 2) (rogS F D 2) 2 32 v u (k.pl m) (c.pl m2) ((t.pl m3).val 7) a b x [(t.pl m3).row]) [false,false,true,true,true]=(chC 2 v u k c ((k.pl m).len 32) ((c.pl m2).len 16) (t.pl m3) a [decide ((t.n:Int) > 200)=false] [IsB (qea t.X)] (chG F E 2 ((k.pl m).len 32) u ((c.pl m2).len 16) (t.pl m3) a b) [opnQ 2 2 (chV x) u 2 v ((k.pl m).len 32) (chS F E 2 ((k.pl m).len 32) u ((c.pl m2).len 16) (t.pl m3) a b)/\opT1 F 2 ((k.pl m).len 32) u (chS F E 2 ((k.pl m).len 32) u ((c.pl m2).len 16) (t.pl m3) a b)=true,(((ogL (chS F E 2 ((k.pl m).len 32) u ((c.pl m2).len 16) (t.pl m3) a b) (tagN 2):Nat):Int) == 0)=true] (app [opnQ 2 2 (chV x) u 2 v ((k.pl m).len 32) (chS F E 2 ((k.pl m).len 32) u ((c.pl m2).len 16) (t.pl m3) a b)/\opT1 F 2 ((k.pl m).len 32) u (chS F E 2 ((k.pl m).len 32) u ((c.pl m2).len 16) (t.pl m3) a b)=true,(((roN (chS F E 2 ((k.pl m).len 32) u ((c.pl m2).len 16) (t.pl m3) a b) (tagN 2):Nat):Int) == 0)=true] []),slR):=by kernel_rfl
theorem j4r:outO [] (chT F E (opnS F D 2) (rogS F D 2) 2 32 v u (k.pl m) (c.pl m2) ((t.pl m3).val 7) a b x [(t.pl m3).row]) [false,false,false,false,true]=(chC 2 v u k c ((k.pl m).len 32) ((c.pl m2).len 16) (t.pl m3) a [decide ((t.n:Int) > 200)=false] [IsB (qea t.X)] (chG F E 2 ((k.pl m).len 32) u ((c.pl m2).len 16) (t.pl m3) a b) [opnQ 2 2 (chV x) u 2 v ((k.pl m).len 32) (chS F E 2 ((k.pl m).len 32) u ((c.pl m2).len 16) (t.pl m3) a b)/\opT1 F 2 ((k.pl m).len 32) u (chS F E 2 ((k.pl m).len 32) u ((c.pl m2).len 16) (t.pl m3) a b)=true,(((ogL (chS F E 2 ((k.pl m).len 32) u ((c.pl m2).len 16) (t.pl m3) a b) (tagN 2):Nat):Int) == 0)=false] (app [opnQ 2 2 (chV x) u 2 v ((k.pl m).len 32) (chS F E 2 ((k.pl m).len 32) u ((c.pl m2).len 16) (t.pl m3) a b)/\opT1 F 2 ((k.pl m).len 32) u (chS F E 2 ((k.pl m).len 32) u ((c.pl m2).len 16) (t.pl m3) a b)=true,(((roN (chS F E 2 ((k.pl m).len 32) u ((c.pl m2).len 16) (t.pl m3) a b) (tagN 2):Nat):Int) == 0)=false] (olE (ch2P F D u ((k.pl m).len 32) (chS F E 2 ((k.pl m).len 32) u ((c.pl m2).len 16) (t.pl m3) a b)) (ch2R F u ((k.pl m).len 32) (chS F E 2 ((k.pl m).len 32) u ((c.pl m2).len 16) (t.pl m3) a b)))),slR):=by kernel_rfl
end
def j4m:Cfg:=cfgG qze (qbb [(6,sqS),(7,sqS),(5,knS)])
theorem j5r:CfgOK j4m:=qwb (allS (sqOK _) (allS (rsqOK _) (allS (SumAt.upQ (SumAt.up knOK)) (by simp))))
def cvA (p v u:Int) (y:Option Addr) (l m:Nat) (y1:Option Addr) (l1 m1:Nat) (y2:Option Addr) (l2 m2:Nat) (a:Int) (b x:BitVec 8):List SV:=[kyV p v y l m,.int .i64 (.sym u),vSl y1 l1 m1,vSl y2 l2 m2,.int .u16 (.sym a),.int .u8 (.b8 b),.int .u8 (.b8 x)]
def cvT (p v u:Int) (y:Option Addr) (l m:Nat) (y1:Option Addr) (l1 m1:Nat) (y2:Option Addr) (l2 m2:Nat) (a:Int) (b x:BitVec 8):Tree:=qca j4m 8000 3 (cvA p v u y l m y1 l1 m1 y2 l2 m2 a b x) (shaH [tabR])
section
variable (p v u a:Int) (b x:BitVec 8) (y:Option Addr) (l m:Nat) (y1:Option Addr) (l1 m1:Nat) (y2:Option Addr) (l2 m2:Nat)
theorem cv_b1:outO [] (cvT p v u y l m y1 l1 m1 y2 l2 m2 a b x) [true]=([decide ((l1:Int) > 200)=true],slR):=by kernel_rfl
theorem cv_b2:outO [] (cvT p v u y l m y1 l1 m1 y2 l2 m2 a b x) [false,true]=([decide ((l1:Int) > 200)=false,decide ((l2:Int) > 200)=true],slR):=by kernel_rfl
theorem cv_b3:outO [] (cvT p v u y l m y1 l1 m1 y2 l2 m2 a b x) [false,false,true]=([decide ((l1:Int) > 200)=false,decide ((l2:Int) > 200)=false,decide ((l:Int) > 40)=true],slR):=by kernel_rfl
theorem jxv:outO [] (cvT p v u y l m y1 l1 m1 y2 l2 m2 a b x) [false,false,false]=([decide ((l1:Int) > 200)=false,decide ((l2:Int) > 200)=false,decide ((l:Int) > 40)=false,¬ usQ p v u l\/l1≠16,¬ usQ p v u l\/l1≠16],slR):=by kernel_rfl
end
end
noncomputable section
open Go.Sim
open Go.Proofs
set_option maxRecDepth 1000000
theorem jcf (x:Sl):SlEq x x:=⟨rfl,fun _ _=>rfl⟩
section
variable {i:Nat} {k:Sl} {u:Int} {c c' t t':Sl}
theorem jdf {k c c':Sl} {v:Int} (h:SlEq c c'):sgK shaF k c v=sgK shaF k c' v:=by
 unfold sgK
 rw [← h.1]
 exact congrArg _ (q4g fun j hj=>qcs h (jcf _) hj)
theorem jef {k:Sl} (hc:SlEq c c') (ht:SlEq t t') {p:Nat} (hp:p<t.n):strG shaF k c t p=strG shaF k c' t' p:=by
 unfold strG
 rw [jdf hc,ht.2 p hp]
end
end
noncomputable section
open Go.Sim Go.WideShapes Go.ChangeShapes
theorem open_key {H:Type} {enc:TypeId × Value->H} {P:Program} {w:World} {r:Reach} {b0 base:Nat} {held:Bool} {t ti ts te:TypeId} {f0 f1 f2:Field} {v:Value} {d:DataW H} {ps:List MemPlace}
  (ht:P.underlying t=some (.struct #[f0,f1,f2])) (h0:f0.type=ti/\f0.offset=0) (h1:f1.type=ti/\f1.offset=1) (h2:f2.type=ts/\f2.offset=2) (hi:P.underlying ti=some (.int .i64)) (hs:P.underlying ts=some (.slice te)) (he:P.underlying te=some (.int .u8))
  (ci:P.cellsOf ti=1) (cs:P.cellsOf ts=1) (ce:P.cellsOf te=1) (ct:P.cellsOf t=3) (qfc:P.cellTypes P.depth t=some [ti,ti,ts])
  (hval:Value.okWide P w r b0 t v) (hd:DataW.Trod enc P w base (fun _=>true) held t v d ps) :
  ∃ p q a len cap X,v=.agg #[.int .i64 p,.int .i64 q,.slice a len cap]/\ByteRow w a len cap X:=by
 have hval':=hval
 obtain ⟨c,rfl,hsz⟩:=okWide_struct ht hval
 obtain ⟨fuel,hf⟩:=hd
 have hf:DataW.trod enc P w base (fun _=>true) held fuel t c.toList=some (d,ps):=hf
 obtain ⟨y0,y1,y2,n,_,hl,k0,k1,k2⟩:=Go.Deep.trod_struct3 ht hf
 rw [h0.1,h0.2,ci] at k0
 rw [h1.1,h1.2,ci] at k1
 rw [h2.1,h2.2,cs] at k2
 rw [ct] at hl
 obtain ⟨z0,e0,_,_⟩:=DataW.trod_int hi k0
 obtain ⟨z1,e1,_,_⟩:=DataW.trod_int hi k1
 match hc:c.toList,hl with
 | [c0,c1,c2],_ =>
   rw [hc] at e0 e1 k2
   obtain rfl:c0=.int .i64 z0:=by simpa using e0
   obtain rfl:c1=.int .i64 z1:=by simpa using e1
   have k2:DataW.trod enc P w base (fun _=>true) held n ts [c2]=some y2:=k2
   obtain rfl:c = #[.int .i64 z0,.int .i64 z1,c2]:=by
    cases c; simp_all
   have hspot:∀ a l k,c2=.slice (some a) l k->a.spot=none:=by
    rintro a l k rfl
    simp only [Value.okWide,ht] at hval'
    obtain ⟨cs',e,_,ts',hct,_,hcell⟩:=hval'
    cases e
    rw [qfc] at hct
    cases hct
    obtain ⟨u,hu,hok⟩:=hcell 2 _ rfl
    have hu:some ts=some u:=hu
    cases hu
    simp only [Cell.okWide,hs,Cell.ok] at hok
    exact hok.2.2.2.1
   rcases open_ints hs he ce k2 with ⟨hcs,_⟩ | ⟨x,l,k,zs,hcs,_,hlk,hm,hz,_,hcell,hwz⟩
   . obtain rfl:c2=.slice none 0 0:=by simpa using hcs
     exact ⟨z0,z1,none,0,0,_,rfl,byteRow_of (.inl ⟨rfl,rfl,rfl,rfl⟩) fun _ h=>by cases h⟩
   . obtain rfl:c2=.slice (some x) l k:=by simpa using hcs
     exact ⟨z0,z1,some x,l,k,_,rfl,byteRow_of (.inr ⟨x,rfl,hlk,hm,by simpa using hz,hcell,hwz⟩) fun y hy=>by cases hy; exact hspot _ _ _ rfl⟩
end
noncomputable section
open Go.Sim
open Go.Proofs
open Go.RowKit
set_option maxRecDepth 1000000
theorem jyv {i:Nat} (h:i=1\/i=2):tagN i=16\/tagN i=32:=by rcases h with rfl | rfl; exact .inl rfl; exact .inr rfl
theorem jzv {x y:Sl} (h:SlEq x y):decide (strS x=strS y)=true:=decide_eq_true (strS_iff.2 h)
section
variable {i n:Nat} {v u:Int} {k c t p:Sl} {bo b1 b2 r:List Prop}
end
theorem j6r:okL nilSl:=⟨Nat.le_refl _,Nat.zero_le _⟩
end
noncomputable section
open Go.Sim
open Go.Proofs
open Go.RowKit
set_option maxRecDepth 1000000
section
variable {i:Nat} {v u sp sv:Int} {k K t:Sl} {m2:Nat} {b:Bool} {A B:List Prop}
theorem qn6 {x y:Sl} (hx:x.o+x.n<=x.N) (hx':x.n<=1000) (hy:y.o+y.n<=y.N) (hy':y.n<=1000) (h:SlEq x y):∀ q∈olE x y,q:=all_cons (j2e ⟨hx,by omega⟩) (all_cons (j2e ⟨hy,by omega⟩) (all_cons (jzv h) qaa))
end
end
noncomputable section
open Go.Sim
open Go.Proofs
open Go.RowKit
set_option maxRecDepth 1000000
theorem q4z {a:Int} {n:Nat} (h0:0<=a) (h1:a<=65535) (hn:0<n):0<=chI a n/\chI a n<(n:Int):=by
 unfold chI
 rw [wrap_i64 ⟨by omega,by omega⟩]
 exact ⟨Int.tmod_nonneg _ h0,Int.tmod_lt_of_pos _ (by omega)⟩
theorem qwf (X:Nat->BitVec 8) (i:Nat) (b:BitVec 8):IsB (chX X i b):=fun j=>by
 unfold chX
 split
 . exact ⟨_,rfl⟩
 . exact ⟨_,rfl⟩
theorem jff (x:BitVec 8):0<=chV x/\chV x<=2:=by
 unfold chV
 have h1:=Int.tmod_nonneg (3:Int) (Int.natCast_nonneg x.toNat)
 have h2:=Int.tmod_lt_of_pos (x.toNat:Int) (show (0:Int)<3 by omega)
 omega
section
variable {i:Nat} {v u a:Int} {k c K C T:Sl} {bt it A B:List Prop} {G:Nat->SV}
theorem qmt (_hi:i=1\/i=2) (hq:usQ i v u K.n) (hk:okL K) (hc:okL C) (ht:okL T) (h200:T.n<=200) (h0:0<=a) (h1:a<=65535) (hbt:∀ q∈bt,q) (hit:∀ q∈it,q) (hB:∀ q∈B,q):∀ q∈chE i v u k c K C T a bt it B,q:=by
 have hN:0<chN i T:=by show 0<16+T.n+tagN i; omega
 obtain ⟨r1,r2⟩:=q4z h0 h1 hN
 have r3:0+(chI a (chN i T)).toNat * 1<chN i T:=by omega
 exact qnc hbt (qnc (all_cons (qda _) (all_cons (qda _) qaa)) (qnc hit (qnc (all_cons ⟨rfl,hq,rfl,hk,hc,ht,by omega⟩ (all_cons (by rw [beq_eq_false_iff_ne]; omega) (all_cons (by omega) (all_cons ⟨r1,r2⟩ (all_cons r3 (all_cons ⟨r1,r2⟩ (all_cons r3 qaa))))))) hB)))
theorem qxf (_hi:i=1\/i=2) (hq:usQ i v u K.n) (hk:okL K) (hc:okL C) (ht:okL T) (h200:T.n<=200) (h0:0<=a) (h1:a<=65535) (hbt:∀ q∈bt,q) (hit:∀ q∈it,q) (hG:IsB G) (hA:∀ q∈A,q) (hB:∀ q∈B,q):∀ q∈chC i v u k c K C T a bt it G A B,q:=by
 have hN:0<chN i T:=by show 0<16+T.n+tagN i; omega
 obtain ⟨r1,r2⟩:=q4z h0 h1 hN
 have r3:0+(chI a (chN i T)).toNat * 1<chN i T:=by omega
 exact qnc hbt (qnc (all_cons (qda _) (all_cons (qda _) qaa)) (qnc hit (qnc (all_cons ⟨rfl,hq,rfl,hk,hc,ht,by omega⟩ (all_cons (by rw [beq_eq_false_iff_ne]; omega) (all_cons (by omega) (all_cons ⟨r1,r2⟩ (all_cons r3 (all_cons ⟨r1,r2⟩ (all_cons r3 (all_cons (qda _) (all_cons hG qaa)))))))))
  (qnc hA (qnc (all_cons (qda _) (all_cons hG qaa)) hB)))))
theorem qo6 {v':Int} {n:Nat} (hq:usQ i v u n) (h0:0<=v') (h2:v'<=2):usQ i v' u n:=⟨⟨hq.1.1,h0,by omega⟩,hq.2⟩
end
section
variable {F:HashF} {E:CtsF} {K S:Sl} {u:Int} {o:Nat}
theorem chN_eq {g:Int}:ogL S g=roN S g:=by
 show (((ogN S g).toNat:Nat):Int).toNat - 16=(ogN S g).toNat - 16
 rw [Int.toNat_natCast]
theorem j0v:SlEq (ch1P shaF decF u K S o) (ch1R shaF decF u K S o):=⟨chN_eq,fun _ _=>rfl⟩
theorem j1v:∀ (F:HashF) (D:CtsF),opnX F D 2 K u S=strG F (dkS F K 32 u 0xaa#8) (S.cut S.o 16) (ogX S (S.o+16)):=fun _ _=>rfl
theorem j2v {j:Nat}:∀ (F:HashF) (D:CtsF),(ch2P F D u K S).F j=opnX F D 2 K u S (0+j):=fun _ _=>rfl
theorem j3v {j:Nat}:∀ F:HashF,(ch2R F u K S).F j=strG F (dkS F K 32 u 0xaa#8) (S.cut S.o 16) (roX S 32) (0+j):=fun _=>rfl
theorem j4v:SlEq (ch2P shaF decF u K S) (ch2R shaF u K S):=by
 refine ⟨chN_eq,fun j hj => ?_⟩
 have hj:j<(ogX S (S.o+16)).n:=hj
 have e1:=@j2v K S u j shaF decF
 have e2:=@j3v K S u j shaF
 have h2:SlEq (ogX S (S.o+16)) (roX S 32):=⟨chN_eq,fun p _=>rfl⟩
 show (ch2P shaF decF u K S).F j=(ch2R shaF u K S).F j
 rw [e1,e2,j1v,Nat.zero_add]
 generalize dkS shaF K 32 u 0xaa#8=kk
 exact jef (jcf _) h2 hj
theorem qnt (ho:o+roN S 16<=(ogN S 16).toNat) (h:roN S 16<=1000):∀ q∈olE (ch1P shaF decF u K S o) (ch1R shaF decF u K S o),q:=by
 have hL:ogL S 16=roN S 16:=chN_eq
 have:=j7e (qha (qba (rdL shaF K 16 u 0xaa#8)) 0) (qha (qba (tabB (fun _=>0#8) 16)) 0) (fun j=>S.X (S.o+j)) (ogN S 16).toNat
 refine qn6 ?_ ?_ ?_ ?_ j0v
 . show o+ogL S 16<=(ogN S 16).toNat; omega
 . show ogL S 16<=1000; omega
 . show o+roN S 16<=lenN (decF (qha (qba (rdL shaF K 16 u 0xaa#8)) 0) (qha (qba (tabB (fun _=>0#8) 16)) 0) (fun j=>S.X (S.o+j)) (ogN S 16).toNat); omega
 . show roN S 16<=1000; omega
theorem qp6 (h:roN S 32<=1000):∀ q∈olE (ch2P shaF decF u K S) (ch2R shaF u K S),q:=by
 have hL:ogL S 32=roN S 32:=chN_eq
 refine qn6 ?_ ?_ ?_ ?_ j4v
 . show 0+ogL S 32<=ogL S 32; omega
 . show ogL S 32<=1000; omega
 . show 0+roN S 32<=roN S 32; omega
 . show roN S 32<=1000; omega
end
theorem ch_law {w:World} {β:Val} (hH:HeapRel Tryz.prog (fun _=>False) w β (shaH [tabR]) w) (hG:GlobRel qze β) (p v:Int) {a0:Option Addr} {len0 cap0:Nat} {X:Nat->BitVec 8} (h0:ByteRow w a0 len0 cap0 X) (u:Int) {a1:Option Addr} {len1 cap1:Nat} {Y:Nat->BitVec 8} (h1:ByteRow w a1 len1 cap1 Y) {a2:Option Addr} {len2 cap2:Nat} {Z:Nat->BitVec 8} (h2:ByteRow w a2 len2 cap2 Z) (a:Int) (ha0:0<=a) (ha1:a<=65535) (b x:BitVec 8) :
  Calls Tryz.prog 3 #[.agg #[.int .i64 p,.int .i64 v,.slice a0 len0 cap0],.int .i64 u,.slice a1 len1 cap1,.slice a2 len2 cap2,.int .u16 a,.int .u8 b.toNat,.int .u8 x.toNat] w fun e w'=>e=.returned (.bool true)/\Below w.heap.size w w':=by
 have hv0:SV.denL β (cvA p v u a0 len0 cap0 a1 len1 cap1 a2 len2 cap2 a b x)=some [.agg #[.int .i64 p,.int .i64 v,.slice a0 len0 cap0],.int .i64 u,.slice a1 len1 cap1,.slice a2 len2 cap2,.int .u16 a,.int .u8 b.toNat,.int .u8 x.toNat]:=rfl
 have low:∀ {cs ds},outO [] (cvT p v u a0 len0 cap0 a1 len1 cap1 a2 len2 cap2 a b x) ds=(cs,slR)->(∀ q∈cs,q)->_:=fun {cs ds} hr hc=>q4e j5r 8000 hH hG hv0 ds hr hc
 by_cases hb1:200<len1
 . exact low (cv_b1 p v u a b x a0 len0 cap0 a1 len1 cap1 a2 len2 cap2) (all_cons (decide_eq_true (by omega)) qaa)
 have e1:decide ((len1:Int) > 200)=false:=decide_eq_false (by omega)
 by_cases hb2:200<len2
 . exact low (cv_b2 p v u a b x a0 len0 cap0 a1 len1 cap1 a2 len2 cap2) (all_cons e1 (all_cons (decide_eq_true (by omega)) qaa))
 have e2:decide ((len2:Int) > 200)=false:=decide_eq_false (by omega)
 by_cases hbk:40<len0
 . exact low (cv_b3 p v u a b x a0 len0 cap0 a1 len1 cap1 a2 len2 cap2) (all_cons e1 (all_cons e2 (all_cons (decide_eq_true (by omega)) qaa)))
 have e3:decide ((len0:Int) > 40)=false:=decide_eq_false (by omega)
 by_cases hE:¬ usQ p v u len0\/len1≠16
 . exact low (jxv p v u a b x a0 len0 cap0 a1 len1 cap1 a2 len2 cap2) (all_cons e1 (all_cons e2 (all_cons e3 (all_cons hE (all_cons hE qaa)))))
 have hval:usQ p v u len0:=Classical.byContradiction fun h=>hE (.inl h)
 have hl:len1=16:=Classical.byContradiction fun h=>hE (.inr h)
 subst hl
 have hi:∃ i:Nat,(i=1\/i=2)/\p=i/\len0=tagN i:=by
  rcases hval.1.1 with ⟨hp,hn⟩ | ⟨hp,hn⟩
  . exact ⟨1,.inl rfl,hp,hn⟩
  . exact ⟨2,.inr rfl,hp,hn⟩
 obtain ⟨i,hi,rfl,rfl⟩:=hi
 have htag:=jyv hi
 rcases h0 with ⟨_,h,_⟩ | ⟨x0,rfl,hs0,hl0,hm0,hc0⟩
 . omega
 rcases h1 with ⟨_,h,_⟩ | ⟨x1,rfl,hs1,hl1,hm1,hc1⟩
 . omega
 obtain ⟨β1,hH1,hle1,hd0⟩:=qsr (P:=Tryz.prog) hH hs0 hl0 hc0
 obtain ⟨β2,hH2,hle2,hd1⟩:=qsr (P:=Tryz.prog) hH1 hs1 hl1 hc1
 have hG2:GlobRel qze β2:=(hG.mono hle1).mono hle2
 let k:Sl:=⟨X,cap0,0,tagN i,false,cap0⟩
 let c:Sl:=⟨Y,cap1,0,16,false,cap1⟩
 let t:Sl:=⟨Z,cap2,0,len2,false,cap2⟩
 have hK:∀ n,n=tagN i->okL ((k.pl cap0).len n):=fun n hn=>⟨by show 0+n<=cap0; omega,by show n<=_; omega⟩
 have hC:okL ((c.pl cap1).len 16):=⟨by show 0+16<=cap1; omega,by show 16<=_; omega⟩
 have hd0:(SV.slice ⟨5,.lit 0⟩ (.sym (tagN i)) (.sym cap0)).den β1=some (.slice (some x0) (tagN i) cap0):=hd0
 have hd1:((c.pl cap1).valN 6 16).den β2=some (.slice (some x1) 16 cap1):=hd1
 have hka:∀ {γ:Val},(SV.slice ⟨5,.lit 0⟩ (.sym (tagN i)) (.sym cap0)).den γ=some (.slice (some x0) (tagN i) cap0)->(SV.agg [.int .i64 (.lit i),.int .i64 (.sym v),(k.pl cap0).valN 5 (tagN i)]).den γ=some (.agg #[.int .i64 i,.int .i64 v,.slice (some x0) (tagN i) cap0]):=by
  intro γ h
  rw [SV.den]
  simp only [Option.map_eq_some_iff]
  exact ⟨_,denL_cons.2 ⟨_,_,rfl,denL_cons.2 ⟨_,_,rfl,denL_cons.2 ⟨_,_,h,rfl,rfl⟩,rfl⟩,rfl⟩,rfl⟩
 obtain ⟨hx0,hx2⟩:=jff x
 have hver:¬ qxi (chV x) v->∀ n (S:Sl),n=tagN i->oqP 9 i (chV x) u n i v S.n:=fun h n S hn=>.inr (.inl ⟨rfl,by rw [hn]; exact qo6 hval hx0 hx2,.inr h⟩)
 have hopn:qxi (chV x) v->∀ {K S:Sl},K.n=tagN i->okL K->okL S->16+tagN i<=S.n->S.n<=224+tagN i->opnQ i i (chV x) u i v K S:=fun h {K S} hn hk hS h16 h224=>⟨rfl,by rw [hn]; exact qo6 hval hx0 hx2,rfl,h,hk,hS,h16,h224⟩
 have hargs:∀ {γ:Val} {s:SV} {y:Value},(SV.slice ⟨5,.lit 0⟩ (.sym (tagN i)) (.sym cap0)).den γ=some (.slice (some x0) (tagN i) cap0)->((c.pl cap1).valN 6 16).den γ=some (.slice (some x1) 16 cap1)->s.den γ=some y->SV.denL γ (chA i (tagN i) v u (k.pl cap0) (c.pl cap1) s a b x)=some [.agg #[.int .i64 i,.int .i64 v,.slice (some x0) (tagN i) cap0],.int .i64 u,.slice (some x1) 16 cap1,y,.int .u16 a,.int .u8 b.toNat,.int .u8 x.toNat]:=fun ha hb hc =>
  denL_cons.2 ⟨_,_,hka ha,denL_cons.2 ⟨_,_,rfl,denL_cons.2 ⟨_,_,hb,denL_cons.2 ⟨_,_,hc,rfl,rfl⟩,rfl⟩,rfl⟩,rfl⟩
 have hok:∀ {T:Sl} {S:Sl},T.n<=200->S.n=chN i T->S.o=0->S.N=chN i T->okL S:=fun {T S} h e1 e2 e3=>⟨by rw [e1,e2,e3]; omega,by rw [e1]; show 16+T.n+tagN i<=_; omega⟩
 rcases h2 with ⟨rfl,rfl,rfl⟩ | ⟨x2,rfl,hs2,hl2,hm2,hc2⟩
 . have ha:=hargs (s:=.nilSlice) (SV.den_mono hle2 _ hd0) hd1 rfl
   have hT:okL nilSl:=j6r
   have t200:nilSl.n<=200:=Nat.zero_le _
   rcases hi with rfl | rfl
   . have hN:chN 1 nilSl=16+nilSl.n+16:=rfl
     let S:Sl:=chS shaF encF 1 ((k.pl cap0).len 16) u ((c.pl cap1).len 16) nilSl a b
     have hS:okL S:=hok t200 rfl rfl rfl
     have hSn:S.n=chN 1 nilSl:=rfl
     have hoN:ogN S 16=(S.n:Int) - 16:=rfl
     have hR:roN S 16=nilSl.n:=by show (ogN S 16).toNat - 16=_; omega
     have hL:ogL S 16=nilSl.n:=chN_eq.trans hR
     have q0:roN S 16<=1000:=by omega
     have qa:0+roN S 16<=(ogN S 16).toNat:=by omega
     have qb:16+roN S 16<=(ogN S 16).toNat:=by omega
     by_cases hvs:qxi (chV x) v
     case neg=>exact q4e (qhe (.inl rfl) (oqOK _) (q70 _)) 8000 hH2 hG2 ha _ (j8e shaF encF v u a b x k c cap0 cap1) (qmt (k:=k) (c:=c) (K:=((k.pl cap0).len 16)) (C:=((c.pl cap1).len 16)) (T:=nilSl) (.inl rfl) hval (hK 16 rfl) hC hT t200 ha0 ha1 qaa qaa (all_cons (hver hvs 16 S rfl) (all_cons (hver hvs 16 S rfl) qaa)))
     have hQ:=hopn hvs (K:=((k.pl cap0).len 16)) (S:=S) rfl (hK 16 rfl) hS (by rw [hSn,hN]; show 16+16<=_; omega) (by rw [hSn,hN]; show _<=224+16; omega)
     cases hb:opT1 shaF 1 ((k.pl cap0).len 16) u S with
     | false=>exact q4e (qhe (.inl rfl) (SumAt.upQ (SumAt.up (qlx (.inl rfl)))) (qnx (.inl rfl))) 8000 hH2 hG2 ha _ (jwa shaF encF v u a b x k c cap0 cap1) (qxf (k:=k) (c:=c) (K:=((k.pl cap0).len 16)) (C:=((c.pl cap1).len 16)) (T:=nilSl) (.inl rfl) hval (hK 16 rfl) hC hT t200 ha0 ha1 qaa qaa (qwf _ _ _) (all_cons ⟨hQ,hb⟩ qaa) (all_cons ⟨hQ,hb⟩ qaa))
     | true =>
       by_cases z:nilSl.n=0
       . exact q4e (qhe (.inl rfl) (SumAt.upQ (SumAt.up (qfn (.inl rfl)))) (qgn (.inl rfl))) 8000 hH2 hG2 ha _ (j5j shaF encF decF v u a b x k c cap0 cap1) (qxf (k:=k) (c:=c) (K:=((k.pl cap0).len 16)) (C:=((c.pl cap1).len 16)) (T:=nilSl) (.inl rfl) hval (hK 16 rfl) hC hT t200 ha0 ha1 qaa qaa (qwf _ _ _) (all_cons ⟨hQ,hb⟩ (all_cons (by show (((ogL S 16:Nat):Int) == 0)=_; rw [beq_iff_eq]; omega) qaa)) (qnc (all_cons ⟨hQ,hb⟩ (all_cons (by show (((roN S 16:Nat):Int) == 0)=_; rw [beq_iff_eq]; omega) qaa)) (qnt (S:=S) (o:=0) qa q0)))
       . exact q4e (qhe (.inl rfl) (SumAt.upQ (SumAt.up (qfn (.inl rfl)))) (qgn (.inl rfl))) 8000 hH2 hG2 ha _ (j1r shaF encF decF v u a b x k c cap0 cap1) (qxf (k:=k) (c:=c) (K:=((k.pl cap0).len 16)) (C:=((c.pl cap1).len 16)) (T:=nilSl) (.inl rfl) hval (hK 16 rfl) hC hT t200 ha0 ha1 qaa qaa (qwf _ _ _) (all_cons ⟨hQ,hb⟩ (all_cons (by show (((ogL S 16:Nat):Int) == 0)=_; rw [beq_eq_false_iff_ne]; omega) qaa)) (qnc (all_cons ⟨hQ,hb⟩ (all_cons (by show (((roN S 16:Nat):Int) == 0)=_; rw [beq_eq_false_iff_ne]; omega) qaa)) (qnt (S:=S) (o:=16) qb q0)))
   . have hN:chN 2 nilSl=16+nilSl.n+32:=rfl
     let S:Sl:=chS shaF encF 2 ((k.pl cap0).len 32) u ((c.pl cap1).len 16) nilSl a b
     have hS:okL S:=hok t200 rfl rfl rfl
     have hSn:S.n=chN 2 nilSl:=rfl
     have hoN:ogN S 32=(S.n:Int) - 32:=rfl
     have hR:roN S 32=nilSl.n:=by show (ogN S 32).toNat - 16=_; omega
     have hL:ogL S 32=nilSl.n:=chN_eq.trans hR
     have q0:roN S 32<=1000:=by omega
     have qa:0+roN S 32<=(ogN S 32).toNat:=by omega
     have qb:16+roN S 32<=(ogN S 32).toNat:=by omega
     by_cases hvs:qxi (chV x) v
     case neg=>exact q4e (qhe (.inr rfl) (oqOK _) (q70 _)) 8000 hH2 hG2 ha _ (jaf shaF encF v u a b x k c cap0 cap1) (qmt (k:=k) (c:=c) (K:=((k.pl cap0).len 32)) (C:=((c.pl cap1).len 16)) (T:=nilSl) (.inr rfl) hval (hK 32 rfl) hC hT t200 ha0 ha1 qaa qaa (all_cons (hver hvs 32 S rfl) (all_cons (hver hvs 32 S rfl) qaa)))
     have hQ:=hopn hvs (K:=((k.pl cap0).len 32)) (S:=S) rfl (hK 32 rfl) hS (by rw [hSn,hN]; show 16+32<=_; omega) (by rw [hSn,hN]; show _<=224+32; omega)
     cases hb:opT1 shaF 2 ((k.pl cap0).len 32) u S with
     | false=>exact q4e (qhe (.inr rfl) (SumAt.upQ (SumAt.up (qlx (.inr rfl)))) (qnx (.inr rfl))) 8000 hH2 hG2 ha _ (jya shaF encF v u a b x k c cap0 cap1) (qxf (k:=k) (c:=c) (K:=((k.pl cap0).len 32)) (C:=((c.pl cap1).len 16)) (T:=nilSl) (.inr rfl) hval (hK 32 rfl) hC hT t200 ha0 ha1 qaa qaa (qwf _ _ _) (all_cons ⟨hQ,hb⟩ qaa) (all_cons ⟨hQ,hb⟩ qaa))
     | true =>
       by_cases z:nilSl.n=0
       . exact q4e (qhe (.inr rfl) (SumAt.upQ (SumAt.up (qfn (.inr rfl)))) (qgn (.inr rfl))) 8000 hH2 hG2 ha _ (j7j shaF encF decF v u a b x k c cap0 cap1) (qxf (k:=k) (c:=c) (K:=((k.pl cap0).len 32)) (C:=((c.pl cap1).len 16)) (T:=nilSl) (.inr rfl) hval (hK 32 rfl) hC hT t200 ha0 ha1 qaa qaa (qwf _ _ _) (all_cons ⟨hQ,hb⟩ (all_cons (by show (((ogL S 32:Nat):Int) == 0)=_; rw [beq_iff_eq]; omega) qaa)) (qnc (all_cons ⟨hQ,hb⟩ (all_cons (by show (((roN S 32:Nat):Int) == 0)=_; rw [beq_iff_eq]; omega) qaa)) qaa))
       . exact q4e (qhe (.inr rfl) (SumAt.upQ (SumAt.up (qfn (.inr rfl)))) (qgn (.inr rfl))) 8000 hH2 hG2 ha _ (j3r shaF encF decF v u a b x k c cap0 cap1) (qxf (k:=k) (c:=c) (K:=((k.pl cap0).len 32)) (C:=((c.pl cap1).len 16)) (T:=nilSl) (.inr rfl) hval (hK 32 rfl) hC hT t200 ha0 ha1 qaa qaa (qwf _ _ _) (all_cons ⟨hQ,hb⟩ (all_cons (by show (((ogL S 32:Nat):Int) == 0)=_; rw [beq_eq_false_iff_ne]; omega) qaa)) (qnc (all_cons ⟨hQ,hb⟩ (all_cons (by show (((roN S 32:Nat):Int) == 0)=_; rw [beq_eq_false_iff_ne]; omega) qaa)) (qp6 (S:=S) q0)))
 . obtain ⟨β3,hH3,hle3,hd2⟩:=qsr (P:=Tryz.prog) hH2 hs2 hl2 hc2
   have hG3:GlobRel qze β3:=hG2.mono hle3
   have hd2:((t.pl cap2).val 7).den β3=some (.slice (some x2) len2 cap2):=hd2
   have ha:=hargs (SV.den_mono hle3 _ (SV.den_mono hle2 _ hd0)) (SV.den_mono hle3 _ hd1) hd2
   have hT:okL (t.pl cap2):=⟨by show 0+len2<=cap2; omega,by show len2<=_; omega⟩
   have t200:(t.pl cap2).n<=200:=by show len2<=200; omega
   rcases hi with rfl | rfl
   . have hN:chN 1 (t.pl cap2)=16+(t.pl cap2).n+16:=rfl
     let S:Sl:=chS shaF encF 1 ((k.pl cap0).len 16) u ((c.pl cap1).len 16) (t.pl cap2) a b
     have hS:okL S:=hok t200 rfl rfl rfl
     have hSn:S.n=chN 1 (t.pl cap2):=rfl
     have hoN:ogN S 16=(S.n:Int) - 16:=rfl
     have hR:roN S 16=(t.pl cap2).n:=by show (ogN S 16).toNat - 16=_; omega
     have hL:ogL S 16=(t.pl cap2).n:=chN_eq.trans hR
     have q0:roN S 16<=1000:=by omega
     have qa:0+roN S 16<=(ogN S 16).toNat:=by omega
     have qb:16+roN S 16<=(ogN S 16).toNat:=by omega
     by_cases hvs:qxi (chV x) v
     case neg=>exact q4e (qhe (.inl rfl) (oqOK _) (q70 _)) 8000 hH3 hG3 ha _ (j9e shaF encF v u a b x k c t cap0 cap1 cap2) (qmt (k:=k) (c:=c) (K:=((k.pl cap0).len 16)) (C:=((c.pl cap1).len 16)) (T:=(t.pl cap2)) (.inl rfl) hval (hK 16 rfl) hC hT t200 ha0 ha1 (all_cons e2 qaa) (all_cons (qda _) qaa) (all_cons (hver hvs 16 S rfl) (all_cons (hver hvs 16 S rfl) qaa)))
     have hQ:=hopn hvs (K:=((k.pl cap0).len 16)) (S:=S) rfl (hK 16 rfl) hS (by rw [hSn,hN]; show 16+16<=_; omega) (by rw [hSn,hN]; show _<=224+16; omega)
     cases hb:opT1 shaF 1 ((k.pl cap0).len 16) u S with
     | false=>exact q4e (qhe (.inl rfl) (SumAt.upQ (SumAt.up (qlx (.inl rfl)))) (qnx (.inl rfl))) 8000 hH3 hG3 ha _ (jxa shaF encF v u a b x k c t cap0 cap1 cap2) (qxf (k:=k) (c:=c) (K:=((k.pl cap0).len 16)) (C:=((c.pl cap1).len 16)) (T:=(t.pl cap2)) (.inl rfl) hval (hK 16 rfl) hC hT t200 ha0 ha1 (all_cons e2 qaa) (all_cons (qda _) qaa) (qwf _ _ _) (all_cons ⟨hQ,hb⟩ qaa) (all_cons ⟨hQ,hb⟩ qaa))
     | true =>
       by_cases z:(t.pl cap2).n=0
       . exact q4e (qhe (.inl rfl) (SumAt.upQ (SumAt.up (qfn (.inl rfl)))) (qgn (.inl rfl))) 8000 hH3 hG3 ha _ (j6j shaF encF decF v u a b x k c t cap0 cap1 cap2) (qxf (k:=k) (c:=c) (K:=((k.pl cap0).len 16)) (C:=((c.pl cap1).len 16)) (T:=(t.pl cap2)) (.inl rfl) hval (hK 16 rfl) hC hT t200 ha0 ha1 (all_cons e2 qaa) (all_cons (qda _) qaa) (qwf _ _ _) (all_cons ⟨hQ,hb⟩ (all_cons (by show (((ogL S 16:Nat):Int) == 0)=_; rw [beq_iff_eq]; omega) qaa)) (qnc (all_cons ⟨hQ,hb⟩ (all_cons (by show (((roN S 16:Nat):Int) == 0)=_; rw [beq_iff_eq]; omega) qaa)) (qnt (S:=S) (o:=0) qa q0)))
       . exact q4e (qhe (.inl rfl) (SumAt.upQ (SumAt.up (qfn (.inl rfl)))) (qgn (.inl rfl))) 8000 hH3 hG3 ha _ (j2r shaF encF decF v u a b x k c t cap0 cap1 cap2) (qxf (k:=k) (c:=c) (K:=((k.pl cap0).len 16)) (C:=((c.pl cap1).len 16)) (T:=(t.pl cap2)) (.inl rfl) hval (hK 16 rfl) hC hT t200 ha0 ha1 (all_cons e2 qaa) (all_cons (qda _) qaa) (qwf _ _ _) (all_cons ⟨hQ,hb⟩ (all_cons (by show (((ogL S 16:Nat):Int) == 0)=_; rw [beq_eq_false_iff_ne]; omega) qaa)) (qnc (all_cons ⟨hQ,hb⟩ (all_cons (by show (((roN S 16:Nat):Int) == 0)=_; rw [beq_eq_false_iff_ne]; omega) qaa)) (qnt (S:=S) (o:=16) qb q0)))
   . have hN:chN 2 (t.pl cap2)=16+(t.pl cap2).n+32:=rfl
     let S:Sl:=chS shaF encF 2 ((k.pl cap0).len 32) u ((c.pl cap1).len 16) (t.pl cap2) a b
     have hS:okL S:=hok t200 rfl rfl rfl
     have hSn:S.n=chN 2 (t.pl cap2):=rfl
     have hoN:ogN S 32=(S.n:Int) - 32:=rfl
     have hR:roN S 32=(t.pl cap2).n:=by show (ogN S 32).toNat - 16=_; omega
     have hL:ogL S 32=(t.pl cap2).n:=chN_eq.trans hR
     have q0:roN S 32<=1000:=by omega
     have qa:0+roN S 32<=(ogN S 32).toNat:=by omega
     have qb:16+roN S 32<=(ogN S 32).toNat:=by omega
     by_cases hvs:qxi (chV x) v
     case neg=>exact q4e (qhe (.inr rfl) (oqOK _) (q70 _)) 8000 hH3 hG3 ha _ (jbf shaF encF v u a b x k c t cap0 cap1 cap2) (qmt (k:=k) (c:=c) (K:=((k.pl cap0).len 32)) (C:=((c.pl cap1).len 16)) (T:=(t.pl cap2)) (.inr rfl) hval (hK 32 rfl) hC hT t200 ha0 ha1 (all_cons e2 qaa) (all_cons (qda _) qaa) (all_cons (hver hvs 32 S rfl) (all_cons (hver hvs 32 S rfl) qaa)))
     have hQ:=hopn hvs (K:=((k.pl cap0).len 32)) (S:=S) rfl (hK 32 rfl) hS (by rw [hSn,hN]; show 16+32<=_; omega) (by rw [hSn,hN]; show _<=224+32; omega)
     cases hb:opT1 shaF 2 ((k.pl cap0).len 32) u S with
     | false=>exact q4e (qhe (.inr rfl) (SumAt.upQ (SumAt.up (qlx (.inr rfl)))) (qnx (.inr rfl))) 8000 hH3 hG3 ha _ (jza shaF encF v u a b x k c t cap0 cap1 cap2) (qxf (k:=k) (c:=c) (K:=((k.pl cap0).len 32)) (C:=((c.pl cap1).len 16)) (T:=(t.pl cap2)) (.inr rfl) hval (hK 32 rfl) hC hT t200 ha0 ha1 (all_cons e2 qaa) (all_cons (qda _) qaa) (qwf _ _ _) (all_cons ⟨hQ,hb⟩ qaa) (all_cons ⟨hQ,hb⟩ qaa))
     | true =>
       by_cases z:(t.pl cap2).n=0
       . exact q4e (qhe (.inr rfl) (SumAt.upQ (SumAt.up (qfn (.inr rfl)))) (qgn (.inr rfl))) 8000 hH3 hG3 ha _ (j8j shaF encF decF v u a b x k c t cap0 cap1 cap2) (qxf (k:=k) (c:=c) (K:=((k.pl cap0).len 32)) (C:=((c.pl cap1).len 16)) (T:=(t.pl cap2)) (.inr rfl) hval (hK 32 rfl) hC hT t200 ha0 ha1 (all_cons e2 qaa) (all_cons (qda _) qaa) (qwf _ _ _) (all_cons ⟨hQ,hb⟩ (all_cons (by show (((ogL S 32:Nat):Int) == 0)=_; rw [beq_iff_eq]; omega) qaa)) (qnc (all_cons ⟨hQ,hb⟩ (all_cons (by show (((roN S 32:Nat):Int) == 0)=_; rw [beq_iff_eq]; omega) qaa)) qaa))
       . exact q4e (qhe (.inr rfl) (SumAt.upQ (SumAt.up (qfn (.inr rfl)))) (qgn (.inr rfl))) 8000 hH3 hG3 ha _ (j4r shaF encF decF v u a b x k c t cap0 cap1 cap2) (qxf (k:=k) (c:=c) (K:=((k.pl cap0).len 32)) (C:=((c.pl cap1).len 16)) (T:=(t.pl cap2)) (.inr rfl) hval (hK 32 rfl) hC hT t200 ha0 ha1 (all_cons e2 qaa) (all_cons (qda _) qaa) (qwf _ _ _) (all_cons ⟨hQ,hb⟩ (all_cons (by show (((ogL S 32:Nat):Int) == 0)=_; rw [beq_eq_false_iff_ne]; omega) qaa)) (qnc (all_cons ⟨hQ,hb⟩ (all_cons (by show (((roN S 32:Nat):Int) == 0)=_; rw [beq_eq_false_iff_ne]; omega) qaa)) (qp6 (S:=S) q0)))
end
end Go.Proofs.YtcpafideogckmaaGreatDoor.Aes
