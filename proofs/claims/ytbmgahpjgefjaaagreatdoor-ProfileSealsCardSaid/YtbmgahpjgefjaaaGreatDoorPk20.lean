/-
  Texts behind one another: the symbolic simulator and what it is told of the program.
-/
import Derived.Test.YtbmgahpjgefjaaaGreatDoorZRsl2a
import Derived.Test.YtbmgahpjgefjaaaGreatDoorZRsl2b
import Derived.Test.YtbmgahpjgefjaaaGreatDoorPk14
import Derived.Test.YtbmgahpjgefjaaaGreatDoorPk19
import Derived.Test.YtbmgahpjgefjaaaGreatDoorPk18
import Derived.Test.YtbmgahpjgefjaaaGreatDoorPk6
import Derived.WideShapes
import Derived.ChangeShapes
import Derived.ChangeSlices
import Derived.Deep.Strs
namespace Go.Proofs.YtbmgahpjgefjaaaGreatDoor.Aes
open Go.Sim
open Go.Proofs
open Go.RowKit
variable {α:Type}
set_option maxRecDepth 1000000
theorem jri {k k':Sl} {M:Nat→BitVec 8} {m:Nat} (h:SlEq k k') (h64:k.n≤64):macB shaF k.F k.n M m=macB shaF k'.F k'.n M m :=
  qx3 (c:=⟨M,0,0,m,false,0⟩) h h64 |> fun e=>by
    unfold tagS at e
    have e1:∀ (K:Nat→BitVec 8) (n:Nat),macB shaF K n (Sl.F ⟨M,0,0,m,false,0⟩) m=macB shaF K n M m:=fun K n=>qsg fun i _=>by show M (0+i)=M i; rw [Nat.zero_add]
    rw [← e1,e]; exact e1 _ _
theorem jsi {k k' c t:Sl} (h:SlEq k k') (h64:k.n≤64):strG shaF k c t=strG shaF k' c t:=by
  funext p
  unfold strG sgK
  rw [jri h h64]
theorem jgu {k:Sl} {u:Int} (h:1≤u∧u≤1023):qha (qaa (rdL shaF k 16 u 0xaa#8)) 0=qha (dkS shaF k 16 u 0xaa#8).X 0:=qri fun j hj=>by
  rw [Nat.zero_add,j7d h.1 h.2 (by omega) hj]
  show (dkS shaF k 16 u 0xaa#8).X (0+j)=_
  rw [Nat.zero_add]
theorem j7p:qha (qaa (tabB (fun _=>0#8) 16)) 0=qha z16.X 0:=qri (by decide)
theorem jhu {c t:Sl} {j:Nat}:rlM c t j=two (c.len 16) t j:=by
  unfold rlM catB
  rw [qff]
  have hc:(c.len 16).n=16:=rfl
  by_cases h:j<16
  · rw [if_pos h,if_pos (by omega)]
    show qaa (tabB c.F 16) (0+j)=_
    rw [Nat.zero_add,qvb h]; rfl
  · rw [if_neg h,if_neg (by omega),hc]
theorem jke {k:Sl} {u:Int} {M M':Nat→BitVec 8} {l:Nat} (h:1≤u∧u≤1023) (hM:∀ j,j<l→M j=M' j):qaa (rlE shaF encF k u M l)=(cpA shaF encF k u M' l).X:=by
  unfold rlE
  rw [jgu h,j7p,qkx (P:=fun j=>M (0+j)) (P':=fun j=>M' (0+j)) fun i hi=>by rw [Nat.zero_add]; exact hM i hi]
  rfl
theorem q13 {X Y:Nat→BitVec 8} {l:Nat} {x y:Sl} (hn:x.n=l) (hx:∀ j,j<l→X j=x.X (x.o+j)) {n:Nat} (hy:∀ j,j<n→Y j=y.X (y.o+j)) {p:Nat} (hp:p<l+n):rlJ X l Y p=two x y p:=by
  unfold rlJ catB
  rw [qff,hn]
  by_cases h:p<l
  · rw [if_pos h,if_pos h]
    show X (0+(0+p))=_
    rw [Nat.zero_add,Nat.zero_add]; exact hx p h
  · rw [if_neg h,if_neg h]
    show Y (0+(p - l))=_
    rw [Nat.zero_add]; exact hy _ (by omega)
theorem q23 {L M:List (BitVec 8)} {l:Nat} {x y:Sl} (hL:L.length=l) (hn:x.n=l) (hx:∀ j,j<l→qaa L j=x.X (x.o+j)) {n:Nat} (hy:∀ j,j<n→qaa M j=y.X (y.o+j)) {p:Nat} (hp:p<l+n):qaa (app L M) p=two x y p:=by
  rw [qv3,qff,hL,hn]
  by_cases h:p<l
  · rw [if_pos h,if_pos h]; exact hx p h
  · rw [if_neg h,if_neg h]; exact hy _ (by omega)
theorem q33 {k c c':Sl} (h:SlEq c c'):tagB shaF k c=tagB shaF k c':=qlx h
noncomputable def qaI (names:List Nat) (ents:List SO) (args:List SV):Ifc:=shaI (4::names) (tabR::ents) args
theorem q84 {g j:Nat} (h:qce g=some j):j=0∨j=1∨j=2∨j=4:=by
  rcases q8c (show boolC (Nat.beq g 2) (some 0) _=some j from h) with ⟨_,h⟩ | h
  · cases h; exact .inl rfl
  rcases q8c h with ⟨_,h⟩ | h
  · cases h; exact .inr (.inl rfl)
  rcases q8c h with ⟨_,h⟩ | h
  · cases h; exact .inr (.inr (.inl rfl))
  obtain ⟨_,h⟩:=qsb h
  cases h; exact .inr (.inr (.inr rfl))
theorem qik {β:Val} {names:List Nat} {ents:List SO} {args:List SV} (hG:GlobRel qce β):∀ g j,qce g=some j→(qaI names ents args).known j=true∧∃ l,β ((qaI names ents args).big j)=some l∧l.blk=g∧l.off=0:=by
  intro g j hg
  rcases q84 hg with rfl | rfl | rfl | rfl
  · exact ⟨rfl,hG g 0 hg⟩
  · exact ⟨rfl,hG g 1 hg⟩
  · exact ⟨rfl,hG g 2 hg⟩
  · exact ⟨rfl,hG g 4 hg⟩
theorem q43 {H:List SO} (hT:ShaT H) (htab:∀ g,∃ e',H[4]? = some e'∧q3b g tabR e') {names:List Nat} {ents:List SO} {args:List SV} (h:EntsOK (qaI names ents args).big (qaI names ents args).known H names ents):EntsOK (qaI names ents args).big (qaI names ents args).known H (qaI names ents args).names (qaI names ents args).ents :=
  qse hT ⟨⟨htab _,qpf _⟩,h⟩
theorem q69 {p:Nat→Bool} {g:Nat→Nat} {E:Option SO} {L:List (BitVec 8)} {X:Nat→BitVec 8} {n:Nat} {w:Bool} {el:TypeId} (hE:E=some (.own (.lst (bx L)) w el)) (hn:L.length=n) (h:∀ i,i<n→qaa L i=X i):qrd p g E (.own (.fn (qea X) n) w el):=by
  subst hn
  obtain ⟨c,w',el',c',h1,h2,h3,h4⟩:=q7e (p:=p) (g:=g) hE
  cases h4
  exact ⟨c,w,el,.fn (qea X) L.length,h1,h2,h3.trans fun γ vs hv=>qdq (fun i hi=>by
    show (SV.int .u8 (.b8 (qaa L i))).Imp (.int .u8 (.b8 (X i)))
    rw [h i hi]; exact .refl _) γ vs (qhm hv),rfl⟩
theorem qox {I:Ifc} {base j n n':Nat} {i:Int} {p v:SI} {L:List (BitVec 8)} {X':Nat→BitVec 8} {H:List SO} (hj:I.known j=false) (ho:q8b I.ents 0=[]) (hp:p.den=i) (hE:H[j]? = some (.own (.lst (bx L)) false 5)) (hL:L.length=n) (hn:n=n') (hX:∀ x,x<n→qaa L x=X' x) :
    I.Ends base [j] ⟨sgV2 base p v n',[],[.own (.fn (qea X') n') false 5]⟩ (rlV0 j i v.den n) H:=by
  subst hn
  have ho':I.out base [j] j=base:=by
    unfold Ifc.out
    rw [hj]
    show base+idxN j [j]=base
    rw [show idxN j [j]=boolC (Nat.beq j j) 0 _ from rfl,Nat.beq_refl]; rfl
  have hs:I.seen [j] j=true:=by
    unfold Ifc.seen
    rw [hj]
    exact (memN_iff (n:=j) (l:=[j])).2 List.mem_cons_self
  refine ⟨?_,?_,by rw [ho]; trivial,⟨q69 hE hL hX,trivial⟩⟩
  · show (SV.tuple [.agg [.int .i64 (.lit i),.int .i64 (.sym v.den),.slice ⟨I.out base [j] j,.lit 0⟩ (.lit n) (.rest (I.out base [j] j) 0)],.int .i64 (.lit 0)]).Imp _
    rw [ho']
    subst hp
    intro γ x hx
    simp only [SV.den,SV.denL,Option.map_eq_some_iff,Option.bind_eq_some_iff] at hx
    unfold sgV2 q1f
    simp only [SV.den,SV.denL,Option.map_eq_some_iff,Option.bind_eq_some_iff]
    exact hx
  · show ((true && (true && ((I.seen [j] j && I.seen [j] j) && true))) && (true && true))=true
    rw [hs]; rfl
theorem q53 {β:Type} {f g:Nat→β} (a:mapN f (qka 84 0)=mapN g (qka 84 0)) (b:mapN f (qka 84 84)=mapN g (qka 84 84)) (c:mapN f (qka 84 168)=mapN g (qka 84 168)) (d:mapN f (qka 84 252)=mapN g (qka 84 252)) {i:Nat} (hi:i<336):f i=g i:=by
  by_cases h1:i<84
  · exact q4b a (by omega) (by omega)
  by_cases h2:i<168
  · exact q4b b (by omega) (by omega)
  by_cases h3:i<252
  · exact q4b c (by omega) (by omega)
  · exact q4b d (by omega) (by omega)
theorem q2u (n:Nat):∃ i,i<336∧∀ q∈rlDC n i,q:=by
  have key:∀ i,(∀ j,j<i→n≠j)→∀ q∈mapN (fun j=>decide (n=j)=false) (qka i 0),q:=by
    intro i h q hq
    rw [qua,qrr,List.mem_map] at hq
    obtain ⟨j,hj,rfl⟩:=hq
    rw [List.mem_range'] at hj
    obtain ⟨m,hm,rfl⟩:=hj
    exact decide_eq_false (h _ (by omega))
  by_cases h:n<335
  · refine ⟨n,by omega,q2a (key n fun j hj=>by omega) ?_⟩
    have e:Nat.beq n 335=false:=by
      cases hb:Nat.beq n 335 with
      | true=>have:=qna hb; omega
      | false=>rfl
    rw [e]
    exact all_cons (decide_eq_true rfl) qca
  · exact ⟨335,by omega,q2a (key 335 fun j hj=>by omega) qca⟩
noncomputable def rslS (F:HashF) (E:CtsF) (i:Nat):Summ:=fun args H base=>q3m args fun kv uv cv tv=>kv.asAgg (.stuck 872) fun l=>quc l fun p v s=>i64O p fun p=>i64O v fun v=>i64O uv fun u=>shaT H (q30 H (qnc H s fun k kn=>qnc H cv fun c cn=>txtL H tv fun t tn =>
  boolC (qfd (4::kn::cn::optL tn)) (.need (p.den=(i:Int)∧usQ i v.den u.den k.n∧c.n=16∧okL k∧okL c∧okL t∧t.n≤208) (.ok ⟨sgV2 base p v (16+t.n+tagN i),[],[.own (.fn (qea (qjh F E i k u.den c t)) (16+t.n+tagN i)) false 5]⟩)) (.stuck 872)))
section
variable {k c t:Sl} {u:Int}
theorem jle {L:Blk} {l:Nat} {x:Sl} (hx:qaa L=x.X) (ho:x.o=0) (hn:x.n=l):SlEq (rlC L l) x:=⟨hn.symm,fun j _=>by
  show qaa L (0+j)=_
  rw [hx,ho]⟩
theorem jiu (hu:1≤u∧u≤1023) {p:Nat} (hp:p<16+t.n+16):rlJ (qaa (rlE shaF encF k u (rlM c t) (16+t.n))) (16+t.n) (rlG shaF k u (rlC (rlE shaF encF k u (rlM c t) (16+t.n)) (16+t.n)) 1) p=qjh shaF encF 1 k u c t p:=by
  have hX:=jke (k:=k) (l:=16+t.n) hu fun j _=>jhu (c:=c) (t:=t) (j:=j)
  refine q13 (x:=qic shaF encF 1 k u c t) (y:=qih shaF 1 k u (qic shaF encF 1 k u c t)) (n:=16) rfl (fun j _ => ?_) (fun j _ => ?_) hp
  · rw [hX]
    show _=(cpA shaF encF k u (two (c.len 16) t) (16+t.n)).X (0+j)
    rw [Nat.zero_add]
  · show qaa (tabB (qaa (tagB shaF (dkS shaF k 16 u 0x55#8) (rlC _ _))) 32) j=qaa (tabB (qaa (tagB shaF (dkS shaF k 16 u 0x55#8) (cpA shaF encF k u (two (c.len 16) t) (16+t.n)))) 32) (0+j)
    rw [Nat.zero_add,q33 (jle (l:=16+t.n) (x:=cpA shaF encF k u (two (c.len 16) t) (16+t.n)) hX rfl rfl)]
theorem jme (hu:1≤u∧u≤1023) (ht:t.n=0) {p:Nat} (hp:p<32):qaa (rlL shaF 1 16 k u (rlC (rlC0 shaF encF k u c) 16)) p=qjh shaF encF 1 k u c t p:=by
  have hX:qaa (rlC0 shaF encF k u c)=(cpA shaF encF k u (two (c.len 16) t) 16).X:=jke hu fun j hj=>by
    rw [qvb hj,qff,if_pos (show j<(c.len 16).n from hj)]; rfl
  have hs:qic shaF encF 1 k u c t=cpA shaF encF k u (two (c.len 16) t) 16:=by
    show cpA shaF encF k u (two (c.len 16) t) (16+t.n)=_
    rw [ht]
  show _=two (qic shaF encF 1 k u c t) (qih shaF 1 k u (qic shaF encF 1 k u c t)) p
  rw [hs]
  refine q23 (x:=cpA shaF encF k u (two (c.len 16) t) 16) (y:=qih shaF 1 k u (cpA shaF encF k u (two (c.len 16) t) 16)) (n:=16) (qld _ _) rfl (fun j hj => ?_) (fun j hj => ?_) hp
  · rw [qvb hj]
    show qaa (rlC0 shaF encF k u c) (0+j)=(cpA shaF encF k u (two (c.len 16) t) 16).X (0+j)
    rw [hX]
  · rw [qvb hj]
    show qaa (tagB shaF (dkS shaF k 16 u 0x55#8) (rlC _ _)) j=qaa (tabB (qaa (tagB shaF (dkS shaF k 16 u 0x55#8) (cpA shaF encF k u (two (c.len 16) t) 16))) 32) (0+j)
    rw [Nat.zero_add,qvb (by omega),q33 (jle (l:=16) (x:=cpA shaF encF k u (two (c.len 16) t) 16) hX rfl rfl)]
theorem jne (hu:1≤u∧u≤1023) {j:Nat}:rlX shaF k u c t j=two (c.len 16) (str2 shaF u k c t) j:=by
  unfold rlX catB
  rw [qff]
  have hc:(c.len 16).n=16:=rfl
  by_cases h:j<16
  · rw [if_pos h,if_pos (by omega)]
    show qaa (tabB c.F 16) (0+j)=_
    rw [Nat.zero_add,qvb h]; rfl
  · rw [if_neg h,if_neg (by omega),hc]
    show strG shaF (rdkS shaF k 32 u 0xaa#8) (c.len 16) t (0+(j - 16))=strG shaF (dkS shaF k 32 u 0xaa#8) (c.len 16) t (0+(j - 16))
    rw [jsi (j8d hu.1 hu.2 (by omega)) (by show 32≤64; omega)]
theorem jju (hu:1≤u∧u≤1023) {p:Nat} (hp:p<16+t.n+32):rlJ (rlX shaF k u c t) (16+t.n) (rlG shaF k u (rlS shaF k u c t) 2) p=qjh shaF encF 2 k u c t p:=by
  have hS:SlEq (rlS shaF k u c t) (cpB shaF u k c t):=⟨rfl,fun j _=>by
    show rlX shaF k u c t (0+j)=two (c.len 16) (str2 shaF u k c t) (0+j)
    exact jne hu⟩
  refine q13 (x:=qic shaF encF 2 k u c t) (y:=qih shaF 2 k u (qic shaF encF 2 k u c t)) (n:=32) rfl (fun j _ => ?_) (fun j _ => ?_) hp
  · show _=two (c.len 16) (str2 shaF u k c t) (0+j)
    rw [Nat.zero_add]; exact jne hu
  · show qaa (tabB (qaa (tagS shaF (dkS shaF k 32 u 0x55#8) (rlS shaF k u c t))) 32) j=qaa (tabB (qaa (tagS shaF (dkS shaF k 32 u 0x55#8) (cpB shaF u k c t))) 32) (0+j)
    rw [Nat.zero_add,qgq hS]
theorem qg6 (ht:t.n=0) {p:Nat} (hp:p<48):qaa (rlL shaF 2 32 k u (rlT0 c)) p=qjh shaF encF 2 k u c t p:=by
  have hS:SlEq (rlT0 c) (cpB shaF u k c t):=⟨by show 16=16+t.n; omega,fun j hj=>by
    have hj:j<16:=hj
    show qaa (tabB c.F 16) (0+j)=two (c.len 16) (str2 shaF u k c t) (0+j)
    rw [Nat.zero_add,qvb hj,qff,if_pos (show j<(c.len 16).n from hj)]; rfl⟩
  refine q23 (x:=qic shaF encF 2 k u c t) (y:=qih shaF 2 k u (qic shaF encF 2 k u c t)) (l:=16) (n:=32) (qld _ _) (by show 16+t.n=16; omega) (fun j hj => ?_) (fun j hj => ?_) hp
  · have:=hS.2 j hj
    show qaa (tabB (rlT0 c).F 16) j=two (c.len 16) (str2 shaF u k c t) (0+j)
    rw [qvb hj]
    exact this
  · rw [qvb hj]
    show qaa (tagS shaF (dkS shaF k 32 u 0x55#8) (rlT0 c)) j=qaa (tabB (qaa (tagS shaF (dkS shaF k 32 u 0x55#8) (cpB shaF u k c t))) 32) (0+j)
    rw [Nat.zero_add,qvb hj,qgq hS]
end
end Go.Proofs.YtbmgahpjgefjaaaGreatDoor.Aes
namespace Go.Proofs.YtbmgahpjgefjaaaGreatDoor.Aes
open Go.Sim
open Go.Proofs
open Go.RowKit
variable {α:Type}
set_option maxRecDepth 1000000
theorem q63 {p:Nat→Bool} {i:Int} {n:Nat} {v u:Int} {k c:Sl} {t:SV} (h5:p 5=true) (h6:p 6=true) (ht:t.uses p=true):SV.usesL p (rlA i n v u k c t)=true:=by
  show ((true && (true && ((k.valN 5 n).uses p && true))) && (true && ((c.valN 6 16).uses p && (t.uses p && true))))=true
  rw [Sl.valN_uses _ _ _ _ h5,Sl.valN_uses _ _ _ _ h6,ht]; rfl
theorem q0l {n:Nat} (h:n≤1000000):room n:=⟨⟨by omega,by omega⟩,rfl⟩
theorem q5z {i n:Nat} {u:Int} {k C:Sl} {X:Nat→BitVec 8} {N l:Nat} (hn:n=tagN i) (hn32:n≤32) (hu:1≤u∧u≤1023) (hk:okL (k.len n)) (hC:okL C) (hCn:C.n=l) (h1:1≤l) (hl:l≤1000) (hN:l≤N):∀ q∈q19 i n u k C X N l,q :=
  all_cons (by omega) (all_cons (decide_eq_false (by omega)) (all_cons (q0l (by omega)) (all_cons (qda _) (all_cons (qda _) (all_cons ⟨rfl,hn,hu,hk,hC,by omega,by omega⟩ (all_cons hn32 (all_cons ⟨by omega,fun _=>qda _ _⟩ (all_cons (q0l (by omega)) qca))))))))
theorem rslOK {i:Nat} (hi12:i=1∨i=2):SumAt Tryz.prog qce 13 (rslS shaF encF i):=by
  intro O w0 β H w base args vs hH hG ha
  refine qeg fun kv uv cv tv hv => ?_
  rcases qfc kv with ⟨l,rfl⟩ | hno
  case inr=>rw [hno]; trivial
  refine qib fun p v s hl=>q1a fun p' hp=>q1a fun v' hv'=>q1a fun u hu=>qpg fun hT=>q3r fun htab=>qdb fun k kn hn1 ht1 hi1=>qdb fun c cn hn2 ht2 hi2 => ?_
  subst hl hp hv' hu
  rw [hv] at ha
  obtain ⟨⟨xs,hxs⟩,zs,hzs⟩:=q8g ha
  obtain ⟨xu,zs1,hxu,hzs1,rfl⟩:=denL_cons.1 hzs
  obtain ⟨xc,zs2,hxc,hzs2,rfl⟩:=denL_cons.1 hzs1
  obtain ⟨xt,zs3,hxt,hzs3,rfl⟩:=denL_cons.1 hzs2
  have harg:∀ (n0 m m2:Nat) (tv':SV),((k.pl m).valN kn n0).den β=some xs→((c.pl m2).valN cn 16).den β=some xc→p'.den=(i:Int)→tv'.den β=some xt→SV.denL β [.agg [.int .i64 (.lit i),.int .i64 (.sym v'.den),(k.pl m).valN kn n0],.int .i64 (.sym u.den),(c.pl m2).valN cn 16,tv']=some vs:=by
    intro n0 m m2 tv' hks hcs hpi htv
    have h1:=qxf (s':=(k.pl m).valN kn n0) (p':=.int .i64 (.lit i)) (v':=.int .i64 (.sym v'.den)) ha (fun x hx=>by rw [hxs] at hx; cases hx; exact hks) (qoa hpi) (qoa rfl)
    obtain ⟨xa,ws,hxa,hws,rfl⟩:=denL_cons.1 h1
    refine denL_cons.2 ⟨_,_,hxa,?_,rfl⟩
    rw [hzs] at hws
    cases hws
    exact denL_cons.2 ⟨_,_,qoa rfl _ _ hxu,denL_cons.2 ⟨_,_,hcs,denL_cons.2 ⟨_,_,htv,hzs3,rfl⟩,rfl⟩,rfl⟩
  have hdC:∀ (n:Nat) (x:BitVec 8),n≤32→okL (rdkS shaF k n u.den x):=fun n x hn=>⟨by show 0+n≤32; omega,by show n≤_; omega⟩
  have hlen:∀ (K V:Blk) (P:Nat→BitVec 8) (l:Nat),l≤lenN (encF K V P l):=jbe
  have h16:16≤32∧16≤16:=⟨by omega,by omega⟩
  have n3:∀ {x:Nat},x∈[4,kn,cn]→qpb x=true:=by simp only [List.mem_cons,List.not_mem_nil,or_false]; rintro x (rfl | rfl | rfl) <;> first | rfl | assumption
  have hC0:okL (rlC (rlC0 shaF encF k u.den c) 16):=⟨by show 0+16≤lenN (rlC0 shaF encF k u.den c); rw [Nat.zero_add]; exact hlen _ _ _ _,by show 16≤_; omega⟩
  have hZ:∀ {zt:List Prop},(∀ q∈zt,q)→c.o+16≤c.N→okL (k.len 16)→(1≤u.den∧u.den≤1023)→∀ q∈rl1Z shaF encF u.den k c zt,q:=fun hz hcl hk16 hu=>all_cons hcl (q2a hz (all_cons h16 (all_cons ⟨by omega,decide_eq_true (by omega)⟩ (all_cons (hlen _ _ _ _) (all_cons (qda _) (all_cons (qda _) (all_cons ⟨rfl,rfl,hu,hk16,hC0,by show 1≤16; omega,by show 16≤_; omega⟩ qca)))))))
  have hQ:∀ {j n:Nat} {bt r:List Prop},usQ j v'.den u.den n→k.o+n≤k.N→(∀ q∈bt,q)→(∀ q∈r,q)→∀ q∈rlQ j n v'.den u.den k bt r,q:=fun hq hkl hb hr=>all_cons ⟨fun _=>rfl,fun _=>hq⟩ (q2a hb (all_cons (qda _) (all_cons ⟨rfl,hkl⟩ hr)))
  refine qhk (fun hnil=>qfa fun hd=>fun ⟨hpi,hq,hc16,hk,hc,_,_⟩ => ?_) fun t tn hn3 ht3 hi3=>qfa fun hd=>fun ⟨hpi,hq,hc16,hk,hc,ht,h208⟩ => ?_
  ·
    subst hnil
    obtain ⟨m2,hcs⟩:=Sl.val_denN hc16 (hi2 _ _ hxc)
    have hcl:c.o+16≤c.N:=by rw [← hc16]; exact hc.1
    have fit:∀ (n0 m:Nat) (j0:Int),Ifc.Fits (qaI [kn,cn] [(k.pl m).row,(c.pl m2).row] (rlA j0 n0 v'.den u.den (k.pl m) (c.pl m2) .nilSlice)) H:=fun n0 m j0 =>
      Ifc.fits (nd4 hd fun _=>n3) (q63 rfl rfl rfl) (q43 hT htab ⟨⟨ht1 _,k.row_uses _⟩,⟨ht2 _,c.row_uses _⟩,trivial⟩)
    have arg:∀ {n0 m:Nat},((k.pl m).valN kn n0).den β=some xs→SV.denL β (SV.renL (qaI [kn,cn] [(k.pl m).row,(c.pl m2).row] (rlA i n0 v'.den u.den (k.pl m) (c.pl m2) .nilSlice)).big (rlA i n0 v'.den u.den (k.pl m) (c.pl m2) .nilSlice))=some vs:=fun {n0 m} hks=>by
      show SV.denL β [.agg [.int .i64 (.lit i),.int .i64 (.sym v'.den),((k.pl m).valN 5 n0).ren _],.int .i64 (.sym u.den),((c.pl m2).valN 6 16).ren _,.nilSlice]=_
      rw [Sl.valN_ren,Sl.valN_ren]
      exact harg n0 m m2 .nilSlice hks hcs hpi hxt
    rcases hi12 with rfl | rfl
    · have hkn:k.n=16:=by rcases hq.1.1 with ⟨_,h⟩ | ⟨h,_⟩; exact h; cases h
      obtain ⟨m,hks⟩:=Sl.val_denN hkn (hi1 _ _ hxs)
      have hkl:k.o+16≤k.N:=by rw [← hkn]; exact hk.1
      have hk16:okL (k.len 16):=⟨hkl,by show 16≤_; omega⟩
      rw [hkn] at hq
      refine q0u (qzl (.inl rfl)) 8000 hH (qaI [kn,cn] [(k.pl m).row,(c.pl m2).row] (rlA 1 16 v'.den u.den (k.pl m) (c.pl m2) .nilSlice)) (qik hG) (arg hks) (fit 16 m 1) [17] (by simp [qaI,shaI]) (by simp) (js:=[17]) (v:=rlV0 17 1 v'.den (16+16)) (es:=[some (.own (.lst (bx (rlL shaF 1 16 k u.den (rlC (rlC0 shaF encF k u.den c) 16)))) false 5)]) (fun z => ?_) fun H2 hH2=>qox (n:=32) rfl rfl hpi (List.cons.inj hH2).1 (by unfold rlL; rw [qeb,List.length_append,qld,qld]) rfl fun x hx=>jme hq.2 rfl hx
      obtain ⟨j,hj,hdc⟩:=q2u (z 0 0)
      exact ⟨_,_,q53 (jge shaF encF decF v'.den u.den k c m m2 z) (jhe shaF encF decF v'.den u.den k c m m2 z) (jie shaF encF decF v'.den u.den k c m m2 z) (jje shaF encF decF v'.den u.den k c m m2 z) hj,hQ hq hkl qca (q2a hdc (hZ qca hcl hk16 hq.2))⟩
    · have hkn:k.n=32:=by rcases hq.1.1 with ⟨h,_⟩ | ⟨_,h⟩; cases h; exact h
      obtain ⟨m,hks⟩:=Sl.val_denN hkn (hi1 _ _ hxs)
      have hkl:k.o+32≤k.N:=by rw [← hkn]; exact hk.1
      have hk32:okL (k.len 32):=⟨hkl,by show 32≤_; omega⟩
      rw [hkn] at hq
      exact q7a (qzl (.inr rfl)) 8000 hH (qaI [kn,cn] [(k.pl m).row,(c.pl m2).row] (rlA 2 32 v'.den u.den (k.pl m) (c.pl m2) .nilSlice)) (qik hG) (arg hks) (fit 32 m 2) [15] (by simp [qaI,shaI]) (by simp) (j6p shaF encF decF v'.den u.den k c m m2)
        (hQ hq hkl qca (all_cons hcl (all_cons (qda _) (all_cons ⟨rfl,rfl,hdC _ _ (by omega),⟨hcl,by show 16≤_; omega⟩,⟨Nat.le_refl _,Nat.zero_le _⟩⟩ (all_cons (qda _) (all_cons ⟨rfl,rfl,hq.2,hk32,⟨by show 0+16≤16; omega,by show 16≤_; omega⟩,by show 1≤16; omega,by show 16≤_; omega⟩ qca))))))
        fun H2 hH2=>qox (n:=48) rfl rfl hpi (List.cons.inj hH2).1 (by unfold rlL; rw [qeb,List.length_append,qld,qld]) rfl fun x hx=>qg6 rfl hx
  · obtain ⟨m2,hcs⟩:=Sl.val_denN hc16 (hi2 _ _ hxc)
    obtain ⟨m3,_,hts⟩:=Sl.val_den (hi3 _ _ hxt)
    have hcl:c.o+16≤c.N:=by rw [← hc16]; exact hc.1
    have htl:=ht.1
    have n4:∀ {x:Nat},x∈[4,kn,cn,tn]→qpb x=true:=by simp only [List.mem_cons,List.not_mem_nil,or_false]; rintro x (rfl | rfl | rfl | rfl) <;> first | rfl | assumption
    have fit:∀ (n0 m:Nat) (j0:Int) (tv':SV),tv'.uses (qaI [kn,cn,tn] [(k.pl m).row,(c.pl m2).row,(t.pl m3).row] []).known=true→Ifc.Fits (qaI [kn,cn,tn] [(k.pl m).row,(c.pl m2).row,(t.pl m3).row] (rlA j0 n0 v'.den u.den (k.pl m) (c.pl m2) tv')) H:=fun n0 m j0 tv' hu =>
      Ifc.fits (nd4 hd fun _=>n4) (q63 rfl rfl hu) (q43 hT htab ⟨⟨ht1 _,k.row_uses _⟩,⟨ht2 _,c.row_uses _⟩,⟨ht3 _,t.row_uses _⟩,trivial⟩)
    have arg:∀ {n0 m:Nat} {tv':SV},((k.pl m).valN kn n0).den β=some xs→(tv'.ren (qaI [kn,cn,tn] [(k.pl m).row,(c.pl m2).row,(t.pl m3).row] []).big).den β=some xt→SV.denL β (SV.renL (qaI [kn,cn,tn] [(k.pl m).row,(c.pl m2).row,(t.pl m3).row] (rlA i n0 v'.den u.den (k.pl m) (c.pl m2) tv')).big (rlA i n0 v'.den u.den (k.pl m) (c.pl m2) tv'))=some vs:=fun {n0 m tv'} hks htv=>by
      show SV.denL β [.agg [.int .i64 (.lit i),.int .i64 (.sym v'.den),((k.pl m).valN 5 n0).ren _],.int .i64 (.sym u.den),((c.pl m2).valN 6 16).ren _,tv'.ren _]=_
      rw [Sl.valN_ren,Sl.valN_ren]
      exact harg n0 m m2 _ hks hcs hpi htv
    have htv:∀ {m:Nat},(((t.pl m3).val 7).ren (qaI [kn,cn,tn] [(k.pl m).row,(c.pl m2).row,(t.pl m3).row] []).big).den β=some xt:=fun {m}=>by rw [Sl.val_ren]; exact hts
    have hbig:∀ q∈qkq t,q:=all_cons (decide_eq_false (by omega)) qca
    rcases hi12 with rfl | rfl
    · have hkn:k.n=16:=by rcases hq.1.1 with ⟨_,h⟩ | ⟨h,_⟩; exact h; cases h
      obtain ⟨m,hks⟩:=Sl.val_denN hkn (hi1 _ _ hxs)
      have hkl:k.o+16≤k.N:=by rw [← hkn]; exact hk.1
      have hk16:okL (k.len 16):=⟨hkl,by show 16≤_; omega⟩
      rw [hkn] at hq
      by_cases h0:t.n=0
      · have htv0:(((t.pl m3).valN 7 0).ren (qaI [kn,cn,tn] [(k.pl m).row,(c.pl m2).row,(t.pl m3).row] []).big).den β=some xt:=by
          rw [Sl.valN_ren]
          exact qwd (l:=.sym t.n) (l':=.lit 0) h0 _ _ hts
        refine q0u (qzl (.inl rfl)) 8000 hH (qaI [kn,cn,tn] [(k.pl m).row,(c.pl m2).row,(t.pl m3).row] (rlA 1 16 v'.den u.den (k.pl m) (c.pl m2) ((t.pl m3).valN 7 0))) (qik hG) (arg hks htv0) (fit 16 m 1 _ (Sl.valN_uses _ _ _ _ rfl)) [18] (by simp [qaI,shaI]) (by simp) (js:=[18]) (v:=rlV0 18 1 v'.den (16+16)) (es:=[some (.own (.lst (bx (rlL shaF 1 16 k u.den (rlC (rlC0 shaF encF k u.den c) 16)))) false 5)]) (fun z => ?_) fun H2 hH2=>qox (n:=32) rfl rfl hpi (List.cons.inj hH2).1 (by unfold rlL; rw [qeb,List.length_append,qld,qld]) (by rw [h0]; rfl) fun x hx=>jme hq.2 h0 hx
        obtain ⟨j,hj,hdc⟩:=q2u (z 0 0)
        exact ⟨_,_,q53 (q29 shaF encF decF v'.den u.den k c t m m2 m3 z) (q39 shaF encF decF v'.den u.den k c t m m2 m3 z) (q49 shaF encF decF v'.den u.den k c t m m2 m3 z) (q59 shaF encF decF v'.den u.den k c t m m2 m3 z) hj,hQ hq hkl qca (q2a hdc (hZ (all_cons (by omega) qca) hcl hk16 hq.2))⟩
      · refine q0u (qzl (.inl rfl)) 8000 hH (qaI [kn,cn,tn] [(k.pl m).row,(c.pl m2).row,(t.pl m3).row] (rlA 1 16 v'.den u.den (k.pl m) (c.pl m2) ((t.pl m3).val 7))) (qik hG) (arg hks htv) (fit 16 m 1 _ (Sl.val_uses _ _ _ rfl)) [19] (by simp [qaI,shaI]) (by simp) (js:=[19]) (v:=rlV 19 1 v'.den (16+t.n+16)) (es:=[some (.own (.fn (qea (rlJ (qaa (rlE shaF encF k u.den (rlM c t) (16+t.n))) (16+t.n) (rlG shaF k u.den (rlC (rlE shaF encF k u.den (rlM c t) (16+t.n)) (16+t.n)) 1))) (16+t.n+16)) false 5)]) (fun z => ?_) fun H2 hH2=>qpm rfl rfl hpi (List.cons.inj hH2).1 rfl fun x hx=>jiu hq.2 hx
        obtain ⟨j,hj,hdc⟩:=q2u (z 0 0)
        have hL:=hlen (qha (qaa (rdL shaF k 16 u.den 0xaa#8)) 0) (qha (qaa (tabB (fun _=>0#8) 16)) 0) (fun j=>rlM c t (0+j)) (16+t.n)
        exact ⟨_,_,q53 (jce shaF encF decF v'.den u.den k c t m m2 m3 z) (jde shaF encF decF v'.den u.den k c t m m2 m3 z) (jee shaF encF decF v'.den u.den k c t m m2 m3 z) (jfe shaF encF decF v'.den u.den k c t m m2 m3 z) hj,hQ hq hkl hbig (q2a hdc (all_cons hcl (all_cons ⟨htl,qda _⟩ (all_cons (by omega) (all_cons (q0l (by omega)) (all_cons h16 (all_cons (qda _) (all_cons ⟨by omega,decide_eq_true (by omega)⟩
          (q5z rfl (by omega) hq.2 hk16 ⟨by show 0+(16+t.n)≤lenN _; rw [Nat.zero_add]; exact hL,by show 16+t.n≤_; omega⟩ rfl (by omega) (by omega) hL)))))))))⟩
    · have hkn:k.n=32:=by rcases hq.1.1 with ⟨h,_⟩ | ⟨_,h⟩; cases h; exact h
      obtain ⟨m,hks⟩:=Sl.val_denN hkn (hi1 _ _ hxs)
      have hkl:k.o+32≤k.N:=by rw [← hkn]; exact hk.1
      have hk32:okL (k.len 32):=⟨hkl,by show 32≤_; omega⟩
      have hst:rstQ (rdkS shaF k 32 u.den 0xaa#8) (c.len 16) t:=⟨rfl,rfl,hdC _ _ (by omega),⟨hcl,by show 16≤_; omega⟩,ht⟩
      rw [hkn] at hq
      by_cases h0:t.n=0
      · exact q7a (qzl (.inr rfl)) 8000 hH (qaI [kn,cn,tn] [(k.pl m).row,(c.pl m2).row,(t.pl m3).row] (rlA 2 32 v'.den u.den (k.pl m) (c.pl m2) ((t.pl m3).val 7))) (qik hG) (arg hks htv) (fit 32 m 2 _ (Sl.val_uses _ _ _ rfl)) [16] (by simp [qaI,shaI]) (by simp) (jqi shaF encF decF v'.den u.den k c t m m2 m3)
          (hQ hq hkl hbig (all_cons hcl (all_cons (qda _) (all_cons (qda _) (all_cons hst (all_cons (by rw [h0]; rfl) (all_cons (qda _) (all_cons ⟨rfl,rfl,hq.2,hk32,⟨by show 0+16≤16; omega,by show 16≤_; omega⟩,by show 1≤16; omega,by show 16≤_; omega⟩ qca))))))))
          fun H2 hH2=>qox (n:=48) rfl rfl hpi (List.cons.inj hH2).1 (by unfold rlL; rw [qeb,List.length_append,qld,qld]) (by rw [h0]; rfl) fun x hx=>qg6 h0 hx
      · exact q7a (qzl (.inr rfl)) 8000 hH (qaI [kn,cn,tn] [(k.pl m).row,(c.pl m2).row,(t.pl m3).row] (rlA 2 32 v'.den u.den (k.pl m) (c.pl m2) ((t.pl m3).val 7))) (qik hG) (arg hks htv) (fit 32 m 2 _ (Sl.val_uses _ _ _ rfl)) [18] (by simp [qaI,shaI]) (by simp) (j5p shaF encF decF v'.den u.den k c t m m2 m3)
          (hQ hq hkl hbig (all_cons hcl (all_cons (qda _) (all_cons (qda _) (all_cons hst (all_cons (by rw [beq_eq_false_iff_ne]; omega) (all_cons ⟨by omega,qda _⟩ (all_cons (by omega) (all_cons (q0l (by omega))
            (q5z rfl (by omega) hq.2 hk32 ⟨by show 0+(16+t.n)≤16+t.n; omega,by show 16+t.n≤_; omega⟩ rfl (by omega) (by omega) (by omega)))))))))))
          fun H2 hH2=>qpm rfl rfl hpi (List.cons.inj hH2).1 rfl fun x hx=>jju hq.2 hx
end Go.Proofs.YtbmgahpjgefjaaaGreatDoor.Aes
namespace Go.Proofs.YtbmgahpjgefjaaaGreatDoor.Aes
open Go.Sim
open Go.Proofs
variable {α:Type}
set_option maxRecDepth 1000000
noncomputable def jll (b:Bool):Cfg:=qae (qcb [(40,ruS b),(24,lnS 16 32)])
theorem j8p {b:Bool}:CfgOK (jll b):=q7b (allC (fun g=>ruOK g) (all1 fun g=>qx9 g))
noncomputable def rsqT (b:Bool) (p v u:Int) (y:Option Addr) (l m:Nat) (y1:Option Addr) (l1 m1:Nat) (y2:Option Addr) (l2 m2:Nat):Tree:=qba (jll b) 400 13 (sqA p v u y l m y1 l1 m1 y2 l2 m2) []
def usP (p v u:Int) (l:Nat) (b:Bool):Prop:=usQ p v u l↔b=true
section
variable (p v u sp sv:Int) (y:Option Addr) (l m:Nat) (y1:Option Addr) (l1 m1:Nat) (y2:Option Addr) (l2 m2:Nat)
theorem j9p:outO [] (rsqT false p v u y l m y1 l1 m1 y2 l2 m2) []=([usP p v u l false],some (sqV,[])):=by kernel_rfl
theorem jaq:outO [] (rsqT true p v u y l m y1 l1 m1 y2 l2 m2) (repN true 4)=(usP p v u l true::repN (((l1:Int) != 16)=true) 4,some (sqV,[])):=by kernel_rfl
end
theorem rsqOK:q5a Tryz.prog 13 sqS:=by
  intro glob O w0 β H w base args vs hH hG ha
  refine qeg fun kv uv cv tv hv=>qti fun p v s n hk hs=>q1a fun u hu=>qqm fun cl hc=>qqm fun tl ht=>fun hq => ?_
  subst hv hk hu
  obtain ⟨y,m,h1⟩:=qui ha hs
  obtain ⟨xk,zs,hxk,hzs,rfl⟩:=denL_cons.1 h1
  obtain ⟨xu,zs1,hxu,hzs1,rfl⟩:=denL_cons.1 hzs
  obtain ⟨xc,zs2,hxc,hzs2,rfl⟩:=denL_cons.1 hzs1
  obtain ⟨xt,zs3,hxt,hzs3,rfl⟩:=denL_cons.1 hzs2
  obtain ⟨y1,m1,hc'⟩:=qiq hc hxc
  obtain ⟨y2,m2,ht'⟩:=qiq ht hxt
  have ha':SV.denL β (sqA p.den v.den u.den y n m y1 cl m1 y2 tl m2)=some (xk::xu::xc::xt::zs3):=denL_cons.2 ⟨_,_,hxk,denL_cons.2 ⟨_,_,qoa rfl _ _ hxu,denL_cons.2 ⟨_,_,hc',denL_cons.2 ⟨_,_,ht',hzs3,rfl⟩,rfl⟩,rfl⟩,rfl⟩
  have key:∀ {b cs ds},outO [] (rsqT b p.den v.den u.den y n m y1 cl m1 y2 tl m2) ds=(cs,some (sqV,[]))→(∀ q∈cs,q)→q3a Tryz.prog H β w base 13 (xk::xu::xc::xt::zs3) ⟨sqV,[],[]⟩:=by
    intro b cs ds hr hc
    exact qob j8p rfl 400 hH ⟨[],[],sqA p.den v.den u.den y n m y1 cl m1 y2 tl m2⟩ ha' (qed rfl) [] (by simp) (by simp) hr hc fun _ _=>qmc rfl rfl rfl
  by_cases hval:usQ p.den v.den u.den n
  · have hcl:((cl:Int) != 16)=true:=by
      rcases hq with h | h
      · exact absurd hval h
      · rw [bne_iff_ne]; omega
    exact key (jaq p.den v.den u.den y n m y1 cl m1 y2 tl m2) (all_cons ⟨fun _=>rfl,fun _=>hval⟩ (q2c hcl 4))
  · exact key (j9p p.den v.den u.den y n m y1 cl m1 y2 tl m2) (all_cons ⟨fun h=>absurd h hval,fun h=>by cases h⟩ qca)
section
variable (p v u sp sv:Int) (y:Option Addr) (l m:Nat) (y1:Option Addr) (l1 m1:Nat)
end
end Go.Proofs.YtbmgahpjgefjaaaGreatDoor.Aes
namespace Go.Proofs.YtbmgahpjgefjaaaGreatDoor.Aes
open Go.Sim
open Go.Proofs
variable {α:Type}
set_option maxRecDepth 1000000
noncomputable def strL (L:List (BitVec 8)):ByteArray:=qwi (mapN (fun x=>SI.b8 x) L)
theorem jbq (X:Nat→BitVec 8) (n:Nat):strL (tabB X n)=strS ⟨X,n,0,n,false,0⟩:=by
  unfold strL strS qxi qwi tabB
  congr 2
  rw [qua,qua,qzc,List.map_map,List.map_map]
  refine List.ext_getElem? fun i => ?_
  simp only [List.getElem?_map]
  by_cases hi:i<n
  · rw [List.getElem?_range' hi,List.getElem?_range hi]
    show some (UInt8.ofNat (((X (0+1 * i)).toNat:Int)).toNat)=some (UInt8.ofNat (((X (0+i)).toNat:Int)).toNat)
    rw [Nat.one_mul]
  · rw [List.getElem?_eq_none (by simpa using hi),List.getElem?_eq_none (by simpa using hi)]; rfl
theorem strL_iff {X:Nat→BitVec 8} {n:Nat} {s:Sl}:strL (tabB X n)=strS s↔s.n=n∧∀ i,i<n→X i=s.F i:=by
  rw [jbq,strS_iff]
  constructor
  · rintro ⟨h1,h2⟩
    exact ⟨h1.symm,fun i hi=>by have:=h2 i hi; rw [Nat.zero_add] at this; exact this⟩
  · rintro ⟨h1,h2⟩
    exact ⟨h1.symm,fun i hi=>by rw [Nat.zero_add]; exact h2 i hi⟩
noncomputable def ryG (F:HashF) (k:Sl) (u:Int) (i n:Nat) (b:Sl):Nat→BitVec 8:=qaa (tagS F (dkS F (k.len n) (tagN i) u 0x99#8) b)
section
variable (F:HashF) (v u:Int) (k b s:Sl) (m m2 m3:Nat)
end
end Go.Proofs.YtbmgahpjgefjaaaGreatDoor.Aes
namespace Go.Proofs.YtbmgahpjgefjaaaGreatDoor.Aes
open Go.Sim
open Go.Proofs
set_option maxRecDepth 1000000
noncomputable def jml (F:HashF) (E:CtsF) (i:Nat):Cfg:=cfgG qce (qcb [(12,j4d F E i),(13,rslS F E i),(14,saS),(11,knS)])
theorem q1l {i:Nat} (hi:i=1∨i=2):CfgOK (jml shaF encF i):=qwb (allS (SumAt.upQ (SumAt.up (jbp hi))) (allS (rslOK hi) (allS (saOK _) (allS (SumAt.upQ (SumAt.up knOK)) (by simp)))))
noncomputable def jnl:Cfg:=cfgG qce (qcb [(12,sqS),(13,sqS),(14,saS),(11,knS)])
theorem q9g:CfgOK jnl:=qwb (allS (sqOK _) (allS (rsqOK _) (allS (saOK _) (allS (SumAt.upQ (SumAt.up knOK)) (by simp)))))
noncomputable def slA (i:Int) (n:Nat) (v u:Int) (k c:Sl) (t:SV):List SV:=[.agg [.int .i64 (.lit i),.int .i64 (.sym v),k.valN 5 n],.int .i64 (.sym u),c.valN 6 16,t]
noncomputable def slT (F:HashF) (E:CtsF) (i n:Nat) (v u:Int) (k c:Sl) (t:SV) (r:List SO):Tree:=qba (jml F E i) 8000 3 (slA i n v u k c t) (shaH (tabR::k.row::c.row::r))
noncomputable def lvT (p v u:Int) (y:Option Addr) (l m:Nat) (c t:SV) (r:List SO):Tree:=qba jnl 8000 3 [kyV p v y l m,.int .i64 (.sym u),c,t] (shaH (tabR::r))
noncomputable def slP (t:Sl):Sl:=⟨fun i=>t.X (t.o+i),t.n,0,t.n,true,0⟩
noncomputable def slK (c:Sl):Sl:=⟨qaa (tabB c.F 16),16,0,16,true,0⟩
noncomputable def slQ (i:Nat) (v u:Int) (k:Sl) (n:Nat) (c t:Sl):Prop:=(i:Int)=i∧usQ i v u n∧16=16∧okL (k.len n)∧okL c∧okL t∧t.n≤208
noncomputable def slS (F:HashF) (E:CtsF) (i n:Nat) (u:Int) (k c t:Sl):Sl:=⟨qjh F E i (k.len n) u c t,16+t.n+tagN i,0,16+t.n+tagN i,true,0⟩
noncomputable def slC (F:HashF) (E:CtsF) (i n:Nat) (v u:Int) (k c t p:Sl) (bo b1 b2 r:List Prop):List Prop :=
  app bo (IsB (qea k.X)::app b1 (slQ i v u k n (slK c) p::IsB (qea k.X)::IsB (qea c.X)::app b2 (slQ i v u k n (c.len 16) t ::
    IsB (qea (qjh F E i (k.len n) u (slK c) p))::IsB (qea (qjh F E i (k.len n) u (c.len 16) t))::(okL (slS F E i n u k (slK c) p)∧okL (slS F E i n u k (c.len 16) t))::(samB i v (slS F E i n u k (slK c) p) i v (slS F E i n u k (c.len 16) t)=true)::r)))
noncomputable def slR:Option (SV × List (Option SO)):=some (.bool (.lit true),[])
noncomputable def slP0:Sl:=⟨qaa [],0,0,0,false,0⟩
noncomputable def slCC (c:Sl) (r:List Prop):List Prop:=rdC (c.len 16)::(decide (strL (tabB c.F 16)=strS (c.len 16))=true)::r
section
variable (F:HashF) (E:CtsF) (v u:Int) (k c t:Sl) (m m2 m3:Nat)
theorem jcq:outO [] (slT F E 1 16 v u (k.pl m) (c.pl m2) ((t.pl m3).val 7) [(t.pl m3).row]) [false,false,true,true,true]=(slC F E 1 16 v u k c t (slP t) [decide ((t.n:Int) > 200)=false,c.o+16≤c.N,t.o+t.n≤t.N,decide (t.n=0)=false,room t.n] [IsB (qea (slP t).X)] [IsB (qea t.X)] (slCC c (rdC (slP t)::rdC t::[decide (strS (slP t)=strS t)=true])),slR):=by kernel_rfl
theorem jti:outO [] (slT F E 1 16 v u (k.pl m) (c.pl m2) ((t.pl m3).val 7) [(t.pl m3).row]) [false,true,true,true,true]=(slC F E 1 16 v u k c t slP0 [decide ((t.n:Int) > 200)=false,c.o+16≤c.N,t.o+t.n≤t.N,decide (t.n=0)=true,1=1] [] [IsB (qea t.X)] (slCC c (rdC t::[decide (strL []=strS t)=true])),slR):=by kernel_rfl
theorem jdq:outO [] (slT F E 1 16 v u (k.pl m) (c.pl m2) .nilSlice []) [true,true,true]=(slC F E 1 16 v u k c q1c slP0 [c.o+16≤c.N] [] [] (slCC c [true=true]),slR):=by kernel_rfl
theorem jeq:outO [] (slT F E 2 32 v u (k.pl m) (c.pl m2) ((t.pl m3).val 7) [(t.pl m3).row]) [false,false,true,true,true]=(slC F E 2 32 v u k c t (slP t) [decide ((t.n:Int) > 200)=false,c.o+16≤c.N,t.o+t.n≤t.N,decide (t.n=0)=false,room t.n] [IsB (qea (slP t).X)] [IsB (qea t.X)] (slCC c (rdC (slP t)::rdC t::[decide (strS (slP t)=strS t)=true])),slR):=by kernel_rfl
theorem jui:outO [] (slT F E 2 32 v u (k.pl m) (c.pl m2) ((t.pl m3).val 7) [(t.pl m3).row]) [false,true,true,true,true]=(slC F E 2 32 v u k c t slP0 [decide ((t.n:Int) > 200)=false,c.o+16≤c.N,t.o+t.n≤t.N,decide (t.n=0)=true,1=1] [] [IsB (qea t.X)] (slCC c (rdC t::[decide (strL []=strS t)=true])),slR):=by kernel_rfl
theorem jfq:outO [] (slT F E 2 32 v u (k.pl m) (c.pl m2) .nilSlice []) [true,true,true]=(slC F E 2 32 v u k c q1c slP0 [c.o+16≤c.N] [] [] (slCC c [true=true]),slR):=by kernel_rfl
end
noncomputable def lvO (c:Sl) (b:Bool):List Prop:=[c.o+c.n≤c.N,decide (c.n=0)=b,boolC b (1=1) (room c.n)]
noncomputable def lvE (p v u:Int) (l a b:Nat) (r:List Prop):List Prop:=(¬ usQ p v u l∨a≠16)::(¬ usQ p v u l∨b≠16)::(okL q1c∧okL q1c)::(samB 0 0 q1c 0 0 q1c=true)::r
noncomputable def lvS (c:Sl):List Prop:=[rdC (slP c),rdC c,decide (strS (slP c)=strS c)=true]
noncomputable def lvZ (c:Sl):List Prop:=[rdC c,decide (strL []=strS c)=true]
section
variable (p v u:Int) (y:Option Addr) (l m:Nat) (c t:Sl) (m2 m3:Nat) (y1:Option Addr) (l1 m1:Nat) (y2:Option Addr) (l2:Nat)
theorem lv_b1:outO [] (lvT p v u y l m (vSl y1 l1 m1) (vSl y2 l2 m2) []) [true]=([decide ((l1:Int) > 200)=true],slR):=by kernel_rfl
theorem lv_b2:outO [] (lvT p v u y l m (vSl y1 l1 m1) (vSl y2 l2 m2) []) [false,true]=([decide ((l1:Int) > 200)=false,decide ((l2:Int) > 200)=true],slR):=by kernel_rfl
theorem lv_b3:outO [] (lvT p v u y l m (vSl y1 l1 m1) (vSl y2 l2 m2) []) [false,false,true]=([decide ((l1:Int) > 200)=false,decide ((l2:Int) > 200)=false,decide ((l:Int) > 40)=true],slR):=by kernel_rfl
theorem lv_nn:outO [] (lvT p v u y l m .nilSlice .nilSlice []) [false,true,true,true]=(app [decide ((l:Int) > 40)=false] (app [] (app [] (lvE p v u l 0 0 (app [true=true] [true=true])))),slR):=by kernel_rfl
theorem lv_nz:outO [] (lvT p v u y l m .nilSlice ((t.pl m3).val 5) [(t.pl m3).row]) [false,false,true,true,true,true]=(app [decide ((t.n:Int) > 200)=false,decide ((l:Int) > 40)=false] (app [] (app (lvO t true) (lvE p v u l 0 0 (app [true=true] (lvZ t))))),slR):=by kernel_rfl
theorem lv_nr:outO [] (lvT p v u y l m .nilSlice ((t.pl m3).val 5) [(t.pl m3).row]) [false,false,false,true,true,true]=(app [decide ((t.n:Int) > 200)=false,decide ((l:Int) > 40)=false] (app [] (app (lvO t false) (lvE p v u l 0 0 (app [true=true] (lvS t))))),slR):=by kernel_rfl
theorem lv_zn:outO [] (lvT p v u y l m ((c.pl m2).val 5) .nilSlice [(c.pl m2).row]) [false,false,true,true,true,true]=(app [decide ((c.n:Int) > 200)=false,decide ((l:Int) > 40)=false] (app (lvO c true) (app [] (lvE p v u l 0 c.n (app (lvZ c) [true=true])))),slR):=by kernel_rfl
theorem lv_zz:outO [] (lvT p v u y l m ((c.pl m2).val 5) ((t.pl m3).val 6) [(c.pl m2).row,(t.pl m3).row]) [false,false,false,true,true,true,true,true]=(app [decide ((c.n:Int) > 200)=false,decide ((t.n:Int) > 200)=false,decide ((l:Int) > 40)=false] (app (lvO c true) (app (lvO t true) (lvE p v u l 0 c.n (app (lvZ c) (lvZ t))))),slR):=by kernel_rfl
theorem lv_zr:outO [] (lvT p v u y l m ((c.pl m2).val 5) ((t.pl m3).val 6) [(c.pl m2).row,(t.pl m3).row]) [false,false,false,true,false,true,true,true]=(app [decide ((c.n:Int) > 200)=false,decide ((t.n:Int) > 200)=false,decide ((l:Int) > 40)=false] (app (lvO c true) (app (lvO t false) (lvE p v u l 0 c.n (app (lvZ c) (lvS t))))),slR):=by kernel_rfl
theorem lv_rn:outO [] (lvT p v u y l m ((c.pl m2).val 5) .nilSlice [(c.pl m2).row]) [false,false,false,true,true,true]=(app [decide ((c.n:Int) > 200)=false,decide ((l:Int) > 40)=false] (app (lvO c false) (app [] (lvE p v u l c.n c.n (app (lvS c) [true=true])))),slR):=by kernel_rfl
theorem lv_rz:outO [] (lvT p v u y l m ((c.pl m2).val 5) ((t.pl m3).val 6) [(c.pl m2).row,(t.pl m3).row]) [false,false,false,false,true,true,true,true]=(app [decide ((c.n:Int) > 200)=false,decide ((t.n:Int) > 200)=false,decide ((l:Int) > 40)=false] (app (lvO c false) (app (lvO t true) (lvE p v u l c.n c.n (app (lvS c) (lvZ t))))),slR):=by kernel_rfl
theorem lv_rr:outO [] (lvT p v u y l m ((c.pl m2).val 5) ((t.pl m3).val 6) [(c.pl m2).row,(t.pl m3).row]) [false,false,false,false,false,true,true,true]=(app [decide ((c.n:Int) > 200)=false,decide ((t.n:Int) > 200)=false,decide ((l:Int) > 40)=false] (app (lvO c false) (app (lvO t false) (lvE p v u l c.n c.n (app (lvS c) (lvS t))))),slR):=by kernel_rfl
end
end Go.Proofs.YtbmgahpjgefjaaaGreatDoor.Aes
namespace Go.Proofs.YtbmgahpjgefjaaaGreatDoor.Aes
open Go.Sim
open Go.Proofs
set_option maxRecDepth 1000000
theorem qpx (x:Sl):SlEq x x:=⟨rfl,fun _ _=>rfl⟩
section
variable {i:Nat} {k:Sl} {u:Int} {c c' t t':Sl}
theorem spC_n (hi:i=1∨i=2):(qic shaF encF i k u c t).n=16+t.n:=by rcases hi with rfl | rfl <;> rfl
theorem spT_n (hi:i=1∨i=2) {x:Sl}:(qih shaF i k u x).n=tagN i∧(qih shaF i k u x).o=0:=by rcases hi with rfl | rfl <;> exact ⟨rfl,rfl⟩
theorem joe {k c c':Sl} {v:Int} (h:SlEq c c'):sgK shaF k c v=sgK shaF k c' v:=by
  unfold sgK
  rw [← h.1]
  exact congrArg _ (qsg fun j hj=>q9i h (qpx _) hj)
theorem jpe {k:Sl} (hc:SlEq c c') (ht:SlEq t t') {p:Nat} (hp:p<t.n):strG shaF k c t p=strG shaF k c' t' p:=by
  unfold strG
  rw [joe hc,ht.2 p hp]
theorem jqe (hi:i=1∨i=2) (hc:SlEq (c.len 16) (c'.len 16)) (h:SlEq t t') {p:Nat} (hp:p<16+t.n+tagN i):qjh shaF encF i k u c t p=qjh shaF encF i k u c' t' p:=by
  have hC:SlEq (qic shaF encF i k u c t) (qic shaF encF i k u c' t'):=by
    rcases hi with rfl | rfl
    · refine ⟨?_,fun j hj => ?_⟩
      · show 16+t.n=16+t'.n
        rw [h.1]
      · have e1:(qic shaF encF 1 k u c t).X ((qic shaF encF 1 k u c t).o+j)=(cpA shaF encF k u (two (c.len 16) t) (16+t.n)).X (0+j):=rfl
        have e2:(qic shaF encF 1 k u c' t').X ((qic shaF encF 1 k u c' t').o+j)=(cpA shaF encF k u (two (c'.len 16) t') (16+t'.n)).X (0+j):=rfl
        rw [e1,e2,← h.1,q4z (M:=two (c.len 16) t) (M':=two (c'.len 16) t') (n:=16+t.n) fun j hj=>q9i hc h hj]
    · refine ⟨?_,fun j hj => ?_⟩
      · show 16+t.n=16+t'.n
        rw [h.1]
      · have hj:j<16+t.n:=hj
        have e1:(qic shaF encF 2 k u c t).X ((qic shaF encF 2 k u c t).o+j)=two (c.len 16) (str2 shaF u k c t) (0+j):=rfl
        have e2:(qic shaF encF 2 k u c' t').X ((qic shaF encF 2 k u c' t').o+j)=two (c'.len 16) (str2 shaF u k c' t') (0+j):=rfl
        rw [e1,e2,Nat.zero_add]
        refine q9i (a:=c.len 16) (a':=c'.len 16) (b:=str2 shaF u k c t) (b':=str2 shaF u k c' t') hc ⟨h.1,fun p hp => ?_⟩ hj
        have hp:p<t.n:=hp
        have e3:(str2 shaF u k c t).X ((str2 shaF u k c t).o+p)=strG shaF (dkS shaF k 32 u 0xaa#8) (c.len 16) t (0+p):=rfl
        have e4:(str2 shaF u k c' t').X ((str2 shaF u k c' t').o+p)=strG shaF (dkS shaF k 32 u 0xaa#8) (c'.len 16) t' (0+p):=rfl
        rw [e3,e4,Nat.zero_add]
        exact jpe hc h hp
  have hT:SlEq (qih shaF i k u (qic shaF encF i k u c t)) (qih shaF i k u (qic shaF encF i k u c' t')):=by
    rcases hi with rfl | rfl
    · have e:tgA shaF k u (qic shaF encF 1 k u c t)=tgA shaF k u (qic shaF encF 1 k u c' t'):=by unfold tgA; rw [qlx hC]
      have e1:qih shaF 1 k u (qic shaF encF 1 k u c t)=tgA shaF k u (qic shaF encF 1 k u c t):=rfl
      have e2:qih shaF 1 k u (qic shaF encF 1 k u c' t')=tgA shaF k u (qic shaF encF 1 k u c' t'):=rfl
      rw [e1,e2,e]; exact qpx _
    · have e:tgB shaF k u (qic shaF encF 2 k u c t)=tgB shaF k u (qic shaF encF 2 k u c' t'):=qcs hC
      have e1:qih shaF 2 k u (qic shaF encF 2 k u c t)=tgB shaF k u (qic shaF encF 2 k u c t):=rfl
      have e2:qih shaF 2 k u (qic shaF encF 2 k u c' t')=tgB shaF k u (qic shaF encF 2 k u c' t'):=rfl
      rw [e1,e2,e]; exact qpx _
  unfold qjh
  refine q9i hC hT ?_
  rw [spC_n hi,(spT_n hi).1]
  omega
end
end Go.Proofs.YtbmgahpjgefjaaaGreatDoor.Aes
namespace Go.Proofs.YtbmgahpjgefjaaaGreatDoor.Aes
open Go.Sim Go.WideShapes Go.ChangeShapes
theorem open_key {H:Type} {enc:TypeId × Value→H} {P:Program} {w:World} {r:Reach} {b0 base:Nat} {held:Bool} {t ti ts te:TypeId} {f0 f1 f2:Field} {v:Value} {d:DataW H} {ps:List MemPlace}
    (ht:P.underlying t=some (.struct #[f0,f1,f2])) (h0:f0.type=ti∧f0.offset=0) (h1:f1.type=ti∧f1.offset=1) (h2:f2.type=ts∧f2.offset=2) (hi:P.underlying ti=some (.int .i64)) (hs:P.underlying ts=some (.slice te)) (he:P.underlying te=some (.int .u8))
    (ci:P.cellsOf ti=1) (cs:P.cellsOf ts=1) (ce:P.cellsOf te=1) (ct:P.cellsOf t=3) (qhc:P.cellTypes P.depth t=some [ti,ti,ts])
    (hval:Value.okWide P w r b0 t v) (hd:DataW.Trod enc P w base (fun _=>true) held t v d ps) :
    ∃ p q a len cap X,v=.agg #[.int .i64 p,.int .i64 q,.slice a len cap]∧ByteRow w a len cap X:=by
  have hval':=hval
  obtain ⟨c,rfl,hsz⟩:=okWide_struct ht hval
  obtain ⟨fuel,hf⟩:=hd
  have hf:DataW.trod enc P w base (fun _=>true) held fuel t c.toList=some (d,ps):=hf
  obtain ⟨y0,y1,y2,n,_,hl,k0,k1,k2⟩:=Go.Deep.trod_struct3 ht hf
  rw [h0.1,h0.2,ci] at k0
  rw [h1.1,h1.2,ci] at k1
  rw [h2.1,h2.2,cs] at k2
  rw [ct] at hl
  obtain ⟨z0,e0,_,_⟩:=DataW.trod_int hi k0
  obtain ⟨z1,e1,_,_⟩:=DataW.trod_int hi k1
  match hc:c.toList,hl with
  | [c0,c1,c2],_ =>
    rw [hc] at e0 e1 k2
    obtain rfl:c0=.int .i64 z0:=by simpa using e0
    obtain rfl:c1=.int .i64 z1:=by simpa using e1
    have k2:DataW.trod enc P w base (fun _=>true) held n ts [c2]=some y2:=k2
    obtain rfl:c = #[.int .i64 z0,.int .i64 z1,c2]:=by
      cases c; simp_all
    have hspot:∀ a l k,c2=.slice (some a) l k→a.spot=none:=by
      rintro a l k rfl
      simp only [Value.okWide,ht] at hval'
      obtain ⟨cs',e,_,ts',hct,_,hcell⟩:=hval'
      cases e
      rw [qhc] at hct
      cases hct
      obtain ⟨u,hu,hok⟩:=hcell 2 _ rfl
      have hu:some ts=some u:=hu
      cases hu
      simp only [Cell.okWide,hs,Cell.ok] at hok
      exact hok.2.2.2.1
    rcases open_ints hs he ce k2 with ⟨hcs,_⟩ | ⟨x,l,k,zs,hcs,_,hlk,hm,hz,_,hcell,hwz⟩
    · obtain rfl:c2=.slice none 0 0:=by simpa using hcs
      exact ⟨z0,z1,none,0,0,_,rfl,byteRow_of (.inl ⟨rfl,rfl,rfl,rfl⟩) fun _ h=>by cases h⟩
    · obtain rfl:c2=.slice (some x) l k:=by simpa using hcs
      exact ⟨z0,z1,some x,l,k,_,rfl,byteRow_of (.inr ⟨x,rfl,hlk,hm,by simpa using hz,hcell,hwz⟩) fun y hy=>by cases hy; exact hspot _ _ _ rfl⟩
end Go.Proofs.YtbmgahpjgefjaaaGreatDoor.Aes
namespace Go.Proofs.YtbmgahpjgefjaaaGreatDoor.Aes
open Go.Sim
open Go.Proofs
open Go.RowKit
set_option maxRecDepth 1000000
theorem jre {i:Nat} (h:i=1∨i=2):tagN i=16∨tagN i=32:=by rcases h with rfl | rfl; exact .inl rfl; exact .inr rfl
theorem q73 (t:Sl):SlEq (slP t) t:=⟨rfl,fun j _=>by show t.X (t.o+(0+j))=_; rw [Nat.zero_add]⟩
theorem jku (c:Sl):SlEq ((slK c).len 16) ((c.len 16).len 16):=⟨rfl,fun j hj=>by
  have hj:j<16:=hj
  show qaa (tabB c.F 16) (0+j)=_
  rw [Nat.zero_add,qvb hj]; rfl⟩
theorem qh6 {t:Sl} (h:t.n=0):SlEq slP0 t:=⟨h.symm,fun j hj=>absurd hj (Nat.not_lt_zero j)⟩
theorem q83 {t:Sl} (h:t.n=0):decide (strL []=strS t)=true:=by
  rw [decide_eq_true_iff]
  show strL (tabB (qaa []) 0)=strS t
  exact strL_iff.2 ⟨h,fun j hj=>absurd hj (Nat.not_lt_zero j)⟩
theorem jse {x y:Sl} (h:SlEq x y):decide (strS x=strS y)=true:=decide_eq_true (strS_iff.2 h)
section
variable {i n:Nat} {v u:Int} {k c t p:Sl} {bo b1 b2 r:List Prop}
theorem jlu (hi:i=1∨i=2) (h:SlEq p t):SlEq (slS shaF encF i n u k (slK c) p) (slS shaF encF i n u k (c.len 16) t):=⟨by show 16+p.n+tagN i=16+t.n+tagN i; rw [h.1],fun j hj=>by
  have hj:j<16+p.n+tagN i:=hj
  have e1:(slS shaF encF i n u k (slK c) p).X ((slS shaF encF i n u k (slK c) p).o+j)=qjh shaF encF i (k.len n) u (slK c) p (0+j):=rfl
  have e2:(slS shaF encF i n u k (c.len 16) t).X ((slS shaF encF i n u k (c.len 16) t).o+j)=qjh shaF encF i (k.len n) u (c.len 16) t (0+j):=rfl
  rw [e1,e2,Nat.zero_add]
  exact jqe hi (jku c) h hj⟩
theorem quy (hi:i=1∨i=2) (hq:usQ i v u n) (hk:okL (k.len n)) (hc:okL (c.len 16)) (ht:okL t) (hp:okL p) (hpt:SlEq p t) (h200:t.n≤200) (hbo:∀ q∈bo,q) (hb1:∀ q∈b1,q) (hb2:∀ q∈b2,q) (hr:∀ q∈r,q):∀ q∈slC shaF encF i n v u k c t p bo b1 b2 r,q:=by
  have hC:okL (slK c):=⟨by show 0+16≤16; omega,by show 16≤_; omega⟩
  have h16:=jre hi
  have hpn:=hpt.1
  have hS:∀ {c t:Sl},t.n≤200→okL (slS shaF encF i n u k c t):=fun {c t} h=>⟨by show 0+(16+t.n+tagN i)≤16+t.n+tagN i; omega,by show 16+t.n+tagN i≤_; omega⟩
  exact q2a hbo (all_cons (qda _) (q2a hb1 (all_cons ⟨rfl,hq,rfl,hk,hC,hp,by omega⟩ (all_cons (qda _) (all_cons (qda _) (q2a hb2 (all_cons ⟨rfl,hq,rfl,hk,hc,ht,by omega⟩ (all_cons (qda _) (all_cons (qda _) (all_cons ⟨hS (by omega),hS h200⟩ (all_cons (samB_iff.2 ⟨rfl,rfl,jlu hi hpt⟩) hr)))))))))))
theorem q3u (hc:okL (c.len 16)) (hr:∀ q∈r,q):∀ q∈slCC c r,q:=all_cons (q0h hc) (all_cons (decide_eq_true (strL_iff.2 ⟨rfl,fun _ _=>rfl⟩)) hr)
theorem q93 (ht:okL t):okL (slP t):=⟨by show 0+t.n≤t.n; omega,ht.2⟩
theorem qi6:okL slP0:=⟨Nat.le_refl _,Nat.zero_le _⟩
theorem qkf (b:Bool) (ht:okL t) (h200:t.n≤200) (hb:decide (t.n=0)=b):∀ q∈lvO t b,q:=all_cons ht.1 (all_cons hb (all_cons (by cases b; exact q0l (by omega); exact rfl) qca))
theorem q2l (ht:okL t):∀ q∈lvS t,q:=all_cons (q0h (q93 ht)) (all_cons (q0h ht) (all_cons (jse (q73 t)) qca))
theorem q3l (ht:okL t) (h0:t.n=0):∀ q∈lvZ t,q:=all_cons (q0h ht) (all_cons (q83 h0) qca)
end
theorem qvy:okL q1c:=⟨Nat.le_refl _,Nat.zero_le _⟩
theorem qgi {p v u:Int} {l a b:Nat} {r:List Prop} (h1:¬ usQ p v u l∨a≠16) (h2:¬ usQ p v u l∨b≠16) (hr:∀ q∈r,q):∀ q∈lvE p v u l a b r,q:=all_cons h1 (all_cons h2 (all_cons ⟨qvy,qvy⟩ (all_cons (samB_iff.2 ⟨rfl,rfl,qpx _⟩) hr)))
theorem qvi:∀ q∈[true=true],q:=all_cons rfl qca
theorem sl_law {w:World} {β:Val} (hH:HeapRel Tryz.prog (fun _=>False) w β (shaH [tabR]) w) (hG:GlobRel qce β) (p v:Int) {a0:Option Addr} {len0 cap0:Nat} {X:Nat→BitVec 8} (h0:ByteRow w a0 len0 cap0 X) (u:Int) {a1:Option Addr} {len1 cap1:Nat} {Y:Nat→BitVec 8} (h1:ByteRow w a1 len1 cap1 Y) {a2:Option Addr} {len2 cap2:Nat} {Z:Nat→BitVec 8} (h2:ByteRow w a2 len2 cap2 Z) :
    Calls Tryz.prog 3 #[.agg #[.int .i64 p,.int .i64 v,.slice a0 len0 cap0],.int .i64 u,.slice a1 len1 cap1,.slice a2 len2 cap2] w fun e w'=>e=.returned (.bool true)∧Below w.heap.size w w':=by
  have hv0:SV.denL β [kyV p v a0 len0 cap0,.int .i64 (.sym u),vSl a1 len1 cap1,vSl a2 len2 cap2]=some [.agg #[.int .i64 p,.int .i64 v,.slice a0 len0 cap0],.int .i64 u,.slice a1 len1 cap1,.slice a2 len2 cap2]:=rfl
  have low:∀ {cs ds},outO [] (lvT p v u a0 len0 cap0 (vSl a1 len1 cap1) (vSl a2 len2 cap2) []) ds=(cs,slR)→(∀ q∈cs,q)→_:=fun {cs ds} hr hc=>q2e q9g 8000 hH hG hv0 ds hr hc
  by_cases hb1:200<len1
  · exact low (lv_b1 p v u a0 len0 cap0 cap2 a1 len1 cap1 a2 len2) (all_cons (decide_eq_true (by omega)) qca)
  have e1:decide ((len1:Int) > 200)=false:=decide_eq_false (by omega)
  by_cases hb2:200<len2
  · exact low (lv_b2 p v u a0 len0 cap0 cap2 a1 len1 cap1 a2 len2) (all_cons e1 (all_cons (decide_eq_true (by omega)) qca))
  have e2:decide ((len2:Int) > 200)=false:=decide_eq_false (by omega)
  by_cases hbk:40<len0
  · exact low (lv_b3 p v u a0 len0 cap0 cap2 a1 len1 cap1 a2 len2) (all_cons e1 (all_cons e2 (all_cons (decide_eq_true (by omega)) qca)))
  have e3:decide ((len0:Int) > 40)=false:=decide_eq_false (by omega)
  let C:Sl:=⟨Y,cap1,0,len1,false,cap1⟩
  let T:Sl:=⟨Z,cap2,0,len2,false,cap2⟩
  have hC:len1≤cap1→okL C:=fun h=>⟨by show 0+len1≤cap1; omega,by show len1≤_; omega⟩
  have hT:len2≤cap2→okL T:=fun h=>⟨by show 0+len2≤cap2; omega,by show len2≤_; omega⟩
  by_cases hE:¬ usQ p v u len0∨len1≠16
  · have args:∀ {γ:Val} {sc st:SV} {yc yt:Value},sc.den γ=some yc→st.den γ=some yt→SV.denL γ [kyV p v a0 len0 cap0,.int .i64 (.sym u),sc,st]=some [.agg #[.int .i64 p,.int .i64 v,.slice a0 len0 cap0],.int .i64 u,yc,yt]:=fun hc ht=>denL_cons.2 ⟨_,_,rfl,denL_cons.2 ⟨_,_,rfl,denL_cons.2 ⟨_,_,hc,denL_cons.2 ⟨_,_,ht,rfl,rfl⟩,rfl⟩,rfl⟩,rfl⟩
    have big:∀ {b1 b2:List Prop},(∀ q∈b1,q)→(∀ q∈b2,q)→∀ q∈app b1 (app b2 [decide ((len0:Int) > 40)=false]),q:=fun h h'=>q2a h (q2a h' (all_cons e3 qca))
    have hz:(¬ usQ p v u len0∨(0:Nat)≠16):=.inr (by omega)
    rcases h1 with ⟨rfl,rfl,rfl⟩ | ⟨x1,rfl,hs1,hl1,hm1,hc1⟩
    · rcases h2 with ⟨rfl,rfl,rfl⟩ | ⟨x2,rfl,hs2,hl2,hm2,hc2⟩
      · exact q2e q9g 8000 hH hG (args (sc:=.nilSlice) (st:=.nilSlice) rfl rfl) _ (lv_nn p v u a0 len0 cap0) (q2a (all_cons e3 qca) (qgi hz hz (q2a qvi qvi)))
      · obtain ⟨β2,hH2,hle2,hd2⟩:=q4i (P:=Tryz.prog) hH hs2 hl2 hc2
        have hd2:((T.pl cap2).val 5).den β2=some (.slice (some x2) len2 cap2):=hd2
        by_cases z2:len2=0
        · exact q2e q9g 8000 hH2 (hG.mono hle2) (args (sc:=.nilSlice) rfl hd2) _ (lv_nz p v u a0 len0 cap0 T cap2) (q2a (all_cons e2 (all_cons e3 qca)) (q2a qca (q2a (qkf true (hT hl2) (by show len2≤200; omega) (decide_eq_true z2)) (qgi hz hz (q2a qvi (q3l (hT hl2) z2))))))
        · exact q2e q9g 8000 hH2 (hG.mono hle2) (args (sc:=.nilSlice) rfl hd2) _ (lv_nr p v u a0 len0 cap0 T cap2) (q2a (all_cons e2 (all_cons e3 qca)) (q2a qca (q2a (qkf false (hT hl2) (by show len2≤200; omega) (decide_eq_false z2)) (qgi hz hz (q2a qvi (q2l (hT hl2)))))))
    · obtain ⟨β1,hH1,hle1,hd1⟩:=q4i (P:=Tryz.prog) hH hs1 hl1 hc1
      have hd1:((C.pl cap1).val 5).den β1=some (.slice (some x1) len1 cap1):=hd1
      have hG1:GlobRel qce β1:=hG.mono hle1
      have zc:len1=0→(¬ usQ p v u len0∨C.n≠16):=fun h=>.inr (by show len1≠16; omega)
      have c200:C.n≤200:=by show len1≤200; omega
      rcases h2 with ⟨rfl,rfl,rfl⟩ | ⟨x2,rfl,hs2,hl2,hm2,hc2⟩
      · by_cases z1:len1=0
        · exact q2e q9g 8000 hH1 hG1 (args (st:=.nilSlice) hd1 rfl) _ (lv_zn p v u a0 len0 cap0 C cap1) (q2a (all_cons e1 (all_cons e3 qca)) (q2a (qkf true (hC hl1) c200 (decide_eq_true z1)) (qgi hz (zc z1) (q2a (q3l (hC hl1) z1) qvi))))
        · exact q2e q9g 8000 hH1 hG1 (args (st:=.nilSlice) hd1 rfl) _ (lv_rn p v u a0 len0 cap0 C cap1) (q2a (all_cons e1 (all_cons e3 qca)) (q2a (qkf false (hC hl1) c200 (decide_eq_false z1)) (qgi hE hE (q2a (q2l (hC hl1)) qvi))))
      · obtain ⟨β2,hH2,hle2,hd2⟩:=q4i (P:=Tryz.prog) hH1 hs2 hl2 hc2
        have hd2:((T.pl cap2).val 6).den β2=some (.slice (some x2) len2 cap2):=hd2
        have hd1':((C.pl cap1).val 5).den β2=some (.slice (some x1) len1 cap1):=SV.den_mono hle2 _ hd1
        have hG2:GlobRel qce β2:=hG1.mono hle2
        have t200:T.n≤200:=by show len2≤200; omega
        have bg:=all_cons e1 (all_cons e2 (all_cons e3 qca))
        by_cases z1:len1=0
        · by_cases z2:len2=0
          · exact q2e q9g 8000 hH2 hG2 (args hd1' hd2) _ (lv_zz p v u a0 len0 cap0 C T cap1 cap2) (q2a bg (q2a (qkf true (hC hl1) c200 (decide_eq_true z1)) (q2a (qkf true (hT hl2) t200 (decide_eq_true z2)) (qgi hz (zc z1) (q2a (q3l (hC hl1) z1) (q3l (hT hl2) z2))))))
          · exact q2e q9g 8000 hH2 hG2 (args hd1' hd2) _ (lv_zr p v u a0 len0 cap0 C T cap1 cap2) (q2a bg (q2a (qkf true (hC hl1) c200 (decide_eq_true z1)) (q2a (qkf false (hT hl2) t200 (decide_eq_false z2)) (qgi hz (zc z1) (q2a (q3l (hC hl1) z1) (q2l (hT hl2)))))))
        · by_cases z2:len2=0
          · exact q2e q9g 8000 hH2 hG2 (args hd1' hd2) _ (lv_rz p v u a0 len0 cap0 C T cap1 cap2) (q2a bg (q2a (qkf false (hC hl1) c200 (decide_eq_false z1)) (q2a (qkf true (hT hl2) t200 (decide_eq_true z2)) (qgi hE hE (q2a (q2l (hC hl1)) (q3l (hT hl2) z2))))))
          · exact q2e q9g 8000 hH2 hG2 (args hd1' hd2) _ (lv_rr p v u a0 len0 cap0 C T cap1 cap2) (q2a bg (q2a (qkf false (hC hl1) c200 (decide_eq_false z1)) (q2a (qkf false (hT hl2) t200 (decide_eq_false z2)) (qgi hE hE (q2a (q2l (hC hl1)) (q2l (hT hl2)))))))
  have hval:usQ p v u len0:=Classical.byContradiction fun h=>hE (.inl h)
  have hl:len1=16:=Classical.byContradiction fun h=>hE (.inr h)
  subst hl
  have hi:∃ i:Nat,(i=1∨i=2)∧p=i∧len0=tagN i:=by
    rcases hval.1.1 with ⟨hp,hn⟩ | ⟨hp,hn⟩
    · exact ⟨1,.inl rfl,hp,hn⟩
    · exact ⟨2,.inr rfl,hp,hn⟩
  obtain ⟨i,hi,rfl,rfl⟩:=hi
  have htag:=jre hi
  rcases h0 with ⟨_,h,_⟩ | ⟨x0,rfl,hs0,hl0,hm0,hc0⟩
  · omega
  rcases h1 with ⟨_,h,_⟩ | ⟨x1,rfl,hs1,hl1,hm1,hc1⟩
  · omega
  obtain ⟨β1,hH1,hle1,hd0⟩:=q4i (P:=Tryz.prog) hH hs0 hl0 hc0
  obtain ⟨β2,hH2,hle2,hd1⟩:=q4i (P:=Tryz.prog) hH1 hs1 hl1 hc1
  have hG2:GlobRel qce β2:=(hG.mono hle1).mono hle2
  let K:Sl:=⟨X,cap0,0,tagN i,false,cap0⟩
  have hk:okL (K.len (tagN i)):=⟨by show 0+tagN i≤cap0; omega,by show tagN i≤_; omega⟩
  have hcl:okL (C.len 16):=⟨by show 0+16≤cap1; omega,by show 16≤_; omega⟩
  have hd0:(SV.slice ⟨5,.lit 0⟩ (.sym (tagN i)) (.sym cap0)).den β1=some (.slice (some x0) (tagN i) cap0):=hd0
  have hd1:((C.pl cap1).valN 6 16).den β2=some (.slice (some x1) 16 cap1):=hd1
  have hka:∀ {γ:Val},(SV.slice ⟨5,.lit 0⟩ (.sym (tagN i)) (.sym cap0)).den γ=some (.slice (some x0) (tagN i) cap0)→(SV.agg [.int .i64 (.lit i),.int .i64 (.sym v),(K.pl cap0).valN 5 (tagN i)]).den γ=some (.agg #[.int .i64 i,.int .i64 v,.slice (some x0) (tagN i) cap0]):=by
    intro γ h
    rw [SV.den]
    simp only [Option.map_eq_some_iff]
    exact ⟨_,denL_cons.2 ⟨_,_,rfl,denL_cons.2 ⟨_,_,rfl,denL_cons.2 ⟨_,_,h,rfl,rfl⟩,rfl⟩,rfl⟩,rfl⟩
  have hcN:C.o+16≤C.N:=by show 0+16≤cap1; omega
  rcases h2 with ⟨rfl,rfl,rfl⟩ | ⟨x2,rfl,hs2,hl2,hm2,hc2⟩
  · have ha:SV.denL β2 (slA i (tagN i) v u (K.pl cap0) (C.pl cap1) .nilSlice)=some [.agg #[.int .i64 i,.int .i64 v,.slice (some x0) (tagN i) cap0],.int .i64 u,.slice (some x1) 16 cap1,.slice none 0 0] :=
      denL_cons.2 ⟨_,_,hka (SV.den_mono hle2 _ hd0),denL_cons.2 ⟨_,_,rfl,denL_cons.2 ⟨_,_,hd1,denL_cons.2 ⟨_,_,rfl,rfl,rfl⟩,rfl⟩,rfl⟩,rfl⟩
    have hc:=quy (k:=K) (c:=C) (t:=q1c) (p:=slP0) (b1:=[]) (b2:=[]) hi hval hk hcl qvy qi6 (qh6 rfl) (Nat.zero_le _) (all_cons hcN qca) qca qca (q3u hcl qvi)
    rcases hi with rfl | rfl
    · exact q2e (q1l (.inl rfl)) 8000 hH2 hG2 ha _ (jdq shaF encF v u K C cap0 cap1) hc
    · exact q2e (q1l (.inr rfl)) 8000 hH2 hG2 ha _ (jfq shaF encF v u K C cap0 cap1) hc
  · obtain ⟨β3,hH3,hle3,hd2⟩:=q4i (P:=Tryz.prog) hH2 hs2 hl2 hc2
    have hG3:GlobRel qce β3:=hG2.mono hle3
    have hd2:((T.pl cap2).val 7).den β3=some (.slice (some x2) len2 cap2):=hd2
    have ha:SV.denL β3 (slA i (tagN i) v u (K.pl cap0) (C.pl cap1) ((T.pl cap2).val 7))=some [.agg #[.int .i64 i,.int .i64 v,.slice (some x0) (tagN i) cap0],.int .i64 u,.slice (some x1) 16 cap1,.slice (some x2) len2 cap2] :=
      denL_cons.2 ⟨_,_,hka (SV.den_mono hle3 _ (SV.den_mono hle2 _ hd0)),denL_cons.2 ⟨_,_,rfl,denL_cons.2 ⟨_,_,SV.den_mono hle3 _ hd1,denL_cons.2 ⟨_,_,hd2,rfl,rfl⟩,rfl⟩,rfl⟩,rfl⟩
    have hT':=hT hl2
    have t200:T.n≤200:=by show len2≤200; omega
    by_cases z2:len2=0
    · have hc:=quy (k:=K) (c:=C) (t:=T) (p:=slP0) (b1:=[]) (b2:=[IsB (qea T.X)]) hi hval hk hcl hT' qi6 (qh6 z2) t200 (all_cons e2 (all_cons hcN (all_cons hT'.1 (all_cons (decide_eq_true z2) (all_cons (show (1:Nat)=1 from rfl) qca))))) qca (all_cons (qda _) qca) (q3u hcl (all_cons (q0h hT') (all_cons (q83 (t:=T) z2) qca)))
      rcases hi with rfl | rfl
      · exact q2e (q1l (.inl rfl)) 8000 hH3 hG3 ha _ (jti shaF encF v u K C T cap0 cap1 cap2) hc
      · exact q2e (q1l (.inr rfl)) 8000 hH3 hG3 ha _ (jui shaF encF v u K C T cap0 cap1 cap2) hc
    · have hc:=quy (k:=K) (c:=C) (t:=T) (p:=slP T) (b1:=[IsB (qea (slP T).X)]) (b2:=[IsB (qea T.X)]) hi hval hk hcl hT' (q93 hT') (q73 T) t200 (all_cons e2 (all_cons hcN (all_cons hT'.1 (all_cons (decide_eq_false z2) (all_cons (q0l (by show len2≤_; omega)) qca))))) (all_cons (qda _) qca) (all_cons (qda _) qca) (q3u hcl (all_cons (q0h (q93 hT')) (all_cons (q0h hT') (all_cons (jse (q73 T)) qca))))
      rcases hi with rfl | rfl
      · exact q2e (q1l (.inl rfl)) 8000 hH3 hG3 ha _ (jcq shaF encF v u K C T cap0 cap1 cap2) hc
      · exact q2e (q1l (.inr rfl)) 8000 hH3 hG3 ha _ (jeq shaF encF v u K C T cap0 cap1 cap2) hc
end Go.Proofs.YtbmgahpjgefjaaaGreatDoor.Aes
