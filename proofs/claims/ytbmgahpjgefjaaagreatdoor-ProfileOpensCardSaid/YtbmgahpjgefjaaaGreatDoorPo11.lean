/-
  Texts behind one another: the symbolic simulator and what it is told of the program.
-/
import Derived.Test.YtbmgahpjgefjaaaGreatDoorOzSha2
import Derived.Test.YtbmgahpjgefjaaaGreatDoorPo10
import Derived.Test.YtbmgahpjgefjaaaGreatDoorRows
import Derived.Lib.LaidPrint
import Derived.Lib.LaidTab
import Derived.MakeChecks
namespace Go.Proofs.YtbmgahpjgefjaaaGreatDoor.Aes
open Go.Sim
open Go.Proofs
variable {α:Type}
noncomputable def q4i (n j:Nat):BitVec 8:=((BitVec.ofInt 64 (n:Int) * BitVec.ofInt 64 8) >>> (8 * j)).setWidth 8
def lenP (n:Nat):Nat:=64 * ((n+72) / 64)
noncomputable def padF (X:Nat→BitVec 8) (n t:Nat):Nat→BitVec 8:=fun i=>if i<n then X i else if i=n then BitVec.ofNat 8 128 else if lenP n≤i+8∧i<lenP n then q4i t (lenP n - 1 - i) else BitVec.ofNat 8 0
noncomputable def qdd (W:List W32) (Y:Nat→BitVec 8):Nat→List W32
  | 0=>W
  | k+1=>cmpW (q0a (qdd W Y k)) (q6a Y (64 * k))
noncomputable def shaF (X:Nat→BitVec 8) (n:Nat):List (BitVec 8):=qde (qdd qwc (padF X n n) ((n+72) / 64))
theorem q0b {X Y:Nat→BitVec 8} {a b:Nat} (h:∀ i,i<64→X (a+i)=Y (b+i)):q6a X a=q6a Y b:=by
  unfold q6a
  rw [qwa,qwa]
  apply List.map_congr_left
  intro t ht
  rw [q0c,List.mem_range'] at ht
  obtain ⟨j,hj,rfl⟩:=ht
  unfold qqs
  have e:∀ r,r<4→X (a+4 * (0+1 * j)+r)=Y (b+4 * (0+1 * j)+r):=fun r hr=>by
    rw [Nat.add_assoc,Nat.add_assoc]; exact h _ (by omega)
  rw [show a+4 * (0+1 * j)=a+4 * (0+1 * j)+0 from rfl,show b+4 * (0+1 * j)=b+4 * (0+1 * j)+0 from rfl,e 0 (by omega)]
  simp only [Nat.add_zero]
  rw [e 1 (by omega),e 2 (by omega),e 3 (by omega)]
theorem qae {W:List W32} {X Y:Nat→BitVec 8}:∀ (k:Nat),(∀ i,i<64 * k→X i=Y i)→qdd W X k=qdd W Y k
  | 0,_=>rfl
  | k+1,h=>by
    unfold qdd
    rw [qae k fun i hi=>h i (by omega),q0b (Y:=Y) (b:=64 * k) fun i hi=>h _ (by omega)]
theorem jkd {l v:List α} {i:Nat} (h:i+v.length≤l.length) (j:Nat):(qak l i v)[j]? = if i≤j∧j<i+v.length then v[j - i]? else l[j]? := by
  rw [qzt _ _ _ h,List.append_assoc,List.getElem?_append,List.getElem?_append,List.length_take,Nat.min_eq_left (by omega),List.getElem?_take,List.getElem?_drop]
  by_cases h1:j<i
  · rw [if_pos h1,if_pos h1,if_neg (by omega)]
  · rw [if_neg h1]
    by_cases h2:j<i+v.length
    · rw [if_pos (by omega),if_pos (by omega)]
    · rw [if_neg (by omega),if_neg (by omega),show i+v.length+(j - i - v.length)=j from by omega]
theorem qmn (o n:Nat) (Y:Nat→BitVec 8):∀ (xs:List (BitVec 8)) (k:Nat),(putB o n Y xs k).length=xs.length
  | [],_=>rfl
  | _::xs,k=>congrArg (· + 1) (qmn o n Y xs (k+1))
theorem q1p {size len n:Nat} {Y:Nat→BitVec 8} (hs:len+9≤size) {j:Nat} (hj:j<size) :
    qaa (endL size Y len n) j=if j<len then Y j else if j=len then BitVec.ofNat 8 128 else if size≤j+8 then q4i n (size - 1 - j) else BitVec.ofNat 8 0:=by
  unfold qaa endL
  have hl:(mapN (fun j=>((BitVec.ofInt 64 (n:Int) * BitVec.ofInt 64 8) >>> (8 * (7 - j))).setWidth 8) (q5a 8 0):List (BitVec 8)).length=8:=rfl
  have hb:(putB (0+(len:Int).toNat * 1) 1 (fun _=>BitVec.ofNat 8 128) (putB 0 len Y (repN (BitVec.ofNat 8 0) size) 0) 0).length=size:=by
    rw [qmn,qmn,q3h,List.length_replicate]
  rw [jkd (by rw [hl,hb]; show size - 8+8≤size; omega),hl]
  rw [qap,qap,q3h,List.getElem?_replicate,if_pos hj]
  simp only [Option.map_some,Nat.zero_add,Int.toNat_natCast,Nat.mul_one,Nat.zero_le,true_and,Nat.sub_zero]
  show ((if Nat.sub size 8≤j∧j<Nat.sub size 8+8 then _ else _:Option (BitVec 8))).getD 0#8=_
  by_cases h1:j<len
  · rw [if_neg (by show ¬ (size - 8≤j∧j<size - 8+8); omega),if_pos h1]
    simp only [Option.getD_some]
    rw [if_neg (by omega),if_pos h1]
  · simp only [if_neg h1]
    by_cases h2:j=len
    · rw [if_neg (by show ¬ (size - 8≤j∧j<size - 8+8); omega),if_pos h2]
      simp only [Option.getD_some]
      rw [if_pos (by omega)]
    · rw [if_neg h2]
      by_cases h3:size≤j+8
      · rw [if_pos (by show size - 8≤j∧j<size - 8+8; omega),if_pos h3,qwa,q0c,List.getElem?_map,List.getElem?_range' (by show j - (size - 8)<8; omega)]
        simp only [Option.map_some,Option.getD_some]
        unfold q4i
        rw [show 7 - (0+1 * (j - Nat.sub size 8))=size - 1 - j from by show 7 - (0+1 * (j - (size - 8)))=_; omega]
      · rw [if_neg (by show ¬ (size - 8≤j∧j<size - 8+8); omega),if_neg h3]
        simp only [Option.getD_some]
        rw [if_neg (by omega)]
structure SumQ (X:Nat→BitVec 8) (o n m:Nat) (A:SumA) (k:Nat):Prop where
  le:64 * k≤n
  at_:A.p+A.s.den=o+64 * k
  len:A.len=n - 64 * k
  cap:A.cap=m - 64 * k
  ws:A.ws=qdd qwc (padF (fun i=>X (o+i)) n n) k
theorem qac (W:List W32) (Y:Nat→BitVec 8) (k:Nat):qdd W Y (k+1)=cmpW (q0a (qdd W Y k)) (q6a Y (64 * k)):=rfl
theorem qjf {a b c d:List W32} (h:a=b) (h':c=d):cmpW (q0a a) c=cmpW (q0a b) d:=by rw [h,h']
theorem jxn {X:Nat→BitVec 8} {o n m:Nat} {A:SumA} {k:Nat} (h:SumQ X o n m A k) (hl:A.len+9≤64):end1 X n A=qdd qwc (padF (fun i=>X (o+i)) n n) ((n+72) / 64):=by
  obtain ⟨h1,h2,h3,h4,h5⟩:=h
  have hk:(n+72) / 64=k+1:=by omega
  have key:∀ i,i<64→qaa (endL 64 (q0p X A) A.len n) (0+i)=padF (fun i=>X (o+i)) n n (64 * k+i):=by
    intro i hi
    rw [Nat.zero_add,q1p hl hi]
    unfold padF lenP q0p
    rw [hk,h2]
    by_cases c1:i<A.len
    · rw [if_pos c1,if_pos (by omega),Nat.add_assoc]
    · rw [if_neg c1,if_neg (show ¬ 64 * k+i<n by omega)]
      by_cases c2:i=A.len
      · rw [if_pos c2,if_pos (by omega)]
      · rw [if_neg c2,if_neg (show ¬ 64 * k+i=n by omega)]
        by_cases c3:64≤i+8
        · rw [if_pos c3,if_pos (by omega),show 64 * (k+1) - 1 - (64 * k+i)=64 - 1 - i from by omega]
        · rw [if_neg c3,if_neg (by omega)]
  rw [hk,qac]
  exact qjf h5 (q0b key)
theorem jyn {X:Nat→BitVec 8} {o n m:Nat} {A:SumA} {k:Nat} (h:SumQ X o n m A k) (hl:A.len<64) (hl2:64<A.len+9):end2 X n A=qdd qwc (padF (fun i=>X (o+i)) n n) ((n+72) / 64):=by
  obtain ⟨h1,h2,h3,h4,h5⟩:=h
  have hk:(n+72) / 64=k+2:=by omega
  have key:∀ i,i<128→qaa (endL 128 (q0p X A) A.len n) i=padF (fun i=>X (o+i)) n n (64 * k+i):=by
    intro i hi
    rw [q1p (by omega) hi]
    unfold padF lenP q0p
    rw [hk,h2]
    by_cases c1:i<A.len
    · rw [if_pos c1,if_pos (by omega),Nat.add_assoc]
    · rw [if_neg c1,if_neg (show ¬ 64 * k+i<n by omega)]
      by_cases c2:i=A.len
      · rw [if_pos c2,if_pos (by omega)]
      · rw [if_neg c2,if_neg (show ¬ 64 * k+i=n by omega)]
        by_cases c3:128≤i+8
        · rw [if_pos c3,if_pos (by omega),show 64 * (k+2) - 1 - (64 * k+i)=128 - 1 - i from by omega]
        · rw [if_neg c3,if_neg (by omega)]
  rw [hk,qac,qac]
  exact qjf (qjf h5 (q0b fun i hi=>by rw [key _ (by omega),Nat.zero_add])) (q0b fun i hi=>by rw [key _ (by omega),show 64 * k+(64+i)=64 * (k+1)+i from by omega])
theorem q18 {f:Nat→Nat}:ImpE f (some (.ent (.own (.lst (kx .u32 startL)) true 137))) (.ent (.own (.lst (wx (q0a qwc))) true 137)):=by
  refine ⟨_,rfl,?_⟩
  show SV.ImpL _ (SV.renL f (wx (q0a qwc)))
  rw [qsr]
  exact qrs (by kernel_rfl)
theorem q2p {g nm:Nat} (hg:q6b g=some nm):nm<2:=by
  rcases qbd (show boolC (Nat.beq g 2) (some 0) _=some nm from hg) with ⟨_,h⟩ | h
  · cases h; omega
  obtain ⟨_,h⟩:=qsb h
  cases h; omega
theorem jld {X:Nat→BitVec 8} {N o n m:Nat} (hn:o+n≤N) (hm:n≤m) :
    Runs cfgH2 102 (qss o n m) (q3x X N) fun v _=>v=.agg (bx (shaF (fun i=>X (o+i)) n)):=by
  refine qfg qz5 (sumC X N o n m) (fun A=>∃ k,SumQ X o n m A k) (fun A=>A.len) (fun g nm hg=>Nat.lt_of_lt_of_le (q2p hg) (by show 2≤5; omega)) ?_ fun A ⟨k,hQ⟩ J => ?_
  · exact jgd (some (2,3)) 4000 ⟨o,.lit 0,n,m,qwc⟩ ⟨0,Nat.zero_le _,rfl,rfl,rfl,rfl⟩ (jzg X N o n m) (qgz X N o n m _ _) (fun E0 h=>by cases h; exact q18) qba
  · obtain ⟨h1,h2,h3,h4,h5⟩:=id hQ
    by_cases c1:64≤A.len
    · refine qfo (some (2,3)) 4000 ⟨A.p+A.s.den,.lit 64,A.len - 64,A.cap - 64,cmpW (q0a A.ws) (q6a X (A.p+A.s.den+0))⟩ ⟨⟨k+1,by omega,by show A.p+A.s.den+64=_; omega,by simp only; omega,by simp only; omega,?_⟩,by simp only; omega⟩ (j0g X N o n m A J) (qgz X N o n m _ _) ?_
      · rw [qac]
        refine qjf h5 (q0b fun i hi => ?_)
        unfold padF
        rw [if_pos (by omega),show A.p+A.s.den+i=o+(64 * k+i) from by omega]
      · exact all_cons (decide_eq_true (by omega)) (all_cons (by omega) (all_cons (by omega) (all_cons (qea X) (all_cons (by omega) (all_cons (by omega) (all_cons (by omega) qba))))))
    · by_cases c2:A.len+9≤64
      · refine qni none 8000 (j1g X N o n m A J) ?_ fun H _ => ?_
        · exact all_cons (decide_eq_false (by omega)) (all_cons ⟨by omega,by omega⟩ (all_cons (decide_eq_false (by omega)) (all_cons ⟨by omega,qea X⟩ (all_cons (by omega) (all_cons (by omega) (all_cons ⟨by omega,by omega⟩ (all_cons (by omega) (all_cons (by omega) qba))))))))
        · rw [jxn hQ c2]; rfl
      · refine qni none 8000 (j2g X N o n m A J) ?_ fun H _ => ?_
        · exact all_cons (decide_eq_false (by omega)) (all_cons ⟨by omega,by omega⟩ (all_cons (decide_eq_true (by omega)) (all_cons ⟨by omega,qea X⟩ (all_cons (by omega) (all_cons (by omega) (all_cons ⟨by omega,by omega⟩ (all_cons (by omega) (all_cons (by omega) (all_cons (by omega) qba)))))))))
        · rw [jyn hQ (by omega) (by omega)]; rfl
theorem qyf {c:Cfg} {f:FuncId} {args:List SV} {H:List SO} {D D':SV→List SO→Prop} (h:Runs c f args H D) (hd:∀ v H,D v H→D' v H):Runs c f args H D' :=
  ⟨h.1,fun O w0 w β vs hH hG ha=>(h.2 O w0 w β vs hH hG ha).mono fun _ _ ⟨v,H',x,β',h1,h2,h3⟩=>⟨v,H',x,β',h1,hd _ _ h2,h3⟩⟩
theorem qhz {γ:Val} {a:SA} {l:SN} {c:SC} {x:Value} (h:(SV.slice a l c).den γ=some x):∃ m,l.den≤m∧(qt0 a.nm a.off.den l.den m).den γ=some x:=by
  obtain ⟨m,hm,hd,_,_⟩:=q8a h
  refine ⟨m,hm,?_⟩
  unfold qt0
  rw [qpa] at hd
  rw [q5d]
  obtain ⟨A,C,hA,hC,hle,rfl⟩:=hd
  refine ⟨A,C,hA,hC,hle,?_⟩
  show Value.slice (some (if C=0 then A else A.add 0)) _ _=_
  rw [qum,ite_self]
theorem q3p {X Y:Nat→BitVec 8} {n:Nat} (h:∀ i,i<n→X i=Y i):shaF X n=shaF Y n:=by
  unfold shaF
  congr 1
  apply qae
  intro i _
  unfold padF
  by_cases hi:i<n
  · rw [if_pos hi,if_pos hi,h i hi]
  · rw [if_neg hi,if_neg hi]
noncomputable def nilE:List (BitVec 8):=BitVec.ofNat 8 128::repN (BitVec.ofNat 8 0) 63
theorem jzn:outO [] (qca cfgH2 8000 102 [.nilSlice] (q5c [])) []=([0+64≤64],some (.agg (bx (qde (cmpW (q0a qwc) (q6a (qaa nilE) 0)))),[])):=by kernel_rfl
theorem j3g (X:Nat→BitVec 8):shaF X 0=qde (cmpW (q0a qwc) (q6a (qaa nilE) 0)):=by
  unfold shaF
  rw [show (0+72) / 64=0+1 from rfl,qac]
  refine congrArg qde (qjf rfl (q0b fun i hi => ?_))
  unfold padF lenP nilE qaa
  rw [show 64 * 0+i=i from by omega,Nat.zero_add,if_neg (by omega)]
  cases i with
  | zero=>rfl
  | succ i =>
    have hr:((BitVec.ofNat 8 128::repN (BitVec.ofNat 8 0) 63)[i+1]?).getD 0#8=BitVec.ofNat 8 0:=by
      rw [List.getElem?_cons_succ,q3h,List.getElem?_replicate,if_pos (by omega)]; rfl
    rw [if_neg (by omega),hr]
    split
    · unfold q4i
      simp
    · rfl
noncomputable def jhl (F:(Nat→BitVec 8)→Nat→List (BitVec 8)):Summ:=fun args H _=>qfd args fun v=>qdf H (qob v (.ok ⟨.agg (bx (F (fun _=>0#8) 0)),[],[]⟩) fun a l=>boolC (qib a.nm) (q3b (nth H a.nm) fun X N=>.need (a.off.den+l.den≤N) (.ok ⟨.agg (bx (F (fun i=>X (a.off.den+i)) l.den)),[],[]⟩)) (.stuck 740))
theorem q4p {I:Ifc} {base:Nat} {l:List (BitVec 8)} {v:SV} {H:List SO} (ho:q7b I.ents 0=[]) (h:v=.agg (bx l)):I.Ends base [] ⟨.agg (bx l),[],[]⟩ v H:=by
  subst h
  refine qkb ho ?_ (qed _ _)
  show SV.agg (bx l)=.agg (SV.renL _ (bx l))
  rw [q7d]
theorem nd5 {x:Nat} (h:qib x=true):[0,1,2,3,x].Nodup:=by
  have:=qdi h
  simp only [List.nodup_cons,List.mem_cons,List.not_mem_nil,or_false,not_or,not_false_eq_true,List.nodup_nil,and_true]; omega
theorem sumOK:SumAt Tryz.prog q6b 102 (jhl shaF):=by
  intro O w0 β H w base args vs hH hG ha
  refine qtb fun v hv=>qlc fun hT=>qxa (fun hn => ?_) fun a l c hs=>qfa fun hn=>q3a fun X N ht=>fun hle => ?_
  · rw [hv,hn] at ha
    rw [j3g]
    exact qka qz5 8000 hH (qta [] [] [.nilSlice]) (qqa hG) ha (Ifc.fits (by simp [qta]) rfl (qgb hT trivial)) [] (by simp) (by simp) jzn (all_cons (by omega) qba) fun _ _=>q4p rfl rfl
  · rw [hv,hs] at ha
    rw [qga] at ht
    obtain ⟨x,ys,hx,hys,rfl⟩:=denL_cons.1 ha
    obtain ⟨m,hm,hd⟩:=qhz hx
    exact Go.Sim.sum_runs (c:=cfgH2) hH (qta [a.nm] [rowF X N] (qss a.off.den l.den m)) (qqa hG) (denL_cons.2 ⟨_,_,hd,hys,rfl⟩) (Ifc.fits (nd5 hn) rfl (qgb hT ⟨⟨ht _,qya _ _ _⟩,trivial⟩)) [] (by simp) (by simp)
      (qyf (jld hle hm) fun v H h=>q4p rfl h)
end Go.Proofs.YtbmgahpjgefjaaaGreatDoor.Aes
namespace Go.Proofs.YtbmgahpjgefjaaaGreatDoor.Aes
open Go.Sim
open Go.Proofs
variable {α:Type}
noncomputable def qtd:Nat→Option Nat:=fun g=>boolC (Nat.beq g 2) (some 0) (boolC (Nat.beq g 3) (some 1) (boolC (Nat.beq g 1) (some 2) none))
noncomputable def qkl:SO:=.row (.lst [.slice ⟨3,.lit 0⟩ (.lit 64) (.lit 64)])
noncomputable def qkw:SO:=.row (.lst (kx .i64 constL))
noncomputable def shaH (l:List SO):List SO:=qwf::qxf::qkl::qkw::l
noncomputable def rowS (e:Option SO):Bool:=optC (qhc e) false fun l=>List.rec (motive:=fun _=>Bool) false (fun v r _=>boolC (qs0 v 3 64) (nilN r) false) l
theorem jmd {e:Option SO} (h:rowS e=true) (g:Nat→Nat) (hg:g 3=3):∃ e',e=some e'∧qqb g qkl e':=by
  unfold rowS at h
  cases hc:qhc e with
  | none=>rw [hc] at h; cases h
  | some l =>
    rw [hc] at h
    cases l with
    | nil=>cases h
    | cons v r =>
      obtain ⟨h1,h2⟩:=qzh (show boolC (qs0 v 3 64) (nilN r) false=true from h)
      cases r with
      | cons=>cases h2
      | nil =>
        rw [qz8 h1] at hc
        refine q5b hc ?_
        show SV.ImpL _ [.slice ⟨g 3,.lit 0⟩ (.lit 64) (.lit 64)]
        rw [hg]; exact .refl _
noncomputable def shaT (H:List SO) (r:R α):R α:=boolC (rowK .u32 startL (nth H 0)) (boolC (rowK .u32 constL (nth H 1)) (boolC (rowS (nth H 2)) (boolC (rowK .i64 constL (nth H 3)) r (.stuck 730)) (.stuck 731)) (.stuck 732)) (.stuck 733)
structure ShaT (H:List SO):Prop where
  s0:∀ g,∃ e',H[0]? = some e'∧qqb g qwf e'
  s1:∀ g,∃ e',H[1]? = some e'∧qqb g qxf e'
  s2:∀ g:Nat→Nat,g 3=3→∃ e',H[2]? = some e'∧qqb g qkl e'
  s3:∀ g,∃ e',H[3]? = some e'∧qqb g qkw e'
theorem qsg {H:List SO} {r:R α} {φ:α→Prop} (h:ShaT H→r.Sat φ):(shaT H r).Sat φ:=by
  refine qfa fun h0=>qfa fun h1=>qfa fun h2=>qfa fun h3=>h ⟨fun g => ?_,fun g => ?_,fun g hg => ?_,fun g => ?_⟩
  · rw [← qga]; exact q1k h0 g
  · rw [← qga]; exact q1k h1 g
  · rw [← qga]; exact jmd h2 g hg
  · rw [← qga]; exact q1k h3 g
noncomputable def shaI (names:List Nat) (ents:List SO) (args:List SV):Ifc:=⟨0::1::2::3::names,shaH ents,args⟩
theorem q1e {H:List SO} (hT:ShaT H) {names:List Nat} {ents:List SO} {args:List SV} (h:EntsOK (shaI names ents args).big (shaI names ents args).known H names ents):EntsOK (shaI names ents args).big (shaI names ents args).known H (shaI names ents args).names (shaI names ents args).ents :=
  ⟨⟨hT.s0 _,qbi _ _ _⟩,⟨hT.s1 _,qbi _ _ _⟩,⟨hT.s2 _ rfl,rfl⟩,⟨hT.s3 _,qbi _ _ _⟩,h⟩
theorem q8d {β:Val} {names:List Nat} {ents:List SO} {args:List SV} (hG:GlobRel qtd β):∀ g j,qtd g=some j→(shaI names ents args).known j=true∧∃ l,β ((shaI names ents args).big j)=some l∧l.blk=g∧l.off=0:=by
  intro g j hg
  have hj:j=0∨j=1∨j=2:=by
    rcases qbd (show boolC (Nat.beq g 2) (some 0) _=some j from hg) with ⟨_,h⟩ | h
    · cases h; exact .inl rfl
    rcases qbd h with ⟨_,h⟩ | h
    · cases h; exact .inr (.inl rfl)
    obtain ⟨_,h⟩:=qsb h
    cases h; exact .inr (.inr rfl)
  rcases hj with rfl | rfl | rfl
  · exact ⟨rfl,hG g 0 hg⟩
  · exact ⟨rfl,hG g 1 hg⟩
  · exact ⟨rfl,hG g 2 hg⟩
theorem j0n {g nm:Nat} (h:q6b g=some nm):qtd g=some nm:=by
  rcases qbd (show boolC (Nat.beq g 2) (some 0) _=some nm from h) with ⟨h1,h2⟩ | h
  · cases h2; unfold qtd; rw [h1]; rfl
  obtain ⟨h1,h2⟩:=qsb h
  cases h2
  have e:=qna h1
  subst e
  rfl
theorem SumAt.up {f:FuncId} {s:Summ} (h:SumAt Tryz.prog q6b f s):SumAt Tryz.prog qtd f s:=fun O w0 β H w base args vs hH hG ha=>h O w0 β H w base args vs hH (fun g nm hg=>hG g nm (j0n hg)) ha
theorem q5p {g nm:Nat} (hg:qtd g=some nm):nm<3:=by
  rcases qbd (show boolC (Nat.beq g 2) (some 0) _=some nm from hg) with ⟨_,h⟩ | h
  · cases h; omega
  rcases qbd h with ⟨_,h⟩ | h
  · cases h; omega
  obtain ⟨_,h⟩:=qsb h
  cases h; omega
end Go.Proofs.YtbmgahpjgefjaaaGreatDoor.Aes
namespace Go.Proofs.YtbmgahpjgefjaaaGreatDoor.Aes
open Go.Sim
open Go.Proofs
open Go.RowKit
variable {α:Type}
set_option maxRecDepth 1000000
noncomputable def qef:Nat→Option Nat:=fun g=>boolC (Nat.beq g 2) (some 0) (boolC (Nat.beq g 3) (some 1) (boolC (Nat.beq g 1) (some 2) (boolC (Nat.beq g 0) (some 4) none)))
theorem j2s {g j:Nat} (h:qtd g=some j):qef g=some j:=by
  unfold qtd at h
  unfold qef
  cases h1:Nat.beq g 2 with
  | true=>rw [h1] at h; exact h
  | false =>
    rw [h1] at h
    rw [boolC_false] at h ⊢
    cases h2:Nat.beq g 3 with
    | true=>rw [h2] at h; exact h
    | false =>
      rw [h2] at h
      rw [boolC_false] at h ⊢
      cases h3:Nat.beq g 1 with
      | true=>rw [h3] at h; exact h
      | false=>rw [h3] at h; cases h
theorem j3s {g j:Nat} (h:qog g=some j):j=0∧qef g=some 4:=by
  have h':boolC (Nat.beq g 0) (some 0) none=some j:=h
  obtain ⟨h1,h2⟩:=qsb h'
  cases h2
  have h1:=qna h1
  subst h1
  exact ⟨rfl,by kernel_rfl⟩
noncomputable def q28 (H:List SO) (r:R SumRes):R SumRes:=optC (qhc (nth H 4)) (.stuck 740) fun l=>boolC (qds qj8 l) r (.stuck 740)
theorem qiz {H:List SO} {r:R SumRes} {φ:SumRes→Prop} (h:(∀ g,∃ e',H[4]? = some e'∧qqb g tabR e')→r.Sat φ):(q28 H r).Sat φ:=by
  refine qja fun l hl=>qfa fun hs=>h fun g => ?_
  rw [qga] at hl
  rw [qdl hs] at hl
  exact q5b hl (by rw [qvk]; exact .refl _)
theorem q52 {β:Val} {I:Ifc} (h0:I.big 0=4) (hk:I.known 0=true) (hG:GlobRel qef β):∀ g j,qog g=some j→I.known j=true∧∃ l,β (I.big j)=some l∧l.blk=g∧l.off=0:=by
  intro g j hg
  obtain ⟨rfl,hq⟩:=j3s hg
  rw [h0]; exact ⟨hk,hG g 4 hq⟩
noncomputable def fnB (xs:Blk):Cells:=.fn (qda (qaa xs)) (lenN xs)
theorem jnd {p:Nat→Bool} {g:Nat→Nat} {E:Option SO} {xs:Blk} {w:Bool} {el:TypeId} (h:E=some (.own (.lst (bx xs)) w el)):q4d p g E (.own (fnB xs) w el):=by
  obtain ⟨c,w',el',c',h1,h2,h3,h4⟩:=q4f (p:=p) (g:=g) h
  cases h4
  refine ⟨c,w,el,fnB xs,h1,h2,h3.trans fun γ vs hv => ?_,rfl⟩
  show CellsRel γ (.fn (qda (qaa xs)) (lenN xs)) vs
  rw [qva]
  exact q8n hv
end Go.Proofs.YtbmgahpjgefjaaaGreatDoor.Aes
namespace Go.Proofs.YtbmgahpjgefjaaaGreatDoor.Aes
open Go.Sim
open Go.Proofs
theorem HeapRel.rows {P:Program} {W:World} {β:Val} {H:List SO} (h:∀ n e,H[n]? = some e→∃ c,e=.row c∧qh1 (fun _=>False) W β n c) (hb:∀ n,H.length≤n→β n=none):HeapRel P (fun _=>False) W β H W:=by
  refine ⟨⟨fun n e hn => ?_,fun n m e e' l l' hn hm ho ho' => ?_,fun n e l hn ho => ?_,⟨rfl,rfl,rfl,Nat.le_refl _,fun _ _ _=>rfl⟩⟩,hb⟩
  · obtain ⟨c,rfl,hc⟩:=h n e hn; exact hc
  · obtain ⟨c,rfl,hc⟩:=h n e hn; cases ho
  · obtain ⟨c,rfl,hc⟩:=h n e hn; cases ho
theorem jod {γ:Val} (k:IntKind):∀ T:List Nat,SV.denL γ (kx k T)=some (T.map fun n=>Value.int k (Int.ofNat n))
  | []=>rfl
  | _::T=>denL_cons.2 ⟨_,_,rfl,jod k T,rfl⟩
theorem q05 {W:World} {a:Addr} {x:Value} (h:W.cell? a=some x):a.block<W.heap.size:=by
  by_cases hb:a.block<W.heap.size
  · exact hb
  · unfold World.cell? at h
    have hn:W.heap[a.block]? = none:=Array.getElem?_eq_none (by omega)
    simp only [hn] at h
    cases h
theorem qlw {W:World} {β:Val} {n:Nat} {l:Sim.Loc} {k:IntKind} {L:List Nat} (hl:β n=some l) (hc:∀ i,i<L.length→W.cell? ⟨l.blk,l.off+i,none⟩=some (.int k ((L.getD i 0:Nat):Int))):qh1 (fun _=>False) W β n (.lst (kx k L)):=by
  refine ⟨l,_,hl,jod k L,fun i x hx => ?_⟩
  rw [List.getElem?_map] at hx
  cases hi:L[i]? with
  | none=>rw [hi] at hx; cases hx
  | some t =>
    rw [hi] at hx; cases hx
    have hlt:i<L.length:=(List.getElem?_eq_some_iff.1 hi).1
    have hcell:=hc i hlt
    have e:L.getD i 0=t:=by rw [List.getD_eq_getElem?_getD,hi]; rfl
    rw [e] at hcell
    exact ⟨q05 hcell,fun f=>f,hcell⟩
theorem q62 {P:Program} {w:World} {name:String} {g:Nat} {t e:TypeId} {k:IntKind} {n:Nat} {L:List Nat} (hn:P.globalNamed name=some g) (hy:(P.globals[g]?).map (·.type)=some t) (ht:P.underlying t=some (.array n e)) (he:P.underlying e=some (.int k)) (hce:P.cellsOf e=1) (hct:P.cellsOf t=n)
    (h:Lib.VarReads P w name (Lib.tabData k (L.map Int.ofNat))):∀ i,i<L.length→w.cell? ⟨g,i,none⟩=some (.int k ((L.getD i 0:Nat):Int)):=by
  obtain ⟨g',t',cs,fuel,p,hg,hty,hvar,hd⟩:=h
  obtain rfl:=Option.some.inj (hn.symm.trans hg)
  obtain rfl:=Option.some.inj (hy.symm.trans hty)
  intro i hi
  have hT:Lib.TabIs P w name k (L.map Int.ofNat):=by
    unfold Lib.TabIs
    rw [hvar,← Lib.cells_of_tab ht he hce hct hd]
  have:=hT.cell hn i (by simpa using hi)
  rw [this]
  simp [List.getD_eq_getElem?_getD,List.getElem?_eq_getElem hi]
theorem j4g {P:Program} {w:World} {name:String} {g:Nat} {t e:TypeId} {k:IntKind} {l:List Nat} (hn:P.globalNamed name=some g) (hy:(P.globals[g]?).map (·.type)=some t)
    (ht:P.underlying t=some (.slice e)) (he:P.underlying e=some (.int k)) (hc:P.cellsOf e=1) (hl:0<l.length) (h:Lib.VarReads P w name (Lib.sliceData k l)) :
    ∃ R o:Nat,w.cell? ⟨g,0,none⟩=some (.slice (some ⟨R,o,none⟩) l.length l.length)∧∀ j,j<l.length→w.cell? ⟨R,o+j,none⟩=some (.int k (l.getD j 0)):=by
  obtain ⟨R,o,c,h1,h2⟩:=Lib.tabSlice_of_reads hn hy ht he hc hl h
  refine ⟨R,o,?_,h2⟩
  obtain ⟨g',t',cs,fuel,p,hg,hty,hvar,hd⟩:=h
  obtain rfl:=Option.some.inj (hn.symm.trans hg)
  obtain rfl:=Option.some.inj (hy.symm.trans hty)
  rcases DataW.trod_slice ht hd with ⟨_,hx⟩ | ⟨a,len,cap,el,rs,m,rfl,hcs,hx,_,hlc,_,hel,helem,hsp,_⟩
  · cases hx
  have e0:=congrArg Prod.fst hx
  simp only [Lib.sliceData,DataW.slice.injEq] at e0
  obtain ⟨eE,eR⟩:=e0
  have hlen:len=l.length:=by
    have:=congrArg List.length eE
    simp at this
    omega
  have hr:=(hsp rfl).1
  have hr0:rs.length=0:=by
    have:=congrArg List.length eR
    simp at this
    simp [this]
  have hcap:cap=l.length:=by omega
  have h3:w.cell? ⟨g,0,none⟩=some (.slice (some a) l.length l.length):=by
    rw [World.var?_cell hg hvar 0,← Array.getElem?_toList,hcs,hlen,hcap]
    rfl
  rw [h1] at h3
  cases h3
  exact h1
end Go.Proofs.YtbmgahpjgefjaaaGreatDoor.Aes
namespace Go.Proofs.YtbmgahpjgefjaaaGreatDoor.Aes
open Go.Sim
open Go.Proofs
theorem q_start {W:World} (hL:laidMetH Tryz.prog [("watchword/watchwordref04.constants",Rows.laid_watchword_watchwordref04_constants),("watchword/watchwordref06.substitutes",Rows.laid_watchword_watchwordref06_substitutes),("watchword/sha.start",Rows.laid_watchword_sha_start),("watchword/sha.constants",Rows.laid_watchword_sha_constants)] W) :
    ∃ β,HeapRel Tryz.prog (fun _=>False) W β (shaH [tabR]) W∧GlobRel qef β:=by
  rw [MakeChecks.laidMetH_plain _ _ _ (by kernel_rfl)] at hL
  have e1:(Rows.laid_watchword_watchwordref04_constants:DataW Unit)=Lib.sliceData .i64 constL:=by kernel_rfl
  have e2:(Rows.laid_watchword_sha_start:DataW Unit)=Lib.tabData .u32 (startL.map Int.ofNat):=by kernel_rfl
  have e3:(Rows.laid_watchword_sha_constants:DataW Unit)=Lib.tabData .u32 (constL.map Int.ofNat):=by kernel_rfl
  have e4:(Rows.laid_watchword_watchwordref06_substitutes:DataW Unit)=Lib.tabData .u8 (subs.map Int.ofNat):=by kernel_rfl
  have eT:tabR=.row (.lst (kx .u8 subs)):=by kernel_rfl
  rw [eT]
  rw [e1,e2,e3,e4] at hL
  have r1:=Lib.laidMet.reads hL (n := "watchword/watchwordref04.constants") (d:=Lib.sliceData .i64 constL) (by simp)
  have r2:=Lib.laidMet.reads hL (n := "watchword/sha.start") (d:=Lib.tabData .u32 (startL.map Int.ofNat)) (by simp)
  have r3:=Lib.laidMet.reads hL (n := "watchword/sha.constants") (d:=Lib.tabData .u32 (constL.map Int.ofNat)) (by simp)
  have r4:=Lib.laidMet.reads hL (n := "watchword/watchwordref06.substitutes") (d:=Lib.tabData .u8 (subs.map Int.ofNat)) (by simp)
  have t4:=q62 (g:=0) (t:=123) (e:=5) (n:=256) (by kernel_rfl) (by kernel_rfl) (by kernel_rfl) (by kernel_rfl) (by kernel_rfl) (by kernel_rfl) r4
  have t2:=q62 (g:=2) (t:=137) (e:=135) (n:=8) (by kernel_rfl) (by kernel_rfl) (by kernel_rfl) (by kernel_rfl) (by kernel_rfl) (by kernel_rfl) r2
  have t3:=q62 (g:=3) (t:=196) (e:=135) (n:=64) (by kernel_rfl) (by kernel_rfl) (by kernel_rfl) (by kernel_rfl) (by kernel_rfl) (by kernel_rfl) r3
  obtain ⟨R,o,c1,c2⟩:=j4g (g:=1) (t:=91) (e:=3) (by kernel_rfl) (by kernel_rfl) (by kernel_rfl) (by kernel_rfl) (by kernel_rfl) (by decide) r1
  have hc64:constL.length=64:=rfl
  rw [hc64] at c1
  let β:Val:=fun n=>match n with
    | 0=>some (Sim.Loc.mk 2 0 0)
    | 1=>some (Sim.Loc.mk 3 0 0)
    | 2=>some (Sim.Loc.mk 1 0 0)
    | 3=>some (Sim.Loc.mk R o 0)
    | 4=>some (Sim.Loc.mk 0 0 0)
    | _=>none
  refine ⟨β,HeapRel.rows (fun n e hn => ?_) fun n hn => ?_,fun g nm hg => ?_⟩
  · match n,hn with
    | 0,hn=>cases hn; exact ⟨_,rfl,qlw (l:=Sim.Loc.mk 2 0 0) rfl fun i hi=>by rw [show (Sim.Loc.mk 2 0 0).off+i=i from Nat.zero_add i]; exact t2 i hi⟩
    | 1,hn=>cases hn; exact ⟨_,rfl,qlw (l:=Sim.Loc.mk 3 0 0) rfl fun i hi=>by rw [show (Sim.Loc.mk 3 0 0).off+i=i from Nat.zero_add i]; exact t3 i hi⟩
    | 2,hn =>
      cases hn
      refine ⟨_,rfl,Sim.Loc.mk 1 0 0,[.slice (some ⟨R,o,none⟩) 64 64],rfl,?_,fun i x hx => ?_⟩
      · show SV.denL β [.slice ⟨3,.lit 0⟩ (.lit 64) (.lit 64)]=_
        rfl
      · cases i with
        | zero =>
          cases hx
          exact ⟨q05 c1,fun f=>f,c1⟩
        | succ i=>simp at hx
    | 3,hn=>cases hn; exact ⟨_,rfl,qlw (l:=Sim.Loc.mk R o 0) rfl fun i hi=>c2 i hi⟩
    | 4,hn=>cases hn; exact ⟨_,rfl,qlw (l:=Sim.Loc.mk 0 0 0) rfl fun i hi=>by rw [show (Sim.Loc.mk 0 0 0).off+i=i from Nat.zero_add i]; exact t4 i hi⟩
    | n+5,hn=>simp [shaH] at hn
  · match n,hn with
    | n+5,_=>rfl
    | 4,hn=>simp [shaH] at hn
    | 0,hn=>simp [shaH] at hn
    | 1,hn=>simp [shaH] at hn
    | 2,hn=>simp [shaH] at hn
    | 3,hn=>simp [shaH] at hn
  · rcases qbd (show boolC (Nat.beq g 2) (some 0) _=some nm from hg) with ⟨h1,h2⟩ | h
    · cases h2; exact ⟨_,rfl,(qna h1).symm,rfl⟩
    · rcases qbd h with ⟨h1,h2⟩ | h
      · cases h2; exact ⟨_,rfl,(qna h1).symm,rfl⟩
      · rcases qbd h with ⟨h1,h2⟩ | h
        · cases h2; exact ⟨_,rfl,(qna h1).symm,rfl⟩
        · obtain ⟨h1,h2⟩:=qsb h
          cases h2; exact ⟨_,rfl,(qna h1).symm,rfl⟩
end Go.Proofs.YtbmgahpjgefjaaaGreatDoor.Aes
namespace Go.Proofs.YtbmgahpjgefjaaaGreatDoor.Aes
open Go.Sim
open Go.Proofs
variable {α:Type}
noncomputable def iw (x:W32):SV:=.int .i64 (.b32 x)
noncomputable def ux (l:List W32):List SV:=mapN iw l
noncomputable def uni (v:SV):Option W32:=v.asInt none fun k n=>boolC (eqK k .i64) (qsu n) none
theorem q6p {v:SV} {x:W32} (h:uni v=some x):v=iw x:=by
  unfold uni at h
  rcases qtc v with ⟨k,n,rfl⟩ | hv
  · obtain ⟨hk,h⟩:=qsb (show boolC (eqK k .i64) (qsu n) none=some x from h)
    rw [q3f hk]
    cases n <;> first | (cases h; rfl) | cases h
  · rw [hv] at h; cases h
noncomputable def iwR (x:W32):R SumRes:=.ok ⟨iw x,[],[]⟩
theorem jpd {I:Ifc} {base:Nat} {v u:SV} {H:List SO} (ho:q7b I.ents 0=[]) (hr:v.ren (I.out base [])=v) (hi:v.Imp u) (hu:v.uses (I.seen [])=true):I.Ends base [] ⟨u,[],[]⟩ v H :=
  ⟨by rw [hr]; exact hi,hu,by rw [ho]; trivial,trivial⟩
theorem qqf {k:IntKind} {a b:SI} (h:a.den=b.den):(SV.int k a).Imp (.int k b):=by
  intro γ x hx
  have hx:some (Value.int k a.den)=some x:=hx
  rw [h] at hx; exact hx
noncomputable def qho (x:W32) (n:Nat):W32:=BitVec.ofInt 32 (IntKind.i64.wrap ((x.toNat:Int) * 2 ^ (32 - n)))
noncomputable def jqd (x:W32) (n:Nat):List Prop × Option (SV × List (Option SO)) :=
  ([0≤IntKind.i64.wrap ((x.toNat:Int) * 2 ^ (32 - n)),qza (((x >>> n).toNat:Int)+((qho x n).toNat:Int))],some (.int .i64 (.sym (((x >>> n).toNat:Int)+((qho x n).toNat:Int))),[]))
noncomputable def qio:List Nat:=[7,18,17,19,6,11,25,2,13,22]
theorem q38 (x:W32):mapN (fun n=>outP [] (qca cfg0 400 123 [iw x,.int .i64 (.lit (Int.ofNat n))] [])) qio=mapN (fun n=>jqd x n) qio:=by kernel_rfl
theorem jrd (x:W32) {n:Nat} (hn:n∈qio):outP [] (qca cfg0 400 123 [iw x,.int .i64 (.lit (Int.ofNat n))] [])=jqd x n:=by
  have h:=q38 x
  rw [qwa,qwa] at h
  exact List.map_inj_left.1 h n hn
theorem jsd (x:W32) {n:Nat} (h2:2≤n) (h3:n≤31):0≤IntKind.i64.wrap ((x.toNat:Int) * 2 ^ (32 - n))∧(x >>> n).toNat+(qho x n).toNat=(rrt x n).toNat:=by
  have hx:=x.isLt
  have hp:2 ^ n * 2 ^ (32 - n)=4294967296:=by rw [← Nat.pow_add,show n+(32 - n)=32 from by omega]
  have hpn:4≤2 ^ n:=by
    have:=Nat.pow_le_pow_right (show 0<2 by omega) h2
    simpa using this
  have hq:2 ^ (32 - n)≤1073741824:=by
    have:=Nat.pow_le_pow_right (show 0<2 by omega) (show 32 - n≤30 by omega)
    simpa using this
  have hprod:x.toNat * 2 ^ (32 - n)<9223372036854775808:=by
    have:x.toNat * 2 ^ (32 - n)≤4294967296 * 1073741824:=Nat.mul_le_mul (by omega) hq
    omega
  have hc:((x.toNat:Int) * 2 ^ (32 - n))=((x.toNat * 2 ^ (32 - n):Nat):Int):=by simp
  have hw:IntKind.i64.wrap ((x.toNat:Int) * 2 ^ (32 - n))=((x.toNat * 2 ^ (32 - n):Nat):Int):=by
    rw [hc,wrap_i64 ⟨by omega,by omega⟩]
  refine ⟨by rw [hw]; omega,?_⟩
  have hv:qho x n=x <<< (32 - n):=by
    unfold qho
    rw [hw,← hc,qav]
  rw [hv]
  unfold rrt
  rw [BitVec.toNat_or,BitVec.toNat_shiftLeft,BitVec.toNat_ushiftRight,Nat.shiftLeft_eq,Nat.shiftRight_eq_div_pow]
  have hb:x.toNat / 2 ^ n<2 ^ (32 - n):=by
    rw [Nat.div_lt_iff_lt_mul (by omega),Nat.mul_comm,hp]; exact hx
  have hm:x.toNat * 2 ^ (32 - n) % 2 ^ 32=2 ^ (32 - n) * (x.toNat % 2 ^ n):=by
    rw [Nat.mul_comm,show (2:Nat) ^ 32=2 ^ (32 - n) * 2 ^ n from by rw [Nat.mul_comm,hp]]
    exact Nat.mul_mod_mul_left _ _ _
  rw [hm,← Nat.two_pow_add_eq_or_of_lt hb]
  omega
noncomputable def jtd:Summ:=fun args _ _=>qcd args fun v u=>optC (uni v) (.stuck 760) fun x=>optC (litI u) (.stuck 760) fun n=>boolC (memN n qio) (iwR (rrt x n)) (.stuck 760)
theorem jud {n:Nat} (h:n∈qio):2≤n∧n≤31:=by
  unfold qio at h
  simp only [List.mem_cons,List.not_mem_nil,or_false] at h
  omega
theorem j1n:q2a Tryz.prog 123 jtd:=by
  intro glob O w0 β H w base args vs hH hG ha
  refine qnb fun v u hv=>qja fun x hx=>qja fun n hn=>qfa fun hm => ?_
  rw [hv,q6p hx,qif hn] at ha
  have hm:=memN_iff.1 hm
  obtain ⟨h1,h2⟩:=jud hm
  obtain ⟨h3,h4⟩:=jsd x h1 h2
  have hb:=(rrt x n).isLt
  exact qcg q3c rfl 400 hH ⟨[],[],[iw x,.int .i64 (.lit (Int.ofNat n))]⟩ ha (qgd rfl) [] (by simp) (by simp) (jrd x hm) (all_cons h3 (all_cons ⟨by omega,by omega⟩ qba)) fun _ _=>jpd rfl rfl (qqf (by show (((x >>> n).toNat:Int)+((qho x n).toNat:Int))=((rrt x n).toNat:Int); omega)) rfl
noncomputable def qur (F:W32→W32→W32→W32):Summ:=fun args _ _=>qmc args fun a b c=>optC (uni a) (.stuck 761) fun x=>optC (uni b) (.stuck 761) fun y=>optC (uni c) (.stuck 761) fun z=>iwR (F x y z)
theorem q72 {f:FuncId} {F:W32→W32→W32→W32} (hrun:∀ x y z:W32,∃ ps v,outP [] (qca cfg0 200 f [iw x,iw y,iw z] [])=(ps,some (.int .i64 v,[]))∧(∀ p∈ps,p)∧v.den=((F x y z).toNat:Int)):q2a Tryz.prog f (qur F):=by
  intro glob O w0 β H w base args vs hH hG ha
  refine qab fun a b c hv=>qja fun x hx=>qja fun y hy=>qja fun z hz => ?_
  rw [hv,q6p hx,q6p hy,q6p hz] at ha
  obtain ⟨ps,v,h1,h2,h3⟩:=hrun x y z
  exact qcg q3c rfl 200 hH ⟨[],[],[iw x,iw y,iw z]⟩ ha (qgd rfl) [] (by simp) (by simp) h1 h2 fun _ _=>jpd rfl rfl (qqf h3) rfl
theorem j5g (x y z:W32):outP [] (qca cfg0 200 125 [iw x,iw y,iw z] [])=([],some (iw (majW x y z),[])):=by kernel_rfl
theorem j4s:q2a Tryz.prog 125 (qur majW):=q72 fun x y z=>⟨_,_,j5g x y z,qba,rfl⟩
noncomputable def q48 (e f g:W32):Int:=qof .xor .i64 ((e &&& f).toNat:Int) (qof .and .i64 (4294967295 - (e.toNat:Int)) (g.toNat:Int))
theorem j6g (x y z:W32):outP [] (qca cfg0 200 124 [iw x,iw y,iw z] [])=([qza (4294967295 - (x.toNat:Int))],some (.int .i64 (.sym (q48 x y z)),[])):=by kernel_rfl
theorem j7g (x y z:W32):q48 x y z=((qci x y z).toNat:Int):=by
  have hn:((BitVec.ofInt 32 4294967295 ^^^ x).toNat:Int)=4294967295 - (x.toNat:Int):=by
    have e:BitVec.ofInt 32 4294967295 ^^^ x = ~~~x:=by
      rw [show (BitVec.ofInt 32 4294967295:BitVec 32)=BitVec.allOnes 32 from by decide,BitVec.allOnes_xor]
    rw [e,BitVec.toNat_not]
    have:=x.isLt
    omega
  have h1:=q5o (op:=.and) (a:=BitVec.ofInt 32 4294967295 ^^^ x) (b:=z) rfl
  have h2:=q5o (op:=.xor) (a:=x &&& y) (b:=(BitVec.ofInt 32 4294967295 ^^^ x) &&& z) rfl
  rw [hn] at h1
  have h1:qof .and .i64 (4294967295 - (x.toNat:Int)) (z.toNat:Int)=_:=Option.some.inj h1
  have h2:qof .xor .i64 ((x &&& y).toNat:Int) (((BitVec.ofInt 32 4294967295 ^^^ x) &&& z).toNat:Int)=_:=Option.some.inj h2
  unfold q48
  rw [h1]
  exact h2
theorem j5s:q2a Tryz.prog 124 (qur qci):=q72 fun x y z=>⟨_,_,j6g x y z,all_cons ⟨by have:=x.isLt; omega,by omega⟩ qba,j7g x y z⟩
noncomputable def cfgR1:Cfg:=cfgG qtd (qbb [(123,jtd),(124,qur qci),(125,qur majW)])
theorem j2n:CfgOK cfgR1:=q2b (allS (j1n _) (allS (j5s _) (allS (j4s _) (by simp))))
end Go.Proofs.YtbmgahpjgefjaaaGreatDoor.Aes
