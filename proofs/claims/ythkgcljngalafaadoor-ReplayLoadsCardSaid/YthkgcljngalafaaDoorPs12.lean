/-
  The reference's hash: the summaries of Padded and of a block.
-/
import Derived.Test.YthkgcljngalafaaDoorZsPad2
namespace Go.Proofs.YthkgcljngalafaaDoor.Aes
noncomputable section
open Go.Sim
open Go.Proofs
variable {α:Type}
theorem qf8 {f g:Nat->SV} {n:Nat} (h:∀ i,i<n->(f i).Imp (g i)):(Cells.fn f n).Imp (.fn g n):=fun γ vs hv=>⟨hv.1,fun i x hx=>h i (by have:=(List.getElem?_eq_some_iff.1 hx).1; have:=hv.1; omega) γ x (hv.2 i x hx)⟩
def padR (base:Nat) (X:Nat->BitVec 8) (n:Nat):SumRes:=⟨.slice ⟨base,.lit 0⟩ (.sym (lenP n)) (.rest base 0),[],[.own (.fn (qna (padF X n n)) (lenP n)) false 5]⟩
def padS:Summ:=fun args H base=>qad args fun v=>q8k v (.ok (padR base (fun _=>0#8) 0)) fun a l=>q2f (nth H a.nm) fun X N=>.need (a.off.den+l.den<=N/\l.den<=1099511627776) (.ok (padR base (fun i=>X (a.off.den+i)) l.den))
theorem q6y {p:Nat->Bool} {g:Nat->Nat} {E:Option SO} {Y Z:Nat->BitVec 8} {n:Nat} {w:Bool} {el:TypeId} (hE:E=some (.own (.fn (qna Y) n) w el)) (h:∀ i,i<n->Y i=Z i):qge p g E (.own (.fn (qna Z) n) w el) :=
 ⟨_,w,el,_,hE,fun _=>rfl,qf8 fun i hi=>by show (SV.int .u8 (.b8 (Y i))).Imp (.int .u8 (.b8 (Z i))); rw [h i hi]; exact .refl _,rfl⟩
theorem qg8 (X:Nat->BitVec 8):(Cells.lst (kx .u8 qdk)).Imp (.fn (qna (padF X 0 0)) 64):=by
 have hl:(kx .u8 qdk).length=64:=by
  unfold kx qdk
  rw [qja,List.length_map,List.length_cons,q9c,List.length_replicate]
 refine q5y hl fun i v hv => ?_
 unfold kx qdk at hv
 rw [qja,q9c] at hv
 have hi:i<64:=by
  have:=(List.getElem?_eq_some_iff.1 hv).1
  simpa using this
 show v.Imp (.int .u8 (.b8 (padF X 0 0 i)))
 unfold padF
 rw [if_neg (by omega)]
 cases i with
 | zero=>simp at hv; subst hv; exact qld rfl
 | succ i =>
   rw [List.map_cons,List.getElem?_cons_succ,List.map_replicate,List.getElem?_replicate,if_pos (by omega)] at hv
   cases hv
   rw [if_neg (by omega)]
   split
   . refine qld ?_
     show (0:Int)=((qtg 0 _).toNat:Int)
     unfold qtg
     simp
   . exact qld rfl
theorem q3s {p:Nat->Bool} {g:Nat->Nat} {E:Option SO} (X:Nat->BitVec 8) {el:TypeId} (hE:E=some (.own (.lst (kx .u8 qdk)) false el)):qge p g E (.own (.fn (qna (padF X 0 0)) 64) false el) :=
 ⟨_,false,el,_,hE,qtf _ _ _,by show (Cells.lst (SV.renL g (kx .u8 qdk))).Imp _; rw [qws]; exact qg8 X,rfl⟩
theorem qho {nm:Nat} {l l':SN} (h:l.den=l'.den):(SV.slice ⟨nm,.lit 0⟩ l (.rest nm 0)).Imp (.slice ⟨nm,.lit 0⟩ l' (.rest nm 0)):=by
 intro γ x hx
 rw [den_slice] at hx ⊢
 rw [← h]; exact hx
theorem padOK:qdb Tryd.prog 50 padS:=by
 intro glob O w0 β H w base args vs hH hG ha
 refine qob fun v hv=>q5g (fun hn => ?_) fun a l c hs=>qid fun X N ht=>fun hle => ?_
 . rw [hv,hn] at ha
   exact qey qqj rfl 12000 hH ⟨[],[],[.nilSlice]⟩ ha (q6j rfl) [128] (by simp) (by simp) j6f qba fun H2 hH2=>⟨qho rfl,rfl,trivial,⟨q3s _ (List.cons.inj hH2).1,trivial⟩⟩
 . rw [hv,hs] at ha
   rw [qca] at ht
   obtain ⟨x,ys,hx,hys,rfl⟩:=denL_cons.1 ha
   obtain ⟨m,hm,hd,hd',_⟩:=qcf hx
   have hfit:∀ args:List SV,SV.usesL (Ifc.known ⟨[a.nm],[rowF X N],args⟩) args=true->Ifc.Fits ⟨[a.nm],[rowF X N],args⟩ H:=fun args hu=>Ifc.fits (by simp) hu ⟨⟨ht _,qfi _ _ _⟩,trivial⟩
   by_cases h0:l.den=0
   . rw [h0]
     rw [h0] at hd
     exact qey qqj rfl 12000 hH ⟨[a.nm],[rowF X N],[.slice ⟨0,.sym a.off.den⟩ (.lit 0) (.sym m)]⟩ (denL_cons.2 ⟨_,_,hd,hys,rfl⟩) (hfit _ rfl) [129] (by simp) (by simp) (jeb X N a.off.den m) (all_cons (by omega) qba) fun H2 hH2=>⟨qho rfl,rfl,trivial,⟨q3s _ (List.cons.inj hH2).1,trivial⟩⟩
   . exact Go.Sim.sum_runs (c:=cfg0) hH ⟨[a.nm],[rowF X N],qep a.off.den l.den m⟩ (fun g j h=>by cases h) (denL_cons.2 ⟨_,_,hd,hys,rfl⟩) (hfit _ rfl) [17] (by simp) (by simp)
      (qlb (jfb hle.1 h0 hle.2) fun v H2 ⟨Y,h1,h2,h3⟩=>⟨by rw [h1]; exact qho rfl,by rw [h1]; rfl,trivial,⟨q6y h2 h3,trivial⟩⟩)
def uni1 (v:SV):Option W32:=v.asInt none fun k n=>boolC (eqK k .i64) (si32 n) none
def unI (l:List SV):Option (List W32):=List.rec (motive:=fun _=>Option (List W32)) (some []) (fun v _ ih=>optC (uni1 v) none fun x=>optC ih none fun xs=>some (x::xs)) l
theorem jgb {v:SV} {x:W32} (h:uni1 v=some x):v.Imp (iw x):=by
 unfold uni1 at h
 rcases q1b v with ⟨k,n,rfl⟩ | hv
 . obtain ⟨hk,h⟩:=qzb (show boolC (eqK k .i64) (si32 n) none=some x from h)
   rw [qbf hk]
   cases n with
   | lit n =>
     cases n with
     | negSucc m=>cases h
     | ofNat m =>
       obtain ⟨hm,h⟩:=qzb (show boolC (Nat.blt m 4294967296) (some (wi m)) none=some x from h)
       cases h
       exact qld (qyq (qcy hm)).symm
   | sym=>cases h
   | b8=>cases h
   | b32 y=>cases h; exact .refl _
   | b64=>cases h
 . rw [hv] at h; cases h
theorem q6t:∀ {l:List SV} {xs:List W32},unI l=some xs->SV.ImpL l (ux xs)
 | [],xs,h=>by cases h; exact .refl _
 | v::l,xs,h=>by
   obtain ⟨x,hx,h⟩:=qaf (show (optC (uni1 v) none fun x=>optC (unI l) none fun xs=>some (x::xs))=some xs from h)
   obtain ⟨ys,hy,h⟩:=qaf h
   cases h
   exact qla (jgb hx) (q6t hy)
theorem q4s (f:Nat->Nat):∀ xs,SV.renL f (ux xs)=ux xs
 | []=>rfl
 | x::xs=>by show _::SV.renL f (ux xs)=_; rw [q4s f xs]; rfl
theorem q7t (p:Nat->Bool):∀ xs,SV.usesL p (ux xs)=true
 | []=>rfl
 | x::xs=>by show (true && SV.usesL p (ux xs))=true; rw [q7t p xs]; rfl
def qh8 (v:SV) (nil:R α) (f:Nat->Nat->SN->R α):R α :=
 SV.rec (motive_1:=fun _=>R α) (motive_2:=fun _=>Unit) (fun _ _=>.stuck 713) (fun _=>.stuck 713) (fun _=>.stuck 713) (fun _=>.stuck 713) (.stuck 713) (fun a l _=>f a.nm a.off.den l) nil (fun _=>.stuck 713) (.stuck 713) (fun _ _ _ _ _=>.stuck 713) (.stuck 713) (fun _ _ _=>.stuck 713) (.stuck 713) (fun _ _=>.stuck 713) (fun _ _=>.stuck 713) (fun _=>.stuck 713)
  (fun a n l _=>.need (0<l.den) (f a.nm (a.off.den+n.den) l)) () (fun _ _ _ _=>()) v
theorem qu4 {v:SV} {nil:R α} {f:Nat->Nat->SN->R α} {φ:α->Prop} (h0:v=.nilSlice->nil.Sat φ)
  (h:∀ nm o l,(∀ γ x,v.den γ=some x->∃ m,l.den<=m/\(SV.slice ⟨nm,.sym o⟩ (.sym l.den) (.sym m)).den γ=some x)->(f nm o l).Sat φ):(qh8 v nil f).Sat φ:=by
 cases v <;> first | trivial | exact h0 rfl | skip
 . rename_i a l c
   exact h a.nm a.off.den l fun γ x hx=>by
    obtain ⟨m,h1,h2,_,_⟩:=qcf hx
    exact ⟨m,h1,h2⟩
 . rename_i a n l c
   intro hl
   refine h a.nm (a.off.den+n.den) l fun γ x hx => ?_
   rw [qdc] at hx
   obtain ⟨A,C,hA,hC,hle,rfl⟩:=hx
   rw [if_neg (by omega)]
   refine ⟨C,hle,?_⟩
   rw [den_slice]
   obtain ⟨ll,hl2,rfl⟩:=SA.den_some hA
   exact ⟨_,C,by simp only [SA.den,hl2,Option.map_some,SN.den]; rfl,rfl,hle,by rw [q8a,Nat.add_assoc]; rfl⟩
def qi8:Summ:=fun args H _=>qhe args fun h v=>h.asAgg (.stuck 762) fun l=>optC (unI l) (.stuck 762) fun ws=>boolC (Nat.beq (lenN ws) 8) (shaT H (qh8 v (.stuck 763) fun nm o len=>boolC (qvj nm) (qw3 len 64 (q2f (nth H nm) fun X N=>.need (o+64<=N) (.ok ⟨.agg (ux (qwb (cmpW ws (qfb X o)))),[],[]⟩)) (.stuck 763)) (.stuck 763))) (.stuck 762)
theorem qc0 {H:List SO} (hT:ShaT H) (g:Nat->Nat):∃ e',H[3]? = some e'/\Taken g qmw e':=by
 obtain ⟨e',he,c0,hc,hf⟩:=hT.s3 g
 refine ⟨e',he,c0,hc,?_⟩
 intro γ vs hv
 obtain ⟨k,hk⟩:=hf γ vs hv
 refine ⟨k,?_⟩
 have hk:CellsRel γ (.lst (SV.renL g (kx .i64 constL))) (vs.take k):=hk
 rw [qws] at hk
 have hi:(Cells.lst (kx .i64 constL)).Imp (.fn (fun i=>iw (kW i)) 64):=by
  refine q5y rfl fun i v hv => ?_
  unfold kx at hv
  rw [qja,List.getElem?_map] at hv
  cases hc:constL[i]? with
  | none=>rw [hc] at hv; cases hv
  | some t =>
    rw [hc] at hv
    cases hv
    refine qld ?_
    show (t:Int)=((kW i).toNat:Int)
    have hlt:t<4294967296:=by
     have hall:∀ t∈constL,t<4294967296:=by decide
     exact hall t (List.mem_of_getElem? hc)
    unfold kW atW constV'
    rw [qca,qja,List.getElem?_map,hc]
    exact (qyq hlt).symm
 exact hi _ _ hk
theorem j9f:SumAt Tryd.prog qxd 51 qi8:=by
 intro O w0 β H w base args vs hH hG ha
 refine q6b fun h v hv => ?_
 rcases qjk h with ⟨l,rfl⟩ | hno
 . refine qka fun ws hws=>qta fun h8=>q0q fun hT=>qu4 (fun _=>trivial) fun nm o len hsl=>qta fun hn=>q0u (fun hl=>qid fun X N ht=>fun hle => ?_) fun _=>trivial
   rw [hv] at ha
   rw [qca] at ht
   obtain ⟨x,ys,hx,hys,rfl⟩:=denL_cons.1 ha
   obtain ⟨y,zs,hy,hz,rfl⟩:=denL_cons.1 hys
   obtain ⟨m,hm,hd⟩:=hsl _ _ hy
   rw [hl] at hd
   have h8:=q0b h8
   rw [qha] at h8
   have hx':(SV.agg (ux (qwb ws))).den β=some x:=by
    rw [qzq h8]
    simp only [SV.den,Option.map_eq_some_iff] at hx ⊢
    obtain ⟨us,hus,rfl⟩:=hx
    exact ⟨us,q6t hws _ _ hus,rfl⟩
   have hd':(SV.slice ⟨nm,.sym o⟩ (.lit 64) (.sym m)).den β=some y:=by
    rw [den_slice] at hd ⊢
    exact hd
   rw [qzq (q5p h8)]
   refine Go.Sim.sum_runs (c:=cfgR1) hH ⟨[0,1,2,3,nm],qcp X N,qfl o m ws⟩ (qck (names:=[nm]) (ents:=[rowF X N]) (args:=qfl o m ws) hG) (denL_cons.2 ⟨_,_,?_,denL_cons.2 ⟨_,_,hd',hz,rfl⟩,rfl⟩) (Ifc.fits (nd5 hn) ?_ ⟨⟨hT.s0 _,qtf _ _ _⟩,⟨hT.s1 _,qtf _ _ _⟩,⟨hT.s2 _ rfl,rfl⟩,⟨qc0 hT _,fun _=>rfl⟩,⟨ht _,qfi _ _ _⟩,trivial⟩) [] (by simp) (by simp) (qlb (jbb h8 hle) fun v H2 h => ?_)
   . show (SV.agg (SV.renL _ (ux (qwb ws)))).den β=_
     rw [q4s]; exact hx'
   . show (SV.usesL _ (ux (qwb ws)) && true)=true
     rw [q7t]; rfl
   . subst h
     refine qls rfl ?_ (q7t _ _)
     show SV.agg (ux _)=.agg (SV.renL _ (ux _))
     rw [q4s]
 . rw [hno]; trivial
def cfgR2:Cfg:=cfgG qxd (qkc [(50,padS),(51,qi8)])
theorem qo1:CfgOK cfgR2:=qie (allS (padOK _) (allS j9f (by simp)))
end
end Go.Proofs.YthkgcljngalafaaDoor.Aes
