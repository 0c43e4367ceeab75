/-
  The reference's hash: the summaries of Padded and of a block.
-/
import Derived.Test.YthkgcljngalafaaDoorZqPad2
namespace Go.Proofs.YthkgcljngalafaaDoor.Aes
noncomputable section
open Go.Sim
open Go.Proofs
variable {α:Type}
theorem jma {f g:Nat->SV} {n:Nat} (h:∀ i,i<n->(f i).Imp (g i)):(Cells.fn f n).Imp (.fn g n):=fun γ vs hv=>⟨hv.1,fun i x hx=>h i (by have:=(List.getElem?_eq_some_iff.1 hx).1; have:=hv.1; omega) γ x (hv.2 i x hx)⟩
def padR (base:Nat) (X:Nat->BitVec 8) (n:Nat):SumRes:=⟨.slice ⟨base,.lit 0⟩ (.sym (lenP n)) (.rest base 0),[],[.own (.fn (q1a (padF X n n)) (lenP n)) false 5]⟩
def padS:Summ:=fun args H base=>q1d args fun v=>q2l v (.ok (padR base (fun _=>0#8) 0)) fun a l=>q5i (nth H a.nm) fun X N=>.need (a.off.den+l.den<=N/\l.den<=1099511627776) (.ok (padR base (fun i=>X (a.off.den+i)) l.den))
theorem q30 {p:Nat->Bool} {g:Nat->Nat} {E:Option SO} {Y Z:Nat->BitVec 8} {n:Nat} {w:Bool} {el:TypeId} (hE:E=some (.own (.fn (q1a Y) n) w el)) (h:∀ i,i<n->Y i=Z i):qye p g E (.own (.fn (q1a Z) n) w el) :=
 ⟨_,w,el,_,hE,fun _=>rfl,jma fun i hi=>by show (SV.int .u8 (.b8 (Y i))).Imp (.int .u8 (.b8 (Z i))); rw [h i hi]; exact .refl _,rfl⟩
theorem jna (X:Nat->BitVec 8):(Cells.lst (kx .u8 q6k)).Imp (.fn (q1a (padF X 0 0)) 64):=by
 have hl:(kx .u8 q6k).length=64:=by
  unfold kx q6k
  rw [qma,List.length_map,List.length_cons,q9c,List.length_replicate]
 refine q20 hl fun i v hv => ?_
 unfold kx q6k at hv
 rw [qma,q9c] at hv
 have hi:i<64:=by
  have:=(List.getElem?_eq_some_iff.1 hv).1
  simpa using this
 show v.Imp (.int .u8 (.b8 (padF X 0 0 i)))
 unfold padF
 rw [if_neg (by omega)]
 cases i with
 | zero=>simp at hv; subst hv; exact qvd rfl
 | succ i =>
   rw [List.map_cons,List.getElem?_cons_succ,List.map_replicate,List.getElem?_replicate,if_pos (by omega)] at hv
   cases hv
   rw [if_neg (by omega)]
   split
   . refine qvd ?_
     show (0:Int)=((qdh 0 _).toNat:Int)
     unfold qdh
     simp
   . exact qvd rfl
theorem qju {p:Nat->Bool} {g:Nat->Nat} {E:Option SO} (X:Nat->BitVec 8) {el:TypeId} (hE:E=some (.own (.lst (kx .u8 q6k)) false el)):qye p g E (.own (.fn (q1a (padF X 0 0)) 64) false el) :=
 ⟨_,false,el,_,hE,q5d _ _ _,by show (Cells.lst (SV.renL g (kx .u8 q6k))).Imp _; rw [qbu]; exact jna X,rfl⟩
theorem qep {nm:Nat} {l l':SN} (h:l.den=l'.den):(SV.slice ⟨nm,.lit 0⟩ l (.rest nm 0)).Imp (.slice ⟨nm,.lit 0⟩ l' (.rest nm 0)):=by
 intro γ x hx
 rw [den_slice] at hx ⊢
 rw [← h]; exact hx
theorem padOK:qdb Tryd.prog 50 padS:=by
 intro glob O w0 β H w base args vs hH hG ha
 refine q5b fun v hv=>qrh (fun hn => ?_) fun a l c hs=>qze fun X N ht=>fun hle => ?_
 . rw [hv,hn] at ha
   exact q8z qkk rfl 12000 hH ⟨[],[],[.nilSlice]⟩ ha (qut rfl) [128] (by simp) (by simp) j2h qaa fun H2 hH2=>⟨qep rfl,rfl,trivial,⟨qju _ (List.cons.inj hH2).1,trivial⟩⟩
 . rw [hv,hs] at ha
   rw [qfa] at ht
   obtain ⟨x,ys,hx,hys,rfl⟩:=denL_cons.1 ha
   obtain ⟨m,hm,hd,hd',_⟩:=qyf hx
   have hfit:∀ args:List SV,SV.usesL (Ifc.known ⟨[a.nm],[rowF X N],args⟩) args=true->Ifc.Fits ⟨[a.nm],[rowF X N],args⟩ H:=fun args hu=>Ifc.fits (by simp) hu ⟨⟨ht _,q6i _ _ _⟩,trivial⟩
   by_cases h0:l.den=0
   . rw [h0]
     rw [h0] at hd
     exact q8z qkk rfl 12000 hH ⟨[a.nm],[rowF X N],[.slice ⟨0,.sym a.off.den⟩ (.lit 0) (.sym m)]⟩ (denL_cons.2 ⟨_,_,hd,hys,rfl⟩) (hfit _ rfl) [129] (by simp) (by simp) (jkd X N a.off.den m) (all_cons (by omega) qaa) fun H2 hH2=>⟨qep rfl,rfl,trivial,⟨qju _ (List.cons.inj hH2).1,trivial⟩⟩
   . exact Go.Sim.sum_runs (c:=cfg0) hH ⟨[a.nm],[rowF X N],qcq a.off.den l.den m⟩ (fun g j h=>by cases h) (denL_cons.2 ⟨_,_,hd,hys,rfl⟩) (hfit _ rfl) [17] (by simp) (by simp)
      (qlb (jld hle.1 h0 hle.2) fun v H2 ⟨Y,h1,h2,h3⟩=>⟨by rw [h1]; exact qep rfl,by rw [h1]; rfl,trivial,⟨q30 h2 h3,trivial⟩⟩)
def uni1 (v:SV):Option W32:=v.asInt none fun k n=>boolC (eqK k .i64) (si32 n) none
def unI (l:List SV):Option (List W32):=List.rec (motive:=fun _=>Option (List W32)) (some []) (fun v _ ih=>optC (uni1 v) none fun x=>optC ih none fun xs=>some (x::xs)) l
theorem jmd {v:SV} {x:W32} (h:uni1 v=some x):v.Imp (iw x):=by
 unfold uni1 at h
 rcases qbc v with ⟨k,n,rfl⟩ | hv
 . obtain ⟨hk,h⟩:=q4b (show boolC (eqK k .i64) (si32 n) none=some x from h)
   rw [qxf hk]
   cases n with
   | lit n =>
     cases n with
     | negSucc m=>cases h
     | ofNat m =>
       obtain ⟨hm,h⟩:=q4b (show boolC (Nat.blt m 4294967296) (some (wi m)) none=some x from h)
       cases h
       exact qvd (q5r (q6z hm)).symm
   | sym=>cases h
   | b8=>cases h
   | b32 y=>cases h; exact .refl _
   | b64=>cases h
 . rw [hv] at h; cases h
theorem qsv:∀ {l:List SV} {xs:List W32},unI l=some xs->SV.ImpL l (ux xs)
 | [],xs,h=>by cases h; exact .refl _
 | v::l,xs,h=>by
   obtain ⟨x,hx,h⟩:=qwf (show (optC (uni1 v) none fun x=>optC (unI l) none fun xs=>some (x::xs))=some xs from h)
   obtain ⟨ys,hy,h⟩:=qwf h
   cases h
   exact qba (jmd hx) (qsv hy)
theorem qku (f:Nat->Nat):∀ xs,SV.renL f (ux xs)=ux xs
 | []=>rfl
 | x::xs=>by show _::SV.renL f (ux xs)=_; rw [qku f xs]; rfl
theorem qtv (p:Nat->Bool):∀ xs,SV.usesL p (ux xs)=true
 | []=>rfl
 | x::xs=>by show (true && SV.usesL p (ux xs))=true; rw [qtv p xs]; rfl
def joa (v:SV) (nil:R α) (f:Nat->Nat->SN->R α):R α :=
 SV.rec (motive_1:=fun _=>R α) (motive_2:=fun _=>Unit) (fun _ _=>.stuck 713) (fun _=>.stuck 713) (fun _=>.stuck 713) (fun _=>.stuck 713) (.stuck 713) (fun a l _=>f a.nm a.off.den l) nil (fun _=>.stuck 713) (.stuck 713) (fun _ _ _ _ _=>.stuck 713) (.stuck 713) (fun _ _ _=>.stuck 713) (.stuck 713) (fun _ _=>.stuck 713) (fun _ _=>.stuck 713) (fun _=>.stuck 713)
  (fun a n l _=>.need (0<l.den) (f a.nm (a.off.den+n.den) l)) () (fun _ _ _ _=>()) v
theorem q46 {v:SV} {nil:R α} {f:Nat->Nat->SN->R α} {φ:α->Prop} (h0:v=.nilSlice->nil.Sat φ)
  (h:∀ nm o l,(∀ γ x,v.den γ=some x->∃ m,l.den<=m/\(SV.slice ⟨nm,.sym o⟩ (.sym l.den) (.sym m)).den γ=some x)->(f nm o l).Sat φ):(joa v nil f).Sat φ:=by
 cases v <;> first | trivial | exact h0 rfl | skip
 . rename_i a l c
   exact h a.nm a.off.den l fun γ x hx=>by
    obtain ⟨m,h1,h2,_,_⟩:=qyf hx
    exact ⟨m,h1,h2⟩
 . rename_i a n l c
   intro hl
   refine h a.nm (a.off.den+n.den) l fun γ x hx => ?_
   rw [qnc] at hx
   obtain ⟨A,C,hA,hC,hle,rfl⟩:=hx
   rw [if_neg (by omega)]
   refine ⟨C,hle,?_⟩
   rw [den_slice]
   obtain ⟨ll,hl2,rfl⟩:=SA.den_some hA
   exact ⟨_,C,by simp only [SA.den,hl2,Option.map_some,SN.den]; rfl,rfl,hle,by rw [qcb,Nat.add_assoc]; rfl⟩
def jpa:Summ:=fun args H _=>qkd args fun h v=>h.asAgg (.stuck 762) fun l=>optC (unI l) (.stuck 762) fun ws=>boolC (Nat.beq (lenN ws) 8) (shaT H (joa v (.stuck 763) fun nm o len=>boolC (qyc nm) (qc6 len 64 (q5i (nth H nm) fun X N=>.need (o+64<=N) (.ok ⟨.agg (ux (q1b (cmpW ws (qjb X o)))),[],[]⟩)) (.stuck 763)) (.stuck 763))) (.stuck 762)
theorem qc2 {H:List SO} (hT:ShaT H) (g:Nat->Nat):∃ e',H[3]? = some e'/\Taken g qgy e':=by
 obtain ⟨e',he,c0,hc,hf⟩:=hT.s3 g
 refine ⟨e',he,c0,hc,?_⟩
 intro γ vs hv
 obtain ⟨k,hk⟩:=hf γ vs hv
 refine ⟨k,?_⟩
 have hk:CellsRel γ (.lst (SV.renL g (kx .i64 constL))) (vs.take k):=hk
 rw [qbu] at hk
 have hi:(Cells.lst (kx .i64 constL)).Imp (.fn (fun i=>iw (kW i)) 64):=by
  refine q20 rfl fun i v hv => ?_
  unfold kx at hv
  rw [qma,List.getElem?_map] at hv
  cases hc:constL[i]? with
  | none=>rw [hc] at hv; cases hv
  | some t =>
    rw [hc] at hv
    cases hv
    refine qvd ?_
    show (t:Int)=((kW i).toNat:Int)
    have hlt:t<4294967296:=by
     have hall:∀ t∈constL,t<4294967296:=by decide
     exact hall t (List.mem_of_getElem? hc)
    unfold kW atW constV'
    rw [qfa,qma,List.getElem?_map,hc]
    exact (q5r hlt).symm
 exact hi _ _ hk
theorem j5h:SumAt Tryd.prog qhc 51 jpa:=by
 intro O w0 β H w base args vs hH hG ha
 refine qrb fun h v hv => ?_
 rcases qdl h with ⟨l,rfl⟩ | hno
 . refine qda fun ws hws=>qva fun h8=>qnk fun hT=>q46 (fun _=>trivial) fun nm o len hsl=>qva fun hn=>qqw (fun hl=>qze fun X N ht=>fun hle => ?_) fun _=>trivial
   rw [hv] at ha
   rw [qfa] at ht
   obtain ⟨x,ys,hx,hys,rfl⟩:=denL_cons.1 ha
   obtain ⟨y,zs,hy,hz,rfl⟩:=denL_cons.1 hys
   obtain ⟨m,hm,hd⟩:=hsl _ _ hy
   rw [hl] at hd
   have h8:=q8b h8
   rw [qia] at h8
   have hx':(SV.agg (ux (q1b ws))).den β=some x:=by
    rw [q6r h8]
    simp only [SV.den,Option.map_eq_some_iff] at hx ⊢
    obtain ⟨us,hus,rfl⟩:=hx
    exact ⟨us,qsv hws _ _ hus,rfl⟩
   have hd':(SV.slice ⟨nm,.sym o⟩ (.lit 64) (.sym m)).den β=some y:=by
    rw [den_slice] at hd ⊢
    exact hd
   rw [q6r (q7q h8)]
   refine Go.Sim.sum_runs (c:=cfgR1) hH ⟨[0,1,2,3,nm],qaq X N,qbm o m ws⟩ (qzf (names:=[nm]) (ents:=[rowF X N]) (args:=qbm o m ws) hG) (denL_cons.2 ⟨_,_,?_,denL_cons.2 ⟨_,_,hd',hz,rfl⟩,rfl⟩) (Ifc.fits (nd5 hn) ?_ ⟨⟨hT.s0 _,q5d _ _ _⟩,⟨hT.s1 _,q5d _ _ _⟩,⟨hT.s2 _ rfl,rfl⟩,⟨qc2 hT _,fun _=>rfl⟩,⟨ht _,q6i _ _ _⟩,trivial⟩) [] (by simp) (by simp) (qlb (jhd h8 hle) fun v H2 h => ?_)
   . show (SV.agg (SV.renL _ (ux (q1b ws)))).den β=_
     rw [qku]; exact hx'
   . show (SV.usesL _ (ux (q1b ws)) && true)=true
     rw [qtv]; rfl
   . subst h
     refine qvt rfl ?_ (qtv _ _)
     show SV.agg (ux _)=.agg (SV.renL _ (ux _))
     rw [qku]
 . rw [hno]; trivial
def cfgR2:Cfg:=cfgG qhc (qdc [(50,padS),(51,jpa)])
theorem qv3:CfgOK cfgR2:=qzd (allS (padOK _) (allS j5h (by simp)))
end
end Go.Proofs.YthkgcljngalafaaDoor.Aes
