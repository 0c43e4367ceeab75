/-
  The hash function: what a block does to the words.
-/
import Derived.Test.YthkgcljngalafaaDoorPs8
namespace Go.Proofs.YthkgcljngalafaaDoor.Aes
noncomputable section
open Go.Sim
open Go.Proofs
variable {α:Type}
def atW (l:List W32) (i:Nat):W32:=optC (nth l i) (wd 0) fun x=>x
def qap (X:Nat->BitVec 8) (i:Nat):W32:=(X i).setWidth 32 <<< 24 ||| (X (i+1)).setWidth 32 <<< 16 ||| (X (i+2)).setWidth 32 <<< 8 ||| (X (i+3)).setWidth 32
def qfb (X:Nat->BitVec 8) (o:Nat):List W32:=mapN (fun t=>qap X (o+4 * t)) (qra 16 0)
def qys (y w7 x w16:W32):W32:=(tur2 y 17 19 ^^^ y >>> 10)+w7+(tur2 x 7 18 ^^^ x >>> 3)+w16
def genW (n:Nat):List W32->List W32 :=
 Nat.rec (motive:=fun _=>List W32->List W32) (fun _=>[]) (fun _ ih win=>(fun x=>x::ih (app (qhb win 1) [x])) (qys (atW win 14) (atW win 9) (atW win 1) (atW win 0))) n
def qac (l:List W32):List W32:=app l (genW 48 l)
def rndW (l:List W32) (k w:W32):List W32 :=
 (fun t1 t2=>[t1+t2,atW l 0,atW l 1,atW l 2,atW l 3+t1,atW l 4,atW l 5,atW l 6])
  (atW l 7+tur3 (atW l 4) 6 11 25+qvf (atW l 4) (atW l 5) (atW l 6)+k+w) (tur3 (atW l 0) 2 13 22+majW (atW l 0) (atW l 1) (atW l 2))
def rnds (ks:List W32):List W32->List W32->List W32 :=
 List.rec (motive:=fun _=>List W32->List W32->List W32) (fun _ l=>l) (fun k _ ih ws l=>List.rec (motive:=fun _=>List W32) l (fun w r _=>ih r (rndW l k w)) ws) ks
def addW (l:List W32):List W32->List W32:=List.rec (motive:=fun _=>List W32->List W32) (fun _=>[]) (fun x _ ih m=>List.rec (motive:=fun _=>List W32) [] (fun y r _=>(x+y)::ih r) m) l
def cmpW (l:List W32) (b:List W32):List W32:=addW l (rnds constV' (qac b) l)
def qwb (l:List W32):List W32:=[atW l 0,atW l 1,atW l 2,atW l 3,atW l 4,atW l 5,atW l 6,atW l 7]
def addC (n m o:Nat):List Prop:=List.rec (motive:=fun _=>List Prop) [] (fun t _ ih=>(4 * t+4<=m)::(o+4 * t+0<n)::(o+4 * t+1<n)::(o+4 * t+2<n)::(o+4 * t+3<n)::ih) (qra 16 0)
theorem jtf (a b c d e f g h:W32) (X:Nat->BitVec 8) (n m o el:Nat) (w:Bool):outP [4] (qfa j8c 40000 54 [.ptr ⟨4,.lit 0⟩,.slice ⟨5,.sym o⟩ (.lit 64) (.sym m)] (qjw [.own (.lst (wx [a,b,c,d,e,f,g,h])) w el,rowF X n])) =
  (addC n m o,some (.tuple [],[some (.own (.lst (wx (cmpW [a,b,c,d,e,f,g,h] (qfb X o)))) w el)])):=by kernel_rfl
theorem jsa {n m o:Nat} (hn:o+64<=n) (hm:64<=m):∀ p∈addC n m o,p:=by
 have key:∀ (k j:Nat),j+k=16->∀ p∈(List.rec (motive:=fun _=>List Prop) [] (fun t _ ih=>(4 * t+4<=m)::(o+4 * t+0<n)::(o+4 * t+1<n)::(o+4 * t+2<n)::(o+4 * t+3<n)::ih) (qra k j):List Prop),p:=by
  intro k
  induction k with
  | zero=>intro j _ p hp; cases hp
  | succ k ih =>
    intro j hj p hp
    have hp:p∈(4 * j+4<=m)::(o+4 * j+0<n)::(o+4 * j+1<n)::(o+4 * j+2<n)::(o+4 * j+3<n)::(List.rec (motive:=fun _=>List Prop) [] (fun t _ ih=>(4 * t+4<=m)::(o+4 * t+0<n)::(o+4 * t+1<n)::(o+4 * t+2<n)::(o+4 * t+3<n)::ih) (qra k (j+1)):List Prop):=hp
    simp only [List.mem_cons] at hp
    rcases hp with rfl | rfl | rfl | rfl | rfl | hp
    . omega
    . omega
    . omega
    . omega
    . omega
    . exact ih (j+1) (by omega) p hp
 exact key 16 0 rfl
def si32 (n:SI):Option W32:=SI.rec (motive:=fun _=>Option W32) (fun n=>intC n (fun m=>boolC (Nat.blt m 4294967296) (some (wi m)) none) fun _=>none) (fun _=>none) (fun _=>none) (fun x=>some x) (fun _=>none) n
def unw1 (v:SV):Option W32:=v.asInt none fun k n=>boolC (eqK k .u32) (si32 n) none
def unw (l:List SV):Option (List W32):=List.rec (motive:=fun _=>Option (List W32)) (some []) (fun v _ ih=>optC (unw1 v) none fun x=>optC ih none fun xs=>some (x::xs)) l
theorem qyq {m:Nat} (h:m<4294967296):((wi m).toNat:Int)=(m:Int):=by
 unfold wi
 rw [BitVec.toNat_ofInt]
 simp only [Int.ofNat_eq_natCast]
 omega
theorem jta {v:SV} {x:W32} (h:unw1 v=some x):v.Imp (.int .u32 (.b32 x)):=by
 unfold unw1 at h
 rcases q1b v with ⟨k,n,rfl⟩ | hv
 . obtain ⟨hk,h⟩:=qzb (show boolC (eqK k .u32) (si32 n) none=some x from h)
   rw [qbf hk]
   cases n with
   | lit n =>
     cases n with
     | negSucc m=>cases h
     | ofNat m =>
       obtain ⟨hm,h⟩:=qzb (show boolC (Nat.blt m 4294967296) (some (wi m)) none=some x from h)
       cases h
       intro γ y hy
       have hy:some (Value.int .u32 (m:Int))=some y:=hy
       rw [← qyq (qcy hm)] at hy
       exact hy
   | sym=>cases h
   | b8=>cases h
   | b32 y=>cases h; exact .refl _
   | b64=>cases h
 . rw [hv] at h; cases h
theorem q2t:∀ {l:List SV} {xs:List W32},unw l=some xs->SV.ImpL l (wx xs)
 | [],xs,h=>by cases h; exact .refl _
 | v::l,xs,h=>by
   obtain ⟨x,hx,h⟩:=qaf (show (optC (unw1 v) none fun x=>optC (unw l) none fun xs=>some (x::xs))=some xs from h)
   obtain ⟨ys,hy,h⟩:=qaf h
   cases h
   exact qla (jta hx) (q2t hy)
def ownC (e:Option SO) (f:List SV->Bool->TypeId->R α):R α:=optC e (.stuck 734) fun e=>SO.rec (motive:=fun _=>R α) (fun c w el=>Cells.rec (motive:=fun _=>R α) (fun l=>f l w el) (fun _ _=>.stuck 735) (fun _ _=>.stuck 735) c) (fun _=>.stuck 734) (fun _ _ _ _ _ _ _ _=>.stuck 734) (fun _=>.stuck 734) (.stuck 734) (fun _=>.stuck 734) e
theorem jua {e:Option SO} {f:List SV->Bool->TypeId->R α} {φ:α->Prop} (h:∀ l w el,e=some (.own (.lst l) w el)->(f l w el).Sat φ):(ownC e f).Sat φ:=by
 refine qka fun e' he => ?_
 cases e' with
 | own c w el=>cases c with
   | lst l=>exact h l w el he
   | fn=>trivial
   | raw=>trivial
 | row=>trivial
 | loop=>trivial
 | deferred=>trivial
 | gone=>trivial
 | obj=>trivial
theorem qzq {l:List W32} (h:l.length=8):qwb l=l:=by
 match l,h with
 | [a,b,c,d,e,f,g,h],_=>rfl
theorem q3p:∀ (l m:List W32),l.length=m.length->(addW l m).length=l.length
 | [],_,_=>rfl
 | x::l,[],h=>by cases h
 | x::l,y::m,h=>congrArg (· + 1) (q3p l m (by simpa using h))
theorem q4p:∀ (ks ws l:List W32),l.length=8->(rnds ks ws l).length=8
 | [],_,_,h=>h
 | _::_,[],_,h=>h
 | k::ks,w::ws,l,_=>q4p ks ws (rndW l k w) rfl
theorem q5p {l b:List W32} (h:l.length=8):(cmpW l b).length=8:=by
 unfold cmpW
 rw [q3p _ _ (by rw [h,q4p _ _ _ h])]; exact h
def qvj (n:Nat):Bool:=Nat.ble 4 n
def addS:Summ:=fun args H _=>qhe args fun p v=>optC (qu3 p) (.stuck 736) fun nm=>qf4 H (boolC (qvj nm) (ownC (nth H nm) fun l w el=>optC (unw l) (.stuck 737) fun ws=>boolC (Nat.beq (lenN ws) 8)
 (q8k v (.stuck 738) fun a len=>boolC (qvj a.nm) (boolC (Nat.beq nm a.nm) (.stuck 739) (qw3 len 64 (q2f (nth H a.nm) fun X n=>.need (a.off.den+64<=n) (.ok ⟨.tuple [],[(nm,.own (.lst (wx (qwb (cmpW ws (qfb X a.off.den))))) w el)],[]⟩)) (.stuck 738))) (.stuck 739)) (.stuck 737)) (.stuck 739))
theorem qum {n:Nat} (h:qvj n=true):n≠0/\n≠1/\n≠2/\n≠3:=by
 have:=Nat.le_of_ble_eq_true h
 omega
theorem addOK:SumAt Tryd.prog qxi 54 addS:=by
 intro O w0 β H w base args vs hH hG ha
 refine q6b fun p v hv=>qka fun nm hp=>qev fun hT=>qta fun hn=>jua fun l wh el he=>qka fun ws hws=>qta fun h8 =>
  q5g (fun _=>trivial) fun a len c hs=>qta fun hn2=>q9e (fun _=>trivial) fun hne=>q0u (fun hl=>qid fun X n ht=>fun hle => ?_) fun _=>trivial
 rw [hv,qv3 hp,hs] at ha
 rw [qca] at he ht
 obtain ⟨x,ys,hx,hys,rfl⟩:=denL_cons.1 ha
 obtain ⟨y,zs,hy,hz,rfl⟩:=denL_cons.1 hys
 obtain ⟨m,hlm,hd,_,_⟩:=qcf hy
 rw [hl] at hd hlm
 have h8:=q0b h8
 rw [qha] at h8
 have hne:=qw6 hne
 have hn:=qum hn
 have hn2:=qum hn2
 rw [qzq (q5p h8)]
 match ws,h8 with
 | [a1,a2,a3,a4,a5,a6,a7,a8],_ =>
   exact qw9 jsf 40000 hH (quf [nm,a.nm] [.own (.lst (wx [a1,a2,a3,a4,a5,a6,a7,a8])) wh el,rowF X n] [.ptr ⟨4,.lit 0⟩,.slice ⟨5,.sym a.off.den⟩ (.lit 64) (.sym m)]) (qtm hG)
    (denL_cons.2 ⟨_,_,hx,denL_cons.2 ⟨_,_,hd,hz,rfl⟩,rfl⟩)
    (Ifc.fits (by simp only [quf,List.nodup_cons,List.mem_cons,List.not_mem_nil,or_false,not_or,not_false_eq_true,List.nodup_nil,and_true]; omega) rfl
     (qsm hT ⟨⟨⟨_,he,qy6 (by rw [qxs]; exact q2t hws)⟩,q1t _ _⟩,⟨ht _,qfi _ _ _⟩,trivial⟩)) [] (by simp) (by simp)
    (jtf a1 a2 a3 a4 a5 a6 a7 a8 X n m a.off.den el wh) (jsa hle hlm) fun H2 hH2=>⟨SV.imp_of_eq rfl,rfl,⟨⟨rfl,qv6 (List.cons.inj hH2).1 (q1t _ _) (by show SO.own (.lst (SV.renL _ (wx _))) _ _=_; rw [qxs])⟩,trivial⟩,trivial⟩
end
end Go.Proofs.YthkgcljngalafaaDoor.Aes
