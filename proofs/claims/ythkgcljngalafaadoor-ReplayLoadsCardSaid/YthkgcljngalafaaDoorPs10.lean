/-
  Texts behind one another: the symbolic simulator and what it is told of the program.
-/
import Derived.Test.YthkgcljngalafaaDoorZsRfh1
namespace Go.Proofs.YthkgcljngalafaaDoor.Aes
noncomputable section
open Go.Sim
open Go.Proofs
variable {α:Type}
def kW (i:Nat):W32:=atW constV' i
def qmw:SO:=.row (.fn (fun i=>iw (kW i)) 64)
def rfhH (l:List SO):List SO:=qah::qbh::qxm::qmw::l
section
variable (X:Nat->BitVec 8) (N o m:Nat) (L:List W32)
def qfl:List SV:=[.agg (ux (qwb L)),.slice ⟨4,.sym o⟩ (.lit 64) (.sym m)]
def qcp:List SO:=rfhH [rowF X N]
def qo4:SS:=qpd (qfa (cfgR1.at none) 1888 51 (qfl o m L) (qcp X N)) []
structure BlkA where
 t:Int
 W:Nat->W32
def blkC (A:BlkA):Cut :=
 ⟨qqd (qo4 X N o m L).frames [[(2,.ptr ⟨5,.lit 0⟩),(4,.ptr ⟨6,.lit 0⟩),(5,.ptr ⟨7,.lit 0⟩),(8,.int .i64 (.sym A.t))]],
  [.ent qah,.ent qbh,.ent qxm,.ent qmw,.ent (rowF X N),.ent (.own (.lst (ux (qwb L))) true 91),entN (qo4 X N o m L).heap 6,.ent (.own (.fn (fun j=>iw (A.W j)) 64) true 105)]⟩
def junk0:Junk:=⟨fun _ _=>undef,fun _ _=>undef⟩
def blkS3:SS:=qpd (sim1 (cfgR1.at (some (1,3))) 400 ((blkC X N o m L ⟨64,fun _=>wd 0⟩).fill junk0)) [false]
structure BlkB where
 t:Int
 W:Nat->W32
 V:List W32
def blkD (B:BlkB):Cut :=
 ⟨qqd (blkS3 X N o m L).frames [[(2,.ptr ⟨5,.lit 0⟩),(4,.ptr ⟨6,.lit 0⟩),(5,.ptr ⟨7,.lit 0⟩),(13,.ptr ⟨8,.lit 0⟩),(14,.int .i64 (.sym B.t))]],
  [.ent qah,.ent qbh,.ent qxm,.ent qmw,.ent (rowF X N),.ent (.own (.lst (ux (qwb L))) true 91),entN (qo4 X N o m L).heap 6,.ent (.own (.fn (fun j=>iw (B.W j)) 64) true 105),.ent (.own (.lst (ux (qwb B.V))) true 91)]⟩
inductive BlkS where
 | a (A:BlkA)
 | b (B:BlkB)
def blkX (S:BlkS):Cut:=BlkS.rec (motive:=fun _=>Cut) (fun A=>blkC X N o m L A) (fun B=>blkD X N o m L B) S
def qzs:List Nat:=qra 8 0
def eI (i:Nat) (r:Nat):Int:=Nat.rec (motive:=fun _=>Int) (0+((X i).toNat:Int)) (fun r e=>qyc .i64 (Int.mul 256 e)+((X (i+(r+1))).toNat:Int)) r
def cBlk:List Prop:=List.rec (motive:=fun _=>List Prop) [] (fun t _ ih=>(o+(4 * t+0)<N)::qpa (eI X (o+4 * t) 0)::(o+(4 * t+1)<N)::qpa (eI X (o+4 * t) 1)::(o+(4 * t+2)<N)::qpa (eI X (o+4 * t) 2)::(o+(4 * t+3)<N)::qpa (eI X (o+4 * t) 3)::ih) (qra 16 0)
def wL0:List SV:=app (mapN (fun t=>.int .i64 (.sym (eI X (o+4 * t) 3))) (qra 16 0)) (repN (.int .i64 (.lit 0)) 48)
theorem j4a (W:Nat->W32) (z:Nat->Nat->Nat):outL [] (blkC X N o m L ⟨16,W⟩) qzs (qfa (cfgR1.at none) 1888 51 (qfl o m L) (qcp X N)) [] z =
  (cBlk X N o,some (.inr (qeb [(0,8,.int .i64 (.lit 16))] [(7,.ent (.own (.lst (wL0 X o)) true 105))] (qqa qzs 8 (blkC X N o m L ⟨16,W⟩))))):=by kernel_rfl
def atI (W:Nat->W32) (i:Int):W32:=W (0+i.toNat * 1)
def sg1 (y:W32):W32:=rrt y 17 ^^^ rrt y 19 ^^^ y >>> 10
def rsg0 (x:W32):W32:=rrt x 7 ^^^ rrt x 18 ^^^ x >>> 3
def q0i (A:BlkA):Int:=((sg1 (atI A.W (A.t - 2))).toNat:Int)+((atI A.W (A.t - 7)).toNat:Int)+((rsg0 (atI A.W (A.t - 15))).toNat:Int)+((atI A.W (A.t - 16)).toNat:Int)
def rrdC (A:BlkA) (k:Int) (r:List Prop):List Prop:=qpa (A.t - k)::(0<=A.t - k/\A.t - k<64)::(0+(A.t - k).toNat * 1<64)::r
def c2 (A:BlkA):List Prop:=(decide (A.t<64)=true)::rrdC A 15 (rrdC A 2 (rrdC A 7 (qpa (((sg1 (atI A.W (A.t - 2))).toNat:Int)+((atI A.W (A.t - 7)).toNat:Int))::qpa (((sg1 (atI A.W (A.t - 2))).toNat:Int)+((atI A.W (A.t - 7)).toNat:Int)+((rsg0 (atI A.W (A.t - 15))).toNat:Int)) ::
 rrdC A 16 [qpa (q0i A),0<=q0i A,0<=A.t/\A.t<64,0+A.t.toNat * 1<64,qpa (A.t+1)])))
def newW (A:BlkA):Nat->W32:=fun j=>if j=0+A.t.toNat * 1 then BitVec.ofInt 32 (q0i A) else A.W j
theorem q97 (A:BlkA) (J:Junk) (z:Nat->Nat->Nat):outL [] (blkC X N o m L A) qzs (sim1 (cfgR1.at (some (1,3))) 4000 ((blkC X N o m L A).fill J)) [true] z =
  (c2 A,some (.inr (qeb [] [(7,.ent (.own (.fn (fun j=>if j=0+A.t.toNat * 1 then iw (BitVec.ofInt 32 (q0i A)) else iw (A.W j)) 64) true 105))] (qqa qzs 8 (blkC X N o m L ⟨A.t+1,newW A⟩))))):=by kernel_rfl
def qgl:List Nat:=qra 9 0
theorem qa8 (A:BlkA) (t:Int) (J:Junk) (z:Nat->Nat->Nat):outL [] (blkD X N o m L ⟨t,A.W,L⟩) qgl (sim1 (cfgR1.at (some (1,3))) 4000 ((blkC X N o m L A).fill J)) [false] z =
  ([decide (A.t<64)=false],some (.inr (qeb [(0,14,.int .i64 (.lit 0))] [] (qqa qgl 9 (blkD X N o m L ⟨t,A.W,L⟩))))):=by kernel_rfl
def s1V (V:List W32):W32:=rrt (atW V 4) 6 ^^^ rrt (atW V 4) 11 ^^^ rrt (atW V 4) 25
def s0V (V:List W32):W32:=rrt (atW V 0) 2 ^^^ rrt (atW V 0) 13 ^^^ rrt (atW V 0) 22
def tI1 (B:BlkB):Int:=((atW B.V 7).toNat:Int)+((s1V B.V).toNat:Int)
def tI2 (B:BlkB):Int:=tI1 B+((qvf (atW B.V 4) (atW B.V 5) (atW B.V 6)).toNat:Int)
def tI3 (B:BlkB):Int:=tI2 B+((atI kW B.t).toNat:Int)
def tI4 (B:BlkB):Int:=tI3 B+((atI B.W B.t).toNat:Int)
def tI5 (B:BlkB):Int:=((s0V B.V).toNat:Int)+((majW (atW B.V 0) (atW B.V 1) (atW B.V 2)).toNat:Int)
def tA (B:BlkB):Int:=tI4 B+tI5 B
def tE (B:BlkB):Int:=((atW B.V 3).toNat:Int)+tI4 B
def ixC (t:Int) (r:List Prop):List Prop:=(0<=t/\t<64)::(0+t.toNat * 1<64)::r
def c3 (B:BlkB):List Prop:=(decide (B.t<64)=true)::qpa (tI1 B)::qpa (tI2 B)::ixC B.t (qpa (tI3 B)::ixC B.t [qpa (tI4 B),qpa (tI5 B),qpa (tA B),0<=tA B,qpa (tE B),0<=tE B,qpa (B.t+1)])
def newV (B:BlkB):List W32:=[BitVec.ofInt 32 (tA B),atW B.V 0,atW B.V 1,atW B.V 2,BitVec.ofInt 32 (tE B),atW B.V 4,atW B.V 5,atW B.V 6]
theorem qb8 (B:BlkB) (J:Junk) (z:Nat->Nat->Nat):outL [] (blkD X N o m L B) qgl (sim1 (cfgR1.at (some (1,3))) 4000 ((blkD X N o m L B).fill J)) [true] z =
  (c3 B,some (.inr (qqa qgl 9 (blkD X N o m L ⟨B.t+1,B.W,newV B⟩)))):=by kernel_rfl
def sumI (L V:List W32) (i:Nat):Int:=((atW L i).toNat:Int)+((atW V i).toNat:Int)
def c4 (B:BlkB):List Prop:=(decide (B.t<64)=false)::List.rec (motive:=fun _=>List Prop) [] (fun i _ ih=>qpa (sumI L B.V i)::(0<=sumI L B.V i)::ih) (qra 8 0)
def endV (V:List W32):List W32:=mapN (fun i=>BitVec.ofInt 32 (sumI L V i)) (qra 8 0)
theorem j5a (B:BlkB) (J:Junk) (z:Nat->Nat->Nat):outL [] (blkD X N o m L B) qgl (sim1 (cfgR1.at none) 4000 ((blkD X N o m L B).fill J)) [false] z =
  (c4 L B,some (.inl (.agg (ux (endV L B.V)),[]))):=by kernel_rfl
theorem q0s (A A':BlkA):boolC (q5a 5 qzs (blkC X N o m L A) (blkC X N o m L A')) (allN qwa (blkC X N o m L A').heap) false=true:=by kernel_rfl
theorem q1s (B B':BlkB):boolC (q5a 5 qgl (blkD X N o m L B) (blkD X N o m L B')) (allN qwa (blkD X N o m L B').heap) false=true:=by kernel_rfl
theorem j6a (A:BlkA):(((blkX X N o m L (.a A)).frames[0]?).bind fun p=>p.tmps[8]?)=some (some (.int .i64 (.sym A.t))):=by kernel_rfl
theorem j7a (B:BlkB):(((blkX X N o m L (.b B)).frames[0]?).bind fun p=>p.tmps[14]?)=some (some (.int .i64 (.sym B.t))):=by kernel_rfl
end
end
noncomputable section
open Go.Sim
open Go.Proofs
variable {α:Type}
theorem qa0 (x0 x1 x2 x3 x4 x5 x6 x7 x8 x9 x10 x11 x12 x13 x14 x15:W32) :
  mapN (fun t=>atW (qac [x0,x1,x2,x3,x4,x5,x6,x7,x8,x9,x10,x11,x12,x13,x14,x15]) t) (qra 48 16)=mapN (fun t=>qys (atW (qac [x0,x1,x2,x3,x4,x5,x6,x7,x8,x9,x10,x11,x12,x13,x14,x15]) (Nat.sub t 2)) (atW (qac [x0,x1,x2,x3,x4,x5,x6,x7,x8,x9,x10,x11,x12,x13,x14,x15]) (Nat.sub t 7)) (atW (qac [x0,x1,x2,x3,x4,x5,x6,x7,x8,x9,x10,x11,x12,x13,x14,x15]) (Nat.sub t 15)) (atW (qac [x0,x1,x2,x3,x4,x5,x6,x7,x8,x9,x10,x11,x12,x13,x14,x15]) (Nat.sub t 16))) (qra 48 16):=by kernel_rfl
theorem qc8 {l:List W32} (h:l.length=16) {t:Nat} (h1:16<=t) (h2:t<64):atW (qac l) t=qys (atW (qac l) (t - 2)) (atW (qac l) (t - 7)) (atW (qac l) (t - 15)) (atW (qac l) (t - 16)):=by
 match l,h with
 | [x0,x1,x2,x3,x4,x5,x6,x7,x8,x9,x10,x11,x12,x13,x14,x15],_ =>
   have:=qa0 x0 x1 x2 x3 x4 x5 x6 x7 x8 x9 x10 x11 x12 x13 x14 x15
   rw [qja,qja,qya] at this
   exact List.map_inj_left.1 this t (List.mem_range'.2 ⟨t - 16,by omega,by omega⟩)
theorem q6p:∀ (n:Nat) (win:List W32),(genW n win).length=n
 | 0,_=>rfl
 | n+1,_=>congrArg (· + 1) (q6p n _)
theorem qsh (X:Nat->BitVec 8) (o:Nat):(qfb X o).length=16:=by
 unfold qfb
 rw [qja,List.length_map,qya,List.length_range']
theorem q4t {l:List W32} (h:l.length=16):(qac l).length=64:=by
 unfold qac
 rw [q1a,List.length_append,q6p,h]
theorem qp4 {l:List W32} {j:Nat} (h:j<l.length):atW (qac l) j=atW l j:=by
 unfold qac atW
 rw [q1a,qca,qca,List.getElem?_append_left h]
theorem qq4 (X:Nat->BitVec 8) (o:Nat) {j:Nat} (h:j<16):atW (qfb X o) j=qap X (o+4 * j):=by
 unfold atW qfb
 rw [qca,qja,List.getElem?_map,qya,List.getElem?_range' h]
 simp
theorem q3y (a b:W32):BitVec.ofInt 32 ((a.toNat:Int)+(b.toNat:Int))=a+b:=by
 rw [BitVec.ofInt_add,qmb,qmb]
theorem jci (a b c:W32):BitVec.ofInt 32 ((a.toNat:Int)+(b.toNat:Int)+(c.toNat:Int))=a+b+c:=by
 rw [BitVec.ofInt_add,q3y,qmb]
theorem qd8 (a b c d:W32):BitVec.ofInt 32 ((a.toNat:Int)+(b.toNat:Int)+(c.toNat:Int)+(d.toNat:Int))=a+b+c+d:=by
 rw [BitVec.ofInt_add,jci,qmb]
theorem jdi (a b c d e:W32):BitVec.ofInt 32 ((a.toNat:Int)+(b.toNat:Int)+(c.toNat:Int)+(d.toNat:Int)+(e.toNat:Int))=a+b+c+d+e:=by
 rw [BitVec.ofInt_add,qd8,qmb]
theorem q2s (x:W32):BitVec.ofInt 32 0 ^^^ x=x:=by
 rw [show (BitVec.ofInt 32 0:BitVec 32)=0#32 from rfl,BitVec.zero_xor]
theorem ql1 (x:W32) (a b:Nat):tur2 x a b=rrt x a ^^^ rrt x b:=by unfold tur2; rw [q2s]
theorem qm1 (x:W32) (a b c:Nat):tur3 x a b c=rrt x a ^^^ rrt x b ^^^ rrt x c:=by unfold tur3; rw [q2s]
theorem j8a {A:BlkA}:BitVec.ofInt 32 (q0i A)=qys (atI A.W (A.t - 2)) (atI A.W (A.t - 7)) (atI A.W (A.t - 15)) (atI A.W (A.t - 16)):=by
 unfold q0i qys
 rw [qd8,ql1,ql1]; rfl
theorem j9a (A:BlkA):0<=q0i A/\q0i A<=17179869184:=by
 unfold q0i
 have h1:=(sg1 (atI A.W (A.t - 2))).isLt
 have h2:=(atI A.W (A.t - 7)).isLt
 have h3:=(rsg0 (atI A.W (A.t - 15))).isLt
 have h4:=(atI A.W (A.t - 16)).isLt
 omega
def stN (L ws:List W32) (t:Nat):List W32:=Nat.rec L (fun t s=>rndW s (atW constV' t) (atW ws t)) t
theorem j0f (L ws:List W32) (hw:ws.length=64):∀ (k t:Nat),t+k=64->rnds (constV'.drop t) (ws.drop t) (stN L ws t)=stN L ws 64:=by
 have hc:constV'.length=64:=rfl
 intro k
 induction k with
 | zero =>
   intro t ht
   have:t=64:=by omega
   subst this
   rw [List.drop_of_length_le (by omega)]
   rfl
 | succ k ih =>
   intro t ht
   have h1:constV'.drop t=atW constV' t::constV'.drop (t+1):=by
    rw [List.drop_eq_getElem_cons (by omega)]
    unfold atW
    rw [qca,List.getElem?_eq_getElem (by omega)]; rfl
   have h2:ws.drop t=atW ws t::ws.drop (t+1):=by
    rw [List.drop_eq_getElem_cons (by omega)]
    unfold atW
    rw [qca,List.getElem?_eq_getElem (by omega)]; rfl
   rw [h1,h2]
   exact ih (t+1) (by omega)
theorem qr4 {L ws:List W32} (h:L.length=8):∀ t,(stN L ws t).length=8
 | 0=>h
 | _+1=>rfl
theorem j1f {B:BlkB} {t:Nat} (ht:B.t=t) (h:t<64) {ws:List W32} (hW:∀ j,j<64->B.W j=atW ws j):newV B=rndW B.V (atW constV' t) (atW ws t):=by
 have e1:atI B.W B.t=atW ws t:=by unfold atI; rw [ht,hW _ (by omega)]; congr 1; omega
 have e2:atI kW B.t=atW constV' t:=by unfold atI kW; rw [ht]; congr 1; omega
 have h4:BitVec.ofInt 32 (tI4 B)=atW B.V 7+tur3 (atW B.V 4) 6 11 25+qvf (atW B.V 4) (atW B.V 5) (atW B.V 6)+atW constV' t+atW ws t:=by
  unfold tI4 tI3 tI2 tI1
  rw [jdi,qm1,e1,e2]; rfl
 have h5:BitVec.ofInt 32 (tI5 B)=tur3 (atW B.V 0) 2 13 22+majW (atW B.V 0) (atW B.V 1) (atW B.V 2):=by
  unfold tI5
  rw [q3y,qm1]; rfl
 unfold newV tA tE rndW
 rw [BitVec.ofInt_add,BitVec.ofInt_add,h4,h5,qmb]
theorem tI_le (B:BlkB):0<=tI1 B/\tI1 B<=2 ^ 33/\0<=tI2 B/\tI2 B<=2 ^ 34/\0<=tI3 B/\tI3 B<=2 ^ 35/\0<=tI4 B/\tI4 B<=2 ^ 36/\0<=tI5 B/\tI5 B<=2 ^ 33/\0<=tA B/\tA B<=2 ^ 37/\0<=tE B/\tE B<=2 ^ 37:=by
 unfold tA tE tI4 tI3 tI2 tI1 tI5
 have h1:=(atW B.V 7).isLt
 have h2:=(s1V B.V).isLt
 have h3:=(qvf (atW B.V 4) (atW B.V 5) (atW B.V 6)).isLt
 have h4:=(atI kW B.t).isLt
 have h5:=(atI B.W B.t).isLt
 have h6:=(s0V B.V).isLt
 have h7:=(majW (atW B.V 0) (atW B.V 1) (atW B.V 2)).isLt
 have h8:=(atW B.V 3).isLt
 omega
theorem j2f {L V:List W32} (h:L.length=8) (h':V.length=8):addW L V=mapN (fun i=>atW L i+atW V i) (qra 8 0):=by
 match L,V,h,h' with
 | [a1,a2,a3,a4,a5,a6,a7,a8],[b1,b2,b3,b4,b5,b6,b7,b8],_,_=>rfl
theorem j3f {L ws:List W32} (h:L.length=8) (hw:ws.length=64):endV L (stN L ws 64)=addW L (rnds constV' ws L):=by
 have hr:=j0f L ws hw 64 0 rfl
 simp only [List.drop_zero] at hr
 rw [show rnds constV' ws L=stN L ws 64 from hr,j2f h (qr4 h 64)]
 unfold endV sumI
 rw [qja,qja]
 exact List.map_congr_left fun i _=>q3y _ _
theorem jad (X:Nat->BitVec 8) (i:Nat):eI X i 0=((X i).toNat:Int)/\eI X i 1=256 * ((X i).toNat:Int)+((X (i+1)).toNat:Int)/\eI X i 2=65536 * ((X i).toNat:Int)+256 * ((X (i+1)).toNat:Int)+((X (i+2)).toNat:Int) /\
  eI X i 3=16777216 * ((X i).toNat:Int)+65536 * ((X (i+1)).toNat:Int)+256 * ((X (i+2)).toNat:Int)+((X (i+3)).toNat:Int):=by
 have b0:=(X i).isLt
 have b1:=(X (i+1)).isLt
 have b2:=(X (i+2)).isLt
 have h0:eI X i 0=((X i).toNat:Int):=by show 0+((X i).toNat:Int)=_; omega
 have h1:eI X i 1=256 * ((X i).toNat:Int)+((X (i+1)).toNat:Int):=by
  show qyc .i64 (256 * eI X i 0)+((X (i+1)).toNat:Int)=_
  rw [h0,qzc,wrap_i64 ⟨by omega,by omega⟩]
 have h2:eI X i 2=65536 * ((X i).toNat:Int)+256 * ((X (i+1)).toNat:Int)+((X (i+2)).toNat:Int):=by
  show qyc .i64 (256 * eI X i 1)+((X (i+2)).toNat:Int)=_
  rw [h1,qzc,wrap_i64 ⟨by omega,by omega⟩]
  omega
 refine ⟨h0,h1,h2,?_⟩
 show qyc .i64 (256 * eI X i 2)+((X (i+3)).toNat:Int)=_
 rw [h2,qzc,wrap_i64 ⟨by omega,by omega⟩]
 omega
theorem q4y {a b k:Nat} (h:b<2 ^ k):a * 2 ^ k ||| b=a * 2 ^ k+b:=by
 rw [Nat.mul_comm,Nat.two_pow_add_eq_or_of_lt h]
theorem qb0 (X:Nat->BitVec 8) (i:Nat):((qap X i).toNat:Int)=eI X i 3:=by
 rw [(jad X i).2.2.2]
 have b0:=(X i).isLt
 have b1:=(X (i+1)).isLt
 have b2:=(X (i+2)).isLt
 have b3:=(X (i+3)).isLt
 have hs:∀ (b:BitVec 8) (k:Nat),k<=24->((b.setWidth 32:W32) <<< k).toNat=b.toNat * 2 ^ k:=by
  intro b k hk
  have hb:=b.isLt
  rw [BitVec.toNat_shiftLeft,BitVec.toNat_setWidth,Nat.shiftLeft_eq,Nat.mod_eq_of_lt (show b.toNat<2 ^ 32 by omega),Nat.mod_eq_of_lt]
  have:2 ^ k<=2 ^ 24:=Nat.pow_le_pow_right (by omega) hk
  calc b.toNat * 2 ^ k<=255 * 2 ^ 24:=Nat.mul_le_mul (by omega) this
   _<2 ^ 32:=by decide
 have h3:((X (i+3)).setWidth 32:W32).toNat=(X (i+3)).toNat:=by
  rw [BitVec.toNat_setWidth,Nat.mod_eq_of_lt (by omega)]
 unfold qap
 rw [BitVec.toNat_or,BitVec.toNat_or,BitVec.toNat_or,hs _ 24 (by omega),hs _ 16 (by omega),hs _ 8 (by omega),h3]
 have e1:(X i).toNat * 2 ^ 24 ||| (X (i+1)).toNat * 2 ^ 16=((X i).toNat * 2 ^ 8+(X (i+1)).toNat) * 2 ^ 16:=by
  rw [q4y (by omega)]; omega
 have e2:((X i).toNat * 2 ^ 8+(X (i+1)).toNat) * 2 ^ 16 ||| (X (i+2)).toNat * 2 ^ 8=(((X i).toNat * 2 ^ 8+(X (i+1)).toNat) * 2 ^ 8+(X (i+2)).toNat) * 2 ^ 8:=by
  rw [q4y (by omega)]; omega
 rw [e1,e2,q4y (by omega)]
 omega
end
end Go.Proofs.YthkgcljngalafaaDoor.Aes
