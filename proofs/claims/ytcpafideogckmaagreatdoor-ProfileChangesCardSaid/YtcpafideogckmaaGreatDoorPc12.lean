/-
  Texts behind one another: the symbolic simulator and what it is told of the program.
-/
import Derived.Test.YtcpafideogckmaaGreatDoorCzRfh2
import Derived.Test.YtcpafideogckmaaGreatDoorPc10
namespace Go.Proofs.YtcpafideogckmaaGreatDoor.Aes
noncomputable section
open Go.Sim
open Go.Proofs
variable {α:Type}
theorem q04 (x0 x1 x2 x3 x4 x5 x6 x7 x8 x9 x10 x11 x12 x13 x14 x15:W32) :
  mapN (fun t=>atW (qqd [x0,x1,x2,x3,x4,x5,x6,x7,x8,x9,x10,x11,x12,x13,x14,x15]) t) (q6a 48 16)=mapN (fun t=>qyw (atW (qqd [x0,x1,x2,x3,x4,x5,x6,x7,x8,x9,x10,x11,x12,x13,x14,x15]) (Nat.sub t 2)) (atW (qqd [x0,x1,x2,x3,x4,x5,x6,x7,x8,x9,x10,x11,x12,x13,x14,x15]) (Nat.sub t 7)) (atW (qqd [x0,x1,x2,x3,x4,x5,x6,x7,x8,x9,x10,x11,x12,x13,x14,x15]) (Nat.sub t 15)) (atW (qqd [x0,x1,x2,x3,x4,x5,x6,x7,x8,x9,x10,x11,x12,x13,x14,x15]) (Nat.sub t 16))) (q6a 48 16):=by kernel_rfl
theorem jde {l:List W32} (h:l.length=16) {t:Nat} (h1:16<=t) (h2:t<64):atW (qqd l) t=qyw (atW (qqd l) (t - 2)) (atW (qqd l) (t - 7)) (atW (qqd l) (t - 15)) (atW (qqd l) (t - 16)):=by
 match l,h with
 | [x0,x1,x2,x3,x4,x5,x6,x7,x8,x9,x10,x11,x12,x13,x14,x15],_ =>
   have:=q04 x0 x1 x2 x3 x4 x5 x6 x7 x8 x9 x10 x11 x12 x13 x14 x15
   rw [qwa,qwa,q2c] at this
   exact List.map_inj_left.1 this t (List.mem_range'.2 ⟨t - 16,by omega,by omega⟩)
theorem qbu:∀ (n:Nat) (win:List W32),(genW n win).length=n
 | 0,_=>rfl
 | n+1,_=>congrArg (· + 1) (qbu n _)
theorem qdk (X:Nat->BitVec 8) (o:Nat):(q7a X o).length=16:=by
 unfold q7a
 rw [qwa,List.length_map,q2c,List.length_range']
theorem qfy {l:List W32} (h:l.length=16):(qqd l).length=64:=by
 unfold qqd
 rw [qib,List.length_append,qbu,h]
theorem qd9 {l:List W32} {j:Nat} (h:j<l.length):atW (qqd l) j=atW l j:=by
 unfold qqd atW
 rw [qib,qga,qga,List.getElem?_append_left h]
theorem qe9 (X:Nat->BitVec 8) (o:Nat) {j:Nat} (h:j<16):atW (q7a X o) j=q4s X (o+4 * j):=by
 unfold atW q7a
 rw [qga,qwa,List.getElem?_map,q2c,List.getElem?_range' h]
 simp
theorem qd3 (a b:W32):BitVec.ofInt 32 ((a.toNat:Int)+(b.toNat:Int))=a+b:=by
 rw [BitVec.ofInt_add,qdc,qdc]
theorem j4t (a b c:W32):BitVec.ofInt 32 ((a.toNat:Int)+(b.toNat:Int)+(c.toNat:Int))=a+b+c:=by
 rw [BitVec.ofInt_add,qd3,qdc]
theorem jee (a b c d:W32):BitVec.ofInt 32 ((a.toNat:Int)+(b.toNat:Int)+(c.toNat:Int)+(d.toNat:Int))=a+b+c+d:=by
 rw [BitVec.ofInt_add,j4t,qdc]
theorem j5t (a b c d e:W32):BitVec.ofInt 32 ((a.toNat:Int)+(b.toNat:Int)+(c.toNat:Int)+(d.toNat:Int)+(e.toNat:Int))=a+b+c+d+e:=by
 rw [BitVec.ofInt_add,jee,qdc]
theorem q4w (x:W32):BitVec.ofInt 32 0 ^^^ x=x:=by
 rw [show (BitVec.ofInt 32 0:BitVec 32)=0#32 from rfl,BitVec.zero_xor]
theorem q55 (x:W32) (a b:Nat):tur2 x a b=rrt x a ^^^ rrt x b:=by unfold tur2; rw [q4w]
theorem q65 (x:W32) (a b c:Nat):tur3 x a b c=rrt x a ^^^ rrt x b ^^^ rrt x c:=by unfold tur3; rw [q4w]
theorem jsh {A:BlkA}:BitVec.ofInt 32 (qql A)=qyw (atI A.W (A.t - 2)) (atI A.W (A.t - 7)) (atI A.W (A.t - 15)) (atI A.W (A.t - 16)):=by
 unfold qql qyw
 rw [jee,q55,q55]; rfl
theorem jth (A:BlkA):0<=qql A/\qql A<=17179869184:=by
 unfold qql
 have h1:=(sg1 (atI A.W (A.t - 2))).isLt
 have h2:=(atI A.W (A.t - 7)).isLt
 have h3:=(rsg0 (atI A.W (A.t - 15))).isLt
 have h4:=(atI A.W (A.t - 16)).isLt
 omega
def stN (L ws:List W32) (t:Nat):List W32:=Nat.rec L (fun t s=>rndW s (atW constV' t) (atW ws t)) t
theorem jqo (L ws:List W32) (hw:ws.length=64):∀ (k t:Nat),t+k=64->rnds (constV'.drop t) (ws.drop t) (stN L ws t)=stN L ws 64:=by
 have hc:constV'.length=64:=rfl
 intro k
 induction k with
 | zero =>
   intro t ht
   have:t=64:=by omega
   subst this
   rw [List.drop_of_length_le (by omega)]
   rfl
 | succ k ih =>
   intro t ht
   have h1:constV'.drop t=atW constV' t::constV'.drop (t+1):=by
    rw [List.drop_eq_getElem_cons (by omega)]
    unfold atW
    rw [qga,List.getElem?_eq_getElem (by omega)]; rfl
   have h2:ws.drop t=atW ws t::ws.drop (t+1):=by
    rw [List.drop_eq_getElem_cons (by omega)]
    unfold atW
    rw [qga,List.getElem?_eq_getElem (by omega)]; rfl
   rw [h1,h2]
   exact ih (t+1) (by omega)
theorem qf9 {L ws:List W32} (h:L.length=8):∀ t,(stN L ws t).length=8
 | 0=>h
 | _+1=>rfl
theorem jro {B:BlkB} {t:Nat} (ht:B.t=t) (h:t<64) {ws:List W32} (hW:∀ j,j<64->B.W j=atW ws j):newV B=rndW B.V (atW constV' t) (atW ws t):=by
 have e1:atI B.W B.t=atW ws t:=by unfold atI; rw [ht,hW _ (by omega)]; congr 1; omega
 have e2:atI kW B.t=atW constV' t:=by unfold atI kW; rw [ht]; congr 1; omega
 have h4:BitVec.ofInt 32 (tI4 B)=atW B.V 7+tur3 (atW B.V 4) 6 11 25+qji (atW B.V 4) (atW B.V 5) (atW B.V 6)+atW constV' t+atW ws t:=by
  unfold tI4 tI3 tI2 tI1
  rw [j5t,q65,e1,e2]; rfl
 have h5:BitVec.ofInt 32 (tI5 B)=tur3 (atW B.V 0) 2 13 22+majW (atW B.V 0) (atW B.V 1) (atW B.V 2):=by
  unfold tI5
  rw [qd3,q65]; rfl
 unfold newV tA tE rndW
 rw [BitVec.ofInt_add,BitVec.ofInt_add,h4,h5,qdc]
theorem tI_le (B:BlkB):0<=tI1 B/\tI1 B<=2 ^ 33/\0<=tI2 B/\tI2 B<=2 ^ 34/\0<=tI3 B/\tI3 B<=2 ^ 35/\0<=tI4 B/\tI4 B<=2 ^ 36/\0<=tI5 B/\tI5 B<=2 ^ 33/\0<=tA B/\tA B<=2 ^ 37/\0<=tE B/\tE B<=2 ^ 37:=by
 unfold tA tE tI4 tI3 tI2 tI1 tI5
 have h1:=(atW B.V 7).isLt
 have h2:=(s1V B.V).isLt
 have h3:=(qji (atW B.V 4) (atW B.V 5) (atW B.V 6)).isLt
 have h4:=(atI kW B.t).isLt
 have h5:=(atI B.W B.t).isLt
 have h6:=(s0V B.V).isLt
 have h7:=(majW (atW B.V 0) (atW B.V 1) (atW B.V 2)).isLt
 have h8:=(atW B.V 3).isLt
 omega
theorem jso {L V:List W32} (h:L.length=8) (h':V.length=8):addW L V=mapN (fun i=>atW L i+atW V i) (q6a 8 0):=by
 match L,V,h,h' with
 | [a1,a2,a3,a4,a5,a6,a7,a8],[b1,b2,b3,b4,b5,b6,b7,b8],_,_=>rfl
theorem jto {L ws:List W32} (h:L.length=8) (hw:ws.length=64):endV L (stN L ws 64)=addW L (rnds constV' ws L):=by
 have hr:=jqo L ws hw 64 0 rfl
 simp only [List.drop_zero] at hr
 rw [show rnds constV' ws L=stN L ws 64 from hr,jso h (qf9 h 64)]
 unfold endV sumI
 rw [qwa,qwa]
 exact List.map_congr_left fun i _=>qd3 _ _
theorem j1l (X:Nat->BitVec 8) (i:Nat):eI X i 0=((X i).toNat:Int)/\eI X i 1=256 * ((X i).toNat:Int)+((X (i+1)).toNat:Int)/\eI X i 2=65536 * ((X i).toNat:Int)+256 * ((X (i+1)).toNat:Int)+((X (i+2)).toNat:Int) /\
  eI X i 3=16777216 * ((X i).toNat:Int)+65536 * ((X (i+1)).toNat:Int)+256 * ((X (i+2)).toNat:Int)+((X (i+3)).toNat:Int):=by
 have b0:=(X i).isLt
 have b1:=(X (i+1)).isLt
 have b2:=(X (i+2)).isLt
 have h0:eI X i 0=((X i).toNat:Int):=by show 0+((X i).toNat:Int)=_; omega
 have h1:eI X i 1=256 * ((X i).toNat:Int)+((X (i+1)).toNat:Int):=by
  show qqg .i64 (256 * eI X i 0)+((X (i+1)).toNat:Int)=_
  rw [h0,qvh,wrap_i64 ⟨by omega,by omega⟩]
 have h2:eI X i 2=65536 * ((X i).toNat:Int)+256 * ((X (i+1)).toNat:Int)+((X (i+2)).toNat:Int):=by
  show qqg .i64 (256 * eI X i 1)+((X (i+2)).toNat:Int)=_
  rw [h1,qvh,wrap_i64 ⟨by omega,by omega⟩]
  omega
 refine ⟨h0,h1,h2,?_⟩
 show qqg .i64 (256 * eI X i 2)+((X (i+3)).toNat:Int)=_
 rw [h2,qvh,wrap_i64 ⟨by omega,by omega⟩]
 omega
theorem qe3 {a b k:Nat} (h:b<2 ^ k):a * 2 ^ k ||| b=a * 2 ^ k+b:=by
 rw [Nat.mul_comm,Nat.two_pow_add_eq_or_of_lt h]
theorem q14 (X:Nat->BitVec 8) (i:Nat):((q4s X i).toNat:Int)=eI X i 3:=by
 rw [(j1l X i).2.2.2]
 have b0:=(X i).isLt
 have b1:=(X (i+1)).isLt
 have b2:=(X (i+2)).isLt
 have b3:=(X (i+3)).isLt
 have hs:∀ (b:BitVec 8) (k:Nat),k<=24->((b.setWidth 32:W32) <<< k).toNat=b.toNat * 2 ^ k:=by
  intro b k hk
  have hb:=b.isLt
  rw [BitVec.toNat_shiftLeft,BitVec.toNat_setWidth,Nat.shiftLeft_eq,Nat.mod_eq_of_lt (show b.toNat<2 ^ 32 by omega),Nat.mod_eq_of_lt]
  have:2 ^ k<=2 ^ 24:=Nat.pow_le_pow_right (by omega) hk
  calc b.toNat * 2 ^ k<=255 * 2 ^ 24:=Nat.mul_le_mul (by omega) this
   _<2 ^ 32:=by decide
 have h3:((X (i+3)).setWidth 32:W32).toNat=(X (i+3)).toNat:=by
  rw [BitVec.toNat_setWidth,Nat.mod_eq_of_lt (by omega)]
 unfold q4s
 rw [BitVec.toNat_or,BitVec.toNat_or,BitVec.toNat_or,hs _ 24 (by omega),hs _ 16 (by omega),hs _ 8 (by omega),h3]
 have e1:(X i).toNat * 2 ^ 24 ||| (X (i+1)).toNat * 2 ^ 16=((X i).toNat * 2 ^ 8+(X (i+1)).toNat) * 2 ^ 16:=by
  rw [qe3 (by omega)]; omega
 have e2:((X i).toNat * 2 ^ 8+(X (i+1)).toNat) * 2 ^ 16 ||| (X (i+2)).toNat * 2 ^ 8=(((X i).toNat * 2 ^ 8+(X (i+1)).toNat) * 2 ^ 8+(X (i+2)).toNat) * 2 ^ 8:=by
  rw [qe3 (by omega)]; omega
 rw [e1,e2,qe3 (by omega)]
 omega
end
noncomputable section
open Go.Sim
open Go.Proofs
variable {α:Type}
theorem qf3 {l:List SV} {g:Nat->SV} {n:Nat} (hl:l.length=n) (h:∀ (i:Nat) (v:SV),l[i]? = some v->v.Imp (g i)):(Cells.lst l).Imp (.fn g n):=by
 intro γ vs hv
 have hlen:=qsb hv
 refine ⟨by omega,fun i x hx => ?_⟩
 have hi:i<l.length:=by
  have:=(List.getElem?_eq_some_iff.1 hx).1
  omega
 obtain ⟨y,hy,hd⟩:=qcf hv (List.getElem?_eq_getElem hi)
 rw [hx] at hy; cases hy
 exact h i _ (List.getElem?_eq_getElem hi) γ x hd
theorem j6t {f g:Nat->SV} {n:Nat} (h:∀ i,(f i).Imp (g i)):(Cells.fn f n).Imp (.fn g n):=fun γ _ hv=>⟨hv.1,fun i x hx=>h i γ x (hv.2 i x hx)⟩
def W0 (X:Nat->BitVec 8) (o:Nat):Nat->W32:=fun j=>if j<16 then q4s X (o+4 * j) else wd 0
theorem qg9 (X:Nat->BitVec 8) (o:Nat):(wL0 X o).length=64:=by
 unfold wL0
 rw [qib,qwa,qai,List.length_append,List.length_map,q2c,List.length_range',List.length_replicate]
theorem juo (X:Nat->BitVec 8) (o:Nat):(Cells.lst (wL0 X o)).Imp (.fn (fun j=>iw (W0 X o j)) 64):=by
 refine qf3 (qg9 X o) fun i v hv => ?_
 unfold wL0 at hv
 rw [qib,qwa,qai] at hv
 by_cases hi:i<16
 . rw [List.getElem?_append_left (by rw [List.length_map,q2c,List.length_range']; exact hi),List.getElem?_map,q2c,List.getElem?_range' hi] at hv
   simp only [Option.map_some,Option.some.injEq] at hv
   subst hv
   refine qvf ?_
   show eI X (o+4 * (0+1 * i)) 3=((W0 X o i).toNat:Int)
   unfold W0
   rw [if_pos hi,q14]
   congr 1; omega
 . have hlt:i<64:=by
    have:=(List.getElem?_eq_some_iff.1 hv).1
    rw [List.length_append,List.length_map,q2c,List.length_range',List.length_replicate] at this
    exact this
   rw [List.getElem?_append_right (by rw [List.length_map,q2c,List.length_range']; omega),List.getElem?_replicate,List.length_map,q2c,List.length_range',if_pos (by omega)] at hv
   cases hv
   refine qvf ?_
   show (0:Int)=((W0 X o i).toNat:Int)
   unfold W0
   rw [if_neg hi]; rfl
theorem juh {X:Nat->BitVec 8} {N o:Nat} (h:o+64<=N):∀ p∈cBlk X N o,p:=by
 have key:∀ (k j:Nat),j+k=16->∀ p∈(List.rec (motive:=fun _=>List Prop) [] (fun t _ ih=>(o+(4 * t+0)<N)::qza (eI X (o+4 * t) 0)::(o+(4 * t+1)<N)::qza (eI X (o+4 * t) 1)::(o+(4 * t+2)<N)::qza (eI X (o+4 * t) 2)::(o+(4 * t+3)<N)::qza (eI X (o+4 * t) 3)::ih) (q6a k j):List Prop),p:=by
  intro k
  induction k with
  | zero=>intro j _ p hp; cases hp
  | succ k ih =>
    intro j hj p hp
    obtain ⟨e0,e1,e2,e3⟩:=j1l X (o+4 * j)
    have b0:=(X (o+4 * j)).isLt
    have b1:=(X (o+4 * j+1)).isLt
    have b2:=(X (o+4 * j+2)).isLt
    have b3:=(X (o+4 * j+3)).isLt
    have hp:p∈(o+(4 * j+0)<N)::qza (eI X (o+4 * j) 0)::(o+(4 * j+1)<N)::qza (eI X (o+4 * j) 1)::(o+(4 * j+2)<N)::qza (eI X (o+4 * j) 2)::(o+(4 * j+3)<N)::qza (eI X (o+4 * j) 3)::(List.rec (motive:=fun _=>List Prop) [] (fun t _ ih=>(o+(4 * t+0)<N)::qza (eI X (o+4 * t) 0)::(o+(4 * t+1)<N)::qza (eI X (o+4 * t) 1)::(o+(4 * t+2)<N)::qza (eI X (o+4 * t) 2)::(o+(4 * t+3)<N)::qza (eI X (o+4 * t) 3)::ih) (q6a k (j+1)):List Prop):=hp
    rw [e0,e1,e2,e3] at hp
    simp only [List.mem_cons] at hp
    rcases hp with rfl | rfl | rfl | rfl | rfl | rfl | rfl | rfl | hp
    . omega
    . exact ⟨by omega,by omega⟩
    . omega
    . exact ⟨by omega,by omega⟩
    . omega
    . exact ⟨by omega,by omega⟩
    . omega
    . exact ⟨by omega,by omega⟩
    . exact ih (j+1) (by omega) p hp
 exact key 16 0 rfl
section
variable {X:Nat->BitVec 8} {N o m:Nat} {L:List W32}
structure OkA (X:Nat->BitVec 8) (o:Nat) (A:BlkA) (t:Nat):Prop where
 at_:A.t=t
 lo:16<=t
 hi:t<=64
 W:∀ j,j<t->A.W j=atW (qqd (q7a X o)) j
structure OkB (X:Nat->BitVec 8) (o:Nat) (L:List W32) (B:BlkB) (t:Nat):Prop where
 at_:B.t=t
 hi:t<=64
 W:∀ j,j<64->B.W j=atW (qqd (q7a X o)) j
 V:B.V=stN L (qqd (q7a X o)) t
def OkS (X:Nat->BitVec 8) (o:Nat) (L:List W32):BlkS->Prop
 | .a A=>∃ t,OkA X o A t
 | .b B=>∃ t,OkB X o L B t
def muS:BlkS->Nat
 | .a A=>200 - A.t.toNat
 | .b B=>100 - B.t.toNat
theorem q8s {A:BlkA} {k:Int} {r:List Prop} (h1:0<=A.t - k) (h2:A.t - k<64) (hr:∀ p∈r,p):∀ p∈rrdC A k r,p :=
 all_cons ⟨by omega,by omega⟩ (all_cons ⟨h1,h2⟩ (all_cons (by omega) hr))
theorem j7t {A:BlkA} {t:Nat} (h:A.t=t) (h1:16<=t) (h2:t<64):∀ p∈c2 A,p:=by
 have hn:=jth A
 have a1:=(sg1 (atI A.W (A.t - 2))).isLt
 have a2:=(atI A.W (A.t - 7)).isLt
 have a3:=(rsg0 (atI A.W (A.t - 15))).isLt
 exact all_cons (decide_eq_true (by omega)) (q8s (by omega) (by omega) (q8s (by omega) (by omega) (q8s (by omega) (by omega) (all_cons ⟨by omega,by omega⟩ (all_cons ⟨by omega,by omega⟩ (q8s (by omega) (by omega) (all_cons ⟨by omega,by omega⟩ (all_cons hn.1 (all_cons ⟨by omega,by omega⟩ (all_cons (by omega) (all_cons ⟨by omega,by omega⟩ qaa)))))))))))
theorem q75 {t:Int} {r:List Prop} (h1:0<=t) (h2:t<64) (hr:∀ p∈r,p):∀ p∈ixC t r,p:=all_cons ⟨h1,h2⟩ (all_cons (by omega) hr)
theorem j8t {B:BlkB} {t:Nat} (h:B.t=t) (h2:t<64):∀ p∈c3 B,p:=by
 have:=tI_le B
 exact all_cons (decide_eq_true (by omega)) (all_cons ⟨by omega,by omega⟩ (all_cons ⟨by omega,by omega⟩ (q75 (by omega) (by omega) (all_cons ⟨by omega,by omega⟩ (q75 (by omega) (by omega) (all_cons ⟨by omega,by omega⟩ (all_cons ⟨by omega,by omega⟩ (all_cons ⟨by omega,by omega⟩ (all_cons (by omega) (all_cons ⟨by omega,by omega⟩ (all_cons (by omega) (all_cons ⟨by omega,by omega⟩ qaa))))))))))))
theorem j9t {V:List W32}:∀ l:List Nat,∀ p∈(List.rec (motive:=fun _=>List Prop) [] (fun i _ ih=>qza (sumI L V i)::(0<=sumI L V i)::ih) l:List Prop),p:=by
 intro l
 induction l with
 | nil=>intro p hp; cases hp
 | cons i l ih =>
   have a1:=(atW L i).isLt
   have a2:=(atW V i).isLt
   exact all_cons ⟨by unfold sumI; omega,by unfold sumI; omega⟩ (all_cons (by unfold sumI; omega) ih)
theorem jau {B:BlkB} {t:Nat} (h:B.t=t) (h2:64<=t):∀ p∈c4 L B,p:=by
 refine all_cons (decide_eq_false (by omega)) ?_
 exact j9t (q6a 8 0)
theorem qgy {C:Cut} {i j:Nat} {v:SV} (h:((C.frames[i]?).bind fun p=>p.tmps[j]?)=some (some v)) {p:SP} {u:Option SV} (hp:C.frames[i]? = some p) (hu:p.tmps[j]? = some u) {w:SV} {f:Nat->Nat} (hi:w.Imp (v.ren f)):∃ x,u=some x/\w.Imp (x.ren f):=by
 rw [hp] at h
 simp only [Option.bind_some,hu,Option.some.injEq] at h
 exact ⟨v,h,hi⟩
theorem jbu {c:Prop} [Decidable c] {a b:W32}:(if c then iw a else iw b).Imp (iw (if c then a else b)):=by
 split <;> exact .refl _
theorem jvh (hL:L.length=8) (hN:o+64<=N):Runs cfgR1 68 (qno o m L) (q7s X N) fun v _=>v=.agg (ux (cmpW L (q7a X o))):=by
 have hw64:=qfy (qdk X o)
 refine qng jpo (blkX X N o m L) (OkS X o L) muS (fun g nm hg=>Nat.lt_of_lt_of_le (qbq hg) (by show 3<=5; omega)) ?_ fun S hS J => ?_
 . refine qpg none 1888 (.a ⟨16,W0 X o⟩) ⟨16,rfl,Nat.le_refl _,by omega,fun j hj => ?_⟩ (joh X N o m L (W0 X o)) (q2w X N o m L _ _) ?_ ?_ (juh hN)
   . show W0 X o j=_
     rw [qd9 (by rw [qdk]; exact hj),qe9 X o hj]
     unfold W0
     rw [if_pos hj]
   . intro e he p u hp hu
     rw [List.mem_singleton] at he; subst he
     exact qgy (jqh X N o m L _) hp hu (qvf rfl)
   . intro e he E0 hE
     rw [List.mem_singleton] at he; subst he
     cases hE
     exact ⟨_,rfl,juo X o⟩
 . cases S with
   | a A =>
     obtain ⟨t,hA⟩:=hS
     have hlo:=hA.lo
     have hat:=hA.at_
     by_cases ht:t<64
     . refine qvc (some (1,3)) 4000 (.a ⟨A.t+1,newW A⟩) ⟨⟨t+1,by show A.t+1=_; omega,by omega,by omega,fun j hj => ?_⟩,?_⟩ (jae X N o m L A J) (q2w X N o m L _ _) (by simp) ?_ (j7t hA.at_ hA.lo ht)
       . have hi:∀ k:Nat,k<=16->1<=k->atI A.W (A.t - (k:Int))=atW (qqd (q7a X o)) (t - k):=by
          intro k hk hk1
          unfold atI
          rw [show 0+(A.t - (k:Int)).toNat * 1=t - k from by omega]
          exact hA.W _ (by omega)
         show newW A j=_
         unfold newW
         by_cases hjt:j=t
         . rw [if_pos (by omega),jsh,hjt,jde (qdk X o) hlo ht]
           rw [show atI A.W (A.t - 2)=_ from hi 2 (by omega) (by omega),show atI A.W (A.t - 7)=_ from hi 7 (by omega) (by omega),show atI A.W (A.t - 15)=_ from hi 15 (by omega) (by omega),show atI A.W (A.t - 16)=_ from hi 16 (by omega) (by omega)]
         . rw [if_neg (by omega)]
           exact hA.W j (by omega)
       . show 200 - (A.t+1).toNat<200 - A.t.toNat
         omega
       . intro e he E0 hE
         rw [List.mem_singleton] at he; subst he
         cases hE
         exact ⟨_,rfl,j6t fun j=>jbu⟩
     . have h64:t=64:=by have:=hA.hi; omega
       refine qvc (some (1,3)) 4000 (.b ⟨0,A.W,L⟩) ⟨⟨0,rfl,by omega,fun j hj=>hA.W j (by omega),rfl⟩,?_⟩ (jbe X N o m L A 0 J) (q3w X N o m L _ _) ?_ (by simp) (all_cons (decide_eq_false (by omega)) qaa)
       . show 100 - 0<200 - A.t.toNat
         omega
       . intro e he p u hp hu
         rw [List.mem_singleton] at he; subst he
         exact qgy (jrh X N o m L _) hp hu (qvf rfl)
   | b B =>
     obtain ⟨t,hB⟩:=hS
     have hat:=hB.at_
     by_cases ht:t<64
     . refine qjo (some (1,3)) 4000 (.b ⟨B.t+1,B.W,newV B⟩) ⟨⟨t+1,by show B.t+1=_; omega,by omega,hB.W,?_⟩,?_⟩ (jce X N o m L B J) (q3w X N o m L _ _) (j8t hB.at_ ht)
       . show newV B=rndW (stN L _ t) _ _
         rw [jro hB.at_ ht hB.W,hB.V]
       . show 100 - (B.t+1).toNat<100 - B.t.toNat
         omega
     . refine qti none 4000 (jph X N o m L B J) (jau hB.at_ (by omega)) fun H _ => ?_
       have h64:t=64:=by have:=hB.hi; omega
       show SV.agg (ux (endV L B.V))=_
       rw [hB.V,h64,jto hL hw64]; rfl
end
end
noncomputable section
open Go.Sim
open Go.Proofs
variable {α:Type}
section
variable (X:Nat->BitVec 8) (N o n m:Nat)
def q9s:List SV:=[.slice ⟨0,.sym o⟩ (.sym n) (.sym m)]
def padS0:SS:=qah (qca (cfg0.at (some (1,0))) 4000 67 (q9s o n m) [rowF X N]) [false]
structure PadA where
 len:Nat
 Y:Nat->BitVec 8
def padC (A:PadA):Cut :=
 ⟨q2f (padS0 X N o n m).frames [[(0,.slice ⟨0,.sym o⟩ (.sym n) (.sym m)),(3,.slice ⟨1,.lit 0⟩ (.sym A.len) (.rest 1 0))]],[.ent (rowF X N),.ent (.own (.fn (qea A.Y) A.len) false 5)]⟩
def appB (Y:Nat->BitVec 8) (len:Nat) (b:BitVec 8):Nat->BitVec 8:=catB (fun i=>Sim.byteOf (qea Y (0+i))) len (fun i=>qba [b] (0+i))
def cApp (Y:Nat->BitVec 8) (len:Nat) (r:List Prop):List Prop:=(1<=1)::(0+len<=len/\IsB (qea Y))::(q7e (len+1) 1/\1=1)::r
theorem jwh (A:PadA) (J:Junk) (z:Nat->Nat->Nat):outL [] (padC X N o n m A) [0,3] (sim1 (cfg0.at (some (1,3))) 4000 ((padC X N o n m A).fill J)) [true] z =
  ((((A.len:Int).tmod 64 != 56)=true)::cApp A.Y A.len [],some (.inr (qhb [0,3] 4 (padC X N o n m ⟨A.len+1,appB A.Y A.len (BitVec.ofNat 8 0)⟩)))):=by kernel_rfl
def nB (n i:Nat):BitVec 8:=BitVec.ofInt 8 (((qqg .i64 (Int.mul 8 (n:Int))).fdiv (2 ^ (8 * i))).tmod 256)
def pad8 (n:Nat) (Y:Nat->BitVec 8) (len:Nat):Nat->BitVec 8 :=
 appB (appB (appB (appB (appB (appB (appB (appB Y len (nB n 7)) (len+1) (nB n 6)) (len+1+1) (nB n 5)) (len+1+1+1) (nB n 4)) (len+1+1+1+1) (nB n 3)) (len+1+1+1+1+1) (nB n 2)) (len+1+1+1+1+1+1) (nB n 1)) (len+1+1+1+1+1+1+1) (nB n 0)
def cPad8 (Y:Nat->BitVec 8) (len:Nat):List Prop :=
 cApp Y len (cApp (appB Y len (nB n 7)) (len+1) (cApp (appB (appB Y len (nB n 7)) (len+1) (nB n 6)) (len+1+1) (cApp (appB (appB (appB Y len (nB n 7)) (len+1) (nB n 6)) (len+1+1) (nB n 5)) (len+1+1+1)
  (cApp (appB (appB (appB (appB Y len (nB n 7)) (len+1) (nB n 6)) (len+1+1) (nB n 5)) (len+1+1+1) (nB n 4)) (len+1+1+1+1)
  (cApp (appB (appB (appB (appB (appB Y len (nB n 7)) (len+1) (nB n 6)) (len+1+1) (nB n 5)) (len+1+1+1) (nB n 4)) (len+1+1+1+1) (nB n 3)) (len+1+1+1+1+1)
  (cApp (appB (appB (appB (appB (appB (appB Y len (nB n 7)) (len+1) (nB n 6)) (len+1+1) (nB n 5)) (len+1+1+1) (nB n 4)) (len+1+1+1+1) (nB n 3)) (len+1+1+1+1+1) (nB n 2)) (len+1+1+1+1+1+1)
  (cApp (appB (appB (appB (appB (appB (appB (appB Y len (nB n 7)) (len+1) (nB n 6)) (len+1+1) (nB n 5)) (len+1+1+1) (nB n 4)) (len+1+1+1+1) (nB n 3)) (len+1+1+1+1+1) (nB n 2)) (len+1+1+1+1+1+1) (nB n 1)) (len+1+1+1+1+1+1+1) [])))))))
theorem jvo (A:PadA) (J:Junk) (z:Nat->Nat->Nat):outL [17] (padC X N o n m A) [0,1] (sim1 (cfg0.at none) 4000 ((padC X N o n m A).fill J)) [false] z =
  ((((A.len:Int).tmod 64 != 56)=false)::cPad8 n A.Y A.len,some (.inl (.slice ⟨17,.lit 0⟩ (.sym (A.len+1+1+1+1+1+1+1+1)) (.rest 17 0),[some (.own (.fn (qea (pad8 n A.Y A.len)) (A.len+1+1+1+1+1+1+1+1)) false 5)]))):=by kernel_rfl
theorem jfe (A A':PadA):boolC (qvb 1 [0,3] (padC X N o n m A) (padC X N o n m A')) (allN qlb (padC X N o n m A').heap) false=true:=by kernel_rfl
theorem qh9 (A A':PadA):boolC (qvb 1 [0,4] (padC X N o n m A) (padC X N o n m A')) (allN qlb (padC X N o n m A').heap) false=true:=by kernel_rfl
def pad1:Nat->BitVec 8:=catB (fun i=>Sim.byteOf (qea X (o+(0+i)))) n (fun i=>qba [BitVec.ofNat 8 128] (0+i))
theorem jxh (A0:PadA) (z:Nat->Nat->Nat):outL [] (padC X N o n m A0) [0,4] (qca (cfg0.at (some (1,3))) 4000 67 (q9s o n m) [rowF X N]) [false] z =
  ((o+n<=N)::(decide (n=0)=false)::(q7e n 1/\1=1)::(1<=1)::(0+n<=n/\IsB (fun i=>qea X (o+i)))::(q7e (n+1) 1/\1=1)::[],some (.inr (qhb [0,4] 5 (padC X N o n m ⟨n+1,pad1 X o n⟩)))):=by kernel_rfl
end
def q9m:List Nat:=128::repN 0 63
theorem jwo:outO [128] (qca cfg0 12000 67 [.nilSlice] []) []=([],some (.slice ⟨128,.lit 0⟩ (.lit 64) (.rest 128 0),[some (.own (.lst (kx .u8 q9m)) false 5)])):=by kernel_rfl
theorem jyh (X:Nat->BitVec 8) (N o m:Nat):outO [129] (qca cfg0 12000 67 [.slice ⟨0,.sym o⟩ (.lit 0) (.sym m)] [rowF X N]) []=([o+0<=N],some (.slice ⟨129,.lit 0⟩ (.lit 64) (.rest 129 0),[some (.own (.lst (kx .u8 q9m)) false 5)])):=by kernel_rfl
end
noncomputable section
open Go.Sim
open Go.Proofs
variable {α:Type}
theorem qpb (Y:Nat->BitVec 8) (len:Nat) (b:BitVec 8) {i:Nat} (h:i<len):appB Y len b i=Y i:=by
 unfold appB catB
 rw [if_pos h]
 show Y (0+i)=Y i
 rw [Nat.zero_add]
theorem qli (Y:Nat->BitVec 8) (len:Nat) (b:BitVec 8):appB Y len b len=b:=by
 unfold appB catB
 rw [if_neg (Nat.lt_irrefl _),Nat.sub_self]; rfl
theorem qan {n i:Nat} (h:n<=1152921504606846975):nB n i=qbj n i:=by
 have h8:qqg .i64 (Int.mul 8 (n:Int))=((8 * n:Nat):Int):=by
  show qqg .i64 (8 * (n:Int))=_
  rw [qvh,wrap_i64 ⟨by omega,by omega⟩]; simp
 unfold nB qbj
 rw [h8]
 have h1:(((8 * n:Nat):Int).fdiv (2 ^ (8 * i))).tmod 256=((8 * n / 2 ^ (8 * i) % 256:Nat):Int):=by
  have e:(2:Int) ^ (8 * i)=((2 ^ (8 * i):Nat):Int):=by simp
  rw [e,Int.fdiv_eq_ediv_of_nonneg _ (Int.natCast_nonneg _),← Int.natCast_ediv,show (256:Int)=((256:Nat):Int) from rfl,Int.tmod_eq_emod_of_nonneg (Int.natCast_nonneg _),← Int.natCast_emod]
 rw [h1]
 apply BitVec.eq_of_toNat_eq
 rw [BitVec.toNat_ofInt,BitVec.toNat_setWidth,BitVec.toNat_ushiftRight,BitVec.toNat_mul,BitVec.toNat_ofInt,BitVec.toNat_ofInt,Nat.shiftRight_eq_div_pow]
 have e1:((n:Int) % ((2 ^ 64:Nat):Int)).toNat=n:=by omega
 have e2:((8:Int) % ((2 ^ 64:Nat):Int)).toNat=8:=by decide
 rw [e1,e2,Nat.mod_eq_of_lt (show n * 8<2 ^ 64 by omega),Nat.mul_comm n 8]
 generalize 8 * n / 2 ^ (8 * i)=q
 omega
theorem qrn (n:Nat):n+9<=lenP n/\lenP n<=n+72/\lenP n % 64=0:=by
 unfold lenP; omega
section
variable {X:Nat->BitVec 8} {N o n m:Nat}
structure PadQ (X:Nat->BitVec 8) (o n:Nat) (A:PadA):Prop where
 lo:n+1<=A.len
 hi:A.len+8<=lenP n
 Y:∀ i,i<A.len->A.Y i=if i<n then X (o+i) else if i=n then BitVec.ofNat 8 128 else BitVec.ofNat 8 0
theorem jxo {i:Nat} (hi:i<n+1):pad1 X o n i=if i<n then X (o+i) else if i=n then BitVec.ofNat 8 128 else BitVec.ofNat 8 0:=by
 unfold pad1 catB
 by_cases h:i<n
 . rw [if_pos h,if_pos h]
   show X (o+(0+i))=_
   rw [Nat.zero_add]
 . have:i=n:=by omega
   subst this
   rw [if_neg h,if_neg h,if_pos rfl,Nat.sub_self]; rfl
theorem jyo {A:PadA} (h:PadQ X o n A) (hn:n<=1152921504606846975) (he:A.len+8=lenP n) {i:Nat} (hi:i<lenP n):pad8 n A.Y A.len i=padF (fun i=>X (o+i)) n n i:=by
 have hlo:=h.lo
 have hb:=qrn n
 unfold padF
 by_cases h1:i<A.len
 . unfold pad8
   rw [qpb _ _ _ (by omega),qpb _ _ _ (by omega),qpb _ _ _ (by omega),qpb _ _ _ (by omega),qpb _ _ _ (by omega),qpb _ _ _ (by omega),qpb _ _ _ (by omega),qpb _ _ _ h1,h.Y i h1]
   by_cases h2:i<n
   . rw [if_pos h2,if_pos h2]
   . rw [if_neg h2,if_neg h2]
     by_cases h3:i=n
     . rw [if_pos h3,if_pos h3]
     . rw [if_neg h3,if_neg h3,if_neg (by omega)]
 . rw [if_neg (by omega),if_neg (by omega),if_pos (by omega)]
   unfold pad8
   obtain ⟨k,rfl⟩:∃ k,i=A.len+k:=⟨i - A.len,by omega⟩
   have hk:k<8:=by omega
   have hj:lenP n - 1 - (A.len+k)=7 - k:=by omega
   rw [hj]
   match k,hk with
   | 0,_=>rw [qpb _ _ _ (by omega),qpb _ _ _ (by omega),qpb _ _ _ (by omega),qpb _ _ _ (by omega),qpb _ _ _ (by omega),qpb _ _ _ (by omega),qpb _ _ _ (by omega),Nat.add_zero,qli,qan hn]
   | 1,_=>rw [qpb _ _ _ (by omega),qpb _ _ _ (by omega),qpb _ _ _ (by omega),qpb _ _ _ (by omega),qpb _ _ _ (by omega),qpb _ _ _ (by omega),qli,qan hn]
   | 2,_=>rw [qpb _ _ _ (by omega),qpb _ _ _ (by omega),qpb _ _ _ (by omega),qpb _ _ _ (by omega),qpb _ _ _ (by omega),show A.len+2=A.len+1+1 from rfl,qli,qan hn]
   | 3,_=>rw [qpb _ _ _ (by omega),qpb _ _ _ (by omega),qpb _ _ _ (by omega),qpb _ _ _ (by omega),show A.len+3=A.len+1+1+1 from rfl,qli,qan hn]
   | 4,_=>rw [qpb _ _ _ (by omega),qpb _ _ _ (by omega),qpb _ _ _ (by omega),show A.len+4=A.len+1+1+1+1 from rfl,qli,qan hn]
   | 5,_=>rw [qpb _ _ _ (by omega),qpb _ _ _ (by omega),show A.len+5=A.len+1+1+1+1+1 from rfl,qli,qan hn]
   | 6,_=>rw [qpb _ _ _ (by omega),show A.len+6=A.len+1+1+1+1+1+1 from rfl,qli,qan hn]
   | 7,_=>rw [show A.len+7=A.len+1+1+1+1+1+1+1 from rfl,qli,qan hn]
theorem q0g {Y:Nat->BitVec 8} {len:Nat} {r:List Prop} (hl:len+1<70368744177664) (hr:∀ p∈r,p):∀ p∈cApp Y len r,p :=
 all_cons (Nat.le_refl _) (all_cons ⟨by omega,qda Y⟩ (all_cons ⟨⟨by omega,by omega⟩,rfl⟩ hr))
theorem jzh (hN:o+n<=N) (hn0:n≠0) (hn:n<=1099511627776):Runs cfg0 67 (q9s o n m) [rowF X N] fun v H=>∃ Y,v=.slice ⟨17,.lit 0⟩ (.sym (lenP n)) (.rest 17 0)/\H[17]? = some (.own (.fn (qea Y) (lenP n)) false 5)/\∀ i,i<lenP n->Y i=padF (fun i=>X (o+i)) n n i:=by
 have hb:=qrn n
 refine qng q4c (padC X N o n m) (PadQ X o n) (fun A=>lenP n - A.len) (fun g nm hg=>by cases hg) ?_ fun A hA J => ?_
 . refine q3p (some (1,3)) 4000 ⟨n+1,pad1 X o n⟩ ⟨Nat.le_refl _,by show n+1+8<=_; omega,fun i hi=>jxo hi⟩ (jxh X N o n m ⟨0,X⟩) (qh9 X N o n m _ _) ?_
   exact all_cons hN (all_cons (decide_eq_false hn0) (all_cons ⟨⟨by omega,by omega⟩,rfl⟩ (all_cons (Nat.le_refl _) (all_cons ⟨by omega,fun i=>⟨X (o+i),rfl⟩⟩ (all_cons ⟨⟨by omega,by omega⟩,rfl⟩ qaa)))))
 . have hlo:=hA.lo
   have hhi:=hA.hi
   have hmod:(A.len:Int).tmod 64=((A.len % 64:Nat):Int):=by rw [Int.tmod_eq_emod_of_nonneg (by omega)]; omega
   by_cases hc:A.len % 64=56
   . have hlen:A.len+8=lenP n:=by omega
     refine qti none 4000 (jvo X N o n m A J) (all_cons ?_ ?_) fun H hH=>⟨pad8 n A.Y A.len,?_,?_,fun i hi=>jyo hA (by omega) hlen hi⟩
     . rw [hmod,hc]; rfl
     . exact q0g (by omega) (q0g (by omega) (q0g (by omega) (q0g (by omega) (q0g (by omega) (q0g (by omega) (q0g (by omega) (q0g (by omega) qaa)))))))
     . rw [← hlen]
     . rw [← hlen]; exact (List.cons.inj hH).1
   . refine qjo (some (1,3)) 4000 ⟨A.len+1,appB A.Y A.len (BitVec.ofNat 8 0)⟩ ⟨⟨by show n+1<=A.len+1; omega,by show A.len+1+8<=_; omega,fun i hi => ?_⟩,by show lenP n - (A.len+1)<lenP n - A.len; omega⟩ (jwh X N o n m A J) (jfe X N o n m _ _) (all_cons ?_ (q0g (by omega) qaa))
     . have hi:i<A.len+1:=hi
       show appB A.Y A.len _ i=_
       by_cases h1:i<A.len
       . rw [qpb _ _ _ h1,hA.Y i h1]
       . have:i=A.len:=by omega
         subst this
         rw [qli,if_neg (by omega),if_neg (by omega)]
     . rw [hmod]
       rw [bne_iff_ne]
       omega
end
end
noncomputable section
open Go.Sim
open Go.Proofs
variable {α:Type}
theorem jge {f g:Nat->SV} {n:Nat} (h:∀ i,i<n->(f i).Imp (g i)):(Cells.fn f n).Imp (.fn g n):=fun γ vs hv=>⟨hv.1,fun i x hx=>h i (by have:=(List.getElem?_eq_some_iff.1 hx).1; have:=hv.1; omega) γ x (hv.2 i x hx)⟩
def padR (base:Nat) (X:Nat->BitVec 8) (n:Nat):SumRes:=⟨.slice ⟨base,.lit 0⟩ (.sym (lenP n)) (.rest base 0),[],[.own (.fn (qea (padF X n n)) (lenP n)) false 5]⟩
def padS:Summ:=fun args H base=>qgd args fun v=>qob v (.ok (padR base (fun _=>0#8) 0)) fun a l=>q4b (nth H a.nm) fun X N=>.need (a.off.den+l.den<=N/\l.den<=1099511627776) (.ok (padR base (fun i=>X (a.off.den+i)) l.den))
theorem qg3 {p:Nat->Bool} {g:Nat->Nat} {E:Option SO} {Y Z:Nat->BitVec 8} {n:Nat} {w:Bool} {el:TypeId} (hE:E=some (.own (.fn (qea Y) n) w el)) (h:∀ i,i<n->Y i=Z i):q5d p g E (.own (.fn (qea Z) n) w el) :=
 ⟨_,w,el,_,hE,fun _=>rfl,jge fun i hi=>by show (SV.int .u8 (.b8 (Y i))).Imp (.int .u8 (.b8 (Z i))); rw [h i hi]; exact .refl _,rfl⟩
theorem jhe (X:Nat->BitVec 8):(Cells.lst (kx .u8 q9m)).Imp (.fn (qea (padF X 0 0)) 64):=by
 have hl:(kx .u8 q9m).length=64:=by
  unfold kx q9m
  rw [qwa,List.length_map,List.length_cons,qai,List.length_replicate]
 refine qf3 hl fun i v hv => ?_
 unfold kx q9m at hv
 rw [qwa,qai] at hv
 have hi:i<64:=by
  have:=(List.getElem?_eq_some_iff.1 hv).1
  simpa using this
 show v.Imp (.int .u8 (.b8 (padF X 0 0 i)))
 unfold padF
 rw [if_neg (by omega)]
 cases i with
 | zero=>simp at hv; subst hv; exact qvf rfl
 | succ i =>
   rw [List.map_cons,List.getElem?_cons_succ,List.map_replicate,List.getElem?_replicate,if_pos (by omega)] at hv
   cases hv
   rw [if_neg (by omega)]
   split
   . refine qvf ?_
     show (0:Int)=((qbj 0 _).toNat:Int)
     unfold qbj
     simp
   . exact qvf rfl
theorem q5w {p:Nat->Bool} {g:Nat->Nat} {E:Option SO} (X:Nat->BitVec 8) {el:TypeId} (hE:E=some (.own (.lst (kx .u8 q9m)) false el)):q5d p g E (.own (.fn (qea (padF X 0 0)) 64) false el) :=
 ⟨_,false,el,_,hE,qii _ _ _,by show (Cells.lst (SV.renL g (kx .u8 q9m))).Imp _; rw [qxw]; exact jhe X,rfl⟩
theorem q4r {nm:Nat} {l l':SN} (h:l.den=l'.den):(SV.slice ⟨nm,.lit 0⟩ l (.rest nm 0)).Imp (.slice ⟨nm,.lit 0⟩ l' (.rest nm 0)):=by
 intro γ x hx
 rw [qra] at hx ⊢
 rw [← h]; exact hx
theorem padOK:q3a Tryz.prog 67 padS:=by
 intro glob O w0 β H w base args vs hH hG ha
 refine qub fun v hv=>qxa (fun hn => ?_) fun a l c hs=>q5a fun X N ht=>fun hle => ?_
 . rw [hv,hn] at ha
   exact qqb q4c rfl 12000 hH ⟨[],[],[.nilSlice]⟩ ha (q5c rfl) [128] (by simp) (by simp) jwo qaa fun H2 hH2=>⟨q4r rfl,rfl,trivial,⟨q5w _ (List.cons.inj hH2).1,trivial⟩⟩
 . rw [hv,hs] at ha
   rw [qga] at ht
   obtain ⟨x,ys,hx,hys,rfl⟩:=denL_cons.1 ha
   obtain ⟨m,hm,hd,hd',_⟩:=q8a hx
   have hfit:∀ args:List SV,SV.usesL (Ifc.known ⟨[a.nm],[rowF X N],args⟩) args=true->Ifc.Fits ⟨[a.nm],[rowF X N],args⟩ H:=fun args hu=>Ifc.fits (by simp) hu ⟨⟨ht _,qya _ _ _⟩,trivial⟩
   by_cases h0:l.den=0
   . rw [h0]
     rw [h0] at hd
     exact qqb q4c rfl 12000 hH ⟨[a.nm],[rowF X N],[.slice ⟨0,.sym a.off.den⟩ (.lit 0) (.sym m)]⟩ (denL_cons.2 ⟨_,_,hd,hys,rfl⟩) (hfit _ rfl) [129] (by simp) (by simp) (jyh X N a.off.den m) (all_cons (by omega) qaa) fun H2 hH2=>⟨q4r rfl,rfl,trivial,⟨q5w _ (List.cons.inj hH2).1,trivial⟩⟩
   . exact Go.Sim.sum_runs (c:=cfg0) hH ⟨[a.nm],[rowF X N],q9s a.off.den l.den m⟩ (fun g j h=>by cases h) (denL_cons.2 ⟨_,_,hd,hys,rfl⟩) (hfit _ rfl) [17] (by simp) (by simp)
      (q5f (jzh hle.1 h0 hle.2) fun v H2 ⟨Y,h1,h2,h3⟩=>⟨by rw [h1]; exact q4r rfl,by rw [h1]; rfl,trivial,⟨qg3 h2 h3,trivial⟩⟩)
def uni1 (v:SV):Option W32:=v.asInt none fun k n=>boolC (eqK k .i64) (si32 n) none
def unI (l:List SV):Option (List W32):=List.rec (motive:=fun _=>Option (List W32)) (some []) (fun v _ ih=>optC (uni1 v) none fun x=>optC ih none fun xs=>some (x::xs)) l
theorem j0h {v:SV} {x:W32} (h:uni1 v=some x):v.Imp (iw x):=by
 unfold uni1 at h
 rcases qxc v with ⟨k,n,rfl⟩ | hv
 . obtain ⟨hk,h⟩:=qtb (show boolC (eqK k .i64) (si32 n) none=some x from h)
   rw [qag hk]
   cases n with
   | lit n =>
     cases n with
     | negSucc m=>cases h
     | ofNat m =>
       obtain ⟨hm,h⟩:=qtb (show boolC (Nat.blt m 4294967296) (some (wi m)) none=some x from h)
       cases h
       exact qvf (qxu (qnf hm)).symm
   | sym=>cases h
   | b8=>cases h
   | b32 y=>cases h; exact .refl _
   | b64=>cases h
 . rw [hv] at h; cases h
theorem qhy:∀ {l:List SV} {xs:List W32},unI l=some xs->SV.ImpL l (ux xs)
 | [],xs,h=>by cases h; exact .refl _
 | v::l,xs,h=>by
   obtain ⟨x,hx,h⟩:=qdf (show (optC (uni1 v) none fun x=>optC (unI l) none fun xs=>some (x::xs))=some xs from h)
   obtain ⟨ys,hy,h⟩:=qdf h
   cases h
   exact qoa (j0h hx) (qhy hy)
theorem q6w (f:Nat->Nat):∀ xs,SV.renL f (ux xs)=ux xs
 | []=>rfl
 | x::xs=>by show _::SV.renL f (ux xs)=_; rw [q6w f xs]; rfl
theorem qiy (p:Nat->Bool):∀ xs,SV.usesL p (ux xs)=true
 | []=>rfl
 | x::xs=>by show (true && SV.usesL p (ux xs))=true; rw [qiy p xs]; rfl
def jie (v:SV) (nil:R α) (f:Nat->Nat->SN->R α):R α :=
 SV.rec (motive_1:=fun _=>R α) (motive_2:=fun _=>Unit) (fun _ _=>.stuck 713) (fun _=>.stuck 713) (fun _=>.stuck 713) (fun _=>.stuck 713) (.stuck 713) (fun a l _=>f a.nm a.off.den l) nil (fun _=>.stuck 713) (.stuck 713) (fun _ _ _ _ _=>.stuck 713) (.stuck 713) (fun _ _ _=>.stuck 713) (.stuck 713) (fun _ _=>.stuck 713) (fun _ _=>.stuck 713) (fun _=>.stuck 713)
  (fun a n l _=>.need (0<l.den) (f a.nm (a.off.den+n.den) l)) () (fun _ _ _ _=>()) v
theorem qi9 {v:SV} {nil:R α} {f:Nat->Nat->SN->R α} {φ:α->Prop} (h0:v=.nilSlice->nil.Sat φ)
  (h:∀ nm o l,(∀ γ x,v.den γ=some x->∃ m,l.den<=m/\(SV.slice ⟨nm,.sym o⟩ (.sym l.den) (.sym m)).den γ=some x)->(f nm o l).Sat φ):(jie v nil f).Sat φ:=by
 cases v <;> first | trivial | exact h0 rfl | skip
 . rename_i a l c
   exact h a.nm a.off.den l fun γ x hx=>by
    obtain ⟨m,h1,h2,_,_⟩:=q8a hx
    exact ⟨m,h1,h2⟩
 . rename_i a n l c
   intro hl
   refine h a.nm (a.off.den+n.den) l fun γ x hx => ?_
   rw [q6d] at hx
   obtain ⟨A,C,hA,hC,hle,rfl⟩:=hx
   rw [if_neg (by omega)]
   refine ⟨C,hle,?_⟩
   rw [qra]
   obtain ⟨ll,hl2,rfl⟩:=SA.den_some hA
   exact ⟨_,C,by simp only [SA.den,hl2,Option.map_some,SN.den]; rfl,rfl,hle,by rw [qlc,Nat.add_assoc]; rfl⟩
def jje:Summ:=fun args H _=>qdd args fun h v=>h.asAgg (.stuck 762) fun l=>optC (unI l) (.stuck 762) fun ws=>boolC (Nat.beq (lenN ws) 8) (shaT H (jie v (.stuck 763) fun nm o len=>boolC (qeb nm) (qod len 64 (q4b (nth H nm) fun X N=>.need (o+64<=N) (.ok ⟨.agg (ux (q0a (cmpW ws (q7a X o)))),[],[]⟩)) (.stuck 763)) (.stuck 763))) (.stuck 762)
theorem q24 {H:List SO} (hT:ShaT H) (g:Nat->Nat):∃ e',H[3]? = some e'/\qrb g q20 e':=by
 obtain ⟨e',he,c0,hc,hf⟩:=hT.s3 g
 refine ⟨e',he,c0,hc,?_⟩
 intro γ vs hv
 obtain ⟨k,hk⟩:=hf γ vs hv
 refine ⟨k,?_⟩
 have hk:CellsRel γ (.lst (SV.renL g (kx .i64 constL))) (vs.take k):=hk
 rw [qxw] at hk
 have hi:(Cells.lst (kx .i64 constL)).Imp (.fn (fun i=>iw (kW i)) 64):=by
  refine qf3 rfl fun i v hv => ?_
  unfold kx at hv
  rw [qwa,List.getElem?_map] at hv
  cases hc:constL[i]? with
  | none=>rw [hc] at hv; cases hv
  | some t =>
    rw [hc] at hv
    cases hv
    refine qvf ?_
    show (t:Int)=((kW i).toNat:Int)
    have hlt:t<4294967296:=by
     have hall:∀ t∈constL,t<4294967296:=by decide
     exact hall t (List.mem_of_getElem? hc)
    unfold kW atW constV'
    rw [qga,qwa,List.getElem?_map,hc]
    exact (qxu hlt).symm
 exact hi _ _ hk
theorem jzo:SumAt Tryz.prog qud 68 jje:=by
 intro O w0 β H w base args vs hH hG ha
 refine qnb fun h v hv => ?_
 rcases qmc h with ⟨l,rfl⟩ | hno
 . refine qja fun ws hws=>qfa fun h8=>qzg fun hT=>qi9 (fun _=>trivial) fun nm o len hsl=>qfa fun hn=>qxb (fun hl=>q5a fun X N ht=>fun hle => ?_) fun _=>trivial
   rw [hv] at ha
   rw [qga] at ht
   obtain ⟨x,ys,hx,hys,rfl⟩:=denL_cons.1 ha
   obtain ⟨y,zs,hy,hz,rfl⟩:=denL_cons.1 hys
   obtain ⟨m,hm,hd⟩:=hsl _ _ hy
   rw [hl] at hd
   have h8:=qpa h8
   rw [qva] at h8
   have hx':(SV.agg (ux (q0a ws))).den β=some x:=by
    rw [q4p h8]
    simp only [SV.den,Option.map_eq_some_iff] at hx ⊢
    obtain ⟨us,hus,rfl⟩:=hx
    exact ⟨us,qhy hws _ _ hus,rfl⟩
   have hd':(SV.slice ⟨nm,.sym o⟩ (.lit 64) (.sym m)).den β=some y:=by
    rw [qra] at hd ⊢
    exact hd
   rw [q4p (qau h8)]
   refine Go.Sim.sum_runs (c:=cfgR1) hH ⟨[0,1,2,3,nm],q7s X N,qno o m ws⟩ (qae (names:=[nm]) (ents:=[rowF X N]) (args:=qno o m ws) hG) (denL_cons.2 ⟨_,_,?_,denL_cons.2 ⟨_,_,hd',hz,rfl⟩,rfl⟩) (Ifc.fits (nd5 hn) ?_ ⟨⟨hT.s0 _,qii _ _ _⟩,⟨hT.s1 _,qii _ _ _⟩,⟨hT.s2 _ rfl,rfl⟩,⟨q24 hT _,fun _=>rfl⟩,⟨ht _,qya _ _ _⟩,trivial⟩) [] (by simp) (by simp) (q5f (jvh h8 hle) fun v H2 h => ?_)
   . show (SV.agg (SV.renL _ (ux (q0a ws)))).den β=_
     rw [q6w]; exact hx'
   . show (SV.usesL _ (ux (q0a ws)) && true)=true
     rw [qiy]; rfl
   . subst h
     refine qkb rfl ?_ (qiy _ _)
     show SV.agg (ux _)=.agg (SV.renL _ (ux _))
     rw [q6w]
 . rw [hno]; trivial
def cfgR2:Cfg:=cfgG qud (qbb [(67,padS),(68,jje)])
theorem q85:CfgOK cfgR2:=qwb (allS (padOK _) (allS jzo (by simp)))
end
noncomputable section
open Go.Sim
open Go.Proofs
variable {α:Type}
section
variable (X:Nat->BitVec 8) (N o n m:Nat)
def qat:List SV:=[.slice ⟨4,.sym o⟩ (.sym n) (.sym m)]
def qjy (X:Nat->BitVec 8) (N:Nat):List SO:=shaH [rowF X N]
def j2l:SS:=qah (qca (cfgR2.at (some (1,3))) 4000 54 (qat o n m) (qjy X N)) []
structure RsmA where
 i:Int
 V:List W32
def padX (X:Nat->BitVec 8) (o n:Nat):Nat->BitVec 8:=padF (fun i=>X (o+i)) n n
def rsmC (A:RsmA):Cut :=
 ⟨q2f (j2l X N o n m).frames [[(2,.ptr ⟨5,.lit 0⟩),(3,.ptr ⟨6,.lit 0⟩),(4,.slice ⟨7,.lit 0⟩ (.sym (lenP n)) (.rest 7 0)),(5,.int .i64 (.sym A.i))]],
  [.ent q3f,.ent q4f,.ent qpl,.ent qzw,.ent (rowF X N),entN (j2l X N o n m).heap 5,.ent (.own (.lst (ux (q0a A.V))) true 94),.ent (.own (.fn (qea (padX X o n)) (lenP n)) false 5)]⟩
def qbt:List Nat:=q6a 8 0
theorem j1h (z:Nat->Nat->Nat):outL [] (rsmC X N o n m ⟨0,qyc⟩) qbt (qca (cfgR2.at (some (1,3))) 4000 54 (qat o n m) (qjy X N)) [] z =
  ([IsB (qea X),o+n<=N/\n<=1099511627776],some (.inr (q0b [(0,5,.int .i64 (.lit 0))] [(6,.ent (.own (.lst (kx .i64 startL)) true 94))] (qhb qbt 8 (rsmC X N o n m ⟨0,qyc⟩))))):=by kernel_rfl
theorem qrz (A B:RsmA):boolC (qvb 5 qbt (rsmC X N o n m A) (rsmC X N o n m B)) (allN qlb (rsmC X N o n m B).heap) false=true:=by kernel_rfl
theorem j0o (A:RsmA):(((rsmC X N o n m A).frames[0]?).bind fun p=>p.tmps[5]?)=some (some (.int .i64 (.sym A.i))):=by kernel_rfl
theorem j1o (A:RsmA) (J:Junk) (z:Nat->Nat->Nat):outL [] (rsmC X N o n m A) qbt (sim1 (cfgR2.at none) 8000 ((rsmC X N o n m A).fill J)) [false] z =
  ([decide (A.i<(lenP n:Int))=false],some (.inl (.agg (bx (qfe A.V)),[]))):=by kernel_rfl
def cRsm (L:Nat) (i:Int) (P:Nat->BitVec 8):List Prop :=
 [decide (i<(L:Int))=true,qza (i+64),0<=i+64/\i+64<=(L:Int),0<=i/\i<=((i+64).toNat:Int),0<(i+64).toNat - i.toNat,decide ((i+64).toNat - i.toNat=64)=true,IsB (qea P),0+i.toNat * 1+64<=L,qza (i+64)]
theorem j2h (A:RsmA) (J:Junk) (z:Nat->Nat->Nat):outL [] (rsmC X N o n m A) qbt (sim1 (cfgR2.at (some (1,3))) 4000 ((rsmC X N o n m A).fill J)) [true,true] z =
  (cRsm (lenP n) A.i (padX X o n),some (.inr (qhb qbt 8 (rsmC X N o n m ⟨A.i+64,cmpW (q0a A.V) (q7a (padX X o n) (0+A.i.toNat * 1))⟩)))):=by kernel_rfl
end
theorem j2o:outO [] (qca cfgR2 8000 54 [.nilSlice] (shaH [])) [true,false] =
  ([decide ((0:Int)<(lenP 0:Int))=true,64<=lenP 0,IsB (qea (padF (fun _=>0#8) 0 0)),0+64<=lenP 0,decide ((64:Int)<(lenP 0:Int))=false],some (.agg (bx (qfe (cmpW (q0a qyc) (q7a (padF (fun _=>0#8) 0 0) 0)))),[])):=by kernel_rfl
section
variable {X:Nat->BitVec 8} {N o n m:Nat}
structure RsmQ (X:Nat->BitVec 8) (o n:Nat) (A:RsmA) (k:Nat):Prop where
 i:A.i=((64 * k:Nat):Int)
 le:k<=(n+72) / 64
 V:A.V=qed qyc (padX X o n) k
theorem qj9 {f:Nat->Nat}:ImpE f (some (.ent (.own (.lst (kx .i64 startL)) true 94))) (.ent (.own (.lst (ux (q0a qyc))) true 94)):=by
 refine ⟨_,rfl,?_⟩
 show SV.ImpL _ (SV.renL f (ux (q0a qyc)))
 rw [q6w]
 exact qhy (by kernel_rfl)
theorem j3h (hN:o+n<=N) (hn:n<=1099511627776):Runs cfgR2 54 (qat o n m) (qjy X N) fun v _=>v=.agg (bx (shaF (fun i=>X (o+i)) n)):=by
 have hb:=qrn n
 have hL:lenP n=64 * ((n+72) / 64):=rfl
 refine qng q85 (rsmC X N o n m) (fun A=>∃ k,RsmQ X o n A k) (fun A=>lenP n - A.i.toNat) (fun g nm hg=>Nat.lt_of_lt_of_le (qbq hg) (by show 3<=5; omega)) ?_ fun A ⟨k,hA⟩ J => ?_
 . refine qpg (some (1,3)) 4000 ⟨0,qyc⟩ ⟨0,rfl,Nat.zero_le _,rfl⟩ (j1h X N o n m) (qrz X N o n m _ _) ?_ ?_ (all_cons (qda X) (all_cons ⟨hN,hn⟩ qaa))
   . intro e he p u hp hu
     rw [List.mem_singleton] at he; subst he
     exact qgy (j0o X N o n m _) hp hu (qvf rfl)
   . intro e he E0 hE
     rw [List.mem_singleton] at he; subst he
     cases hE
     exact qj9
 . obtain ⟨h1,h2,h3⟩:=hA
   by_cases hk:k<(n+72) / 64
   . refine qjo (some (1,3)) 4000 ⟨A.i+64,cmpW (q0a A.V) (q7a (padX X o n) (0+A.i.toNat * 1))⟩ ⟨⟨k+1,by show A.i+64=_; omega,by omega,?_⟩,?_⟩ (j2h X N o n m A J) (qrz X N o n m _ _) ?_
     . show cmpW (q0a A.V) (q7a (padX X o n) (0+A.i.toNat * 1))=qed qyc (padX X o n) (k+1)
       rw [qac,show 0+A.i.toNat * 1=64 * k from by omega,h3]
     . show lenP n - (A.i+64).toNat<lenP n - A.i.toNat
       omega
     . exact all_cons (decide_eq_true (by omega)) (all_cons ⟨by omega,by omega⟩ (all_cons ⟨by omega,by omega⟩ (all_cons ⟨by omega,by omega⟩ (all_cons (by omega) (all_cons (decide_eq_true (by omega)) (all_cons (qda _) (all_cons (by omega) (all_cons ⟨by omega,by omega⟩ qaa))))))))
   . refine qti none 8000 (j1o X N o n m A J) (all_cons (decide_eq_false (by omega)) qaa) fun H _ => ?_
     show SV.agg (bx (qfe A.V))=_
     rw [h3,show k=(n+72) / 64 from by omega]; rfl
end
def qk9 (F:(Nat->BitVec 8)->Nat->List (BitVec 8)) (mx:Nat):Summ:=fun args H _=>qgd args fun v=>shaT H (qob v (.ok ⟨.agg (bx (F (fun _=>0#8) 0)),[],[]⟩) fun a l=>boolC (qeb a.nm) (q4b (nth H a.nm) fun X N=>.need (a.off.den+l.den<=N/\l.den<=mx) (.ok ⟨.agg (bx (F (fun i=>X (a.off.den+i)) l.den)),[],[]⟩)) (.stuck 740))
theorem rsmOK:SumAt Tryz.prog qud 54 (qk9 shaF 1099511627776):=by
 intro O w0 β H w base args vs hH hG ha
 refine qub fun v hv=>qzg fun hT=>qxa (fun hn => ?_) fun a l c hs=>qfa fun hn=>q5a fun X N ht=>fun hle => ?_
 . rw [hv,hn] at ha
   refine qka q85 8000 hH (shaI [] [] [.nilSlice]) (qae hG) ha (Ifc.fits (by simp [shaI]) rfl (q5e hT trivial)) [] (by simp) (by simp) j2o ?_ fun _ _=>qaq rfl ?_
   . exact all_cons (by decide) (all_cons (by decide) (all_cons (qda _) (all_cons (by decide) (all_cons (by decide) qaa))))
   . unfold shaF
     rw [show (0+72) / 64=0+1 from rfl,qac]; rfl
 . rw [hv,hs] at ha
   rw [qga] at ht
   obtain ⟨x,ys,hx,hys,rfl⟩:=denL_cons.1 ha
   obtain ⟨m,hm,hd,_,_⟩:=q8a hx
   exact Go.Sim.sum_runs (c:=cfgR2) hH (shaI [a.nm] [rowF X N] (qat a.off.den l.den m)) (qae hG) (denL_cons.2 ⟨_,_,hd,hys,rfl⟩) (Ifc.fits (nd5 hn) rfl (q5e hT ⟨⟨ht _,qya _ _ _⟩,trivial⟩)) [] (by simp) (by simp)
    (q5f (j3h hle.1 hle.2) fun v H h=>qaq rfl h)
end
end Go.Proofs.YtcpafideogckmaaGreatDoor.Aes
namespace Go.Sim
noncomputable section
variable {α:Type}
def qh3 (p:Nat->Bool) (es:List (SV × SV × Nat)):Bool:=List.rec (motive:=fun _=>Bool) true (fun e _ ih=>boolC (e.1.uses p) (boolC (e.2.1.uses p) ih false) false) es
def SObj.uses (p:Nat->Bool) (o:SObj):Bool:=SObj.rec (motive:=fun _=>Bool) (fun es _=>qh3 p es) (fun m _ _ _=>optC m true p) (fun _ _=>true) o
theorem q5r {p:Nat->Bool} {β β':Val} (hp:∀ n,p n=true->β n=β' n):(es:List (SV × SV × Nat))->qh3 p es=true->q1a β es=q1a β' es
 | [],_=>rfl
 | e::r,h=>by
   obtain ⟨h1,h2⟩:=qld (show boolC (e.1.uses p) (boolC (e.2.1.uses p) (qh3 p r) false) false=true from h)
   obtain ⟨h2,h3⟩:=qld h2
   simp only [q1a,SV.den_uses hp _ h1,SV.den_uses hp _ h2,q5r hp r h3]
theorem SObj.den_uses {p:Nat->Bool} {β β':Val} (hp:∀ n,p n=true->β n=β' n) {o:SObj} (h:o.uses p=true):o.den β=o.den β':=by
 cases o with
 | map es c =>
   show (q1a β es).map _=(q1a β' es).map _
   rw [q5r hp es h]
 | iter m since seen last =>
   cases m with
   | none=>rfl
   | some m =>
     have h:p m=true:=h
     show (β m).map _=(β' m).map _
     rw [hp m h]
 | str s pos=>rfl
def maskH (M:List Nat) (H:List SO):Nat->List SO:=List.rec (motive:=fun _=>Nat->List SO) (fun _=>[]) (fun e _ ih i=>boolC (memN i M) e .gone::ih (Nat.succ i)) H
end
end Go.Sim
