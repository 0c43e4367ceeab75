/-
  The next realm: the reference's runs.
-/
import Derived.Test.YtbhlngmhgplepaaDoorPq11
namespace Go.Proofs.YtbhlngmhgplepaaDoor.Aes
noncomputable section
open Go.Sim
open Go.Proofs
open Go.Sort
open Go.Bfs
variable {α:Type}
set_option maxRecDepth 1000000
def zjr:List (FuncId × zaR):=[(11,qv6),(36,zgZ),(39,j9e),(33,zhT)]
theorem jzn:∀ y∈zjr,q2a Tryd.prog y.1 y.2:=zb2 j6e (zb2 q3w (zb2 zjt (all1 qk6)))
def zfd:Cfg:=qyb (q2b zjr)
theorem qll:zaw zfd:=qdc jzn
section
variable (V:Nat->Value) (N n k:Nat) (x y:ByteArray)
def rnT (st:Option (Nat × Nat)) (f:Nat):Tree:=qla (zfd.at st) f 13 [slP 0 n k,.str (.sym x),.str (.sym y)] [rwV V N]
end
section
variable (V:Nat->Value) (N n k:Nat) (x y:ByteArray) (i:Int) (J:zaW)
def rnC:Cut:=⟨q0b (qvb (rnT V N n k x y (some (1,3)) 2000) [false,false,true,true]).frames [[(0,slP 0 n k),(1,.str (.sym x)),(2,.str (.sym y)),(8,.slice ⟨1,.lit 0⟩ (.sym (zbe x y)) (.rest 1 0)),(10,.int .i64 (.sym i))]],[.ent (rwV V N),.ent (h1E x y)]⟩
def rnS (st:Option (Nat × Nat)):Tree:=zaY (zfd.at st) 20000 ((rnC V N n k x y i).fill J)
end
def zfl (N:Nat) (V:Nat->Value) (n:Nat):Pw:=⟨V,N * 2 / 2,n⟩
section
variable (V:Nat->Value) (N n k:Nat) (x y:ByteArray) (i:Int) (J:zaW) (z:Nat->Nat->Nat)
def rnG (q:List Prop):List Prop:=vlQ x y::rlQ x y false::(decide (x=y)=false)::q
def rnB (q:List Prop):List Prop:=(decide (i > 0)=true)::((0:Int)<=i/\i<(zbe x y:Int))::(0+i.toNat * 1<zbe x y)::(N * 2=N * 2 / 2 * 2)::(zfl N V n).ok::q
def rnH (b:Bool):Prop:=cB ((zfl N V n).has (x,zbT x y (0+i.toNat * 1)))=b
def rnP (b:Bool) (q:List Prop):List Prop:=(N * 2=N * 2 / 2 * 2)::(zfl N V n).ok::((zaH x && zaH y)=true)::(decide (x=y)=false)::((rbO (zfl N V n).list x y).isSome=b)::q
def rnL:List Prop:=[1<(rbQ (zfl N V n).list x y).length,1<(rbQ (zfl N V n).list x y).length]
def zg6:ByteArray:=q2c (rbQ (zfl N V n).list x y) (0+1 * 1)
theorem jrj:zaq [] (rnC V N n k x y ((zbe x y:Int) - 1)) [0,2] (rnT V N n k x y (some (1,3)) 20000) [false,false,true,true] z=(rnG x y [(zaH x && zaH y)=true,zbU x y=true,qra ((zbe x y:Int) - 1)],some (.inr (qia [0,2] 3 (rnC V N n k x y ((zbe x y:Int) - 1))))):=by kernel_rfl
theorem jsj:zaq [] (rnC V N n k x y (i - 1)) [0,1] (rnS V N n k x y i J (some (1,3))) [true,false] z=(rnB V N n x y i [rnH V N n x y i false,qra (i - 1)],some (.inr (qia [0,1] 2 (rnC V N n k x y (i - 1))))):=by kernel_rfl
theorem j0n:zaq [] (rnC V N n k x y i) [0,1] (rnS V N n k x y i J none) [true,true] z=(rnB V N n x y i [rnH V N n x y i true,(0:Int)<=i/\i<(zbe x y:Int),0+i.toNat * 1<zbe x y],some (.inl (sE (zbT x y (0+i.toNat * 1)) 0,[]))):=by kernel_rfl
theorem jtj:zaq [] (rnC V N n k x y i) [0,1] (rnS V N n k x y i J none) [false,true,false,true] z=((decide (i > 0)=false)::rnP V N n x y true (rnL V N n x y),some (.inl (sE (zg6 V N n x y) 0,[]))):=by kernel_rfl
theorem zi3:zaq [] (rnC V N n k x y i) [0,1] (rnS V N n k x y i J none) [false,true,false,false] z=((decide (i > 0)=false)::rnP V N n x y false [],some (.inl (noE 9,[]))):=by kernel_rfl
theorem j3c:zaP [] (rnT V N n k x y none 20000) [false,false,true,false,true,false,true]=(rnG x y (((zaH x && zaH y)=true)::(zbU x y=false)::rnP V N n x y true (rnL V N n x y)),some (sE (zg6 V N n x y) 0,[])):=by kernel_rfl
theorem j1n:zaP [] (rnT V N n k x y none 20000) [false,false,true,false,true,false,false]=(rnG x y (((zaH x && zaH y)=true)::(zbU x y=false)::rnP V N n x y false []),some (noE 9,[])):=by kernel_rfl
theorem j2n:zaP [] (rnT V N n k x y none 20000) [true,true,true,true]=(vlQ x y::zaX (rlQ x y true) 4,some (noE 2,[])):=by kernel_rfl
theorem juj:zaP [] (rnT V N n k x y none 20000) [false,true]=([vlQ x y,rlQ x y false,decide (x=y)=true],some (noE 2,[])):=by kernel_rfl
theorem zi5:zab (qna 1 [0,2] (rnC V N n k x y i) (rnC V N n k x y i)) (zaG qma (rnC V N n k x y i).heap) false=true:=by kernel_rfl
theorem zi4:zab (qna 1 [0,1] (rnC V N n k x y i) (rnC V N n k x y i)) (zaG qma (rnC V N n k x y i).heap) false=true:=by kernel_rfl
end
def zee (T:List Pr) (x y:ByteArray) (j:Nat):Bool:=zab (decide (j=0)) false (cB ((x,zbT x y j)∈T))
def zdk (T:List Pr) (x y:ByteArray):ByteArray × Int :=
 zab (zaH x && zaH y) (zab (decide (x=y)) (.empty,2) (zah (zab (zbU x y) (zdq (zee T x y) (zbe x y)) none) (zah (rbO T x y) (.empty,9) fun q=>(q2c q 1,0)) fun j=>(zbT x y j,0))) (.empty,2)
def rnD (T:List Pr) (x y:ByteArray) (v:SV) (_:List SO):Prop:=∃ s e,v=.tuple [.str s,.int .i64 e]/\s.den=(zdk T x y).1/\e.den=(zdk T x y).2
section
variable {T:List Pr} {x y:ByteArray}
theorem j4c (hr:(zaH x && zaH y)=true) (hxy:decide (x=y)=false) (hn:zab (zbU x y) (zdq (zee T x y) (zbe x y)) none=none):zdk T x y=zah (rbO T x y) (.empty,9) fun q=>(q2c q 1,0):=by
 unfold zdk;rw [hr,hxy,hn]; rfl
theorem zjU (T:List Pr) (x y:ByteArray):RB (zbG T) y [[x]] [x] (rbO T x y):=by
 by_cases h:x=y
 . subst h; rw [qeu]; exact qy9 T x
 . obtain ⟨o,ho⟩:=Bfs.ex (S:=zbG T) (N:=T.map (·.2)) (fun q b h=>qsp h) y _ [[x]] [x] (Nat.le_refl _)
   have:RB (zbG T) y [[x]] [x] o:=.inr ⟨by
    have hn:qjd y [x]=false:=by
     cases e:qjd y [x] with
     | false=>rfl
     | true =>
       have:=zbO.1 e;simp at this;exact absurd this h
    rw [List.find?_cons,hn]; rfl,ho⟩
   rw [qkl this]; exact this
theorem j3n (hxy:x≠y) {q:Pth} (h:rbO T x y=some q):2<=q.length:=by
 have h1:=zjU T x y;rw [h] at h1;rcases h1 with ⟨q',h2,h3⟩ | ⟨_,h2⟩
 . obtain rfl:q=q':=Option.some.inj h3;have h4:=zbO.1 (List.find?_some h2);rw [List.mem_singleton.1 (List.mem_of_find?_eq_some h2)] at h4;simp at h4;exact absurd h4 hxy
 . exact h2.two (fun p hp=>by rw [List.mem_singleton.1 hp]; simp) rfl
theorem qz9 (h:∀ j,j<zbe x y->zee T x y j=false):zab (zbU x y) (zdq (zee T x y) (zbe x y)) none=none:=by
 cases zbU x y with
 | false=>rfl
 | true=>exact q0o h
end
section
variable {V:Nat->Value} {N n k:Nat} {x y:ByteArray}
theorem qml:zfl N V n=⟨V,N,n⟩:=by unfold zfl; rw [show N * 2 / 2=N by omega]
section
variable (ht:(⟨V,N,n⟩:Pw).ok) (hr:(zaH x && zaH y)=true) (hxy:decide (x=y)=false)
include ht hr hxy
theorem qh3 {b:Bool} {q:List Prop} (hb:(rbO (prL V n) x y).isSome=b) (hq:∀ p∈q,p):∀ p∈rnP V N n x y b q,p :=
 zaa (by omega) (zaa (by rw [qml]; exact ht) (zaa hr (zaa hxy (zaa (by rw [qml]; exact hb) hq))))
theorem qi3 {D:Prop} (hn:zab (zbU x y) (zdq (zee (prL V n) x y) (zbe x y)) none=none)
  (h1:(∀ p∈rnP V N n x y true (rnL V N n x y),p)->zdk (prL V n) x y=(zg6 V N n x y,0)->D) (h2:(∀ p∈rnP V N n x y false [],p)->zdk (prL V n) x y=(.empty,9)->D):D:=by
 have hP:=j4c hr hxy hn;cases hq:rbO (prL V n) x y with
 | none =>
   rw [hq] at hP;exact h2 (qh3 ht hr hxy (by rw [hq]; rfl) qaa) hP
 | some q =>
   rw [hq] at hP;have h2':=j3n (of_decide_eq_false hxy) hq;have hQ:rbQ (zfl N V n).list x y=q:=by
    rw [qml];show (rbO (prL V n) x y).getD []=q;rw [hq]; rfl
   refine h1 (qh3 ht hr hxy (by rw [hq]; rfl) (zaa (by rw [hQ]; omega) (zaa (by rw [hQ]; omega) qaa))) ?_
   rw [hP];unfold zg6;rw [hQ]; rfl
theorem jvj (hc:zbU x y=true):Runs zfd 13 [slP 0 n k,.str (.sym x),.str (.sym y)] [rwV V N] (rnD (prL V n) x y):=by
 have hsm:=qft hc;have hpos:1<=zbe x y:=by show 1<=cI x y+1+cK x y; omega
 have hB:∀ {i:Int} {q:List Prop},0<i->i<(zbe x y:Int)->(∀ p∈q,p)->∀ p∈rnB V N n x y i q,p:=fun {i q} h0 h1 hq=>zaa (decide_eq_true h0) (zaa ⟨by omega,h1⟩ (zaa (by omega) (zaa (by omega) (zaa (by rw [qml]; exact ht) hq))))
 refine q7c qll (rnC V N n k x y) (fun i=>0<=i/\i<(zbe x y:Int)/\∀ j:Nat,i<(j:Int)->j<zbe x y->zee (prL V n) x y j=false) (fun i=>(i+1).toNat) (fun g nm hg=>by cases hg) ?_ fun i hi J => ?_
 . refine qqm (some (1,3)) 20000 ((zbe x y:Int) - 1) ⟨by omega,by omega,fun j h1 h2=>by omega⟩ (fun z=>jrj V N n k x y z) (zi5 V N n k x y _) (zaa (j4e hr) (zaa (qrd hr) (zaa hxy (zaa hr (zaa hc (zaa ⟨by omega,by omega⟩ qaa))))))
 . obtain ⟨h1,h2,h3⟩:=hi;by_cases h0:0<i
   . have hS:zbT x y (0+i.toNat * 1)=zbT x y i.toNat:=by rw [Nat.zero_add,Nat.mul_one]
     have hin:i.toNat<zbe x y:=by omega
     have hF:zee (prL V n) x y i.toNat=cB ((x,zbT x y i.toNat)∈prL V n):=by
      unfold zee;rw [decide_eq_false (by omega)]; rfl
     have zeq:∀ b,zee (prL V n) x y i.toNat=b->rnH V N n x y i b:=fun b hb=>by
      unfold rnH;rw [qml,hS];rw [hF] at hb;exact hb
     cases hf:zee (prL V n) x y i.toNat with
     | false =>
       refine qya (some (1,3)) 20000 (i - 1) ⟨⟨by omega,by omega,fun j h4 h5 => ?_⟩,by omega⟩ (fun z=>jsj V N n k x y i J z) (zi4 V N n k x y _) (hB h0 h2 (zaa (zeq _ hf) (zaa ⟨by omega,by omega⟩ qaa)))
       by_cases e:(j:Int)=i
       . rw [show j=i.toNat by omega]; exact hf
       . exact h3 j (by omega) h5
     | true =>
       have hP:zdk (prL V n) x y=(zbT x y i.toNat,0):=by
        unfold zdk;rw [hr,hxy,hc,show zab true (zdq (zee (prL V n) x y) (zbe x y)) none=some i.toNat from qzo hf hin fun j h4 h5=>h3 j (by omega) h5]
        rfl
       refine qta none 20000 (fun z=>j0n V N n k x y i J z) (hB h0 h2 (zaa (zeq _ hf) (zaa ⟨by omega,h2⟩ (zaa (by omega) qaa)))) fun H hH=>⟨_,_,rfl,?_,?_⟩
       . show zbT x y (0+i.toNat * 1)=_;rw [hP,hS]
       . show (0:Int)=_;rw [hP]
   . obtain rfl:i=0:=by omega
     have hn:∀ j,j<zbe x y->zee (prL V n) x y j=false:=fun j hj=>by
      by_cases e:j=0
      . subst e; rfl
      . exact h3 j (by omega) hj
     refine qi3 ht hr hxy (qz9 hn) (fun hp hP => ?_) (fun hp hP => ?_)
     . refine qta none 20000 (fun z=>jtj V N n k x y 0 J z) (zaa (decide_eq_false (by omega)) hp) fun H hH=>⟨_,_,rfl,?_,?_⟩
       . show zg6 V N n x y=_;rw [hP]
       . show (0:Int)=_;rw [hP]
     . refine qta none 20000 (fun z=>zi3 V N n k x y 0 J z) (zaa (decide_eq_false (by omega)) hp) fun H hH=>⟨_,_,rfl,?_,?_⟩
       . show ByteArray.empty=_;rw [hP]
       . show (9:Int)=_;rw [hP]
end
theorem j4n (ht:(⟨V,N,n⟩:Pw).ok) (hz:x.size<=9223372036854775807/\y.size<=9223372036854775807):Runs zfd 13 [slP 0 n k,.str (.sym x),.str (.sym y)] [rwV V N] (rnD (prL V n) x y):=by
 have hv:vlQ x y:=⟨q3c x y,fun j hj=>by
  rcases (show j=0\/j=1 by omega) with rfl | rfl
  . exact hz.1
  . exact hz.2⟩
 cases hr:(zaH x && zaH y) with
 | false =>
   have hP:zdk (prL V n) x y=(.empty,2):=by unfold zdk; rw [hr]; rfl
   have hq:rlQ x y true:=qrd hr;exact qld qll (q5a (j2n V N n k x y) (zaa hv (zaa hq (zaa hq (zaa hq (zaa hq qaa))))) fun H hH=>⟨_,_,rfl,by rw [hP]; rfl,by rw [hP]; rfl⟩)
 | true =>
   have hq:rlQ x y false:=qrd hr;cases hxy:decide (x=y) with
   | true =>
     have hP:zdk (prL V n) x y=(.empty,2):=by unfold zdk; rw [hr,hxy]; rfl
     exact qld qll (q5a (juj V N n k x y) (zaa hv (zaa hq (zaa hxy qaa))) fun H hH=>⟨_,_,rfl,by rw [hP]; rfl,by rw [hP]; rfl⟩)
   | false =>
     cases hc:zbU x y with
     | true=>exact jvj ht hr hxy hc
     | false =>
       have hn:zab (zbU x y) (zdq (zee (prL V n) x y) (zbe x y)) none=none:=by rw [hc]; rfl
       refine qi3 ht hr hxy hn (fun hp hP => ?_) (fun hp hP => ?_)
       . exact qld qll (q5a (j3c V N n k x y) (zaa hv (zaa hq (zaa hxy (zaa hr (zaa hc hp))))) fun H hH=>⟨_,_,rfl,by rw [hP]; rfl,by rw [hP]; rfl⟩)
       . exact qld qll (q5a (j1n V N n k x y) (zaa hv (zaa hq (zaa hxy (zaa hr (zaa hc hp))))) fun H hH=>⟨_,_,rfl,by rw [hP]; rfl,by rw [hP]; rfl⟩)
end
def rnV (T:List Pr) (x y:ByteArray):SV:=.tuple [.str (.sym (zdk T x y).1),.int .i64 (.sym (zdk T x y).2)]
def rnSm:zaR:=fun args H _=>qrh args fun v xv yv=>zah (zbH xv) (.stuck 7970) fun x=>zah (zbH yv) (.stuck 7970) fun y=>qso H v fun t _=>.need (t.ok/\x.den.size<=9223372036854775807/\y.den.size<=9223372036854775807) (.ok ⟨rnV t.list x.den y.den,[],[]⟩)
theorem jwj {T:List Pr} {x y:ByteArray} {s:zbg} {e:SI} (h1:s.den=(zdk T x y).1) (h2:e.den=(zdk T x y).2) (f:Nat->Nat):((SV.tuple [.str s,.int .i64 e]).ren f).Imp (rnV T x y):=fun γ v hv=>by
 have hv:some (Value.tuple #[.string s.den,.int .i64 e.den])=some v:=hv;rw [h1,h2] at hv;exact hv
theorem rnOK:q2a Tryd.prog 13 rnSm:=by
 intro glob O w0 β H w base args vs hH hG ha;refine qxd fun v xv yv hv=>qca fun x hx=>qca fun y hy => ?_
 rw [hv,qua hx,qua hy] at ha;have ha:=qja (.refl v) (qja (qhb (t:=.sym x.den) rfl) (qja (qhb (t:=.sym y.den) rfl) qsb)) _ _ ha;generalize x.den=x at ha ⊢;generalize y.den=y at ha ⊢;exact qym fun t nm ht hi=>fun hok=>q98 (g:=q2b zjr) (keep:=[]) hH ha ht hi (fun _=>rfl) (fun _=>rfl) (by simp) (by simp) (fun k=>j4n hok.1 hok.2) fun k v H ⟨s,e,he,h1,h2⟩=>by
  rw [he];exact ⟨jwj h1 h2 _,rfl,trivial,trivial⟩
end
end Go.Proofs.YtbhlngmhgplepaaDoor.Aes
