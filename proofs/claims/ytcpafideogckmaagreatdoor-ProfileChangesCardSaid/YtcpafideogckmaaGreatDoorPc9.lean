/-
  Texts behind one another: the symbolic simulator and what it is told of the program.
-/
import Derived.Test.YtcpafideogckmaaGreatDoorPc8
import Derived.Test.YtcpafideogckmaaGreatDoorCzTxt3
namespace Go.Proofs.YtcpafideogckmaaGreatDoor.Aes
noncomputable section
open Go.Sim
open Go.Proofs
open Go.RowKit
variable {α:Type}
theorem j8g (X Y:Nat->BitVec 8) (n m1 n2 m2 o o2:Nat):outO [2] (qca cfg0 2000 39 [.slice ⟨0,.sym o⟩ (.lit 16) (.sym m1),.slice ⟨1,.sym o2⟩ (.lit 16) (.sym m2)] [rowF X n,rowF Y n2]) [] =
  (xorC o n o2 n2 [],some (.slice ⟨2,.lit 0⟩ (.lit 16) (.lit 16),[some (.own (.lst (bx (addL (qha X o) (qha Y o2)))) true 5)])):=by kernel_rfl
def jwl:Summ:=fun args H base=>qdd args fun u v=>qob u (.stuck 920) fun a l1=>qob v (.stuck 920) fun b l2=>boolC (Nat.beq a.nm b.nm) (.stuck 920) (qod l1 16 (qod l2 16 (q4b (nth H a.nm) fun X n=>q4b (nth H b.nm) fun Y n2=>.need (a.off.den+16<=n/\b.off.den+16<=n2)
 (.ok ⟨.slice ⟨base,.lit 0⟩ (.lit 16) (.lit 16),[],[.own (.lst (bx (addL (qha X a.off.den) (qha Y b.off.den)))) true 5]⟩)) (.stuck 920)) (.stuck 920))
theorem jut:q3a Tryz.prog 39 jwl:=by
 intro glob O w0 β H w base args vs hH hG ha
 refine qnb fun u v hv=>qxa (fun _=>trivial) fun a l1 c1 hs1=>qxa (fun _=>trivial) fun b l2 c2 hs2=>qna (fun _=>trivial) fun hab=>qxb (fun hl1=>qxb (fun hl2=>q5a fun X n t1=>q5a fun Y n2 t2=>fun hn => ?_) fun _=>trivial) fun _=>trivial
 rw [hv,hs1,hs2] at ha
 rw [qga] at t1 t2
 obtain ⟨x,ys,hx,hys,rfl⟩:=denL_cons.1 ha
 obtain ⟨y,zs,hy,hz,rfl⟩:=denL_cons.1 hys
 obtain ⟨m1,_,hd1,_,_⟩:=q8a hx
 obtain ⟨m2,_,hd2,_,_⟩:=q8a hy
 rw [hl1] at hd1
 rw [hl2] at hd2
 exact qqb q4c rfl 2000 hH ⟨[a.nm,b.nm],[rowF X n,rowF Y n2],[.slice ⟨0,.sym a.off.den⟩ (.lit 16) (.sym m1),.slice ⟨1,.sym b.off.den⟩ (.lit 16) (.sym m2)]⟩ (denL_cons.2 ⟨_,_,hd1,denL_cons.2 ⟨_,_,hd2,hz,rfl⟩,rfl⟩)
  (Ifc.fits (by simpa using qmb hab) rfl ⟨⟨t1 _,qya _ _ _⟩,⟨t2 _,qya _ _ _⟩,trivial⟩) [2] (by simp) (by simp) (j8g X Y n m1 n2 m2 a.off.den b.off.den) (q12 hn.1 hn.2 qaa) fun H2 hH2=>⟨SV.imp_of_eq rfl,rfl,trivial,⟨qbg (List.cons.inj hH2).1,trivial⟩⟩
def q18:Cfg:=cfgG qvg (qbb [(35,q05),(38,q8x),(40,qyl decL),(39,jwl)])
theorem jfo:CfgOK q18:=qwb (allA j7g (allA qr2 (allA jbd (allA (jut _) (by simp)))))
end
noncomputable section
open Go.Sim
open Go.Proofs
open Go.RowKit
def rdxN (w:Nat) (m:Nat):Nat->List Prop:=Nat.rec (motive:=fun _=>Nat->List Prop) (fun _=>[]) (fun _ ih i=>(16 * i<=w/\176<=176)::(16<=16/\16 * (i - 1)<=w)::ih (i+1)) m
def rdxM (X Y Z:Nat->BitVec 8) (n n2 n3 o o2 o3 l w:Nat):List Prop :=
 IsB (qea X)::(o+16<=n)::IsB (qea Z)::(o3+(w - 32)+16<=n3/\176<=176)::(o3+(w - 16)+(l - (w - 16))<=n3)::(o3+(w - 32)<=n3)::(o3+(w - 32)+16<=n3)::(16<=w/\176<=176)::IsB (qea Y)::(16<=16/\o2+16<=n2)::rdxN w (Nat.sub (Nat.div w 16) 1) 2
def rdxC (X Y Z:Nat->BitVec 8) (n n2 n3 o o2 o3 l:Nat):List Prop:=boolC (Nat.beq l 16) [IsB (qea X),o+16<=n,IsB (qea Z),o3+16<=n3/\176<=176,IsB (qea Y),16<=16/\o2+16<=n2] (rdxM X Y Z n n2 n3 o o2 o3 l (Nat.mul 16 (numB l)))
section
variable (X Y Z:Nat->BitVec 8) (n m1 n2 m2 n3 m3 o o2 o3:Nat)
def rdxL (l:Nat):List Prop × Option (SV × List (Option SO)):=outO [qsw l] (qca q18 20000 25 (q4k m1 m2 m3 o o2 o3 l) (q5k X Y Z n n2 n3)) []
def rdxR (l:Nat):List Prop × Option (SV × List (Option SO)):=(rdxC X Y Z n n2 n3 o o2 o3 l,some (.slice ⟨qsw l,.lit 0⟩ (.lit l) (capR (dcp l) (qsw l) l),[some (.own (.lst (bx (decF (qha X o) (qha Y o2) (fun j=>Z (o3+j)) l))) (dcp l) 5)]))
end
end
end Go.Proofs.YtcpafideogckmaaGreatDoor.Aes
