/-
  The reference's block cipher, third part: the words of a key; encrypting and decrypting.
-/
import Derived.Test.YtcpafideogckmaaGreatDoorPc6
namespace Go.Proofs.YtcpafideogckmaaGreatDoor.Aes
noncomputable section
open Go.Sim
open Go.Proofs
variable {α:Type}
set_option maxRecDepth 1000000
def repL (l:List Prop) (n:Nat):List Prop:=Nat.rec (motive:=fun _=>List Prop) [] (fun _ ih=>app l ih) n
theorem qfo {a b:List Prop} (ha:∀ p∈a,p) (hb:∀ p∈b,p):∀ p∈app a b,p:=by
 intro p hp
 rw [qib] at hp
 rcases List.mem_append.1 hp with h | h
 . exact ha p h
 . exact hb p h
theorem qsu {l:List Prop} (h:∀ p∈l,p):∀ n,∀ p∈repL l n,p
 | 0=>fun _ hp=>by cases hp
 | n+1=>qfo h (qsu h n)
def jel:List (BitVec 8):=mapN (fun n=>BitVec.ofNat 8 n) subs
def refB (x:BitVec 8):BitVec 8:=qba jel (0+x.toNat)
def jfl:List (BitVec 8):=mapN (fun n=>BitVec.ofNat 8 n) recs
def refI (x:BitVec 8):BitVec 8:=qba jfl (0+x.toNat)
theorem qfz:(List.range 256).all (fun n=>(qba jel n).toNat == (qsj n).toNat && (qba jfl n).toNat == (qsj (256+n)).toNat)=true:=by kernel_rfl
theorem qv5:refB=subB:=by
 funext x
 have h:=List.all_eq_true.1 qfz x.toNat (List.mem_range.2 x.isLt)
 rw [Bool.and_eq_true] at h
 apply BitVec.eq_of_toNat_eq
 have h1:=h.1
 unfold refB subB
 rw [Nat.zero_add]
 simpa using h1
theorem j4n:refI=recB:=by
 funext x
 have h:=List.all_eq_true.1 qfz x.toNat (List.mem_range.2 x.isLt)
 rw [Bool.and_eq_true] at h
 apply BitVec.eq_of_toNat_eq
 have h1:=h.2
 unfold refI recB
 rw [Nat.zero_add]
 simpa using h1
def nextS (S:BitVec 8->BitVec 8) (f:BitVec 8) (k:List (BitVec 8)):List (BitVec 8) :=
 let n0:=qba k 0 ^^^ (S (qba k 13) ^^^ f)
 let n1:=qba k 1 ^^^ S (qba k 14)
 let n2:=qba k 2 ^^^ S (qba k 15)
 let n3:=qba k 3 ^^^ S (qba k 12)
 let n4:=qba k 4 ^^^ n0
 let n5:=qba k 5 ^^^ n1
 let n6:=qba k 6 ^^^ n2
 let n7:=qba k 7 ^^^ n3
 let n8:=qba k 8 ^^^ n4
 let n9:=qba k 9 ^^^ n5
 let na:=qba k 10 ^^^ n6
 let nb:=qba k 11 ^^^ n7
 [n0,n1,n2,n3,n4,n5,n6,n7,n8,n9,na,nb,qba k 12 ^^^ n8,qba k 13 ^^^ n9,qba k 14 ^^^ na,qba k 15 ^^^ nb]
def jad (S:BitVec 8->BitVec 8) (n:Nat):Nat->List (BitVec 8)->List (BitVec 8) :=
 Nat.rec (motive:=fun _=>Nat->List (BitVec 8)->List (BitVec 8)) (fun _ k=>k) (fun _ ih r k=>app k (ih (Nat.succ r) (nextS S (powB r) k))) n
def jgl (S:BitVec 8->BitVec 8) (k:List (BitVec 8)):List (BitVec 8):=jad S 10 0 k
theorem jpg (k:List (BitVec 8)):jgl refB k=q9e k:=by rw [qv5]; rfl
def qll (S:BitVec 8->BitVec 8) (K:Nat->BitVec 8) (r:Nat) (xs:List (BitVec 8)):List (BitVec 8):=addL (mixL true (qdo (mapL S xs))) (rkey K r)
def encS (S:BitVec 8->BitVec 8) (K:Nat->BitVec 8) (xs:List (BitVec 8)):List (BitVec 8) :=
 addL (qdo (mapL S (qll S K 9 (qll S K 8 (qll S K 7 (qll S K 6 (qll S K 5 (qll S K 4 (qll S K 3 (qll S K 2 (qll S K 1 (addL xs (rkey K 0))))))))))))) (rkey K 10)
theorem j5n (K:Nat->BitVec 8) (xs:List (BitVec 8)):encS refB K xs=encL K xs:=by rw [qv5]; rfl
def qml (S:BitVec 8->BitVec 8) (K:Nat->BitVec 8) (r:Nat) (xs:List (BitVec 8)):List (BitVec 8):=mapL S (q8j (mixL false (addL xs (rkey K r))))
def decS (S:BitVec 8->BitVec 8) (K:Nat->BitVec 8) (xs:List (BitVec 8)):List (BitVec 8) :=
 addL (qml S K 1 (qml S K 2 (qml S K 3 (qml S K 4 (qml S K 5 (qml S K 6 (qml S K 7 (qml S K 8 (qml S K 9 (mapL S (q8j (addL xs (rkey K 10))))))))))))) (rkey K 0)
theorem j6n (K:Nat->BitVec 8) (xs:List (BitVec 8)):decS refI K xs=decL K xs:=by rw [j4n]; rfl
theorem qq8 (X:Nat->BitVec 8) (n m o:Nat):outP [413] (qca qkl 20000 38 [.slice ⟨1,.sym o⟩ (.lit 16) (.sym m)] [tabR,rowF X n]) =
  ([o+16<=n],some (.slice ⟨413,.lit 0⟩ (.lit 176) (.rest 413 0),[some (.own (.lst (bx (jgl refB (qha X o)))) false 5)])):=by kernel_rfl
theorem jqg (X W:Nat->BitVec 8) (n m o o2 n2 m2:Nat):outP [32] (qca qkl 20000 53 [.slice ⟨1,.sym o2⟩ (.lit 176) (.sym m2),.slice ⟨2,.sym o⟩ (.lit 16) (.sym m)] [tabR,rowF W n2,rowF X n]) =
  (app [IsB (qea X),IsB (qea W),o+16<=n/\o2+176<=n2] (app (repL [0+16<=16,IsB (qea W),0+16<=16/\o2+176<=n2] 9) [IsB (qea W),0+16<=16/\o2+176<=n2]),
   some (.slice ⟨32,.lit 0⟩ (.lit 16) (.lit 16),[some (.own (.lst (bx (encS refB (at2 W o2) (qha X o)))) true 5)])):=by kernel_rfl
theorem jrg (X W:Nat->BitVec 8) (n m o o2 n2 m2:Nat):outP [33] (qca qkl 20000 40 [.slice ⟨1,.sym o2⟩ (.lit 176) (.sym m2),.slice ⟨2,.sym o⟩ (.lit 16) (.sym m)] [tabR,rowF W n2,rowF X n]) =
  (app [IsB (qea X),IsB (qea W),o+16<=n/\o2+176<=n2] (app (repL [IsB (qea W),0+16<=16/\o2+176<=n2,0+16<=16] 9) [IsB (qea W),0+16<=16/\o2+176<=n2]),
   some (.slice ⟨33,.lit 0⟩ (.lit 16) (.lit 16),[some (.own (.lst (bx (decS refI (at2 W o2) (qha X o)))) true 5)])):=by kernel_rfl
end
end Go.Proofs.YtcpafideogckmaaGreatDoor.Aes
