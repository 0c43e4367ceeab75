/-
  The tables of the hash function and of its reference, az rows at the first names.
-/
import Derived.Test.YthkgcljngalafaaDoorZqSha3
namespace Go.Proofs.YthkgcljngalafaaDoor.Aes
noncomputable section
open Go.Sim
open Go.Proofs
variable {α:Type}
def qhc:Nat->Option Nat:=fun g=>boolC (Nat.beq g 0) (some 0) (boolC (Nat.beq g 2) (some 1) (boolC (Nat.beq g 1) (some 2) none))
def qtn:SO:=.row (.lst [.slice ⟨3,.lit 0⟩ (.lit 64) (.lit 64)])
def qt6:SO:=.row (.lst (kx .i64 constL))
def shaH (l:List SO):List SO:=qvh::qwh::qtn::qt6::l
def qu6 (e:Option SO):Bool:=optC (qse e) false fun l=>List.rec (motive:=fun _=>Bool) false (fun v r _=>boolC (qfy v 3 64) (nilN r) false) l
theorem qv6 {e:Option SO} (h:qu6 e=true) (g:Nat->Nat) (hg:g 3=3):∃ e',e=some e'/\Taken g qtn e':=by
 unfold qu6 at h
 cases hc:qse e with
 | none=>rw [hc] at h; cases h
 | some l =>
   rw [hc] at h
   cases l with
   | nil=>cases h
   | cons v r =>
     obtain ⟨h1,h2⟩:=qon (show boolC (qfy v 3 64) (nilN r) false=true from h)
     cases r with
     | cons=>cases h2
     | nil =>
       rw [qo6 h1] at hc
       refine qil hc ?_
       show SV.ImpL _ [.slice ⟨g 3,.lit 0⟩ (.lit 64) (.lit 64)]
       rw [hg]; exact .refl _
def shaT (H:List SO) (r:R α):R α:=boolC (rowK .u32 startL (nth H 0)) (boolC (rowK .u32 constL (nth H 1)) (boolC (qu6 (nth H 2)) (boolC (rowK .i64 constL (nth H 3)) r (.stuck 730)) (.stuck 731)) (.stuck 732)) (.stuck 733)
structure ShaT (H:List SO):Prop where
 s0:∀ g,∃ e',H[0]? = some e'/\Taken g qvh e'
 s1:∀ g,∃ e',H[1]? = some e'/\Taken g qwh e'
 s2:∀ g:Nat->Nat,g 3=3->∃ e',H[2]? = some e'/\Taken g qtn e'
 s3:∀ g,∃ e',H[3]? = some e'/\Taken g qt6 e'
theorem qnk {H:List SO} {r:R α} {φ:α->Prop} (h:ShaT H->r.Sat φ):(shaT H r).Sat φ:=by
 refine qva fun h0=>qva fun h1=>qva fun h2=>qva fun h3=>h ⟨fun g => ?_,fun g => ?_,fun g hg => ?_,fun g => ?_⟩
 . rw [← qfa]; exact q8i h0 g
 . rw [← qfa]; exact q8i h1 g
 . rw [← qfa]; exact qv6 h2 g hg
 . rw [← qfa]; exact q8i h3 g
def shaI (names:List Nat) (ents:List SO) (args:List SV):Ifc:=⟨0::1::2::3::names,shaH ents,args⟩
theorem q5k {H:List SO} (hT:ShaT H) {names:List Nat} {ents:List SO} {args:List SV} (h:EntsOK (shaI names ents args).big (shaI names ents args).known H names ents):EntsOK (shaI names ents args).big (shaI names ents args).known H (shaI names ents args).names (shaI names ents args).ents :=
 ⟨⟨hT.s0 _,q5d _ _ _⟩,⟨hT.s1 _,q5d _ _ _⟩,⟨hT.s2 _ rfl,rfl⟩,⟨hT.s3 _,q5d _ _ _⟩,h⟩
theorem qzf {β:Val} {names:List Nat} {ents:List SO} {args:List SV} (hG:GlobRel qhc β):∀ g j,qhc g=some j->(shaI names ents args).known j=true/\∃ l,β ((shaI names ents args).big j)=some l/\l.blk=g/\l.off=0:=by
 intro g j hg
 have hj:j=0\/j=1\/j=2:=by
  rcases q2c (show boolC (Nat.beq g 0) (some 0) _=some j from hg) with ⟨_,h⟩ | h
  . cases h; exact .inl rfl
  rcases q2c h with ⟨_,h⟩ | h
  . cases h; exact .inr (.inl rfl)
  obtain ⟨_,h⟩:=q4b h
  cases h; exact .inr (.inr rfl)
 rcases hj with rfl | rfl | rfl
 . exact ⟨rfl,hG g 0 hg⟩
 . exact ⟨rfl,hG g 1 hg⟩
 . exact ⟨rfl,hG g 2 hg⟩
theorem jth {g nm:Nat} (h:qoj g=some nm):qhc g=some nm:=by
 rcases q2c (show boolC (Nat.beq g 0) (some 0) _=some nm from h) with ⟨h1,h2⟩ | h
 . cases h2; unfold qhc; rw [h1]; rfl
 obtain ⟨h1,h2⟩:=q4b h
 cases h2
 have e:=q8b h1
 subst e
 rfl
theorem SumAt.up {f:FuncId} {s:Summ} (h:SumAt Tryd.prog qoj f s):SumAt Tryd.prog qhc f s:=fun O w0 β H w base args vs hH hG ha=>h O w0 β H w base args vs hH (fun g nm hg=>hG g nm (jth hg)) ha
theorem q7r {g nm:Nat} (hg:qhc g=some nm):nm<3:=by
 rcases q2c (show boolC (Nat.beq g 0) (some 0) _=some nm from hg) with ⟨_,h⟩ | h
 . cases h; omega
 rcases q2c h with ⟨_,h⟩ | h
 . cases h; omega
 obtain ⟨_,h⟩:=q4b h
 cases h; omega
end
end Go.Proofs.YthkgcljngalafaaDoor.Aes
