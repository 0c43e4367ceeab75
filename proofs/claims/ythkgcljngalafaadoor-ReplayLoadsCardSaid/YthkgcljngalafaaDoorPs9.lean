/-
  The tables of the hash function and of its reference, az rows at the first names.
-/
import Derived.Test.YthkgcljngalafaaDoorZsSha3
namespace Go.Proofs.YthkgcljngalafaaDoor.Aes
noncomputable section
open Go.Sim
open Go.Proofs
variable {α:Type}
def qxd:Nat->Option Nat:=fun g=>boolC (Nat.beq g 0) (some 0) (boolC (Nat.beq g 2) (some 1) (boolC (Nat.beq g 1) (some 2) none))
def qxm:SO:=.row (.lst [.slice ⟨3,.lit 0⟩ (.lit 64) (.lit 64)])
def qj4:SO:=.row (.lst (kx .i64 constL))
def shaH (l:List SO):List SO:=qah::qbh::qxm::qj4::l
def qk4 (e:Option SO):Bool:=optC (qbe e) false fun l=>List.rec (motive:=fun _=>Bool) false (fun v r _=>boolC (qkw v 3 64) (nilN r) false) l
theorem ql4 {e:Option SO} (h:qk4 e=true) (g:Nat->Nat) (hg:g 3=3):∃ e',e=some e'/\Taken g qxm e':=by
 unfold qk4 at h
 cases hc:qbe e with
 | none=>rw [hc] at h; cases h
 | some l =>
   rw [hc] at h
   cases l with
   | nil=>cases h
   | cons v r =>
     obtain ⟨h1,h2⟩:=qrm (show boolC (qkw v 3 64) (nilN r) false=true from h)
     cases r with
     | cons=>cases h2
     | nil =>
       rw [qe4 h1] at hc
       refine qok hc ?_
       show SV.ImpL _ [.slice ⟨g 3,.lit 0⟩ (.lit 64) (.lit 64)]
       rw [hg]; exact .refl _
def shaT (H:List SO) (r:R α):R α:=boolC (rowK .u32 startL (nth H 0)) (boolC (rowK .u32 constL (nth H 1)) (boolC (qk4 (nth H 2)) (boolC (rowK .i64 constL (nth H 3)) r (.stuck 730)) (.stuck 731)) (.stuck 732)) (.stuck 733)
structure ShaT (H:List SO):Prop where
 s0:∀ g,∃ e',H[0]? = some e'/\Taken g qah e'
 s1:∀ g,∃ e',H[1]? = some e'/\Taken g qbh e'
 s2:∀ g:Nat->Nat,g 3=3->∃ e',H[2]? = some e'/\Taken g qxm e'
 s3:∀ g,∃ e',H[3]? = some e'/\Taken g qj4 e'
theorem q0q {H:List SO} {r:R α} {φ:α->Prop} (h:ShaT H->r.Sat φ):(shaT H r).Sat φ:=by
 refine qta fun h0=>qta fun h1=>qta fun h2=>qta fun h3=>h ⟨fun g => ?_,fun g => ?_,fun g hg => ?_,fun g => ?_⟩
 . rw [← qca]; exact qii h0 g
 . rw [← qca]; exact qii h1 g
 . rw [← qca]; exact ql4 h2 g hg
 . rw [← qca]; exact qii h3 g
def shaI (names:List Nat) (ents:List SO) (args:List SV):Ifc:=⟨0::1::2::3::names,shaH ents,args⟩
theorem qfo {H:List SO} (hT:ShaT H) {names:List Nat} {ents:List SO} {args:List SV} (h:EntsOK (shaI names ents args).big (shaI names ents args).known H names ents):EntsOK (shaI names ents args).big (shaI names ents args).known H (shaI names ents args).names (shaI names ents args).ents :=
 ⟨⟨hT.s0 _,qtf _ _ _⟩,⟨hT.s1 _,qtf _ _ _⟩,⟨hT.s2 _ rfl,rfl⟩,⟨hT.s3 _,qtf _ _ _⟩,h⟩
theorem qck {β:Val} {names:List Nat} {ents:List SO} {args:List SV} (hG:GlobRel qxd β):∀ g j,qxd g=some j->(shaI names ents args).known j=true/\∃ l,β ((shaI names ents args).big j)=some l/\l.blk=g/\l.off=0:=by
 intro g j hg
 have hj:j=0\/j=1\/j=2:=by
  rcases qpc (show boolC (Nat.beq g 0) (some 0) _=some j from hg) with ⟨_,h⟩ | h
  . cases h; exact .inl rfl
  rcases qpc h with ⟨_,h⟩ | h
  . cases h; exact .inr (.inl rfl)
  obtain ⟨_,h⟩:=qzb h
  cases h; exact .inr (.inr rfl)
 rcases hj with rfl | rfl | rfl
 . exact ⟨rfl,hG g 0 hg⟩
 . exact ⟨rfl,hG g 1 hg⟩
 . exact ⟨rfl,hG g 2 hg⟩
theorem jxf {g nm:Nat} (h:qxi g=some nm):qxd g=some nm:=by
 rcases qpc (show boolC (Nat.beq g 0) (some 0) _=some nm from h) with ⟨h1,h2⟩ | h
 . cases h2; unfold qxd; rw [h1]; rfl
 obtain ⟨h1,h2⟩:=qzb h
 cases h2
 have e:=q0b h1
 subst e
 rfl
theorem SumAt.up {f:FuncId} {s:Summ} (h:SumAt Tryd.prog qxi f s):SumAt Tryd.prog qxd f s:=fun O w0 β H w base args vs hH hG ha=>h O w0 β H w base args vs hH (fun g nm hg=>hG g nm (jxf hg)) ha
theorem qwj {g nm:Nat} (hg:qxd g=some nm):nm<3:=by
 rcases qpc (show boolC (Nat.beq g 0) (some 0) _=some nm from hg) with ⟨_,h⟩ | h
 . cases h; omega
 rcases qpc h with ⟨_,h⟩ | h
 . cases h; omega
 obtain ⟨_,h⟩:=qzb h
 cases h; omega
end
end Go.Proofs.YthkgcljngalafaaDoor.Aes
