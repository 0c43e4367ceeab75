/-
  zcS behind one another: the symbolic simulator and what it is told of the program.
-/
import Derived.Test.YtbhlngmhgplepaaDoorZhRtc3a
import Derived.Test.YtbhlngmhgplepaaDoorZhRtc3b
import Derived.Test.YtbhlngmhgplepaaDoorZhRtc3c
import Derived.Test.YtbhlngmhgplepaaDoorZhRtc3d
import Derived.Test.YtbhlngmhgplepaaDoorZhRtc3e
set_option maxRecDepth 1000000
namespace Go.Proofs.YtbhlngmhgplepaaDoor.Aes
noncomputable section
open Go.Sim
open Go.Proofs
variable {α:Type}
theorem qtc {β:Type} {f g:Nat->β} {k:Nat} (h:zas f (qqa k 0)=zas g (qqa k 0)) {l:Nat} (h2:l<k):f l=g l:=by
 rw [qxa,qxa,qpd,List.map_inj_left] at h;exact h l (by simp [h2])
theorem jgj (z:Nat->Nat->Nat) {b k:Nat} (hb:b<5) (hk:k<24):zcL [0,25] zfN (zf4 b k) z=(zfy z b k,some zfS):=by
 match b,hb with
 | 0,_=>exact qtc (jgb z) hk
 | 1,_=>exact qtc (jhb z) hk
 | 2,_=>exact qtc (jib z) hk
 | 3,_=>exact qtc (jjb z) hk
 | 4,_=>exact qtc (jkb z) hk
theorem jqf (z:Nat->Nat->Nat):∃ ds ps,zcL [0,25] zfN ds z=(ps,some zfS)/\∀ p∈ps,p:=by
 let x0:=min (z 0 0) 4
 let x1:=min (z 1 0) 3
 let x2:=min (z 2 0) 2
 let x3:=min (z 3 0) 1
 have h0:x0<=4:=Nat.min_le_right _ _;have h1:x1<=3:=Nat.min_le_right _ _;have h2:x2<=2:=Nat.min_le_right _ _;have h3:x3<=1:=Nat.min_le_right _ _
 let k:=x1 * 6+x2 * 2+x3
 have e1:k / 6=x1:=by show (x1 * 6+x2 * 2+x3) / 6=x1; omega
 have e2:k % 6 / 2=x2:=by show (x1 * 6+x2 * 2+x3) % 6 / 2=x2; omega
 have e3:k % 2=x3:=by show (x1 * 6+x2 * 2+x3) % 2=x3; omega
 refine ⟨zf4 x0 k,zfy z x0 k,jgj z (by omega) (by show x1 * 6+x2 * 2+x3<24; omega),fun p hp => ?_⟩
 unfold zfy at hp;rw [e1,e2,e3] at hp;simp only [q7a,List.mem_append] at hp;rcases hp with hp | hp | hp | hp
 . exact q4k (z 0 0) 4 0 (Nat.zero_le _) p hp
 . exact q4k (z 1 0) 3 0 (Nat.zero_le _) p hp
 . exact q4k (z 2 0) 2 0 (Nat.zero_le _) p hp
 . exact q4k (z 3 0) 1 0 (Nat.zero_le _) p hp
def qkm (v:SV):Option Nat :=
 SV.rec (motive_1:=fun _=>Option Nat) (motive_2:=fun _=>Unit) (fun _ _=>none) (fun _=>none) (fun _=>none) (fun _=>none) none (fun _ _ _=>none) none (fun n=>some n) none (fun _ _ _ _ _=>none) none (fun _ _ _=>none) none (fun _ _=>none) (fun _ _=>none) (fun _=>none) (fun _ _ _ _=>none) () (fun _ _ _ _=>()) v
theorem qhf {v:SV} {n:Nat} (h:qkm v=some n):v=.map n:=by
 cases v <;> first | (cases h; done) | (cases h; rfl)
def zgs:SO:=.obj (.map es5 5)
def srtE:SO:=.own (.lst [rA,rB,rA,rC,rB,rD,rC,rD,rD,rA]) false 71
def qjs (v:SV) (l:List UInt8):Bool:=match v with | .str (.lit s)=>s.data.toList == l | _=>false
theorem qlm {v:SV} {l:List UInt8} (h:qjs v l=true):v=.str (.lit (bA l)):=by
 unfold qjs at h;split at h
 . rename_i s;have h:=eq_of_beq h;obtain ⟨⟨x⟩⟩:=s;have h:x=l:=h;rw [h]; rfl
 . cases h
def qmm (e:SV × SV × Nat) (a b:List UInt8) (n:Nat):Bool:=match e with | (.agg [x,y],.bool (.lit true),k)=>qjs x a && (qjs y b && Nat.beq k n) | _=>false
theorem qug {e:SV × SV × Nat} {a b:List UInt8} {n:Nat} (h:qmm e a b n=true):e=(.agg [.str (.lit (bA a)),.str (.lit (bA b))],.bool (.lit true),n):=by
 unfold qmm at h;split at h
 . obtain ⟨h1,h2⟩:=Bool.and_eq_true_iff.1 h;obtain ⟨h2,h3⟩:=Bool.and_eq_true_iff.1 h2;rw [qlm h1,qlm h2,Nat.eq_of_beq_eq_true h3]
 . cases h
def is5 (e:SO):Bool:=match e with
 | .obj (.map [a,b,c,d,e] k)=>qmm a [65] [66] 0 && (qmm b [65] [67] 1 && (qmm c [66] [68,46,67] 2 && (qmm d [67] [68,46,67] 3 && (qmm e [68,46,67] [65] 4 && Nat.beq k 5))))
 | _=>false
theorem jlb {e:SO} (h:is5 e=true):e=zgs:=by
 unfold is5 at h;split at h
 . obtain ⟨h1,h⟩:=Bool.and_eq_true_iff.1 h;obtain ⟨h2,h⟩:=Bool.and_eq_true_iff.1 h;obtain ⟨h3,h⟩:=Bool.and_eq_true_iff.1 h;obtain ⟨h4,h⟩:=Bool.and_eq_true_iff.1 h;obtain ⟨h5,h⟩:=Bool.and_eq_true_iff.1 h;rw [qug h1,qug h2,qug h3,qug h4,qug h5,Nat.eq_of_beq_eq_true h];rfl
 . cases h
def srtS:za3:=fun args H base=>qrg args fun v=>zah (qkm v) (.stuck 683) fun m=>zah (nth H m) (.stuck 683) fun e=>zab (is5 e) (.ok ⟨.slice ⟨base,.lit 0⟩ (.lit 5) (.rest base 0),[(m,zgs)],[srtE]⟩) (.stuck 683)
theorem zib:qeb Tryd.prog 68 srtS:=by
 intro glob O w0 β H w base args vs hH hG ha;refine qdd fun v hv=>qfa fun m hm=>qfa fun e he=>qgb fun h5 => ?_
 rw [jlb h5,qda] at he;have hE:H[m]? = some zgs:=he;rw [hv,qhf hm] at ha
 let I:Ifc:=⟨[m],[zgs],[.map 0]⟩
 refine qcb q21 20000 hH I (by intro g j hg; cases hg) ha (Ifc.zbV (by simp [I]) rfl ⟨⟨⟨zgs,hE,.map es5 5,rfl,fun _ _ h=>h⟩,rfl⟩,trivial⟩) [25] (by simp [I]) (by simp) (q01 (js:=[0,25]) jqf fun H2 hH2 => ?_)
 obtain ⟨h0,h1⟩:=List.cons.inj (show [H2[0]?,H2[25]?]=[some zgs,some srtE] from hH2)
 have h1:=(List.cons.inj h1).1;exact ⟨SV.zaR rfl,rfl,⟨⟨rfl,.inr ⟨.map es5 5,.map es5 5,h0,rfl,fun _ _ h=>h,rfl⟩⟩,trivial⟩,⟨.inl ⟨_,_,_,_,h1,by rfl,Cells.zaR rfl,rfl⟩,trivial⟩⟩
end
noncomputable section
open Go.Sim
open Go.Proofs
variable {α:Type}
def qm5 (v:SV):Nat:=v.asSlice 0 fun a _ _=>a.nm
def zkw:SO:=.own (.lst [rB]) false 9
def qn5 (v:SV):Bool:=match v with | .slice ⟨_,.lit 0⟩ (.lit 1) (.lit 1)=>true | _=>false
theorem qo5 {v:SV} (h:qn5 v=true):v=.slice ⟨qm5 v,.lit 0⟩ (.lit 1) (.lit 1):=by
 unfold qn5 at h;split at h
 . rfl
 . cases h
def q2y (e:SO):Bool:=match e with | .own (.lst [x]) _ _=>qjs x [66] | _=>false
theorem q80 {e:SO} (h:q2y e=true):∃ w el,e=.own (.lst [rB]) w el:=by
 unfold q2y at h;split at h
 . rw [qlm h]; exact ⟨_,_,rfl⟩
 . cases h
def qks (v:SV):Bool:=match v with | .zad=>true | _=>false
theorem q90 {v:SV} (h:qks v=true):v=.zad:=by
 unfold qks at h;split at h
 . rfl
 . cases h
def clnS:za3:=fun args H base=>qrg args fun v=>zab (qks v) (.ok ⟨.zad,[],[]⟩) (zab (qn5 v) (zah (nth H (qm5 v)) (.stuck 685) fun e=>zab (q2y e) (.ok ⟨.slice ⟨base,.lit 0⟩ (.lit 1) (.rest base 0),[],[zkw]⟩) (.stuck 685)) (.stuck 686))
theorem jrf:za4 [] (qka (qhc fun _=>none) 400 45 [.zad] []) []=([],some (.zad,[])):=by kernel_rfl
theorem jsf:za4 [2] (qka (qhc fun _=>none) 400 45 [.slice ⟨0,.lit 0⟩ (.lit 1) (.lit 1)] [.row (.lst [rB])]) []=([],some (.slice ⟨2,.lit 0⟩ (.lit 1) (.rest 2 0),[some zkw])):=by kernel_rfl
theorem zkv:qeb Tryd.prog 45 clnS:=by
 intro glob O w0 β H w base args vs hH hG ha;refine qdd fun v hv => ?_
 by_cases hn:qks v=true
 . rw [hn];rw [hv,q90 hn] at ha;exact qud qa8 rfl 400 hH ⟨[],[],[.zad]⟩ ha (qkd rfl) [] (by simp) (by simp) jrf qaa fun H2 _=>jmd rfl rfl rfl
 . rw [Bool.not_eq_true] at hn;rw [hn];refine qgb fun h1=>qfa fun e h2=>qgb fun h3 => ?_
   rw [hv,qo5 h1] at ha;obtain ⟨w',el,h3⟩:=q80 h3;rw [qda,h3] at h2;generalize qm5 v=m at ha h2
   let I:Ifc:=⟨[m],[.row (.lst [rB])],[.slice ⟨0,.lit 0⟩ (.lit 1) (.lit 1)]⟩
   refine qud qa8 rfl 400 hH I ha (Ifc.fits (by simp [I]) rfl ⟨⟨⟨_,h2,.lst [rB],.inr ⟨_,_,rfl⟩,(Cells.Imp.refl _).front⟩,rfl⟩,trivial⟩) [2] (by simp [I]) (by simp) jsf qaa fun H2 hH2 => ?_
   have h:=(List.cons.inj (show [H2[2]?]=[some zkw] from hH2)).1
   exact ⟨SV.zaR rfl,rfl,trivial,⟨⟨_,_,_,_,h,by rfl,Cells.zaR rfl,rfl⟩,trivial⟩⟩
def jqd:Cfg:=qhc (qkc [(109,zes),(63,zf6),(68,srtS),(45,clnS)])
theorem jtf:zaC jqd:=qpc (zcu qaw (zcu zck (zcu zib (all1 zkv))))
end
end Go.Proofs.YtbhlngmhgplepaaDoor.Aes
