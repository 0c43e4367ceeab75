/-
  zda behind one another: the symbolic simulator and what it is told of the program.
-/
import Derived.Test.YtbhlngmhgplepaaDoorZqRtc3a
import Derived.Test.YtbhlngmhgplepaaDoorZqRtc3b
import Derived.Test.YtbhlngmhgplepaaDoorZqRtc3c
import Derived.Test.YtbhlngmhgplepaaDoorZqRtc3d
import Derived.Test.YtbhlngmhgplepaaDoorZqRtc3e
set_option maxRecDepth 1000000
namespace Go.Proofs.YtbhlngmhgplepaaDoor.Aes
noncomputable section
open Go.Sim
open Go.Proofs
variable {α:Type}
theorem qhc {β:Type} {f g:Nat->β} {k:Nat} (h:zar f (qsa k 0)=zar g (qsa k 0)) {l:Nat} (h2:l<k):f l=g l:=by
 rw [q1a,q1a,qpd,List.map_inj_left] at h;exact h l (by simp [h2])
theorem j7k (z:Nat->Nat->Nat) {b k:Nat} (hb:b<5) (hk:k<24):zc1 [0,25] zf8 (zgt b k) z=(zfZ z b k,some zgd):=by
 match b,hb with
 | 0,_=>exact qhc (j3b z) hk
 | 1,_=>exact qhc (j4b z) hk
 | 2,_=>exact qhc (j5b z) hk
 | 3,_=>exact qhc (j6b z) hk
 | 4,_=>exact qhc (j7b z) hk
theorem jkg (z:Nat->Nat->Nat):∃ ds ps,zc1 [0,25] zf8 ds z=(ps,some zgd)/\∀ p∈ps,p:=by
 let x0:=min (z 0 0) 4
 let x1:=min (z 1 0) 3
 let x2:=min (z 2 0) 2
 let x3:=min (z 3 0) 1
 have h0:x0<=4:=Nat.min_le_right _ _;have h1:x1<=3:=Nat.min_le_right _ _;have h2:x2<=2:=Nat.min_le_right _ _;have h3:x3<=1:=Nat.min_le_right _ _
 let k:=x1 * 6+x2 * 2+x3
 have e1:k / 6=x1:=by show (x1 * 6+x2 * 2+x3) / 6=x1; omega
 have e2:k % 6 / 2=x2:=by show (x1 * 6+x2 * 2+x3) % 6 / 2=x2; omega
 have e3:k % 2=x3:=by show (x1 * 6+x2 * 2+x3) % 2=x3; omega
 refine ⟨zgt x0 k,zfZ z x0 k,j7k z (by omega) (by show x1 * 6+x2 * 2+x3<24; omega),fun p hp => ?_⟩
 unfold zfZ at hp;rw [e1,e2,e3] at hp;simp only [qbb,List.mem_append] at hp;rcases hp with hp | hp | hp | hp
 . exact qcl (z 0 0) 4 0 (Nat.zero_le _) p hp
 . exact qcl (z 1 0) 3 0 (Nat.zero_le _) p hp
 . exact qcl (z 2 0) 2 0 (Nat.zero_le _) p hp
 . exact qcl (z 3 0) 1 0 (Nat.zero_le _) p hp
def qmp (v:SV):Option Nat :=
 SV.rec (motive_1:=fun _=>Option Nat) (motive_2:=fun _=>Unit) (fun _ _=>none) (fun _=>none) (fun _=>none) (fun _=>none) none (fun _ _ _=>none) none (fun n=>some n) none (fun _ _ _ _ _=>none) none (fun _ _ _=>none) none (fun _ _=>none) (fun _ _=>none) (fun _=>none) (fun _ _ _ _=>none) () (fun _ _ _ _=>()) v
theorem qyg {v:SV} {n:Nat} (h:qmp v=some n):v=.map n:=by
 cases v <;> first | (cases h; done) | (cases h; rfl)
def zgP:SO:=.obj (.map es5 5)
def srtE:SO:=.own (.lst [rA,rB,rA,rC,rB,rD,rC,rD,rD,rA]) false 71
def q3s (v:SV) (l:List UInt8):Bool:=match v with | .str (.lit s)=>s.data.toList == l | _=>false
theorem qvm {v:SV} {l:List UInt8} (h:q3s v l=true):v=.str (.lit (bA l)):=by
 unfold q3s at h;split at h
 . rename_i s;have h:=eq_of_beq h;obtain ⟨⟨x⟩⟩:=s;have h:x=l:=h;rw [h]; rfl
 . cases h
def qwm (e:SV × SV × Nat) (a b:List UInt8) (n:Nat):Bool:=match e with | (.agg [x,y],.bool (.lit true),k)=>q3s x a && (q3s y b && Nat.beq k n) | _=>false
theorem qzg {e:SV × SV × Nat} {a b:List UInt8} {n:Nat} (h:qwm e a b n=true):e=(.agg [.str (.lit (bA a)),.str (.lit (bA b))],.bool (.lit true),n):=by
 unfold qwm at h;split at h
 . obtain ⟨h1,h2⟩:=Bool.and_eq_true_iff.1 h;obtain ⟨h2,h3⟩:=Bool.and_eq_true_iff.1 h2;rw [qvm h1,qvm h2,Nat.eq_of_beq_eq_true h3]
 . cases h
def is5 (e:SO):Bool:=match e with
 | .obj (.map [a,b,c,d,e] k)=>qwm a [65] [66] 0 && (qwm b [65] [67] 1 && (qwm c [66] [68,46,67] 2 && (qwm d [67] [68,46,67] 3 && (qwm e [68,46,67] [65] 4 && Nat.beq k 5))))
 | _=>false
theorem j8b {e:SO} (h:is5 e=true):e=zgP:=by
 unfold is5 at h;split at h
 . obtain ⟨h1,h⟩:=Bool.and_eq_true_iff.1 h;obtain ⟨h2,h⟩:=Bool.and_eq_true_iff.1 h;obtain ⟨h3,h⟩:=Bool.and_eq_true_iff.1 h;obtain ⟨h4,h⟩:=Bool.and_eq_true_iff.1 h;obtain ⟨h5,h⟩:=Bool.and_eq_true_iff.1 h;rw [qzg h1,qzg h2,qzg h3,qzg h4,qzg h5,Nat.eq_of_beq_eq_true h];rfl
 . cases h
def srtS:zaR:=fun args H base=>q2f args fun v=>zah (qmp v) (.stuck 683) fun m=>zah (nth H m) (.stuck 683) fun e=>zab (is5 e) (.ok ⟨.slice ⟨base,.lit 0⟩ (.lit 5) (.rest base 0),[(m,zgP)],[srtE]⟩) (.stuck 683)
theorem ziH:q2a Tryd.prog 68 srtS:=by
 intro glob O w0 β H w base args vs hH hG ha;refine qed fun v hv=>qca fun m hm=>qca fun e he=>qcb fun h5 => ?_
 rw [j8b h5,qea] at he;have hE:H[m]? = some zgP:=he;rw [hv,qyg hm] at ha
 let I:Ifc:=⟨[m],[zgP],[.map 0]⟩
 refine qmb qm2 20000 hH I (by intro g j hg; cases hg) ha (Ifc.zbD (by simp [I]) rfl ⟨⟨⟨zgP,hE,.map es5 5,rfl,fun _ _ h=>h⟩,rfl⟩,trivial⟩) [25] (by simp [I]) (by simp) (qk2 (js:=[0,25]) jkg fun H2 hH2 => ?_)
 obtain ⟨h0,h1⟩:=List.cons.inj (show [H2[0]?,H2[25]?]=[some zgP,some srtE] from hH2)
 have h1:=(List.cons.inj h1).1;exact ⟨SV.za9 rfl,rfl,⟨⟨rfl,.inr ⟨.map es5 5,.map es5 5,h0,rfl,fun _ _ h=>h,rfl⟩⟩,trivial⟩,⟨.inl ⟨_,_,_,_,h1,by rfl,Cells.za9 rfl,rfl⟩,trivial⟩⟩
end
noncomputable section
open Go.Sim
open Go.Proofs
variable {α:Type}
def qc6 (v:SV):Nat:=v.asSlice 0 fun a _ _=>a.nm
def zli:SO:=.own (.lst [rB]) false 9
def qd6 (v:SV):Bool:=match v with | .slice ⟨_,.lit 0⟩ (.lit 1) (.lit 1)=>true | _=>false
theorem qe6 {v:SV} (h:qd6 v=true):v=.slice ⟨qc6 v,.lit 0⟩ (.lit 1) (.lit 1):=by
 unfold qd6 at h;split at h
 . rfl
 . cases h
def qoz (e:SO):Bool:=match e with | .own (.lst [x]) _ _=>q3s x [66] | _=>false
theorem qr1 {e:SO} (h:qoz e=true):∃ w el,e=.own (.lst [rB]) w el:=by
 unfold qoz at h;split at h
 . rw [qvm h]; exact ⟨_,_,rfl⟩
 . cases h
def q4s (v:SV):Bool:=match v with | .zac=>true | _=>false
theorem qs1 {v:SV} (h:q4s v=true):v=.zac:=by
 unfold q4s at h;split at h
 . rfl
 . cases h
def clnS:zaR:=fun args H base=>q2f args fun v=>zab (q4s v) (.ok ⟨.zac,[],[]⟩) (zab (qd6 v) (zah (nth H (qc6 v)) (.stuck 685) fun e=>zab (qoz e) (.ok ⟨.slice ⟨base,.lit 0⟩ (.lit 1) (.rest base 0),[],[zli]⟩) (.stuck 685)) (.stuck 686))
theorem jlg:zaP [] (qla (qyb fun _=>none) 400 45 [.zac] []) []=([],some (.zac,[])):=by kernel_rfl
theorem jmg:zaP [2] (qla (qyb fun _=>none) 400 45 [.slice ⟨0,.lit 0⟩ (.lit 1) (.lit 1)] [.row (.lst [rB])]) []=([],some (.slice ⟨2,.lit 0⟩ (.lit 1) (.rest 2 0),[some zli])):=by kernel_rfl
theorem zlg:q2a Tryd.prog 45 clnS:=by
 intro glob O w0 β H w base args vs hH hG ha;refine qed fun v hv => ?_
 by_cases hn:q4s v=true
 . rw [hn];rw [hv,qs1 hn] at ha;exact q3d qy8 rfl 400 hH ⟨[],[],[.zac]⟩ ha (qfd rfl) [] (by simp) (by simp) jlg qaa fun H2 _=>jee rfl rfl rfl
 . rw [Bool.not_eq_true] at hn;rw [hn];refine qcb fun h1=>qca fun e h2=>qcb fun h3 => ?_
   rw [hv,qe6 h1] at ha;obtain ⟨w',el,h3⟩:=qr1 h3;rw [qea,h3] at h2;generalize qc6 v=m at ha h2
   let I:Ifc:=⟨[m],[.row (.lst [rB])],[.slice ⟨0,.lit 0⟩ (.lit 1) (.lit 1)]⟩
   refine q3d qy8 rfl 400 hH I ha (Ifc.fits (by simp [I]) rfl ⟨⟨⟨_,h2,.lst [rB],.inr ⟨_,_,rfl⟩,(Cells.Imp.refl _).front⟩,rfl⟩,trivial⟩) [2] (by simp [I]) (by simp) jmg qaa fun H2 hH2 => ?_
   have h:=(List.cons.inj (show [H2[2]?]=[some zli] from hH2)).1
   exact ⟨SV.za9 rfl,rfl,trivial,⟨⟨_,_,_,_,h,by rfl,Cells.za9 rfl,rfl⟩,trivial⟩⟩
def jie:Cfg:=qyb (q2b [(109,zeQ),(63,zgu),(68,srtS),(45,clnS)])
theorem jng:zaw jie:=qdc (zb2 qww (zb2 zcu (zb2 ziH (all1 zlg))))
end
end Go.Proofs.YtbhlngmhgplepaaDoor.Aes
