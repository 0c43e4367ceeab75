/-
  The block cipher, third part: the operations on a pass.
-/
import Derived.Test.YtdnaaeagllejjaaAes2
namespace Go.Proofs.Ytdnaaeagllejjaa.Aes
open Go.Sim
open Go.Proofs
variable {α : Type}

/-- a pass: the cipher's name, the block, the round key -/
noncomputable def passL (c : Nat) (xs ks : List (BitVec 8)) : List SV := .ptr ⟨c, .lit 0⟩ :: app (bx xs) (bx ks)
noncomputable def passE (c : Nat) (xs ks : List (BitVec 8)) : SO := .own (.lst (passL c xs ks)) true 55
noncomputable def passK (l : List SV) (f : Nat → List (BitVec 8) → List (BitVec 8) → R α) : R α :=
  List.rec (motive := fun _ => R α) (.stuck 622) (fun v l _ => optC (headP v) (.stuck 622) fun c => optC (unb (takeN l 16)) (.stuck 623) fun xs => optC (unb (dropN l 16)) (.stuck 623) fun ks =>
    boolC (Nat.beq (lenN xs) 16) (boolC (Nat.beq (lenN ks) 16) (f c xs ks) (.stuck 624)) (.stuck 624)) l
theorem passK_sat {l : List SV} {f : Nat → List (BitVec 8) → List (BitVec 8) → R α} {φ : α → Prop} (h : ∀ c xs ks, SV.ImpL l (passL c xs ks) → Nat.beq (lenN xs) 16 = true → Nat.beq (lenN ks) 16 = true → (f c xs ks).Sat φ) : (passK l f).Sat φ := by
  cases l with
  | nil => trivial
  | cons v l =>
    refine optC_only fun c h1 => optC_only fun xs hx => optC_only fun ks hk => boolC_only fun h16 => boolC_only fun k16 => h c xs ks ?_ h16 k16
    rw [headP_spec h1]
    refine impL_cons (.refl _) ?_
    rw [← app_take_drop l 16]
    exact impL_app (unb_imp hx) (unb_imp hk)
theorem passL_ren (f : Nat → Nat) (c : Nat) (xs ks : List (BitVec 8)) : SV.renL f (passL c xs ks) = passL (f c) xs ks := by
  show _ :: SV.renL f (app (bx xs) (bx ks)) = _
  rw [renL_app, bx_ren, bx_ren]; rfl
theorem passL_uses (p : Nat → Bool) (c : Nat) (h : p c = true) (xs ks : List (BitVec 8)) : SV.usesL p (passL c xs ks) = true := by
  show (p c && SV.usesL p (app (bx xs) (bx ks))) = true
  rw [h, usesL_app, bx_uses, bx_uses]; rfl
/-- an operation on a pass; the cipher's entry is looked at first -/
noncomputable def passS (chk : Option SO → Bool) (F : List (BitVec 8) → List (BitVec 8) → List (BitVec 8)) : Summ := fun args H _ => args1 args fun v => optC (headP v) (.stuck 627) fun p =>
  optC (ownE 55 (nth H p)) (.stuck 628) fun l => passK l fun c xs ks => boolC (Nat.beq p c) (.stuck 628) (boolC (chk (nth H c)) (.ok ⟨.tuple [], [(p, passE c (F xs ks) ks)], []⟩) (.stuck 629))
theorem passOK {c0 : Cfg} (hc : CfgOK c0) (hgl : c0.glob = fun _ => none) {f : FuncId} {n : Nat} {chk : Option SO → Bool} {E1 : SO} (hE : ∀ (g : Nat → Nat) (e : Option SO), chk e = true → ∃ e', e = some e' ∧ Taken g E1 e') (hU : ∀ p, E1.CUses p) (hO : ownsOf [E1] 1 = [])
    {F : List (BitVec 8) → List (BitVec 8) → List (BitVec 8)}
    (hrun : ∀ x0 x1 x2 x3 x4 x5 x6 x7 x8 x9 xa xb xc xd xe xf k0 k1 k2 k3 k4 k5 k6 k7 k8 k9 ka kb kc kd ke kf : BitVec 8,
      outP [0] (callSim c0 n f [.ptr ⟨0, .lit 0⟩] [passE 1 [x0, x1, x2, x3, x4, x5, x6, x7, x8, x9, xa, xb, xc, xd, xe, xf] [k0, k1, k2, k3, k4, k5, k6, k7, k8, k9, ka, kb, kc, kd, ke, kf], E1]) =
        ([], some (.tuple [], [some (passE 1 (F [x0, x1, x2, x3, x4, x5, x6, x7, x8, x9, xa, xb, xc, xd, xe, xf] [k0, k1, k2, k3, k4, k5, k6, k7, k8, k9, ka, kb, kc, kd, ke, kf]) [k0, k1, k2, k3, k4, k5, k6, k7, k8, k9, ka, kb, kc, kd, ke, kf])]))) :
    SumOK c0.P f (passS chk F) := by
  intro glob O w0 β H w base args vs hH hG ha
  refine args1_sat fun v hv => optC_only fun p h1 => optC_only fun l hl => passK_sat fun c xs ks hi h16 k16 => boolC_sat (fun _ => trivial) fun hpc => boolC_only fun hck => ?_
  rw [hv, headP_spec h1] at ha
  rw [nth_eq] at hl hck
  obtain ⟨x0, x1, x2, x3, x4, x5, x6, x7, x8, x9, xa, xb, xc, xd, xe, xf, rfl⟩ := sixteen h16
  obtain ⟨k0, k1, k2, k3, k4, k5, k6, k7, k8, k9, ka, kb, kc, kd, ke, kf, rfl⟩ := sixteen k16
  have hown : ownsOf [passE 1 [x0, x1, x2, x3, x4, x5, x6, x7, x8, x9, xa, xb, xc, xd, xe, xf] [k0, k1, k2, k3, k4, k5, k6, k7, k8, k9, ka, kb, kc, kd, ke, kf], E1] 0 = [0] := by show 0 :: ownsOf [E1] 1 = _; rw [hO]
  refine sum_out hc hgl n hH ⟨[p, c], [passE 1 [x0, x1, x2, x3, x4, x5, x6, x7, x8, x9, xa, xb, xc, xd, xe, xf] [k0, k1, k2, k3, k4, k5, k6, k7, k8, k9, ka, kb, kc, kd, ke, kf], E1], [.ptr ⟨0, .lit 0⟩]⟩
    ha (Ifc.fits (by simpa using beq_ne hpc) rfl ⟨⟨⟨_, ownE_spec hl, taken_imp (by rw [passL_ren]; exact hi)⟩, passL_uses _ _ rfl _ _⟩, ⟨hE _ _ hck, hU _⟩, trivial⟩) [] (by simp) (by simp)
    (hrun x0 x1 x2 x3 x4 x5 x6 x7 x8 x9 xa xb xc xd xe xf k0 k1 k2 k3 k4 k5 k6 k7 k8 k9 ka kb kc kd ke kf) (by simp) fun H2 hH2 => ⟨.refl _, rfl, ?_, trivial⟩
  rw [hown]
  have hH2 : H2[0]? = some (passE 1 _ _) := (List.cons.inj hH2).1
  refine ⟨⟨rfl, given_own hH2 (passL_uses _ _ rfl _ _) ?_⟩, trivial⟩
  show SO.own (.lst (SV.renL _ (passL 1 _ _))) true _ = _
  rw [passL_ren]; rfl

/- The operations. -/
noncomputable def cfg3 : Cfg := cfgOf (sumsOf [(46, mixedS), (41, shiftedS)])
theorem cfg3OK : CfgOK cfg3 := sumsOf_ok (allC mixedOK (all1 shiftedOK))
noncomputable def cfg4 : Cfg := cfgOf (sumsOf [(40, lookS subB), (44, lookS recB)])
theorem cfg4OK : CfgOK cfg4 := sumsOf_ok (allC replaceOK (all1 recallOK))
def mixL (k : Bool) (xs : List (BitVec 8)) : List (BitVec 8) :=
  [mixAt k xs 0 0, mixAt k xs 0 1, mixAt k xs 0 2, mixAt k xs 0 3, mixAt k xs 1 0, mixAt k xs 1 1, mixAt k xs 1 2, mixAt k xs 1 3,
   mixAt k xs 2 0, mixAt k xs 2 1, mixAt k xs 2 2, mixAt k xs 2 3, mixAt k xs 3 0, mixAt k xs 3 1, mixAt k xs 3 2, mixAt k xs 3 3]
def pick16 (xs : List (BitVec 8)) (a0 a1 a2 a3 a4 a5 a6 a7 a8 a9 aa ab ac ad ae af : Nat) : List (BitVec 8) :=
  [byteAt xs a0, byteAt xs a1, byteAt xs a2, byteAt xs a3, byteAt xs a4, byteAt xs a5, byteAt xs a6, byteAt xs a7, byteAt xs a8, byteAt xs a9, byteAt xs aa, byteAt xs ab, byteAt xs ac, byteAt xs ad, byteAt xs ae, byteAt xs af]
def shiftL (xs : List (BitVec 8)) : List (BitVec 8) := pick16 xs 0 5 10 15 4 9 14 3 8 13 2 7 12 1 6 11
def unshiftL (xs : List (BitVec 8)) : List (BitVec 8) := pick16 xs 0 13 10 7 4 1 14 11 8 5 2 15 12 9 6 3
def addL (xs ks : List (BitVec 8)) : List (BitVec 8) :=
  [byteAt xs 0 ^^^ byteAt ks 0, byteAt xs 1 ^^^ byteAt ks 1, byteAt xs 2 ^^^ byteAt ks 2, byteAt xs 3 ^^^ byteAt ks 3, byteAt xs 4 ^^^ byteAt ks 4, byteAt xs 5 ^^^ byteAt ks 5, byteAt xs 6 ^^^ byteAt ks 6, byteAt xs 7 ^^^ byteAt ks 7,
   byteAt xs 8 ^^^ byteAt ks 8, byteAt xs 9 ^^^ byteAt ks 9, byteAt xs 10 ^^^ byteAt ks 10, byteAt xs 11 ^^^ byteAt ks 11, byteAt xs 12 ^^^ byteAt ks 12, byteAt xs 13 ^^^ byteAt ks 13, byteAt xs 14 ^^^ byteAt ks 14, byteAt xs 15 ^^^ byteAt ks 15]
def mapL (F : BitVec 8 → BitVec 8) (xs : List (BitVec 8)) : List (BitVec 8) :=
  [F (byteAt xs 0), F (byteAt xs 1), F (byteAt xs 2), F (byteAt xs 3), F (byteAt xs 4), F (byteAt xs 5), F (byteAt xs 6), F (byteAt xs 7), F (byteAt xs 8), F (byteAt xs 9), F (byteAt xs 10), F (byteAt xs 11), F (byteAt xs 12), F (byteAt xs 13), F (byteAt xs 14), F (byteAt xs 15)]
theorem mixOK : SumOK Try.prog 29 (passS placedE fun xs _ => mixL true xs) := passOK cfg3OK rfl (n := 20000) (E1 := .gone) (fun _ _ => taken_gone) (fun _ => trivial) rfl (by intros; kernel_rfl)
theorem unmixOK : SumOK Try.prog 35 (passS placedE fun xs _ => mixL false xs) := passOK cfg3OK rfl (n := 20000) (E1 := .gone) (fun _ _ => taken_gone) (fun _ => trivial) rfl (by intros; kernel_rfl)
theorem shiftOK : SumOK Try.prog 28 (passS placedE fun xs _ => shiftL xs) := passOK cfg3OK rfl (n := 20000) (E1 := .gone) (fun _ _ => taken_gone) (fun _ => trivial) rfl (by intros; kernel_rfl)
theorem unshiftOK : SumOK Try.prog 36 (passS placedE fun xs _ => unshiftL xs) := passOK cfg3OK rfl (n := 20000) (E1 := .gone) (fun _ _ => taken_gone) (fun _ => trivial) rfl (by intros; kernel_rfl)
theorem addOK : SumOK Try.prog 30 (passS placedE addL) := passOK cfg3OK rfl (n := 20000) (E1 := .gone) (fun _ _ => taken_gone) (fun _ => trivial) rfl (by intros; kernel_rfl)
theorem substituteOK : SumOK Try.prog 27 (passS tabE fun xs _ => mapL subB xs) := passOK cfg4OK rfl (n := 20000) (E1 := .row (.lst (lx tabI))) (fun _ _ => taken_tab) (fun _ => lx_uses _ _) rfl (by intros; kernel_rfl)
theorem restoreOK : SumOK Try.prog 37 (passS tabE fun xs _ => mapL recB xs) := passOK cfg4OK rfl (n := 20000) (E1 := .row (.lst (lx tabI))) (fun _ _ => taken_tab) (fun _ => lx_uses _ _) rfl (by intros; kernel_rfl)

end Go.Proofs.Ytdnaaeagllejjaa.Aes
