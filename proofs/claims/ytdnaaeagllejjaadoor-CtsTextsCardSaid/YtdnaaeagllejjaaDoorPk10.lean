/-
  Texts behind one another: the symbolic simulator and what it is told of the program.
-/
import Derived.Test.YtdnaaeagllejjaaDoorZTxt4a
import Derived.Test.YtdnaaeagllejjaaDoorZTxt4b
import Derived.Test.YtdnaaeagllejjaaDoorZTxt4c
import Derived.Test.YtdnaaeagllejjaaDoorPk6
import Derived.Test.YtdnaaeagllejjaaDoorPk5
import Derived.Test.YtdnaaeagllejjaaDoorRows
import Derived.Lib.LaidTab
import Derived.MakeChecks

/-
  The reference's Encrypt and Decrypt: their summaries.
-/
namespace Go.Proofs.YtdnaaeagllejjaaDoor.Aes
open Go.Sim
open Go.Proofs
open Go.RowKit

section
variable (X Y Z : Nat → BitVec 8) (n m1 n2 m2 n3 m3 o o2 o3 : Nat)
theorem rdec_all {l : Nat} (h : 16 ≤ l) (h2 : l ≤ 224) : rdxL X Y Z n m1 n2 m2 n3 m3 o o2 o3 l = rdxR X Y Z n n2 n3 o o2 o3 l := by
  have hm : (16 ≤ l ∧ l < 16 + 16) ∨ (32 ≤ l ∧ l < 32 + 16) ∨ (48 ≤ l ∧ l < 48 + 16) ∨ (64 ≤ l ∧ l < 64 + 16) ∨ (80 ≤ l ∧ l < 80 + 16) ∨ (96 ≤ l ∧ l < 96 + 16) ∨ (112 ≤ l ∧ l < 112 + 16) ∨ (128 ≤ l ∧ l < 128 + 16) ∨ (144 ≤ l ∧ l < 144 + 16) ∨ (160 ≤ l ∧ l < 160 + 16) ∨ (176 ≤ l ∧ l < 176 + 16) ∨ (192 ≤ l ∧ l < 192 + 16) ∨ (208 ≤ l ∧ l < 208 + 16) ∨ l = 224 := by omega
  rcases hm with ⟨h1, h2⟩ | ⟨h1, h2⟩ | ⟨h1, h2⟩ | ⟨h1, h2⟩ | ⟨h1, h2⟩ | ⟨h1, h2⟩ | ⟨h1, h2⟩ | ⟨h1, h2⟩ | ⟨h1, h2⟩ | ⟨h1, h2⟩ | ⟨h1, h2⟩ | ⟨h1, h2⟩ | ⟨h1, h2⟩ | rfl
  · exact mapN_at (rdec1 X Y Z n m1 n2 m2 n3 m3 o o2 o3) h1 h2
  · exact mapN_at (rdec2 X Y Z n m1 n2 m2 n3 m3 o o2 o3) h1 h2
  · exact mapN_at (rdec3 X Y Z n m1 n2 m2 n3 m3 o o2 o3) h1 h2
  · exact mapN_at (rdec4 X Y Z n m1 n2 m2 n3 m3 o o2 o3) h1 h2
  · exact mapN_at (rdec5 X Y Z n m1 n2 m2 n3 m3 o o2 o3) h1 h2
  · exact mapN_at (rdec6 X Y Z n m1 n2 m2 n3 m3 o o2 o3) h1 h2
  · exact mapN_at (rdec7 X Y Z n m1 n2 m2 n3 m3 o o2 o3) h1 h2
  · exact mapN_at (rdec8 X Y Z n m1 n2 m2 n3 m3 o o2 o3) h1 h2
  · exact mapN_at (rdec9 X Y Z n m1 n2 m2 n3 m3 o o2 o3) h1 h2
  · exact mapN_at (rdec10 X Y Z n m1 n2 m2 n3 m3 o o2 o3) h1 h2
  · exact mapN_at (rdec11 X Y Z n m1 n2 m2 n3 m3 o o2 o3) h1 h2
  · exact mapN_at (rdec12 X Y Z n m1 n2 m2 n3 m3 o o2 o3) h1 h2
  · exact mapN_at (rdec13 X Y Z n m1 n2 m2 n3 m3 o o2 o3) h1 h2
  · exact rdec14 X Y Z n m1 n2 m2 n3 m3 o o2 o3
end
def tOk (l : Nat) : Bool := decide (16 ≤ l ∧ l ≤ 224)
theorem rdxN_all {w : Nat} : ∀ m i : Nat, 16 * (i + m) ≤ w + 16 → ∀ p ∈ rdxN w m i, p
  | 0, _, _ => all_nil
  | m + 1, i, h => all_cons ⟨by omega, by omega⟩ (all_cons ⟨by omega, by omega⟩ (rdxN_all m (i + 1) (by omega)))
theorem renc_good : RunR cfgRE 11 encF tOk fun _ => false := by
  intro X Y Z n m1 n2 m2 n3 m3 o o2 o3 l hok h1 h2 h3 h4
  obtain ⟨h16, h224⟩ := of_decide_eq_true hok
  refine ⟨rencI l, rencC X Y n n2 n3 o o2 o3 l, ?_, renc_all X Y Z n m1 n2 m2 n3 m3 o o2 o3 h16 h224, ?_⟩
  · unfold rencI
    cases Nat.beq l 16 with
    | true => show 4 ≤ 6; omega
    | false => show 4 ≤ 9 + _; omega
  · exact all_cons h3 (all_cons (byteF_isB X) (all_cons (byteF_isB Y) (all_cons ⟨h1, h2⟩ (all_cons ⟨by omega, decide_eq_true (by unfold numB; omega)⟩ all_nil))))
theorem rdec_good : RunR cfgRX 12 decF tOk dcp := by
  intro X Y Z n m1 n2 m2 n3 m3 o o2 o3 l hok h1 h2 h3 h4
  obtain ⟨h16, h224⟩ := of_decide_eq_true hok
  refine ⟨rdecI l, rdxC X Y Z n n2 n3 o o2 o3 l, ?_, rdec_all X Y Z n m1 n2 m2 n3 m3 o o2 o3 h16 h224, ?_⟩
  · unfold rdecI
    cases Nat.beq l 16 with
    | true => show 4 ≤ 6; omega
    | false => show 4 ≤ 16 + _; omega
  · unfold rdxC
    cases hb : Nat.beq l 16 with
    | true =>
      have := Nat.eq_of_beq_eq_true hb
      subst this
      exact all_cons (byteF_isB X) (all_cons h1 (all_cons (byteF_isB Z) (all_cons ⟨h3, by omega⟩ (all_cons (byteF_isB Y) (all_cons ⟨by omega, h2⟩ all_nil)))))
    | false =>
      have hne : l ≠ 16 := fun h => by rw [h] at hb; cases hb
      have hw : 32 ≤ 16 * numB l ∧ 16 * numB l < l + 16 ∧ l ≤ 16 * numB l := by unfold numB; omega
      show ∀ p ∈ rdxM X Y Z n n2 n3 o o2 o3 l (16 * numB l), p
      have hd : 16 * numB l / 16 = numB l := by omega
      generalize numB l = q at hw hd
      exact all_cons (byteF_isB X) (all_cons h1 (all_cons (byteF_isB Z) (all_cons ⟨by omega, by omega⟩ (all_cons (by omega) (all_cons (by omega) (all_cons (by omega) (all_cons ⟨by omega, by omega⟩ (all_cons (byteF_isB Y) (all_cons ⟨by omega, h2⟩ (rdxN_all _ 2 (by
        show 16 * (2 + (16 * q / 16 - 1)) ≤ 16 * q + 16
        omega)))))))))))

end Go.Proofs.YtdnaaeagllejjaaDoor.Aes


/-
  CtsTexts: the reference's summaries for any number of bytes; the law's runs.
-/
namespace Go.Proofs.YtdnaaeagllejjaaDoor.Aes
open Go.Sim
open Go.Proofs
open Go.RowKit
variable {α : Type}

/-- bytes of a list, as a function of the place -/
noncomputable def fnB (xs : Blk) : Cells := .fn (byteF (byteAt xs)) (lenN xs)
theorem given_fnB {p : Nat → Bool} {g : Nat → Nat} {E : Option SO} {xs : Blk} {w : Bool} {el : TypeId} (h : E = some (.own (.lst (bx xs)) w el)) : Given p g E (.own (fnB xs) w el) := by
  obtain ⟨c, w', el', c', h1, h2, h3, h4⟩ := given_bytes (p := p) (g := g) h
  cases h4
  refine ⟨c, w, el, fnB xs, h1, h2, h3.trans fun γ vs hv => ?_, rfl⟩
  show CellsRel γ (.fn (byteF (byteAt xs)) (lenN xs)) vs
  rw [lenN_eq]
  exact bx_rel hv
/-- 'nl': nothing is answered by nothing -/
noncomputable def row3FS (F : Blk → Blk → (Nat → BitVec 8) → Nat → Blk) (ok cp : Nat → Bool) (nl : Bool) : Summ := fun args H base => args3 args fun k v p => sliceR k (.stuck 910) fun a l1 => sliceR v (.stuck 910) fun b l2 => tabR0 H
  (boolC (Nat.beq 0 a.nm) (.stuck 911) (boolC (Nat.beq 0 b.nm) (.stuck 911) (boolC (Nat.beq a.nm b.nm) (.stuck 911) (lenIs l1 16 (lenIs l2 16 (bytesE (nth H a.nm) fun X n => bytesE (nth H b.nm) fun Y n2 => .need (a.off.den + 16 ≤ n ∧ b.off.den + 16 ≤ n2)
    (sliceR p (boolC nl (.ok ⟨.nilSlice, [], []⟩) (.stuck 912)) fun c l => boolC (Nat.beq 0 c.nm) (.stuck 911) (boolC (Nat.beq a.nm c.nm) (.stuck 911) (boolC (Nat.beq b.nm c.nm) (.stuck 911)
      (bytesE (nth H c.nm) fun Z n3 => .need (c.off.den + l.den ≤ n3 ∧ ok l.den = true) (.ok ⟨.slice ⟨base, .lit 0⟩ l (capR (cp l.den) base l.den), [], [.own (fnB (F (block16 X a.off.den) (block16 Y b.off.den) (fun j => Z (c.off.den + j)) l.den)) (cp l.den) 5]⟩)))))) (.stuck 913)) (.stuck 913)))))
theorem row3FOK {c : Cfg} (hc : CfgOK c) (hg : c.glob = globR) (hP : c.P = Tryd.prog) {f : FuncId} {F : Blk → Blk → (Nat → BitVec 8) → Nat → Blk} {ok cp : Nat → Bool} {nl : Bool} (hrun : RunR c f F ok cp) (hnil : nl = true → NilR c f) : SumAt Tryd.prog globR f (row3FS F ok cp nl) := by
  intro O w0 β H w base args vs hH hG ha
  refine args3_sat fun k v p hv => sliceR_sat (fun _ => trivial) fun a l1 c1 hs1 => sliceR_sat (fun _ => trivial) fun b l2 c2 hs2 => tabR0_sat fun htab => boolC_sat (fun _ => trivial) fun h0 => boolC_sat (fun _ => trivial) fun h1 => boolC_sat (fun _ => trivial) fun hab =>
    lenIs_sat (fun hl1 => lenIs_sat (fun hl2 => bytesE_sat fun X n t1 => bytesE_sat fun Y n2 t2 => fun hn => ?_) fun _ => trivial) fun _ => trivial
  rw [hv, hs1, hs2] at ha
  rw [nth_eq] at t1 t2
  obtain ⟨x, ys, hx, hys, rfl⟩ := denL_cons.1 ha
  obtain ⟨y, zs, hy, hz, rfl⟩ := denL_cons.1 hys
  obtain ⟨u, us, hu, hus, rfl⟩ := denL_cons.1 hz
  obtain ⟨m1, _, hd1, _, _⟩ := slice_den hx
  obtain ⟨m2, _, hd2, _, _⟩ := slice_den hy
  rw [hl1] at hd1
  rw [hl2] at hd2
  refine sliceR_sat (fun hn3 => boolC_sat (fun hnl => ?_) fun _ => trivial) fun c0 l c3 hs3 => boolC_sat (fun _ => trivial) fun h2 => boolC_sat (fun _ => trivial) fun hac => boolC_sat (fun _ => trivial) fun hbc => bytesE_sat fun Z n3 t3 => fun hn3 => ?_
  · rw [hn3] at hu
    have hnd : [0, a.nm, b.nm].Nodup := by
      simp only [List.nodup_cons, List.mem_cons, List.not_mem_nil, or_false, not_or, not_false_eq_true, List.nodup_nil, and_true]
      exact ⟨⟨beq_ne h0, beq_ne h1⟩, beq_ne hab⟩
    rw [← hP] at hH ⊢
    refine sum_runG hc 20000 hH ⟨[0, a.nm, b.nm], [tabR, rowF X n, rowF Y n2], [.slice ⟨1, .sym a.off.den⟩ (.lit 16) (.sym m1), .slice ⟨2, .sym b.off.den⟩ (.lit 16) (.sym m2), .nilSlice]⟩ (by rw [hg]; exact glob_at rfl rfl hG) (denL_cons.2 ⟨_, _, hd1, denL_cons.2 ⟨_, _, hd2, denL_cons.2 ⟨_, _, hu, hus, rfl⟩, rfl⟩, rfl⟩)
      (Ifc.fits hnd rfl ⟨⟨htab _, tabR_uses _⟩, ⟨t1 _, rowF_uses _ _ _⟩, ⟨t2 _, rowF_uses _ _ _⟩, trivial⟩) [] (by simp) (by simp) (outO_ob (hnil hnl X Y n m1 n2 m2 a.off.den b.off.den) (all_cons (byteF_isB X) (all_cons hn.1 all_nil)) fun H2 _ => ends0 rfl rfl rfl)
  · rw [hs3] at hu
    rw [nth_eq] at t3
    obtain ⟨m3, hlm3, hd3, hd3', _⟩ := slice_den hu
    have hd4 : (SV.slice ⟨c0.nm, .sym c0.off.den⟩ (.lit l.den) (.sym m3)).den β = some u := by
      rw [den_slice] at hd3 ⊢
      exact hd3
    have hnd : [0, a.nm, b.nm, c0.nm].Nodup := by
      simp only [List.nodup_cons, List.mem_cons, List.not_mem_nil, or_false, not_or, not_false_eq_true, List.nodup_nil, and_true]
      exact ⟨⟨beq_ne h0, beq_ne h1, beq_ne h2⟩, ⟨beq_ne hab, beq_ne hac⟩, beq_ne hbc⟩
    obtain ⟨nm, ps, hnm, hr, hps⟩ := hrun X Y Z n m1 n2 m2 n3 m3 a.off.den b.off.den c0.off.den l.den hn3.2 hn.1 hn.2 hn3.1 hlm3
    rw [← hP] at hH ⊢
    refine sum_runG hc 20000 hH ⟨[0, a.nm, b.nm, c0.nm], ents3R X Y Z n n2 n3, args3R m1 m2 m3 a.off.den b.off.den c0.off.den l.den⟩ (by rw [hg]; exact glob_at rfl rfl hG) (denL_cons.2 ⟨_, _, hd1, denL_cons.2 ⟨_, _, hd2, denL_cons.2 ⟨_, _, hd4, hus, rfl⟩, rfl⟩, rfl⟩)
      (Ifc.fits hnd rfl ⟨⟨htab _, tabR_uses _⟩, ⟨t1 _, rowF_uses _ _ _⟩, ⟨t2 _, rowF_uses _ _ _⟩, ⟨t3 _, rowF_uses _ _ _⟩, trivial⟩) [nm] (by simpa using hnm) (by simp) (outO_ob hr hps fun H2 hH2 => ⟨?_, ?_, trivial, ⟨given_fnB (List.cons.inj hH2).1, trivial⟩⟩)
    · intro γ xv hxv
      have hon := out_new (I := ⟨[0, a.nm, b.nm, c0.nm], ents3R X Y Z n n2 n3, args3R m1 m2 m3 a.off.den b.off.den c0.off.den l.den⟩) (base := base) (nm := nm) (by simpa using hnm)
      have hcap : SC.ren (Ifc.out ⟨[0, a.nm, b.nm, c0.nm], ents3R X Y Z n n2 n3, args3R m1 m2 m3 a.off.den b.off.den c0.off.den l.den⟩ base [nm]) (capR (cp l.den) nm l.den) = capR (cp l.den) base l.den := by
        unfold capR
        cases cp l.den with
        | true => rfl
        | false => show SC.rest _ 0 = _; rw [hon]; rfl
      simp only [SV.ren, SA.ren, hon, hcap] at hxv
      rw [den_slice] at hxv ⊢
      exact hxv
    · show (Ifc.seen _ [nm] nm && SC.uses _ (capR (cp l.den) nm l.den)) = true
      rw [seen_new]
      unfold capR
      cases cp l.den with
      | true => rfl
      | false => exact seen_new


noncomputable def rencFS : Summ := row3FS encF tOk (fun _ => false) false
noncomputable def rdecFS : Summ := row3FS decF tOk dcp false
theorem rencFSOK : SumAt Tryd.prog globR 11 rencFS := row3FOK cfgREOK rfl rfl renc_good (fun h => by cases h)
theorem rdecFSOK : SumAt Tryd.prog globR 12 rdecFS := row3FOK cfgRXOK rfl rfl rdec_good (fun h => by cases h)
noncomputable def cfgT : Cfg := cfgG globR (sumsOf [(9, ctsS encF), (10, ctsS decF), (11, rencFS), (12, rdecFS), (5, knownCS)])
theorem cfgTOK : CfgOK cfgT := sumsG_ok (allA (encOK _) (allA (decOK _) (allA rencFSOK (allA rdecFSOK (allA (knownCOK _) (by simp))))))

/- The law's runs. -/
noncomputable def cE (X Y : Nat → BitVec 8) (n n2 : Nat) (r : List Prop) : List Prop := IsB (byteF Y) :: (0 + 16 ≤ n2) :: IsB (byteF X) :: (0 + 16 ≤ n) :: r
noncomputable def cL (Z : Nat → BitVec 8) (l : Nat) (r : List Prop) : List Prop := (decide (l < 16) = false) :: (decide (l < 131073) = true) :: IsB (fun i => byteF Z (0 + i)) :: (0 + l ≤ l ∧ l ≤ 224) :: r
noncomputable def cOwn (_Z : Nat → BitVec 8) (n3 l : Nat) (r : List Prop) : List Prop := (decide ((l : Int) > 200) = false) :: (0 + l ≤ n3) :: (decide (l = 0) = false) :: (roomy l 1 ∧ 1 = 1) :: r
noncomputable def cOwn0 (n3 l : Nat) (r : List Prop) : List Prop := (decide ((l : Int) > 200) = false) :: (0 + l ≤ n3) :: (decide (l = 0) = true) :: (1 = 1) :: r
noncomputable def cStr (Z : Nat → BitVec 8) (n3 l : Nat) (r : List Prop) : List Prop := (0 + l ≤ l ∧ ∀ i, i < l → isByte (byteF Z (0 + i))) :: (0 + l ≤ n3 ∧ ∀ i, i < n3 → isByte (byteF Z i)) :: ((!decide (strOfFn (fun i => byteF Z (0 + i)) 0 l = strOfFn (byteF Z) 0 l)) = false) :: r
noncomputable def cStr0 (Z : Nat → BitVec 8) (n3 l : Nat) (r : List Prop) : List Prop := (0 + l ≤ n3 ∧ ∀ i, i < n3 → isByte (byteF Z i)) :: ((!decide (bytesOf [] = strOfFn (byteF Z) 0 l)) = false) :: r
noncomputable def cEq (F : Blk → Blk → (Nat → BitVec 8) → Nat → Blk) (X Y Z : Nat → BitVec 8) (n n2 n3 l : Nat) (r : List Prop) : List Prop :=
  (0 + l ≤ l ∧ ∀ i, i < l → isByte (byteF (byteAt (F (block16 X 0) (block16 Y 0) (fun j => Z (0 + (0 + j))) l)) i)) :: IsB (byteF X) :: IsB (byteF Y) :: (0 + 16 ≤ n ∧ 0 + 16 ≤ n2) :: IsB (byteF Z) :: (0 + l ≤ n3 ∧ tOk l = true)
  :: (0 + l ≤ lenN (F (block16 X 0) (block16 Y 0) (fun j => Z (0 + j)) l) ∧ ∀ i, i < lenN (F (block16 X 0) (block16 Y 0) (fun j => Z (0 + j)) l) → isByte (byteF (byteAt (F (block16 X 0) (block16 Y 0) (fun j => Z (0 + j)) l)) i))
  :: (decide (strOfFn (byteF (byteAt (F (block16 X 0) (block16 Y 0) (fun j => Z (0 + (0 + j))) l))) 0 l = strOfFn (byteF (byteAt (F (block16 X 0) (block16 Y 0) (fun j => Z (0 + j)) l))) 0 l) = true) :: r
noncomputable def yesO (ps : List Prop) : List Prop × Option (SV × List (Option SO)) := (ps, some (.bool (.lit true), []))
noncomputable def txt (args : List SV) (ents : List SO) (ds : List Bool) : List Prop × Option (SV × List (Option SO)) := outO [] (callSim cfgT 20000 4 args (tabR :: ents)) ds
section
variable (X Y Z : Nat → BitVec 8) (n m1 n2 m2 n3 m3 l k c k2 c2 : Nat) (p p2 p3 : Option Addr)
noncomputable def kS (m1 : Nat) : SV := .slice ⟨1, .lit 0⟩ (.lit 16) (.sym m1)
noncomputable def vS (m2 : Nat) : SV := .slice ⟨2, .lit 0⟩ (.lit 16) (.sym m2)
noncomputable def bS (j l m3 : Nat) : SV := .slice ⟨j, .lit 0⟩ (.sym l) (.sym m3)
noncomputable def xV (p : Option Addr) (k c : Nat) : SV := .val (.slice p k c)
noncomputable def le20 (k k2 : Nat) (r : List Prop) : List Prop := (decide ((k : Int) > 20) = false) :: (decide ((k2 : Int) > 20) = false) :: r
/-- the one or the other has not 16 bytes -/
noncomputable def cArg (a : Bool) (k k2 : Nat) : List Prop := boolC a (repN (((k : Int) != 16) = true) 4) [((k : Int) != 16) = false, ((k2 : Int) != 16) = true]
noncomputable def dArg (a : Bool) : List Bool := boolC a [true, true, true, true] [false, true]
theorem txt_main : txt [kS m1, vS m2, bS 3 l m3] [rowF X n, rowF Y n2, rowF Z n3] [false, false, false, true, false, true, false, false, true, true] = yesO (cOwn Z n3 l (cE X Y n n2 (cL Z l (cE X Y n n2 (cL Z l (cStr Z n3 l ((decide ((l : Int) < 16) = false) :: cEq encF X Y Z n n2 n3 l (cEq decF X Y Z n n2 n3 l [])))))))) := by kernel_rfl
theorem txt_few : txt [kS m1, vS m2, bS 3 l m3] [rowF X n, rowF Y n2, rowF Z n3] [false, false, true, true, false, true] = yesO (cOwn Z n3 l (cE X Y n n2 ((decide (l < 16) = true) :: cE X Y n n2 ((decide (l < 16) = true) :: cStr Z n3 l [decide ((l : Int) < 16) = true])))) := by kernel_rfl
theorem txt_zero : txt [kS m1, vS m2, bS 3 l m3] [rowF X n, rowF Y n2, rowF Z n3] [false, true, false, true] = yesO (cOwn0 n3 l (cE X Y n n2 (cE X Y n n2 (cStr0 Z n3 l [decide ((l : Int) < 16) = true])))) := by kernel_rfl
theorem txt_nil : txt [kS m1, vS m2, .nilSlice] [rowF X n, rowF Y n2] [false] = yesO (cE X Y n n2 (cE X Y n n2 [(!decide (bytesOf [] = ByteArray.empty)) = false])) := by kernel_rfl
theorem txt_1a : txt [xV p k c, xV p2 k2 c2, xV p3 l m3] [] [true, true, true, true] = yesO (repN (decide ((k : Int) > 20) = true) 4) := by kernel_rfl
theorem txt_1b : txt [xV p k c, xV p2 k2 c2, xV p3 l m3] [] [false, true, true, true, true] = yesO ((decide ((k : Int) > 20) = false) :: repN (decide ((k2 : Int) > 20) = true) 4) := by kernel_rfl
theorem txt_1c : txt [xV p k c, xV p2 k2 c2, xV p3 l m3] [] [false, false, true] = yesO (le20 k k2 [decide ((l : Int) > 200) = true]) := by kernel_rfl
end
section
variable (Y Z : Nat → BitVec 8) (n2 m2 n3 m3 l k c k2 c2 : Nat) (p p2 : Option Addr) (a : Bool)
noncomputable def nilC (r : List Prop) : List Prop := ((!decide (bytesOf [] = ByteArray.empty)) = false) :: r
noncomputable def cI (k2 : Nat) (r : List Prop) : List Prop := (k2 ≠ 16) :: (k2 ≠ 16) :: r
noncomputable def cB (Y : Nat → BitVec 8) (n2 k : Nat) (r : List Prop) : List Prop := IsB (byteF Y) :: (0 + 16 ≤ n2) :: (k ≠ 16) :: r
theorem txt_2n : txt [xV p k c, xV p2 k2 c2, .nilSlice] [] (app [false, false, false] (dArg a)) = yesO (le20 k k2 (cI k2 (nilC (cArg a k k2)))) := by cases a <;> kernel_rfl
theorem txt_20 : txt [xV p k c, xV p2 k2 c2, bS 1 l m3] [rowF Z n3] (app [false, false, false, true, false] (dArg a)) = yesO (le20 k k2 (cOwn0 n3 l (cI k2 (cStr0 Z n3 l (cArg a k k2))))) := by cases a <;> kernel_rfl
theorem txt_2m : txt [xV p k c, xV p2 k2 c2, bS 1 l m3] [rowF Z n3] (app [false, false, false, false, false] (dArg a)) = yesO (le20 k k2 (cOwn Z n3 l (cI k2 (cStr Z n3 l (cArg a k k2))))) := by cases a <;> kernel_rfl
noncomputable def v1S (m2 : Nat) : SV := .slice ⟨1, .lit 0⟩ (.lit 16) (.sym m2)
theorem txt_3n : txt [xV p k c, v1S m2, .nilSlice] [rowF Y n2] [false, false, true, true, true, true] = yesO ((decide ((k : Int) > 20) = false) :: cB Y n2 k (cB Y n2 k (nilC (repN (((k : Int) != 16) = true) 4)))) := by kernel_rfl
theorem txt_30 : txt [xV p k c, v1S m2, bS 2 l m3] [rowF Y n2, rowF Z n3] [false, false, true, false, true, true, true, true] = yesO ((decide ((k : Int) > 20) = false) :: cOwn0 n3 l (cB Y n2 k (cB Y n2 k (cStr0 Z n3 l (repN (((k : Int) != 16) = true) 4))))) := by kernel_rfl
theorem txt_3m : txt [xV p k c, v1S m2, bS 2 l m3] [rowF Y n2, rowF Z n3] [false, false, false, false, true, true, true, true] = yesO ((decide ((k : Int) > 20) = false) :: cOwn Z n3 l (cB Y n2 k (cB Y n2 k (cStr Z n3 l (repN (((k : Int) != 16) = true) 4))))) := by kernel_rfl
end

end Go.Proofs.YtdnaaeagllejjaaDoor.Aes


/-
  CtsTexts: the law.
-/
namespace Go.Proofs.YtdnaaeagllejjaaDoor.Aes
open Go.Sim
open Go.Proofs
open Go.RowKit

theorem encF_len (K V : Blk) (P : Nat → BitVec 8) (l : Nat) : l ≤ lenN (encF K V P l) := by
  rw [lenN_eq]
  unfold encF encBs
  rw [joinL_length _ (fun b hb => chainL_16 _ _ _ b (swL_mem _ _ hb)), swL_length, chainL_length, fullB_length]
  unfold numB; omega
theorem decF_len (K V : Blk) (P : Nat → BitVec 8) (l : Nat) : l ≤ lenN (decF K V P l) := by
  rw [lenN_eq]
  unfold decF
  rw [joinL_length _ (unchainL_16 _ _ _), unchainL_length]
  unfold decBs
  by_cases h : l ≤ 16
  · rw [if_pos h, fullB_length]; omega
  · rw [if_neg h, app_eq, List.length_append, fullB_length]
    show l ≤ 16 * (numB l - 2 + 2)
    unfold numB; omega
section
variable {X Y Z : Nat → BitVec 8} {n n2 n3 l k k2 : Nat} {r : List Prop}
theorem cE_all (h1 : 16 ≤ n) (h2 : 16 ≤ n2) (hr : ∀ p ∈ r, p) : ∀ p ∈ cE X Y n n2 r, p := all_cons (byteF_isB Y) (all_cons (by omega) (all_cons (byteF_isB X) (all_cons (by omega) hr)))
theorem cL_all (h : 16 ≤ l) (h2 : l ≤ 200) (hr : ∀ p ∈ r, p) : ∀ p ∈ cL Z l r, p := all_cons (decide_eq_false (by omega)) (all_cons (decide_eq_true (by omega)) (all_cons (byteF_isB fun i => Z (0 + i)) (all_cons ⟨by omega, by omega⟩ hr)))
theorem cOwn_all (h : l ≤ 200) (h2 : l ≤ n3) (h3 : l ≠ 0) (hr : ∀ p ∈ r, p) : ∀ p ∈ cOwn Z n3 l r, p := all_cons (decide_eq_false (by omega)) (all_cons (by omega) (all_cons (decide_eq_false h3) (all_cons ⟨⟨by omega, by omega⟩, rfl⟩ hr)))
theorem cOwn0_all (h2 : l ≤ n3) (h3 : l = 0) (hr : ∀ p ∈ r, p) : ∀ p ∈ cOwn0 n3 l r, p := all_cons (decide_eq_false (by omega)) (all_cons (by omega) (all_cons (decide_eq_true h3) (all_cons rfl hr)))
theorem cStr_all (h2 : l ≤ n3) (hr : ∀ p ∈ r, p) : ∀ p ∈ cStr Z n3 l r, p := all_cons ⟨by omega, fun _ _ => trivial⟩ (all_cons ⟨by omega, fun _ _ => trivial⟩ (all_cons (by
  have h : strOfFn (fun i => byteF Z (0 + i)) 0 l = strOfFn (byteF Z) 0 l := by unfold strOfFn; simp only [Nat.zero_add]
  rw [decide_eq_true h]; rfl) hr))
theorem cStr0_all (h2 : l ≤ n3) (h3 : l = 0) (hr : ∀ p ∈ r, p) : ∀ p ∈ cStr0 Z n3 l r, p := all_cons ⟨by omega, fun _ _ => trivial⟩ (all_cons (by
  have h : bytesOf [] = strOfFn (byteF Z) 0 l := by rw [h3]; rfl
  rw [decide_eq_true h]; rfl) hr)
theorem cEq_all {F : Blk → Blk → (Nat → BitVec 8) → Nat → Blk} (hF : ∀ K V P l, l ≤ lenN (F K V P l)) (h1 : 16 ≤ n) (h2 : 16 ≤ n2) (h3 : l ≤ n3) (h : 16 ≤ l) (h4 : l ≤ 200) (hr : ∀ p ∈ r, p) : ∀ p ∈ cEq F X Y Z n n2 n3 l r, p :=
  all_cons ⟨by omega, fun _ _ => trivial⟩ (all_cons (byteF_isB X) (all_cons (byteF_isB Y) (all_cons ⟨by omega, by omega⟩ (all_cons (byteF_isB Z) (all_cons ⟨by omega, decide_eq_true ⟨h, by omega⟩⟩ (all_cons ⟨by have := hF (block16 X 0) (block16 Y 0) (fun j => Z (0 + j)) l; omega, fun _ _ => trivial⟩
    (all_cons (decide_eq_true (by simp only [Nat.zero_add])) hr)))))))
theorem nilC_all (hr : ∀ p ∈ r, p) : ∀ p ∈ nilC r, p := all_cons rfl hr
theorem le20_all (h : ¬ k > 20) (h2 : ¬ k2 > 20) (hr : ∀ p ∈ r, p) : ∀ p ∈ le20 k k2 r, p := all_cons (decide_eq_false (by omega)) (all_cons (decide_eq_false (by omega)) hr)
theorem cI_all (h : k2 ≠ 16) (hr : ∀ p ∈ r, p) : ∀ p ∈ cI k2 r, p := all_cons h (all_cons h hr)
theorem cB_all (h2 : 16 ≤ n2) (h : k ≠ 16) (hr : ∀ p ∈ r, p) : ∀ p ∈ cB Y n2 k r, p := all_cons (byteF_isB Y) (all_cons (by omega) (all_cons h hr))
theorem repA {q : Prop} (h : q) : ∀ n, ∀ p ∈ repN q n, p
  | 0 => all_nil
  | n + 1 => all_cons h (repA h n)
theorem ne16 (h : k ≠ 16) : ((k : Int) != 16) = true := by rw [bne_iff_ne]; omega
theorem eq16 (h : k = 16) : ((k : Int) != 16) = false := by subst h; rfl
theorem cArg_all (h : k2 ≠ 16) : ∀ p ∈ cArg (decide (k ≠ 16)) k k2, p := by
  by_cases hk : k = 16
  · rw [decide_eq_false (by simpa using hk)]
    exact all_cons (eq16 hk) (all_cons (ne16 h) all_nil)
  · rw [decide_eq_true hk]
    exact repA (ne16 hk) 4
end
theorem start_row1 {w : World} {β : Val} {H : List SO} (h : HeapRel Tryd.prog (fun _ => False) w β H w) (hG : GlobRel globR β) {x : Addr} {len cap : Nat} {X : Nat → BitVec 8} (hs : x.spot = none) (hl : len ≤ cap)
    (hx : ∀ i, i < cap → w.cell? (x.add i) = some (.int .u8 ((X i).toNat : Int))) :
    ∃ β', HeapRel Tryd.prog (fun _ => False) w β' (H ++ [rowF X cap]) w ∧ GlobRel globR β' ∧ β.le β' ∧ (SV.slice ⟨H.length, .lit 0⟩ (.sym len) (.sym cap)).den β' = some (.slice (some x) len cap) := by
  obtain ⟨β', h1, h2, h3⟩ := start_row h hs hl hx
  exact ⟨β', h1, hG.mono h2, h2, h3⟩
theorem texts_law {w : World} {β : Val} (hH : HeapRel Tryd.prog (fun _ => False) w β [tabR] w) (hG : GlobRel globR β) {a0 a1 a2 : Option Addr} {len0 cap0 len1 cap1 len2 cap2 : Nat} {X Y Z : Nat → BitVec 8} (h0 : ByteRow w a0 len0 cap0 X) (h1 : ByteRow w a1 len1 cap1 Y) (h2 : ByteRow w a2 len2 cap2 Z) :
    Calls Tryd.prog 4 #[.slice a0 len0 cap0, .slice a1 len1 cap1, .slice a2 len2 cap2] w fun e w' => e = .returned (.bool true) ∧ Below w.heap.size w w' := by
  have go : ∀ {β' : Val} {H' : List SO} {args : List SV} {ds : List Bool} {ps : List Prop}, HeapRel Tryd.prog (fun _ => False) w β' (tabR :: H') w → GlobRel globR β' → SV.denL β' args = some [.slice a0 len0 cap0, .slice a1 len1 cap1, .slice a2 len2 cap2] → txt args H' ds = yesO ps → (∀ p ∈ ps, p) →
      Calls Tryd.prog 4 #[.slice a0 len0 cap0, .slice a1 len1 cap1, .slice a2 len2 cap2] w fun e w' => e = .returned (.bool true) ∧ Below w.heap.size w w' := fun hH' hG' ha h hp => law_by cfgTOK 20000 hH' hG' ha _ h hp
  by_cases hk : len0 > 20
  · exact go hH hG (args := [xV a0 len0 cap0, xV a1 len1 cap1, xV a2 len2 cap2]) rfl (txt_1a cap2 len2 len0 cap0 len1 cap1 a0 a1 a2) (repA (decide_eq_true (by omega)) 4)
  by_cases hk2 : len1 > 20
  · exact go hH hG (args := [xV a0 len0 cap0, xV a1 len1 cap1, xV a2 len2 cap2]) rfl (txt_1b cap2 len2 len0 cap0 len1 cap1 a0 a1 a2) (all_cons (decide_eq_false (by omega)) (repA (decide_eq_true (by omega)) 4))
  by_cases hl : len2 > 200
  · exact go hH hG (args := [xV a0 len0 cap0, xV a1 len1 cap1, xV a2 len2 cap2]) rfl (txt_1c cap2 len2 len0 cap0 len1 cap1 a0 a1 a2) (le20_all hk hk2 (all_cons (decide_eq_true (by omega)) all_nil))
  have hl : len2 ≤ 200 := by omega
  by_cases hv : len1 = 16
  · subst hv
    rcases h1 with ⟨_, h, _⟩ | ⟨y, rfl, hsy, hly, _, hcy⟩
    · omega
    by_cases hkk : len0 = 16
    · subst hkk
      rcases h0 with ⟨_, h, _⟩ | ⟨x, rfl, hsx, hlx, _, hcx⟩
      · omega
      obtain ⟨β1, hH1, hG1, hle1, hd1⟩ := start_row1 hH hG hsx hlx hcx
      obtain ⟨β2, hH2, hG2, hle2, hd2⟩ := start_row1 hH1 hG1 hsy hly hcy
      have hd1 : (kS cap0).den β1 = some (.slice (some x) 16 cap0) := hd1
      have hd2 : (vS cap1).den β2 = some (.slice (some y) 16 cap1) := hd2
      have hd1 := SV.den_mono hle2 _ hd1
      rcases h2 with ⟨rfl, rfl, rfl⟩ | ⟨z, rfl, hsz, hlz, _, hcz⟩
      · exact go hH2 hG2 (denL_cons.2 ⟨_, _, hd1, denL_cons.2 ⟨_, _, hd2, denL_cons.2 ⟨_, _, rfl, rfl, rfl⟩, rfl⟩, rfl⟩) (txt_nil X Y cap0 cap0 cap1 cap1) (cE_all hlx hly (cE_all hlx hly (nilC_all all_nil)))
      · obtain ⟨β3, hH3, hG3, hle3, hd3⟩ := start_row1 hH2 hG2 hsz hlz hcz
        have hd3 : (bS 3 len2 cap2).den β3 = some (.slice (some z) len2 cap2) := hd3
        have ha : SV.denL β3 [kS cap0, vS cap1, bS 3 len2 cap2] = some [.slice (some x) 16 cap0, .slice (some y) 16 cap1, .slice (some z) len2 cap2] := denL_cons.2 ⟨_, _, SV.den_mono hle3 _ hd1, denL_cons.2 ⟨_, _, SV.den_mono hle3 _ hd2, denL_cons.2 ⟨_, _, hd3, rfl, rfl⟩, rfl⟩, rfl⟩
        by_cases hz : len2 = 0
        · exact go hH3 hG3 ha (txt_zero X Y Z cap0 cap0 cap1 cap1 cap2 cap2 len2) (cOwn0_all hlz hz (cE_all hlx hly (cE_all hlx hly (cStr0_all hlz hz (all_cons (decide_eq_true (by omega)) all_nil)))))
        by_cases h16 : len2 < 16
        · exact go hH3 hG3 ha (txt_few X Y Z cap0 cap0 cap1 cap1 cap2 cap2 len2) (cOwn_all hl hlz hz (cE_all hlx hly (all_cons (decide_eq_true h16) (cE_all hlx hly (all_cons (decide_eq_true h16) (cStr_all hlz (all_cons (decide_eq_true (by omega)) all_nil)))))))
        · have h16 : 16 ≤ len2 := by omega
          exact go hH3 hG3 ha (txt_main X Y Z cap0 cap0 cap1 cap1 cap2 cap2 len2) (cOwn_all hl hlz hz (cE_all hlx hly (cL_all h16 hl (cE_all hlx hly (cL_all h16 hl (cStr_all hlz (all_cons (decide_eq_false (by omega)) (cEq_all encF_len hlx hly hlz h16 hl (cEq_all decF_len hlx hly hlz h16 hl all_nil)))))))))
    · obtain ⟨β1, hH1, hG1, hle1, hd1⟩ := start_row1 hH hG hsy hly hcy
      have hd1 : (v1S cap1).den β1 = some (.slice (some y) 16 cap1) := hd1
      have hk20 : decide ((len0 : Int) > 20) = false := decide_eq_false (by omega)
      have hlast := repA (ne16 hkk) 4
      rcases h2 with ⟨rfl, rfl, rfl⟩ | ⟨z, rfl, hsz, hlz, _, hcz⟩
      · exact go hH1 hG1 (args := [xV a0 len0 cap0, v1S cap1, .nilSlice]) (denL_cons.2 ⟨_, _, rfl, denL_cons.2 ⟨_, _, hd1, denL_cons.2 ⟨_, _, rfl, rfl, rfl⟩, rfl⟩, rfl⟩) (txt_3n Y cap1 cap1 len0 cap0 a0) (all_cons hk20 (cB_all hly hkk (cB_all hly hkk (nilC_all hlast))))
      · obtain ⟨β3, hH3, hG3, hle3, hd3⟩ := start_row1 hH1 hG1 hsz hlz hcz
        have hd3 : (bS 2 len2 cap2).den β3 = some (.slice (some z) len2 cap2) := hd3
        have ha : SV.denL β3 [xV a0 len0 cap0, v1S cap1, bS 2 len2 cap2] = some [.slice a0 len0 cap0, .slice (some y) 16 cap1, .slice (some z) len2 cap2] := denL_cons.2 ⟨_, _, rfl, denL_cons.2 ⟨_, _, SV.den_mono hle3 _ hd1, denL_cons.2 ⟨_, _, hd3, rfl, rfl⟩, rfl⟩, rfl⟩
        by_cases hz : len2 = 0
        · exact go hH3 hG3 ha (txt_30 Y Z cap1 cap1 cap2 cap2 len2 len0 cap0 a0) (all_cons hk20 (cOwn0_all hlz hz (cB_all hly hkk (cB_all hly hkk (cStr0_all hlz hz hlast)))))
        · exact go hH3 hG3 ha (txt_3m Y Z cap1 cap1 cap2 cap2 len2 len0 cap0 a0) (all_cons hk20 (cOwn_all hl hlz hz (cB_all hly hkk (cB_all hly hkk (cStr_all hlz hlast)))))
  · have hlast := cArg_all (k := len0) hv
    rcases h2 with ⟨rfl, rfl, rfl⟩ | ⟨z, rfl, hsz, hlz, _, hcz⟩
    · exact go hH hG (args := [xV a0 len0 cap0, xV a1 len1 cap1, .nilSlice]) rfl (txt_2n len0 cap0 len1 cap1 a0 a1 (decide (len0 ≠ 16))) (le20_all hk hk2 (cI_all hv (nilC_all hlast)))
    · obtain ⟨β3, hH3, hG3, hle3, hd3⟩ := start_row1 hH hG hsz hlz hcz
      have hd3 : (bS 1 len2 cap2).den β3 = some (.slice (some z) len2 cap2) := hd3
      have ha : SV.denL β3 [xV a0 len0 cap0, xV a1 len1 cap1, bS 1 len2 cap2] = some [.slice a0 len0 cap0, .slice a1 len1 cap1, .slice (some z) len2 cap2] := denL_cons.2 ⟨_, _, rfl, denL_cons.2 ⟨_, _, rfl, denL_cons.2 ⟨_, _, hd3, rfl, rfl⟩, rfl⟩, rfl⟩
      by_cases hz : len2 = 0
      · exact go hH3 hG3 ha (txt_20 Z cap2 cap2 len2 len0 cap0 len1 cap1 a0 a1 (decide (len0 ≠ 16))) (le20_all hk hk2 (cOwn0_all hlz hz (cI_all hv (cStr0_all hlz hz hlast))))
      · exact go hH3 hG3 ha (txt_2m Z cap2 cap2 len2 len0 cap0 len1 cap1 a0 a1 (decide (len0 ≠ 16))) (le20_all hk hk2 (cOwn_all hl hlz hz (cI_all hv (cStr_all hlz hlast))))

end Go.Proofs.YtdnaaeagllejjaaDoor.Aes


/-
  The start of a law that reads the reference's table.
-/
namespace Go.Proofs.YtdnaaeagllejjaaDoor.Aes
open Go.Sim
open Go.Proofs

theorem gTab : Tryd.prog.globalNamed "watchword/watchwordref06.substitutes" = some 0 := by kernel_rfl
theorem tTab : (Tryd.prog.globals[0]?).map (·.type) = some 49 := by kernel_rfl
theorem uTab : Tryd.prog.underlying 49 = some (.array 256 5) := by kernel_rfl
theorem uByte : Tryd.prog.underlying 5 = some (.int .u8) := by kernel_rfl
theorem lx_den {γ : Val} : ∀ T : List Int, SV.denL γ (lx T) = some (T.map (Value.int .u8))
  | [] => rfl
  | _ :: T => denL_cons.2 ⟨_, _, rfl, lx_den T, rfl⟩
theorem tab_start {W : World} (hL : laidMetH Tryd.prog [("watchword/watchwordref06.substitutes", Rows.laid_watchword_watchwordref06_substitutes)] W) : ∃ β, HeapRel Tryd.prog (fun _ => False) W β [tabR] W ∧ GlobRel globR β := by
  rw [MakeChecks.laidMetH_plain _ _ _ (by kernel_rfl)] at hL
  have e : (Rows.laid_watchword_watchwordref06_substitutes : DataW Unit) = Lib.tabData .u8 subsI := by kernel_rfl
  rw [e] at hL
  have hT := Lib.tabIs_of_head gTab tTab uTab uByte (by kernel_rfl) (by kernel_rfl) hL
  have hlen : subsI.length = 256 := by kernel_rfl
  have hsn := (HeapRel.start Tryd.prog (fun _ => False) W).snoc (Go.Sim.Loc.mk 0 0 0) tabR ?_ (fun ho => by cases ho)
  · refine ⟨_, hsn.1, fun g nm hg => ?_⟩
    obtain ⟨h1, h2⟩ := boolC_opt (show boolC (Nat.beq g 0) (some 0) none = some nm from hg)
    cases h2
    exact ⟨_, Val.upd_same .., (beq_spec h1).symm, rfl⟩
  · refine ⟨_, _, Val.upd_same .., lx_den subsI, fun i x hx => ?_⟩
    rw [List.getElem?_map] at hx
    cases hi : subsI[i]? with
    | none => rw [hi] at hx; cases hx
    | some t =>
      rw [hi] at hx; cases hx
      have hlt : i < subsI.length := (List.getElem?_eq_some_iff.1 hi).1
      have hc := hT.cell gTab i hlt
      have e : subsI.getD i 0 = t := by rw [List.getD_eq_getElem?_getD, hi]; rfl
      rw [e] at hc
      refine ⟨?_, fun f => f, by simpa using hc⟩
      unfold World.cell? at hc
      by_cases hb : (0 : Nat) < W.heap.size
      · exact hb
      · have hn : W.heap[(0 : Nat)]? = none := Array.getElem?_eq_none (by omega)
        simp only [hn] at hc
        cases hc

end Go.Proofs.YtdnaaeagllejjaaDoor.Aes

