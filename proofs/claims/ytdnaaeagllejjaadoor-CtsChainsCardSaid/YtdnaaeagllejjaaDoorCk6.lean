/-
  Texts behind one another: the symbolic simulator and what it is told of the program.
-/
import Derived.Test.YtdnaaeagllejjaaDoorYRefA3
import Derived.Test.YtdnaaeagllejjaaDoorCk5
import Derived.Test.YtdnaaeagllejjaaDoorCk4
import Derived.Laws.Externs
import Derived.Lib.MakeNoZero

/-
  The reference's block cipher, fourth part: what its functions come to.
-/
namespace Go.Proofs.YtdnaaeagllejjaaDoor.Aes
open Go.Sim
open Go.Proofs
variable {α : Type}

/-- the table lies where the first name is -/
noncomputable def tabR0 (H : List SO) (r : R SumRes) : R SumRes := optC (cellsE (nth H 0)) (.stuck 740) fun l => boolC (isLit subsI l) r (.stuck 740)
theorem tabR0_sat {H : List SO} {r : R SumRes} {φ : SumRes → Prop} (h : (∀ g, ∃ e', H[0]? = some e' ∧ Taken g tabR e') → r.Sat φ) : (tabR0 H r).Sat φ := by
  refine optC_only fun l hl => boolC_only fun hs => h fun g => ?_
  rw [nth_eq] at hl
  rw [isLit_spec hs] at hl
  exact taken_cells hl (by rw [lx_ren]; exact .refl _)
theorem tabR_uses (p : Nat → Bool) : tabR.CUses p := lx_uses _ _
theorem glob_at {β : Val} {I : Ifc} (h0 : I.big 0 = 0) (hk : I.known 0 = true) (hG : GlobRel globR β) : ∀ g j, globR g = some j → I.known j = true ∧ ∃ l, β (I.big j) = some l ∧ l.blk = g ∧ l.off = 0 := by
  intro g j hg
  have hj : j = 0 := by
    have h' : boolC (Nat.beq g 0) (some 0) none = some j := hg
    obtain ⟨_, h⟩ := boolC_opt h'
    cases h; rfl
  subst hj
  rw [h0]; exact ⟨hk, hG g 0 hg⟩
noncomputable def rwordsR (H : List SO) (base : Nat) (a : SA) : R SumRes :=
  bytesE (nth H a.nm) fun X n => .need (a.off.den + 16 ≤ n) (.ok ⟨.slice ⟨base, .lit 0⟩ (.lit 176) (.rest base 0), [], [.own (.lst (bx (keysL (block16 X a.off.den)))) false 5]⟩)
noncomputable def rwordsS : Summ := fun args H base => args1 args fun v => sliceR v (.stuck 741) fun a l => tabR0 H (boolC (Nat.beq 0 a.nm) (.stuck 741) (lenIs l 16 (rwordsR H base a) (.stuck 742)))
theorem rwordsOK : SumAt Tryd.prog globR 13 rwordsS := by
  intro O w0 β H w base args vs hH hG ha
  refine args1_sat fun v hv => sliceR_sat (fun _ => trivial) fun a l c1 hs1 => tabR0_sat fun htab => boolC_sat (fun _ => trivial) fun h0 => lenIs_sat (fun hl => bytesE_sat fun X n ht => fun hn => ?_) fun _ => trivial
  rw [hv, hs1] at ha
  rw [nth_eq] at ht
  obtain ⟨x, ys, hx, hys, rfl⟩ := denL_cons.1 ha
  obtain ⟨m, _, hd, _, _⟩ := slice_den hx
  rw [hl] at hd
  refine sum_runG cfgR3OK 20000 hH ⟨[0, a.nm], [tabR, rowF X n], [.slice ⟨1, .sym a.off.den⟩ (.lit 16) (.sym m)]⟩ (glob_at rfl rfl hG) (denL_cons.2 ⟨_, _, hd, hys, rfl⟩)
    (Ifc.fits (by simpa using beq_ne h0) rfl ⟨⟨htab _, tabR_uses _⟩, ⟨ht _, rowF_uses _ _ _⟩, trivial⟩) [413] (by simp) (by simp) ?_
  show (callSim cfgR3 20000 13 [.slice ⟨1, .sym a.off.den⟩ (.lit 16) (.sym m)] [tabR, rowF X n]).Ob _ _
  have hrun := rwords_run X n m a.off.den
  rw [keysS_eq] at hrun
  generalize callSim cfgR3 20000 13 [.slice ⟨1, .sym a.off.den⟩ (.lit 16) (.sym m)] [tabR, rowF X n] = t at hrun ⊢
  exact outP_ob hrun (all_cons hn all_nil) fun H2 hH2 => ⟨SV.imp_of_eq rfl, rfl, trivial, ⟨given_bytes (List.cons.inj hH2).1, trivial⟩⟩
noncomputable def rcryptS (F : (Nat → BitVec 8) → List (BitVec 8) → List (BitVec 8)) : Summ := fun args H base => args2 args fun u v => sliceR u (.stuck 743) fun b l2 => sliceR v (.stuck 743) fun a l => tabR0 H
  (boolC (Nat.beq 0 a.nm) (.stuck 743) (boolC (Nat.beq 0 b.nm) (.stuck 743) (boolC (Nat.beq b.nm a.nm) (.stuck 743) (lenIs l 16 (lenIs l2 176 (bytesE (nth H a.nm) fun X n => bytesE (nth H b.nm) fun W n2 => .need (a.off.den + 16 ≤ n ∧ b.off.den + 176 ≤ n2)
    (wholeR base (F (at2 W b.off.den) (block16 X a.off.den)))) (.stuck 744)) (.stuck 744)))))
theorem rcryptOK {f : FuncId} {F : (Nat → BitVec 8) → List (BitVec 8) → List (BitVec 8)} {j : Nat} (hj : 3 ≤ j) {ps : (Nat → BitVec 8) → (Nat → BitVec 8) → Nat → Nat → Nat → Nat → List Prop}
    (hps : ∀ X W n o o2 n2, o + 16 ≤ n ∧ o2 + 176 ≤ n2 → ∀ p ∈ ps X W n o o2 n2, p)
    (hrun : ∀ (X W : Nat → BitVec 8) (n m o o2 n2 m2 : Nat), outP [j] (callSim cfgR3 20000 f [.slice ⟨1, .sym o2⟩ (.lit 176) (.sym m2), .slice ⟨2, .sym o⟩ (.lit 16) (.sym m)] [tabR, rowF W n2, rowF X n]) =
      (ps X W n o o2 n2, some (.slice ⟨j, .lit 0⟩ (.lit 16) (.lit 16), [some (.own (.lst (bx (F (at2 W o2) (block16 X o)))) true 5)]))) : SumAt Tryd.prog globR f (rcryptS F) := by
  intro O w0 β H w base args vs hH hG ha
  refine args2_sat fun u v hv => sliceR_sat (fun _ => trivial) fun b l2 c2 hs2 => sliceR_sat (fun _ => trivial) fun a l c1 hs1 => tabR0_sat fun htab => boolC_sat (fun _ => trivial) fun h0 => boolC_sat (fun _ => trivial) fun h1 => boolC_sat (fun _ => trivial) fun h2 => lenIs_sat (fun hl => lenIs_sat (fun hl2 => bytesE_sat fun X n ht => bytesE_sat fun W n2 ht2 => fun hn => ?_) fun _ => trivial) fun _ => trivial
  rw [hv, hs1, hs2] at ha
  rw [nth_eq] at ht ht2
  obtain ⟨x, ys, hx, hys, rfl⟩ := denL_cons.1 ha
  obtain ⟨y, zs, hy, hz, rfl⟩ := denL_cons.1 hys
  obtain ⟨m2, _, hd2, _, _⟩ := slice_den hx
  obtain ⟨m, _, hd, _, _⟩ := slice_den hy
  rw [hl] at hd
  rw [hl2] at hd2
  have hnd : [0, b.nm, a.nm].Nodup := by
    have := beq_ne h0; have := beq_ne h1; have := beq_ne h2
    simp; omega
  refine sum_runG cfgR3OK 20000 hH ⟨[0, b.nm, a.nm], [tabR, rowF W n2, rowF X n], [.slice ⟨1, .sym b.off.den⟩ (.lit 176) (.sym m2), .slice ⟨2, .sym a.off.den⟩ (.lit 16) (.sym m)]⟩ (glob_at rfl rfl hG) (denL_cons.2 ⟨_, _, hd2, denL_cons.2 ⟨_, _, hd, hz, rfl⟩, rfl⟩)
    (Ifc.fits hnd rfl ⟨⟨htab _, tabR_uses _⟩, ⟨ht2 _, rowF_uses _ _ _⟩, ⟨ht _, rowF_uses _ _ _⟩, trivial⟩) [j] (by simpa using hj) (by simp) ?_
  show (callSim cfgR3 20000 f [.slice ⟨1, .sym b.off.den⟩ (.lit 176) (.sym m2), .slice ⟨2, .sym a.off.den⟩ (.lit 16) (.sym m)] [tabR, rowF W n2, rowF X n]).Ob _ _
  have hrun := hrun X W n m a.off.den b.off.den n2 m2
  generalize callSim cfgR3 20000 f [.slice ⟨1, .sym b.off.den⟩ (.lit 176) (.sym m2), .slice ⟨2, .sym a.off.den⟩ (.lit 16) (.sym m)] [tabR, rowF W n2, rowF X n] = t at hrun ⊢
  have hout : Ifc.out ⟨[0, b.nm, a.nm], [tabR, rowF W n2, rowF X n], [.slice ⟨1, .sym b.off.den⟩ (.lit 176) (.sym m2), .slice ⟨2, .sym a.off.den⟩ (.lit 16) (.sym m)]⟩ base [j] j = base := by
    unfold Ifc.out
    have hk : Ifc.known ⟨[0, b.nm, a.nm], [tabR, rowF W n2, rowF X n], [.slice ⟨1, .sym b.off.den⟩ (.lit 176) (.sym m2), .slice ⟨2, .sym a.off.den⟩ (.lit 16) (.sym m)]⟩ j = false := by
      cases hx : Ifc.known ⟨[0, b.nm, a.nm], [tabR, rowF W n2, rowF X n], [.slice ⟨1, .sym b.off.den⟩ (.lit 176) (.sym m2), .slice ⟨2, .sym a.off.den⟩ (.lit 16) (.sym m)]⟩ j with
      | false => rfl
      | true => have := (Ifc.known_iff _ _).1 hx; simp at this; omega
    rw [hk, boolC_false]
    show base + boolC (Nat.beq j j) 0 _ = base
    rw [Nat.beq_refl]; rfl
  refine outP_ob hrun (hps X W n a.off.den b.off.den n2 hn) fun H2 hH2 => ⟨SV.imp_of_eq ?_, ?_, trivial, ⟨given_bytes (List.cons.inj hH2).1, trivial⟩⟩
  · show SV.slice ⟨Ifc.out _ base [j] j, .lit 0⟩ (.lit 16) (.lit 16) = .slice ⟨base, .lit 0⟩ (.lit 16) (.lit 16)
    rw [hout]
  · show (Ifc.seen _ [j] j && true) = true
    unfold Ifc.seen
    have : memN j [j] = true := memN_iff.2 (by simp)
    rw [this]
    cases Ifc.known _ j <;> rfl
theorem rencOK : SumAt Tryd.prog globR 14 (rcryptS encL) := by
  refine rcryptOK (j := 32) (by omega) (ps := fun X W n o o2 n2 => app [IsB (byteF X), IsB (byteF W), o + 16 ≤ n ∧ o2 + 176 ≤ n2] (app (repL [0 + 16 ≤ 16, IsB (byteF W), 0 + 16 ≤ 16 ∧ o2 + 176 ≤ n2] 9) [IsB (byteF W), 0 + 16 ≤ 16 ∧ o2 + 176 ≤ n2])) (fun X W n o o2 n2 h => ?_) fun X W n m o o2 n2 m2 => ?_
  · have hW := byteF_isB W
    have h2 : 0 + 16 ≤ 16 ∧ o2 + 176 ≤ n2 := ⟨by omega, h.2⟩
    exact app_all (all_cons (byteF_isB X) (all_cons hW (all_cons h all_nil))) (app_all (repL_all (all_cons (by omega) (all_cons hW (all_cons h2 all_nil))) 9) (all_cons hW (all_cons h2 all_nil)))
  · rw [← encS_eq]; exact renc_run X W n m o o2 n2 m2
theorem rdecOK : SumAt Tryd.prog globR 30 (rcryptS decL) := by
  refine rcryptOK (j := 33) (by omega) (ps := fun X W n o o2 n2 => app [IsB (byteF X), IsB (byteF W), o + 16 ≤ n ∧ o2 + 176 ≤ n2] (app (repL [IsB (byteF W), 0 + 16 ≤ 16 ∧ o2 + 176 ≤ n2, 0 + 16 ≤ 16] 9) [IsB (byteF W), 0 + 16 ≤ 16 ∧ o2 + 176 ≤ n2])) (fun X W n o o2 n2 h => ?_) fun X W n m o o2 n2 m2 => ?_
  · have hW := byteF_isB W
    have h2 : 0 + 16 ≤ 16 ∧ o2 + 176 ≤ n2 := ⟨by omega, h.2⟩
    exact app_all (all_cons (byteF_isB X) (all_cons hW (all_cons h all_nil))) (app_all (repL_all (all_cons hW (all_cons h2 (all_cons (by omega) all_nil))) 9) (all_cons hW (all_cons h2 all_nil)))
  · rw [← decS_eq]; exact rdec_run X W n m o o2 n2 m2

end Go.Proofs.YtdnaaeagllejjaaDoor.Aes


/-
  bytes.Clone: what it comes to.
-/
namespace Go.Proofs.YtdnaaeagllejjaaDoor.Aes
open Go.Sim
open Go.Proofs
variable {α : Type}

noncomputable def bytesFrom (X : Nat → BitVec 8) (o n : Nat) : List (BitVec 8) := mapN (fun i => X (o + i)) (fromN n 0)
theorem fromN_range : ∀ n k : Nat, fromN n k = List.range' k n := by
  intro n
  induction n with
  | zero => intro k; rfl
  | succ n ih => intro k; show k :: fromN n (k + 1) = _; rw [ih]; rfl
theorem bytesFrom_length (X : Nat → BitVec 8) (o n : Nat) : (bytesFrom X o n).length = n := by
  unfold bytesFrom
  rw [mapN_eq, fromN_range]; simp
theorem bytesFrom_get (X : Nat → BitVec 8) (o n i : Nat) (h : i < n) : (bytesFrom X o n)[i]? = some (X (o + i)) := by
  unfold bytesFrom
  rw [mapN_eq, fromN_range, List.getElem?_map, List.getElem?_range' h]; simp
theorem bx_den {γ : Val} : ∀ xs : List (BitVec 8), SV.denL γ (bx xs) = some (xs.map fun x => Value.int .u8 (x.toNat : Int))
  | [] => rfl
  | _ :: xs => denL_cons.2 ⟨_, _, rfl, bx_den xs, rfl⟩
/-- a row of bytes, one by one -/
theorem fn_imp_lst (X : Nat → BitVec 8) (o n : Nat) : (Cells.fn (fun i => byteF X (o + i)) n).Imp (.lst (bx (bytesFrom X o n))) := by
  intro γ vs h
  obtain ⟨h1, h2⟩ := h
  show SV.denL γ (bx (bytesFrom X o n)) = some vs
  rw [bx_den]
  congr 1
  apply List.ext_getElem?
  intro i
  rw [List.getElem?_map]
  by_cases hi : i < n
  · rw [bytesFrom_get X o n i hi]
    have hv : vs[i]? = some vs[i] := List.getElem?_eq_getElem (by omega)
    have := h2 i _ hv
    rw [hv]; exact this
  · rw [List.getElem?_eq_none (by rw [bytesFrom_length]; omega), List.getElem?_eq_none (by omega)]; rfl
theorem clone_run (X : Nat → BitVec 8) (o n k m : Nat) : outO [2] (callSim cfg0 6000 22 [.slice ⟨0, .sym o⟩ (.sym k) (.sym m)] [rowF X n]) [false] =
    ([o + k ≤ n, decide (k = 0) = false, roomy k 1 ∧ 1 = 1], some (.slice ⟨2, .lit 0⟩ (.sym k) (.rest 2 0), [some (.own (.fn (fun i => byteF X (o + i)) k) false 5)])) := by kernel_rfl
theorem clone_zero (X : Nat → BitVec 8) (o n k m : Nat) : outO [1] (callSim cfg0 6000 22 [.slice ⟨0, .sym o⟩ (.sym k) (.sym m)] [rowF X n]) [true] =
    ([o + k ≤ n, decide (k = 0) = true, 1 = 1], some (.slice ⟨1, .lit 0⟩ (.lit 0) (.lit 0), [some (.own (.lst []) true 5)])) := by kernel_rfl
theorem clone_nil : outP [] (callSim cfg0 6000 22 [.nilSlice] []) = ([], some (.nilSlice, [])) := by kernel_rfl
noncomputable def clone0 (n o base k : Nat) : R SumRes := .need (o + k ≤ n) (.ok ⟨.slice ⟨base, .lit 0⟩ (.lit 0) (.lit 0), [], [.own (.lst []) true 5]⟩)
noncomputable def cloneL (X : Nat → BitVec 8) (n o base k : Nat) : R SumRes := boolC (Nat.beq k 0) (clone0 n o base k) (boolC (Nat.blt k 70368744177664) (.need (o + k ≤ n) (.ok ⟨.slice ⟨base, .lit 0⟩ (.lit k) (.rest base 0), [], [.own (.lst (bx (bytesFrom X o k))) false 5]⟩)) (.stuck 760))
noncomputable def cloneV (X : Nat → BitVec 8) (n o base k : Nat) : R SumRes := .fork (decide (k = 0)) (clone0 n o base k) (.need (o + k ≤ n ∧ roomy k 1) (.ok ⟨.slice ⟨base, .lit 0⟩ (.sym k) (.rest base 0), [], [.own (.fn (fun i => byteF X (o + i)) k) false 5]⟩))
noncomputable def cloneS : Summ := fun args H base => args1 args fun v => sliceR v (.ok ⟨.nilSlice, [], []⟩) fun a l => bytesE (nth H a.nm) fun X n =>
  SN.rec (motive := fun _ => R SumRes) (fun k => cloneL X n a.off.den base k) (fun k => cloneV X n a.off.den base k) (fun _ _ => .stuck 761) l
theorem cloneOK : SumOK Tryd.prog 22 cloneS := by
  intro glob O w0 β H w base args vs hH hG ha
  refine args1_sat fun v hv => sliceR_sat (fun hn => ?_) fun a l cc hs => bytesE_sat fun X n ht => ?_
  · rw [hv, hn] at ha
    exact sum_out cfg0OK rfl 6000 hH ⟨[], [], [.nilSlice]⟩ ha (fits0 rfl) [] (by simp) (by simp) clone_nil (by simp) fun H2 _ => ends0 rfl rfl rfl
  · rw [hv, hs] at ha
    rw [nth_eq] at ht
    obtain ⟨y, zs, hy, hz, rfl⟩ := denL_cons.1 ha
    obtain ⟨m, hlm, hd, _, _⟩ := slice_den hy
    have key : ∀ (k : Nat) (r : SumRes), l.den = k → k ≠ 0 → a.off.den + k ≤ n → roomy k 1 → r.sets = [] → ((SV.slice ⟨base, .lit 0⟩ (.sym k) (.rest base 0)).Imp r.v) →
        (∃ c, (Cells.fn (fun i => byteF X (a.off.den + i)) k).Imp c ∧ r.news = [.own c false 5]) → SumSem Tryd.prog H β w base 22 (y :: zs) r := by
      intro k r hk hk0 hle hro hsets hval hnews
      obtain ⟨c, hc, hnews⟩ := hnews
      rw [hk] at hd
      refine sum_outO cfg0OK rfl 6000 hH ⟨[a.nm], [rowF X n], [.slice ⟨0, .sym a.off.den⟩ (.sym k) (.sym m)]⟩ (denL_cons.2 ⟨_, _, hd, hz, rfl⟩) (Ifc.fits (by simp) rfl ⟨⟨ht _, rowF_uses _ _ _⟩, trivial⟩) [2] (by simp) (by simp)
        (clone_run X a.off.den n k m) (all_cons hle (all_cons (decide_eq_false hk0) (all_cons ⟨hro, rfl⟩ all_nil))) fun H2 hH2 => ⟨hval, rfl, by rw [hsets]; trivial, ?_⟩
      · rw [hnews]
        have hH2 : H2[2]? = some (.own (.fn (fun i => byteF X (a.off.den + i)) k) false 5) := (List.cons.inj hH2).1
        exact ⟨given_imp hH2 (fun _ => rfl) hc, trivial⟩
    have key0 : ∀ k : Nat, l.den = k → k = 0 → (clone0 n a.off.den base k).Sat (SumSem Tryd.prog H β w base 22 (y :: zs)) := by
      intro k hk hk0 hle
      rw [hk] at hd
      exact sum_outO cfg0OK rfl 6000 hH ⟨[a.nm], [rowF X n], [.slice ⟨0, .sym a.off.den⟩ (.sym k) (.sym m)]⟩ (denL_cons.2 ⟨_, _, hd, hz, rfl⟩) (Ifc.fits (by simp) rfl ⟨⟨ht _, rowF_uses _ _ _⟩, trivial⟩) [1] (by simp) (by simp)
        (clone_zero X a.off.den n k m) (all_cons hle (all_cons (decide_eq_true hk0) (all_cons rfl all_nil))) fun H2 hH2 => ⟨.refl _, rfl, trivial, ⟨given_own (List.cons.inj hH2).1 rfl rfl, trivial⟩⟩
    cases l with
    | lit k =>
      refine boolC_sat (fun h0 => key0 k rfl (beq_spec h0)) fun h0 => boolC_only fun hlt => fun hle => key k _ rfl (beq_ne h0) hle ⟨?_, blt_spec hlt⟩ rfl (.refl _) ⟨_, fn_imp_lst X _ k, rfl⟩
      have := blt_spec hlt; omega
    | sym k => exact ⟨fun h0 => key0 k rfl (of_decide_eq_true h0), fun h0 => fun h => key k _ rfl (of_decide_eq_false h0) h.1 h.2 rfl (.refl _) ⟨_, .refl _, rfl⟩⟩
    | byt => trivial

end Go.Proofs.YtdnaaeagllejjaaDoor.Aes


/-
  Chained blocks, first part: the exclusive or of two blocks.
-/
namespace Go.Proofs.YtdnaaeagllejjaaDoor.Aes
open Go.Sim
open Go.Proofs
variable {α : Type}

noncomputable def cfgC1 : Cfg := cfgOf (sumsOf [(22, cloneS)])
theorem cfgC1OK : CfgOK cfgC1 := sumsOf_ok (all1 cloneOK)
theorem comb_run (X Y : Nat → BitVec 8) (n m o o2 n2 m2 : Nat) : outP [2] (callSim cfgC1 20000 21 [.slice ⟨0, .sym o⟩ (.lit 16) (.sym m), .slice ⟨1, .sym o2⟩ (.lit 16) (.sym m2)] [rowF X n, rowF Y n2]) =
    (IsB (byteF X) :: (o + 16 ≤ n) :: need1 (fun i => o2 + i < n2) 16, some (.slice ⟨2, .lit 0⟩ (.lit 16) (.rest 2 0), [some (.own (.lst (bx (addL (block16 X o) (block16 Y o2)))) false 5)])) := by kernel_rfl
noncomputable def combS : Summ := fun args H base => args2 args fun v u => sliceR v (.stuck 800) fun a l => sliceR u (.stuck 800) fun b l2 => lenIs l 16 (lenIs l2 16 (boolC (Nat.beq a.nm b.nm) (.stuck 801) (bytesE (nth H a.nm) fun X n => bytesE (nth H b.nm) fun Y n2 => .need (a.off.den + 16 ≤ n ∧ b.off.den + 16 ≤ n2)
  (.ok ⟨.slice ⟨base, .lit 0⟩ (.lit 16) (.rest base 0), [], [.own (.lst (bx (addL (block16 X a.off.den) (block16 Y b.off.den)))) false 5]⟩))) (.stuck 802)) (.stuck 802)
theorem given_bytes' {p : Nat → Bool} {g : Nat → Nat} {E : Option SO} {xs : List (BitVec 8)} {w : Bool} {el : TypeId} (h : E = some (.own (.lst (bx xs)) w el)) : Given p g E (.own (.lst (bx xs)) w el) := by
  refine given_own h (bx_uses _ _) ?_
  show SO.own (.lst (SV.renL _ (bx _))) w el = _
  rw [bx_ren]
theorem combOK : SumOK Tryd.prog 21 combS := by
  intro glob O w0 β H w base args vs hH hG ha
  refine args2_sat fun v u hv => sliceR_sat (fun _ => trivial) fun a l c1 hs1 => sliceR_sat (fun _ => trivial) fun b l2 c2 hs2 => lenIs_sat (fun hl => lenIs_sat (fun hl2 => boolC_sat (fun _ => trivial) fun hab => bytesE_sat fun X n ht => bytesE_sat fun Y n2 ht2 => fun hn => ?_) fun _ => trivial) fun _ => trivial
  rw [hv, hs1, hs2] at ha
  rw [nth_eq] at ht ht2
  obtain ⟨x, ys, hx, hys, rfl⟩ := denL_cons.1 ha
  obtain ⟨y, zs, hy, hz, rfl⟩ := denL_cons.1 hys
  obtain ⟨m, _, hd, _, _⟩ := slice_den hx
  obtain ⟨m2, _, hd2, _, _⟩ := slice_den hy
  rw [hl] at hd
  rw [hl2] at hd2
  exact sum_out cfgC1OK rfl 20000 hH ⟨[a.nm, b.nm], [rowF X n, rowF Y n2], [.slice ⟨0, .sym a.off.den⟩ (.lit 16) (.sym m), .slice ⟨1, .sym b.off.den⟩ (.lit 16) (.sym m2)]⟩
    (denL_cons.2 ⟨_, _, hd, denL_cons.2 ⟨_, _, hd2, hz, rfl⟩, rfl⟩) (Ifc.fits (by simpa using beq_ne hab) rfl ⟨⟨ht _, rowF_uses _ _ _⟩, ⟨ht2 _, rowF_uses _ _ _⟩, trivial⟩) [2] (by simp) (by simp)
    (comb_run X Y n m a.off.den b.off.den n2 m2) (all_cons (byteF_isB X) (all_cons hn.1 (need1_all fun i hi => by omega))) fun H2 hH2 => ⟨SV.imp_of_eq rfl, rfl, trivial, ⟨given_bytes' (List.cons.inj hH2).1, trivial⟩⟩

end Go.Proofs.YtdnaaeagllejjaaDoor.Aes


/-
  internal/bytealg.MakeNoZero: bytes that nobody knows.
-/
namespace Go.Proofs.YtdnaaeagllejjaaDoor.Aes
open Go.Sim
open Go.Proofs
variable {α : Type}

noncomputable def zbyte (z : Nat → Nat) : Nat → BitVec 8 := fun i => BitVec.ofNat 8 (z i)
theorem digits_list : ∀ (n t : Nat) (acc : Array Value), (Extern.BytealgMakeNoZero.digits n t acc).toList = acc.toList ++ (List.range n).map fun i => Value.int .u8 (Int.ofNat (t / 256 ^ i % 256))
  | 0, t, acc => by simp [Extern.BytealgMakeNoZero.digits]
  | n + 1, t, acc => by
    rw [Extern.BytealgMakeNoZero.digits, digits_list n, List.range_succ_eq_map]
    simp only [Array.toList_push, List.append_assoc, List.map_cons, List.map_map, Nat.pow_zero, Nat.div_one]
    congr 1
    show _ :: _ = _ :: _
    congr 1
    apply List.map_congr_left
    intro i _
    show Value.int .u8 _ = Value.int .u8 _
    rw [Nat.div_div_eq_div_mul, Nat.pow_succ, Nat.mul_comm]
theorem mnz_run {P : Program} (w : World) (ps : Array TypeId) (t e : TypeId) (ht : P.underlying t = some (.slice e)) (n : Nat) (hn : n ≤ 281474976710656) :
    ∃ cap bytes, (Extern.BytealgMakeNoZero.makeNoZero ps #[t] #[.int .i64 n]).run P w = .ok (.slice (some ⟨w.heap.size, 0, none⟩) n cap) (w.drew.drew.alloc (.cells (Extern.BytealgMakeNoZero.digits cap bytes #[]) e)) ∧ n ≤ cap := by
  have hdef : Extern.BytealgMakeNoZero.makeNoZero ps #[t] #[.int .i64 n] =
      (do
        let .slice elem ← underlying t | stuck "bytealg.MakeNoZero: slice type expected"
        if (n : Int) < 0 || (n : Int) > 2 ^ 48 then runtimePanic (.error "makeslice: len out of range")
        let cap ← choose (.appendCap (n : Int).toNat 0 elem)
        askRoom cap
        let bytes ← choose (.extern "internal/bytealg.MakeNoZero.bytes" 0)
        let a ← newRow elem (Extern.BytealgMakeNoZero.digits cap bytes #[])
        pure (.slice (some a) (n : Int).toNat cap)) := rfl
  refine ⟨grownCap w n 0 e, (Question.extern "internal/bytealg.MakeNoZero.bytes" 0).cut (w.tape (w.drawn + 1) (.extern "internal/bytealg.MakeNoZero.bytes" 0)), ?_, ?_⟩
  · rw [hdef]
    have h1 : ¬ (n : Int) < 0 := by omega
    have h2 : ¬ (281474976710656 : Int) < (n : Int) := by omega
    simp [run_underlying ht, h1, h2, Question.forced, newRow, grownCap]
  · simpa using grownCap_ge w n 0 e
theorem find_mnz : ∃ fn, Tryd.prog.funcs[43]? = some fn ∧ (fn.name == "runtime.NumGoroutine") = false ∧ fn.body.isNone = true ∧ Extern.findNext fn = none ∧ Extern.find fn = some (Extern.BytealgMakeNoZero.makeNoZero #[3] #[22]) := ⟨_, rfl, by kernel_rfl, by kernel_rfl, by kernel_rfl, by kernel_rfl⟩
noncomputable def mnzS : Summ := fun args _ base => args1 args fun v => optC (litI v) (.stuck 780) fun n => boolC (Nat.ble n 16777216) (.any fun z => .ok ⟨.slice ⟨base, .lit 0⟩ (.lit n) (.rest base 0), [], [.own (.lst (bx (bytesFrom (zbyte z) 0 n))) false 5]⟩) (.stuck 781)
theorem under_bytes : Tryd.prog.underlying 22 = some (.slice 5) := by kernel_rfl
theorem info_byte : (Tryd.prog.info? 5).map (·.size) = some 1 := by kernel_rfl
theorem mnzOK : SumOK Tryd.prog 43 mnzS := by
  intro glob O w0 β H w base args vs hH hG ha
  refine args1_sat fun v hv => optC_only fun n hn => boolC_only fun hle => ?_
  rw [hv, litI_spec hn] at ha
  cases ha
  have hle : n ≤ 16777216 := Nat.le_of_ble_eq_true hle
  obtain ⟨fn, h1, h2, h3, h4, h5⟩ := find_mnz
  obtain ⟨cap, bytes, hrun, hcap⟩ := mnz_run (P := Tryd.prog) w #[3] 22 5 under_bytes n (by omega)
  refine ⟨fun i => bytes / 256 ^ i % 256, ?_⟩
  intro hfree
  have hb : β base = none := hfree 0 (by simp)
  refine ⟨by simp, .inr ?_⟩
  let vs : List Value := (List.range n).map fun i => Value.int .u8 (Int.ofNat (bytes / 256 ^ i % 256))
  let rest : List Value := (List.range' n (cap - n)).map fun i => Value.int .u8 (Int.ofNat (bytes / 256 ^ i % 256))
  have hcells : Extern.BytealgMakeNoZero.digits cap bytes #[] = (vs ++ rest).toArray := by
    apply Array.ext'
    rw [digits_list]
    show _ = (vs ++ rest)
    simp only [vs, rest]
    rw [← List.map_append, List.range_eq_range', List.range_eq_range']
    have : List.range' 0 cap = List.range' 0 n ++ List.range' n (cap - n) := by
      have := (List.range'_append (s := 0) (m := n) (n := cap - n) (step := 1)).symm
      rw [show n + (cap - n) = cap from by omega] at this
      simpa using this
    rw [this]; rfl
  have hE := Eff.alloc (P := Tryd.prog) (β := β) (w := w) (w' := w.drew.drew.alloc (.cells (Extern.BytealgMakeNoZero.digits cap bytes #[]) 5)) (base := base) (c := .lst (bx (bytesFrom (zbyte fun i => bytes / 256 ^ i % 256) 0 n))) (whole := false) (elem := 5) (vs := vs) (rest := rest) (lo := 0) (hi := 0) (cap := cap) hb
    (by rw [← hcells]; rfl) rfl rfl rfl ?_ (.inl rfl) (by simp) ?_
  · refine ⟨.slice (some ⟨w.heap.size, 0, none⟩) n cap, _, _, ?_, ?_, hE⟩
    · rw [run_callFunc_extern h1 h2 h3 h4 h5]
      show ((Extern.BytealgMakeNoZero.makeNoZero #[3] #[22] #[.int .i64 n]).run Tryd.prog w).andThen _ = _
      rw [hrun]; rfl
    · simp [SV.den, SA.den, SC.den, SN.den, Val.upd, sliceV, hcap]
  · show SV.denL β (bx _) = some vs
    rw [bx_den]
    congr 1
    apply List.ext_getElem?
    intro i
    rw [List.getElem?_map]
    by_cases hi : i < n
    · rw [bytesFrom_get _ _ _ _ hi]
      simp only [vs, List.getElem?_map, List.getElem?_range hi, Option.map_some]
      congr 1
      show Value.int .u8 (((BitVec.ofNat 8 (bytes / 256 ^ (0 + i) % 256)).toNat : Nat) : Int) = _
      rw [BitVec.toNat_ofNat, Nat.zero_add, Nat.mod_mod_of_dvd _ (by decide)]
      rfl
    · rw [List.getElem?_eq_none (by rw [bytesFrom_length]; omega), List.getElem?_eq_none (by simp [vs]; omega)]; rfl
  · intro i hi
    have := info_byte
    rw [hi] at this
    have h1 : i.size = 1 := Option.some.inj this
    rw [h1]
    simp [vs, rest]; omega

end Go.Proofs.YtdnaaeagllejjaaDoor.Aes


/-
  The block cipher, seventh part: making a cipher.
-/
namespace Go.Proofs.YtdnaaeagllejjaaDoor.Aes
open Go.Sim
open Go.Proofs
variable {α : Type}

noncomputable def isCipher (T : List Int) (e : Option SO) : Bool := optC (ownE 73 e) false fun l => boolC (preLit T l) (isTrue1 (dropN l (lenN T))) false
theorem isCipher_spec {T : List Int} {e : Option SO} (h : isCipher T e = true) : e = some (.own (.lst (app (lx T) [.bool (.lit true)])) true 73) := by
  unfold isCipher at h
  cases hl : ownE 73 e with
  | none => rw [hl] at h; cases h
  | some l =>
    rw [hl] at h
    have h : boolC (preLit T l) (isTrue1 (dropN l (lenN T))) false = true := h
    cases h1 : preLit T l with
    | false => rw [h1] at h; cases h
    | true =>
      rw [h1] at h
      have h1 := preLit_spec h1
      rw [isTrue1_spec h] at h1
      rw [ownE_spec hl, h1]
noncomputable def fillS : Summ := fun args H _ => args1 args fun c => optC (headP c) (.stuck 660) fun p => boolC (isCipher (zerosL 688) (nth H p)) (.ok ⟨.tuple [], [(p, filledC)], []⟩) (.stuck 661)
theorem lxt_ren (f : Nat → Nat) (T : List Int) : SV.renL f (app (lx T) [.bool (.lit true)]) = app (lx T) [.bool (.lit true)] := by rw [renL_app, lx_ren]; rfl
theorem lxt_uses (p : Nat → Bool) (T : List Int) : SV.usesL p (app (lx T) [.bool (.lit true)]) = true := by rw [usesL_app, lx_uses]; rfl
theorem filled_eq : filledC = .own (.lst (app (lx (app tabI (zerosL 176))) [.bool (.lit true)])) true 73 := by
  have : app (lx tabI) (app (lx (zerosL 176)) [SV.bool (.lit true)]) = app (lx (app tabI (zerosL 176))) [.bool (.lit true)] := by kernel_rfl
  unfold filledC
  rw [this]
theorem fillOK : SumOK Tryd.prog 48 fillS := by
  intro glob O w0 β H w base args vs hH hG ha
  refine args1_sat fun c hv => optC_only fun p h1 => boolC_only fun hp => ?_
  rw [hv, headP_spec h1] at ha
  rw [nth_eq] at hp
  refine sum_run cfg0OK rfl 20000 hH ⟨[p], [freshC], [.ptr ⟨0, .lit 0⟩]⟩ ha (Ifc.fits (by simp) rfl ⟨⟨⟨_, isCipher_spec hp, taken_imp (by rw [lxt_ren]; exact .refl _)⟩, lxt_uses _ _⟩, trivial⟩) [] (by simp) (by simp) ?_
  show (callSim cfg0 20000 48 [.ptr ⟨0, .lit 0⟩] [freshC]).Ob _ _
  have hr := fill_run
  generalize callSim cfg0 20000 48 [.ptr ⟨0, .lit 0⟩] [freshC] = t at hr ⊢
  refine outP_ob0 hr ?_
  intro H2 hH2
  refine ⟨SV.Imp.refl _, rfl, ?_, trivial⟩
  show SetsOK _ _ _ _ [0] _
  have hH2 : H2[0]? = some filledC := (List.cons.inj hH2).1
  rw [filled_eq] at hH2
  refine ⟨⟨rfl, ?_⟩, trivial⟩
  show Given _ _ _ filledC
  refine given_own hH2 (lxt_uses _ _) ?_
  rw [filled_eq]
  show SO.own (.lst (SV.renL _ _)) true _ = _
  rw [lxt_ren]
noncomputable def expandS : Summ := fun args H _ => args2 args fun c v => optC (headP c) (.stuck 662) fun p => sliceR v (.stuck 663) fun a l => boolC (isCipher (app tabI (zerosL 176)) (nth H p)) (boolC (Nat.beq p a.nm) (.stuck 664)
  (lenIs l 16 (bytesE (nth H a.nm) fun X n => .need (a.off.den + 16 ≤ n) (.ok ⟨.tuple [], [(p, readyC (keysL (block16 X a.off.den)))], []⟩)) (.stuck 665))) (.stuck 666)
theorem expandOK : SumOK Tryd.prog 49 expandS := by
  intro glob O w0 β H w base args vs hH hG ha
  refine args2_sat fun c v hv => optC_only fun p h1 => sliceR_sat (fun _ => trivial) fun a l cc hs => boolC_only fun hp => boolC_sat (fun _ => trivial) fun hpa => lenIs_sat (fun hl => bytesE_sat fun X n ht => fun hn => ?_) fun _ => trivial
  rw [hv, headP_spec h1, hs] at ha
  rw [nth_eq] at hp ht
  obtain ⟨x, ys, hx, hys, rfl⟩ := denL_cons.1 ha
  obtain ⟨y, zs, hy, hz, rfl⟩ := denL_cons.1 hys
  obtain ⟨m, hlm, hd, _, _⟩ := slice_den hy
  rw [hl] at hd
  refine sum_run cfg6OK rfl 20000 hH ⟨[p, a.nm], [filledC, rowF X n], [.ptr ⟨0, .lit 0⟩, .slice ⟨1, .sym a.off.den⟩ (.lit 16) (.sym m)]⟩ (denL_cons.2 ⟨_, _, hx, denL_cons.2 ⟨_, _, hd, hz, rfl⟩, rfl⟩)
    (Ifc.fits (by simpa using beq_ne hpa) rfl ⟨⟨⟨_, isCipher_spec hp, ?_⟩, ?_⟩, ⟨ht _, rowF_uses _ _ _⟩, trivial⟩) [] (by simp) (by simp) ?_
  · rw [filled_eq]; exact taken_imp (by rw [lxt_ren]; exact .refl _)
  · rw [filled_eq]; exact lxt_uses _ _
  · show (callSim cfg6 20000 49 [.ptr ⟨0, .lit 0⟩, .slice ⟨1, .sym a.off.den⟩ (.lit 16) (.sym m)] [filledC, rowF X n]).Ob _ _
    have hr := expand_run X a.off.den n m
    generalize callSim cfg6 20000 49 [.ptr ⟨0, .lit 0⟩, .slice ⟨1, .sym a.off.den⟩ (.lit 16) (.sym m)] [filledC, rowF X n] = t at hr ⊢
    refine outP_ob hr ?_ ?_
    · intro q hq
      simp only [List.mem_cons, List.not_mem_nil, or_false] at hq
      rcases hq with rfl | rfl | rfl | rfl | rfl | rfl | rfl | rfl <;> omega
    · intro H2 hH2
      refine ⟨SV.Imp.refl _, rfl, ?_, trivial⟩
      show SetsOK _ _ _ _ (ownsOf [filledC, rowF X n] 0) _
      rw [filled_eq]
      have hH2 : H2[0]? = some (readyC (keysL (block16 X a.off.den))) := (List.cons.inj hH2).1
      refine ⟨⟨rfl, given_own hH2 (cipherL_uses _ _) ?_⟩, trivial⟩
      show SO.own (.lst (SV.renL _ (cipherL _))) true _ = _
      rw [cipherL_ren]; rfl

noncomputable def cfg7 : Cfg := cfgOf (sumsOf [(48, fillS), (49, expandS)])
theorem cfg7OK : CfgOK cfg7 := sumsOf_ok (allC fillOK (all1 expandOK))

theorem new_run (X : Nat → BitVec 8) (o n m : Nat) : outP [1] (callSim cfg7 6000 34 [.slice ⟨0, .sym o⟩ (.lit 16) (.sym m)] [rowF X n]) =
    ([IsB (byteF X), o + 16 ≤ n], some (.tuple [.ptr ⟨1, .lit 0⟩, .int .i64 (.lit (.ofNat 0))], [some (readyC (keysL (block16 X o)))])) := by kernel_rfl
theorem new_err (o m k : Nat) : outF [] (callSim cfg7 6000 34 [.slice ⟨0, .sym o⟩ (.sym k) (.sym m)] [.gone]) = some (((k : Int) != 16), ([], some (.tuple [.nilPtr, .int .i64 (.lit (.ofNat 2))], [])), ([], none)) := by kernel_rfl
theorem new_nil : outP [] (callSim cfg7 6000 34 [.nilSlice] []) = ([], some (.tuple [.nilPtr, .int .i64 (.lit (.ofNat 2))], [])) := by kernel_rfl
noncomputable def newR (H : List SO) (base : Nat) (a : SA) : R SumRes :=
  bytesE (nth H a.nm) fun X n => .need (a.off.den + 16 ≤ n) (.ok ⟨.tuple [.ptr ⟨base, .lit 0⟩, .int .i64 (.lit (.ofNat 0))], [], [readyC (keysL (block16 X a.off.den))]⟩)
noncomputable def newS : Summ := fun args H base => args1 args fun v => valS v (sliceR v (errR .nilPtr 2) fun a l => lenIs l 16 (newR H base a) (boolC (placedE (nth H a.nm)) (errR .nilPtr 2) (.stuck 671))) fun n => .need (n ≠ 16) (errR .nilPtr 2)
theorem new_val (p : Option Addr) (k c : Nat) : outO [] (callSim cfg7 6000 34 [.val (.slice p k c)] []) [true] = ([((k : Int) != 16) = true], some (.tuple [.nilPtr, .int .i64 (.lit (.ofNat 2))], [])) := by kernel_rfl
theorem newOK : SumOK Tryd.prog 34 newS := by
  intro glob O w0 β H w base args vs hH hG ha
  refine args1_sat fun v hv => valS_sat (sliceR_sat (fun hn => ?_) fun a l cc hs => ?_) fun p n c hs => fun hn => ?_
  rotate_left 2
  · rw [hv, hs] at ha
    exact sum_outO cfg7OK rfl 6000 hH ⟨[], [], [.val (.slice p n c)]⟩ ha (fits0 rfl) [] (by simp) (by simp) (new_val p n c) (all_cons (by rw [bne_iff_ne]; omega) all_nil) fun _ _ => ends0 rfl rfl rfl
  · rw [hv, hn] at ha
    exact sum_out cfg7OK rfl 6000 hH ⟨[], [], [.nilSlice]⟩ ha (fits0 rfl) [] (by simp) (by simp)
      new_nil (by simp) fun H2 _ => ends0 rfl rfl rfl
  · rw [hv, hs] at ha
    obtain ⟨y, zs, hy, hz, rfl⟩ := denL_cons.1 ha
    obtain ⟨m, hlm, hd, hd2, _⟩ := slice_den hy
    refine lenIs_sat (fun hl => ?_) fun hl => ?_
    · refine bytesE_sat fun X n ht => fun hn => ?_
      rw [nth_eq] at ht
      rw [hl] at hd
      refine sum_run cfg7OK rfl 6000 hH ⟨[a.nm], [rowF X n], [.slice ⟨0, .sym a.off.den⟩ (.lit 16) (.sym m)]⟩ (denL_cons.2 ⟨_, _, hd, hz, rfl⟩) (Ifc.fits (by simp) rfl ⟨⟨ht _, rowF_uses _ _ _⟩, trivial⟩) [1] (by simp) (by simp) ?_
      show (callSim cfg7 6000 34 [.slice ⟨0, .sym a.off.den⟩ (.lit 16) (.sym m)] [rowF X n]).Ob _ _
      have hr := new_run X a.off.den n m
      generalize callSim cfg7 6000 34 [.slice ⟨0, .sym a.off.den⟩ (.lit 16) (.sym m)] [rowF X n] = t at hr ⊢
      refine outP_ob hr ?_ ?_
      · intro q hq
        simp only [List.mem_cons, List.not_mem_nil, or_false] at hq
        rcases hq with rfl | rfl
        · exact byteF_isB X
        · exact hn
      · intro H2 hH2
        have hH2 : H2[1]? = some (readyC (keysL (block16 X a.off.den))) := (List.cons.inj hH2).1
        refine ⟨SV.imp_of_eq rfl, rfl, trivial, ⟨given_own hH2 (cipherL_uses _ _) ?_, trivial⟩⟩
        show SO.own (.lst (SV.renL _ (cipherL _))) true _ = _
        rw [cipherL_ren]; rfl
    · refine boolC_only fun hpl => ?_
      rw [nth_eq] at hpl
      refine sum_outF cfg7OK rfl 6000 hH ⟨[a.nm], [.gone], [.slice ⟨0, .sym a.off.den⟩ (.sym l.den) (.sym m)]⟩ (denL_cons.2 ⟨_, _, hd, hz, rfl⟩) (Ifc.fits (by simp) rfl ⟨⟨taken_gone hpl, trivial⟩, trivial⟩) [] (by simp) (by simp)
        (new_err a.off.den m l.den) (fun _ t' ht' => outP_ob0 ht' fun H2 _ => ends0 rfl rfl rfl) fun hb => ?_
      exfalso; apply hl
      have : ((l.den : Int) == 16) = true := by simpa [bne] using hb
      have : (l.den : Int) = 16 := by simpa using this
      omega

end Go.Proofs.YtdnaaeagllejjaaDoor.Aes

