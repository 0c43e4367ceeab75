/-
  The reference's block cipher, fourth part: what its functions come to.
-/
import Derived.Test.YtbgpdpeafdoomaaDoorRefA3
import Derived.Test.YtbgpdpeafdoomaaDoorEng31
namespace Go.Proofs.YtbgpdpeafdoomaaDoor.Aes
open Go.Sim
open Go.Proofs
variable {α : Type}

/-- the table lies where the first name is -/
noncomputable def tabR0 (H : List SO) (r : R SumRes) : R SumRes := optC (cellsE (nth H 0)) (.stuck 740) fun l => boolC (isLit subsI l) r (.stuck 740)
theorem tabR0_sat {H : List SO} {r : R SumRes} {φ : SumRes → Prop} (h : (∀ g, ∃ e', H[0]? = some e' ∧ Taken g tabR e') → r.Sat φ) : (tabR0 H r).Sat φ := by
  refine optC_only fun l hl => boolC_only fun hs => h fun g => ?_
  rw [nth_eq] at hl
  rw [isLit_spec hs] at hl
  exact taken_cells hl (by rw [lx_ren]; exact .refl _)
theorem tabR_uses (p : Nat → Bool) : tabR.CUses p := lx_uses _ _
theorem glob_at {β : Val} {I : Ifc} (h0 : I.big 0 = 0) (hk : I.known 0 = true) (hG : GlobRel globR β) : ∀ g j, globR g = some j → I.known j = true ∧ ∃ l, β (I.big j) = some l ∧ l.blk = g ∧ l.off = 0 := by
  intro g j hg
  have hj : j = 0 := by
    have h' : boolC (Nat.beq g 0) (some 0) none = some j := hg
    obtain ⟨_, h⟩ := boolC_opt h'
    cases h; rfl
  subst hj
  rw [h0]; exact ⟨hk, hG g 0 hg⟩
noncomputable def rwordsR (H : List SO) (base : Nat) (a : SA) : R SumRes :=
  bytesE (nth H a.nm) fun X n => .need (a.off.den + 16 ≤ n) (.ok ⟨.slice ⟨base, .lit 0⟩ (.lit 176) (.rest base 0), [], [.own (.lst (bx (keysL (block16 X a.off.den)))) false 5]⟩)
noncomputable def rwordsS : Summ := fun args H base => args1 args fun v => sliceR v (.stuck 741) fun a l => tabR0 H (boolC (Nat.beq 0 a.nm) (.stuck 741) (lenIs l 16 (rwordsR H base a) (.stuck 742)))
theorem rwordsOK : SumAt Tryd.prog globR 13 rwordsS := by
  intro O w0 β H w base args vs hH hG ha
  refine args1_sat fun v hv => sliceR_sat (fun _ => trivial) fun a l c1 hs1 => tabR0_sat fun htab => boolC_sat (fun _ => trivial) fun h0 => lenIs_sat (fun hl => bytesE_sat fun X n ht => fun hn => ?_) fun _ => trivial
  rw [hv, hs1] at ha
  rw [nth_eq] at ht
  obtain ⟨x, ys, hx, hys, rfl⟩ := denL_cons.1 ha
  obtain ⟨m, _, hd, _, _⟩ := slice_den hx
  rw [hl] at hd
  refine sum_runG cfgR3OK 20000 hH ⟨[0, a.nm], [tabR, rowF X n], [.slice ⟨1, .sym a.off.den⟩ (.lit 16) (.sym m)]⟩ (glob_at rfl rfl hG) (denL_cons.2 ⟨_, _, hd, hys, rfl⟩)
    (Ifc.fits (by simpa using beq_ne h0) rfl ⟨⟨htab _, tabR_uses _⟩, ⟨ht _, rowF_uses _ _ _⟩, trivial⟩) [413] (by simp) (by simp) ?_
  show (callSim cfgR3 20000 13 [.slice ⟨1, .sym a.off.den⟩ (.lit 16) (.sym m)] [tabR, rowF X n]).Ob _ _
  have hrun := rwords_run X n m a.off.den
  rw [keysS_eq] at hrun
  generalize callSim cfgR3 20000 13 [.slice ⟨1, .sym a.off.den⟩ (.lit 16) (.sym m)] [tabR, rowF X n] = t at hrun ⊢
  exact outP_ob hrun (all_cons hn all_nil) fun H2 hH2 => ⟨SV.imp_of_eq rfl, rfl, trivial, ⟨given_bytes (List.cons.inj hH2).1, trivial⟩⟩
noncomputable def rcryptS (F : (Nat → BitVec 8) → List (BitVec 8) → List (BitVec 8)) : Summ := fun args H base => args2 args fun u v => sliceR u (.stuck 743) fun b l2 => sliceR v (.stuck 743) fun a l => tabR0 H
  (boolC (Nat.beq 0 a.nm) (.stuck 743) (boolC (Nat.beq 0 b.nm) (.stuck 743) (boolC (Nat.beq b.nm a.nm) (.stuck 743) (lenIs l 16 (lenIs l2 176 (bytesE (nth H a.nm) fun X n => bytesE (nth H b.nm) fun W n2 => .need (a.off.den + 16 ≤ n ∧ b.off.den + 176 ≤ n2)
    (wholeR base (F (at2 W b.off.den) (block16 X a.off.den)))) (.stuck 744)) (.stuck 744)))))
theorem rcryptOK {f : FuncId} {F : (Nat → BitVec 8) → List (BitVec 8) → List (BitVec 8)} {j : Nat} (hj : 3 ≤ j) {ps : (Nat → BitVec 8) → (Nat → BitVec 8) → Nat → Nat → Nat → Nat → List Prop}
    (hps : ∀ X W n o o2 n2, o + 16 ≤ n ∧ o2 + 176 ≤ n2 → ∀ p ∈ ps X W n o o2 n2, p)
    (hrun : ∀ (X W : Nat → BitVec 8) (n m o o2 n2 m2 : Nat), outP [j] (callSim cfgR3 20000 f [.slice ⟨1, .sym o2⟩ (.lit 176) (.sym m2), .slice ⟨2, .sym o⟩ (.lit 16) (.sym m)] [tabR, rowF W n2, rowF X n]) =
      (ps X W n o o2 n2, some (.slice ⟨j, .lit 0⟩ (.lit 16) (.lit 16), [some (.own (.lst (bx (F (at2 W o2) (block16 X o)))) true 5)]))) : SumAt Tryd.prog globR f (rcryptS F) := by
  intro O w0 β H w base args vs hH hG ha
  refine args2_sat fun u v hv => sliceR_sat (fun _ => trivial) fun b l2 c2 hs2 => sliceR_sat (fun _ => trivial) fun a l c1 hs1 => tabR0_sat fun htab => boolC_sat (fun _ => trivial) fun h0 => boolC_sat (fun _ => trivial) fun h1 => boolC_sat (fun _ => trivial) fun h2 => lenIs_sat (fun hl => lenIs_sat (fun hl2 => bytesE_sat fun X n ht => bytesE_sat fun W n2 ht2 => fun hn => ?_) fun _ => trivial) fun _ => trivial
  rw [hv, hs1, hs2] at ha
  rw [nth_eq] at ht ht2
  obtain ⟨x, ys, hx, hys, rfl⟩ := denL_cons.1 ha
  obtain ⟨y, zs, hy, hz, rfl⟩ := denL_cons.1 hys
  obtain ⟨m2, _, hd2, _, _⟩ := slice_den hx
  obtain ⟨m, _, hd, _, _⟩ := slice_den hy
  rw [hl] at hd
  rw [hl2] at hd2
  have hnd : [0, b.nm, a.nm].Nodup := by
    have := beq_ne h0; have := beq_ne h1; have := beq_ne h2
    simp; omega
  refine sum_runG cfgR3OK 20000 hH ⟨[0, b.nm, a.nm], [tabR, rowF W n2, rowF X n], [.slice ⟨1, .sym b.off.den⟩ (.lit 176) (.sym m2), .slice ⟨2, .sym a.off.den⟩ (.lit 16) (.sym m)]⟩ (glob_at rfl rfl hG) (denL_cons.2 ⟨_, _, hd2, denL_cons.2 ⟨_, _, hd, hz, rfl⟩, rfl⟩)
    (Ifc.fits hnd rfl ⟨⟨htab _, tabR_uses _⟩, ⟨ht2 _, rowF_uses _ _ _⟩, ⟨ht _, rowF_uses _ _ _⟩, trivial⟩) [j] (by simpa using hj) (by simp) ?_
  show (callSim cfgR3 20000 f [.slice ⟨1, .sym b.off.den⟩ (.lit 176) (.sym m2), .slice ⟨2, .sym a.off.den⟩ (.lit 16) (.sym m)] [tabR, rowF W n2, rowF X n]).Ob _ _
  have hrun := hrun X W n m a.off.den b.off.den n2 m2
  generalize callSim cfgR3 20000 f [.slice ⟨1, .sym b.off.den⟩ (.lit 176) (.sym m2), .slice ⟨2, .sym a.off.den⟩ (.lit 16) (.sym m)] [tabR, rowF W n2, rowF X n] = t at hrun ⊢
  have hout : Ifc.out ⟨[0, b.nm, a.nm], [tabR, rowF W n2, rowF X n], [.slice ⟨1, .sym b.off.den⟩ (.lit 176) (.sym m2), .slice ⟨2, .sym a.off.den⟩ (.lit 16) (.sym m)]⟩ base [j] j = base := by
    unfold Ifc.out
    have hk : Ifc.known ⟨[0, b.nm, a.nm], [tabR, rowF W n2, rowF X n], [.slice ⟨1, .sym b.off.den⟩ (.lit 176) (.sym m2), .slice ⟨2, .sym a.off.den⟩ (.lit 16) (.sym m)]⟩ j = false := by
      cases hx : Ifc.known ⟨[0, b.nm, a.nm], [tabR, rowF W n2, rowF X n], [.slice ⟨1, .sym b.off.den⟩ (.lit 176) (.sym m2), .slice ⟨2, .sym a.off.den⟩ (.lit 16) (.sym m)]⟩ j with
      | false => rfl
      | true => have := (Ifc.known_iff _ _).1 hx; simp at this; omega
    rw [hk, boolC_false]
    show base + boolC (Nat.beq j j) 0 _ = base
    rw [Nat.beq_refl]; rfl
  refine outP_ob hrun (hps X W n a.off.den b.off.den n2 hn) fun H2 hH2 => ⟨SV.imp_of_eq ?_, ?_, trivial, ⟨given_bytes (List.cons.inj hH2).1, trivial⟩⟩
  · show SV.slice ⟨Ifc.out _ base [j] j, .lit 0⟩ (.lit 16) (.lit 16) = .slice ⟨base, .lit 0⟩ (.lit 16) (.lit 16)
    rw [hout]
  · show (Ifc.seen _ [j] j && true) = true
    unfold Ifc.seen
    have : memN j [j] = true := memN_iff.2 (by simp)
    rw [this]
    cases Ifc.known _ j <;> rfl
theorem rencOK : SumAt Tryd.prog globR 16 (rcryptS encL) := by
  refine rcryptOK (j := 32) (by omega) (ps := fun X W n o o2 n2 => app [IsB (byteF X), IsB (byteF W), o + 16 ≤ n ∧ o2 + 176 ≤ n2] (app (repL [0 + 16 ≤ 16, IsB (byteF W), 0 + 16 ≤ 16 ∧ o2 + 176 ≤ n2] 9) [IsB (byteF W), 0 + 16 ≤ 16 ∧ o2 + 176 ≤ n2])) (fun X W n o o2 n2 h => ?_) fun X W n m o o2 n2 m2 => ?_
  · have hW := byteF_isB W
    have h2 : 0 + 16 ≤ 16 ∧ o2 + 176 ≤ n2 := ⟨by omega, h.2⟩
    exact app_all (all_cons (byteF_isB X) (all_cons hW (all_cons h all_nil))) (app_all (repL_all (all_cons (by omega) (all_cons hW (all_cons h2 all_nil))) 9) (all_cons hW (all_cons h2 all_nil)))
  · rw [← encS_eq]; exact renc_run X W n m o o2 n2 m2
theorem rdecOK : SumAt Tryd.prog globR 17 (rcryptS decL) := by
  refine rcryptOK (j := 33) (by omega) (ps := fun X W n o o2 n2 => app [IsB (byteF X), IsB (byteF W), o + 16 ≤ n ∧ o2 + 176 ≤ n2] (app (repL [IsB (byteF W), 0 + 16 ≤ 16 ∧ o2 + 176 ≤ n2, 0 + 16 ≤ 16] 9) [IsB (byteF W), 0 + 16 ≤ 16 ∧ o2 + 176 ≤ n2])) (fun X W n o o2 n2 h => ?_) fun X W n m o o2 n2 m2 => ?_
  · have hW := byteF_isB W
    have h2 : 0 + 16 ≤ 16 ∧ o2 + 176 ≤ n2 := ⟨by omega, h.2⟩
    exact app_all (all_cons (byteF_isB X) (all_cons hW (all_cons h all_nil))) (app_all (repL_all (all_cons hW (all_cons h2 (all_cons (by omega) all_nil))) 9) (all_cons hW (all_cons h2 all_nil)))
  · rw [← decS_eq]; exact rdec_run X W n m o o2 n2 m2

end Go.Proofs.YtbgpdpeafdoomaaDoor.Aes
