/-
  Texts behind one another: the symbolic simulator and what it is told of the program.
-/
import Derived.Test.YtflafdhmmcknhaaGreatDoorPzHas7
import Derived.Test.YtflafdhmmcknhaaGreatDoorPp7
import Derived.Test.YtflafdhmmcknhaaGreatDoorPp5

/-
  A keyed hash: the summaries of New, Write and of what Sum does.
-/
namespace Go.Proofs.YtflafdhmmcknhaaGreatDoor.Aes
open Go.Sim
open Go.Proofs
variable {α : Type}

set_option maxRecDepth 1000000
theorem unb_plain (p : Nat → Bool) (g : Nat → Nat) : ∀ {l : List SV} {xs : List (BitVec 8)}, unb l = some xs → SV.usesL p l = true ∧ SV.renL g l = l
  | [], _, _ => ⟨rfl, rfl⟩
  | v :: l, xs, h => by
    obtain ⟨x, hx, h⟩ := optC_opt (show (optC (unb1 v) none fun x => optC (unb l) none fun xs => some (x :: xs)) = some xs from h)
    obtain ⟨ys, hy, h⟩ := optC_opt h
    obtain ⟨n, rfl, _⟩ := unb1_int hx
    obtain ⟨h1, h2⟩ := unb_plain p g hy
    exact ⟨by show (true && SV.usesL p l) = true; rw [h1]; rfl, by show _ :: SV.renL g l = _; rw [h2]; rfl⟩
theorem given_macE {p : Nat → Bool} {g : Nat → Nat} {E : Option SO} {S : HSt} (hE : E = some (macE S)) : Given p g E (macE S) :=
  given_own hE (mcells_uses _ _) (by show SO.own (.lst (SV.renL _ (mcells _))) _ _ = _; rw [mcells_ren]; rfl)
theorem given_macL {p : Nat → Bool} {g : Nat → Nat} {E : Option SO} {l : List SV} {S : HSt} (hE : E = some (macL l S)) (hl : unb l = some (tabB S.K 128)) : Given p g E (macE S) := by
  obtain ⟨h1, h2⟩ := unb_plain p g hl
  refine given_imp hE ?_ ?_
  · show SV.usesL p (app l (app (hcells S) [.bool (.lit true)])) = true
    rw [usesL_app, usesL_app, h1, hcells_uses]; rfl
  · show SV.ImpL (SV.renL g (app l (app (hcells S) [.bool (.lit true)]))) (mcells S)
    rw [renL_app, renL_app, h2, hcells_ren]
    unfold mcells
    exact impL_app (unb_imp hl) (SV.ImpL.refl _)
/- New. -/
noncomputable def newR (base : Nat) (k : Nat → BitVec 8) : SumRes := ⟨okV base, [], [macE (newH k)]⟩
noncomputable def newS : Summ := fun args H base => args1 args fun v => shaTP H (sliceR v (.ok (newR base fun _ => 0#8)) fun a l => boolC (newOne a.nm) (bytesE (nth H a.nm) fun X N => .need (a.off.den + l.den ≤ N ∧ l.den ≤ 4096) (.ok (newR base (keyP shaF (fun i => X (a.off.den + i)) l.den)))) (.stuck 740))
theorem newH_congr {k k' : Nat → BitVec 8} (h : ∀ i, i < 64 → k i = k' i) : macE (newH k) = macE (newH k') := by
  have hK : ∀ i, i < 128 → newK k i = newK k' i := fun i hi => by
    unfold newK
    by_cases c : i < 64
    · rw [if_pos c, if_pos c, h i c]
    · rw [if_neg c, if_neg c, h _ (by omega)]
  have hw : words16 (newK k) 64 = words16 (newK k') 64 := words16_congr fun i hi => hK _ (by omega)
  unfold newH
  rw [hw]
  exact macE_congr hK rfl (fun _ _ => rfl) rfl
theorem newOK : SumAt Tryz.prog globP 36 newS := by
  intro O w0 β H w base args vs hH hG ha
  refine args1_sat fun v hv => shaTP_sat fun hT => sliceR_sat (fun hn => ?_) fun a l c hs => boolC_only fun hn => bytesE_sat fun X N ht => fun ⟨hle, h4⟩ => ?_
  · rw [hv, hn] at ha
    exact sum_outOG cfgNOK 16000 hH (shaIP [] [] [.nilSlice]) (shaIP_glob hG) ha (Ifc.fits (by simp [shaIP]) rfl (shaIP_ents hT trivial)) [7] (by simp [shaIP]) (by simp) new_nil (all_cons (by omega) (all_cons (by omega) all_nil)) fun H2 hH2 => ⟨SV.imp_of_eq rfl, rfl, trivial, ⟨given_macL (List.cons.inj hH2).1 keyL0_un, trivial⟩⟩
  · rw [hv, hs] at ha
    rw [nth_eq] at ht
    obtain ⟨x, ys, hx, hys, rfl⟩ := denL_cons.1 ha
    obtain ⟨m, hm, hd, _, _⟩ := slice_den hx
    have hfit : Ifc.Fits (shaIP [a.nm] [rowF X N] [.slice ⟨4, .sym a.off.den⟩ (.sym l.den) (.sym m)]) H := Ifc.fits (nd5 hn) rfl (shaIP_ents hT ⟨⟨ht _, rowF_uses _ _ _⟩, trivial⟩)
    by_cases h64 : l.den ≤ 64
    · refine sum_outOG cfgNOK 16000 hH (shaIP [a.nm] [rowF X N] [.slice ⟨4, .sym a.off.den⟩ (.sym l.den) (.sym m)]) (shaIP_glob hG) (denL_cons.2 ⟨_, _, hd, hys, rfl⟩) hfit [8] (by simp [shaIP]) (by simp) (new_run1 X N a.off.den l.den m) ?_ fun H2 hH2 => ⟨SV.imp_of_eq rfl, rfl, trivial, ⟨?_, trivial⟩⟩
      · exact all_cons (decide_eq_false (by omega)) (all_cons (decide_eq_false (by omega)) (all_cons ⟨hle, byteF_isB X⟩ (all_cons h64 (all_cons (by omega) (all_cons (by omega) (all_cons (by omega) all_nil))))))
      · rw [← newH_congr (k := key1 X a.off.den l.den) fun i hi => ?_]
        · exact given_macE (List.cons.inj hH2).1
        · unfold key1 keyP
          rw [if_pos h64]
          by_cases c : i < l.den
          · rw [if_pos (by omega), if_pos c]
          · rw [if_neg (by omega), if_neg c]
    · refine sum_outOG cfgNOK 16000 hH (shaIP [a.nm] [rowF X N] [.slice ⟨4, .sym a.off.den⟩ (.sym l.den) (.sym m)]) (shaIP_glob hG) (denL_cons.2 ⟨_, _, hd, hys, rfl⟩) hfit [9] (by simp [shaIP]) (by simp) (new_run2 X N a.off.den l.den m) ?_ fun H2 hH2 => ⟨SV.imp_of_eq rfl, rfl, trivial, ⟨?_, trivial⟩⟩
      · exact all_cons (decide_eq_false (by omega)) (all_cons (decide_eq_true (by omega)) (all_cons (byteF_isB X) (all_cons hle (all_cons (by omega) (all_cons (by omega) all_nil)))))
      · rw [← newH_congr (k := key2 X a.off.den l.den) fun i hi => ?_]
        · exact given_macL (List.cons.inj hH2).1 (keyL2_un X _ _)
        · unfold key2 keyP
          rw [if_neg h64]
/- Write. -/
noncomputable def macO (e : Option SO) (f : HSt → R α) : R α := optC (ownE 101 e) (.stuck 760) fun l => mlook l f
theorem macO_sat {e : Option SO} {f : HSt → R α} {φ : α → Prop} (h : ∀ S : HSt, S.ws.length = 8 → (∀ g, ∃ e', e = some e' ∧ Taken g (macE S) e') → (f S).Sat φ) : (macO e f).Sat φ :=
  optC_only fun l hl => mlook_sat fun S h8 hi => h S h8 fun g => ⟨_, ownE_spec hl, taken_imp (by rw [mcells_ren]; exact hi)⟩
theorem macE_uses (p : Nat → Bool) (S : HSt) : (macE S).CUses p := mcells_uses p S
noncomputable def mnT (S : HSt) : Tree := callSim cfgW 4000 39 [.ptr ⟨4, .lit 0⟩, .nilSlice] (shaHP [macE S])
theorem mn_run1 (S : HSt) : outO [4] (mnT S) [false, false] = ([((S.n : Int) == 0) = false, inI64 ((S.n : Int) + 0), decide (((S.n % 64 : Nat) : Int) > 0) = false], some (.int .i64 (.lit 0), [some (macE ⟨S.K, S.ws, S.R, S.n + 0⟩)])) := by kernel_rfl
theorem mn_run2 (S : HSt) : outO [4] (mnT S) [false, true, false, true, true] = ([((S.n : Int) == 0) = false, inI64 ((S.n : Int) + 0), decide (((S.n % 64 : Nat) : Int) > 0) = true, (0 ≤ ((S.n % 64 : Nat) : Int) ∧ ((S.n % 64 : Nat) : Int) ≤ 64), decide (64 = S.n % 64) = false, true = true, apM (136 + S.n % 64 * 1) 0, inI64 (((S.n % 64 : Nat) : Int) + 0), decide (((S.n % 64 : Nat) : Int) + 0 < 64) = true],
    some (.int .i64 (.lit 0), [some (macE ⟨kC (136 + S.n % 64 * 1) 0 (fun _ => 0#8) S.K, S.ws, fillC (136 + S.n % 64 * 1) 0 (fun _ => 0#8) S.R, S.n + 0⟩)])) := by kernel_rfl
noncomputable def mwR (nm : Nat) (S : HSt) : SumRes := ⟨.int .i64 (.lit 0), [(nm, macE S)], []⟩
noncomputable def mwSm : Summ := fun args H _ => args2 args fun p v => optC (headP p) (.stuck 761) fun nm => shaTP H (boolC (newOne nm) (macO (nth H nm) fun S => .need (0 < S.n)
  (sliceR v (.need (S.n ≤ 1152921504606846976) (.ok (mwR nm (writeF S (fun _ => 0#8) 0)))) fun a l => boolC (newOne a.nm) (boolC (Nat.beq nm a.nm) (.stuck 761) (bytesE (nth H a.nm) fun X N => .need (a.off.den + l.den ≤ N ∧ S.n + l.den ≤ 1152921504606846976) (.ok (mwR nm (writeF S (fun i => X (a.off.den + i)) l.den))))) (.stuck 761))) (.stuck 761))
theorem write_nil {S : HSt} : macE (writeF S (fun _ => 0#8) 0) = macE ⟨S.K, S.ws, S.R, S.n + 0⟩ := by
  unfold writeF
  by_cases hu : S.n % 64 = 0
  · rw [if_pos hu]
    exact macE_congr (fun _ _ => rfl) rfl (fun i _ => by dsimp only; unfold restR; rw [if_neg (by omega)]) rfl
  · rw [if_neg hu, if_pos (by omega)]
    exact macE_congr (fun _ _ => rfl) rfl (fun i _ => by dsimp only; unfold fillR; rw [if_neg (by omega)]) rfl
theorem mwOK : SumAt Tryz.prog globP 39 mwSm := by
  intro O w0 β H w base args vs hH hG ha
  refine args2_sat fun p v hv => optC_only fun nm hp => shaTP_sat fun hT => boolC_only fun hn => macO_sat fun S h8 hm => fun h0 => ?_
  rw [hv, headP_spec hp] at ha
  obtain ⟨x, ys, hx, hys, rfl⟩ := denL_cons.1 ha
  rw [nth_eq] at hm
  refine sliceR_sat (fun hnil => fun hb => ?_) fun a l c hs => boolC_only fun hn2 => boolC_sat (fun _ => trivial) fun hne => bytesE_sat fun X N ht => fun ⟨hle, hb⟩ => ?_
  · rw [hnil] at hys
    unfold mwR
    rw [write_nil]
    have hfit : Ifc.Fits (shaIP [nm] [macE S] [.ptr ⟨4, .lit 0⟩, .nilSlice]) H := Ifc.fits (nd5 hn) rfl (shaIP_ents hT ⟨⟨hm _, macE_uses _ _⟩, trivial⟩)
    by_cases hu : S.n % 64 = 0
    · refine sum_outOG cfgWOK 4000 hH (shaIP [nm] [macE S] [.ptr ⟨4, .lit 0⟩, .nilSlice]) (shaIP_glob hG) (denL_cons.2 ⟨_, _, hx, hys, rfl⟩) hfit [] (by simp) (by simp) (mn_run1 S) ?_ fun H2 hH2 => ⟨SV.imp_of_eq rfl, rfl, ⟨⟨rfl, given_macE (List.cons.inj hH2).1⟩, trivial⟩, trivial⟩
      exact all_cons (by rw [beq_eq_false_iff_ne]; omega) (all_cons ⟨by omega, by omega⟩ (all_cons (decide_eq_false (by omega)) all_nil))
    · refine sum_outOG cfgWOK 4000 hH (shaIP [nm] [macE S] [.ptr ⟨4, .lit 0⟩, .nilSlice]) (shaIP_glob hG) (denL_cons.2 ⟨_, _, hx, hys, rfl⟩) hfit [] (by simp) (by simp) (mn_run2 S) ?_ fun H2 hH2 => ⟨SV.imp_of_eq rfl, rfl, ⟨⟨rfl, ?_⟩, trivial⟩, trivial⟩
      · exact all_cons (by rw [beq_eq_false_iff_ne]; omega) (all_cons ⟨by omega, by omega⟩ (all_cons (decide_eq_true (by omega)) (all_cons ⟨by omega, by omega⟩ (all_cons (decide_eq_false (by omega)) (all_cons rfl (all_cons (apM_ok (by omega) (by omega)) (all_cons ⟨by omega, by omega⟩ (all_cons (decide_eq_true (by omega)) all_nil))))))))
      · rw [show macE ⟨S.K, S.ws, S.R, S.n + 0⟩ = macE ⟨kC (136 + S.n % 64 * 1) 0 (fun _ => 0#8) S.K, S.ws, fillC (136 + S.n % 64 * 1) 0 (fun _ => 0#8) S.R, S.n + 0⟩ from
          macE_congr (fun i _ => by dsimp only; unfold kC; rw [if_neg (by omega)]) rfl (fun i _ => by dsimp only; unfold fillC; rw [if_neg (by omega)]) rfl]
        exact given_macE (List.cons.inj hH2).1
  · rw [hs] at hys
    rw [nth_eq] at ht
    obtain ⟨y, zs, hy, hz, rfl⟩ := denL_cons.1 hys
    obtain ⟨m, hmm, hd⟩ := tailA_den hy
    exact Go.Sim.sum_runs (c := cfgW) hH (shaIP [nm, a.nm] [macE S, rowF X N] (mwArgs a.off.den l.den m)) (shaIP_glob hG) (denL_cons.2 ⟨_, _, hx, denL_cons.2 ⟨_, _, hd, hz, rfl⟩, rfl⟩) (Ifc.fits (nd6 hn hn2 (beq_ne hne)) rfl (shaIP_ents hT ⟨⟨hm _, macE_uses _ _⟩, ⟨ht _, rowF_uses _ _ _⟩, trivial⟩)) [] (by simp) (by simp)
      (runs_mono (mw_runs hle hmm h0 hb) fun v H2 ⟨hv, h4⟩ => ⟨SV.imp_of_eq (by rw [hv]; rfl), by rw [hv]; rfl, ⟨⟨rfl, given_macE h4⟩, trivial⟩, trivial⟩)
end Go.Proofs.YtflafdhmmcknhaaGreatDoor.Aes


/-
  A keyed hash: the summary of Sum.
-/
namespace Go.Proofs.YtflafdhmmcknhaaGreatDoor.Aes
open Go.Sim
open Go.Proofs
variable {α : Type}

set_option maxRecDepth 1000000
noncomputable def macC (e : Option SO) (f : HSt → R α) : R α := optC (cellsE e) (.stuck 762) fun l => mlook l f
theorem macC_sat {e : Option SO} {f : HSt → R α} {φ : α → Prop} (h : ∀ S : HSt, (∀ g, ∃ e', e = some e' ∧ Taken g (.row (.lst (mcells S))) e') → (f S).Sat φ) : (macC e f).Sat φ :=
  optC_only fun l hl => mlook_sat fun S h8 hi => h S fun g => taken_cells hl (by rw [mcells_ren]; exact hi)
noncomputable def hsF (S : HSt) : List (BitVec 8) := if S.n % 64 + 9 ≤ 64 then hashB (hend1 S) else hashB (hend2 S)
noncomputable def b32L (L : List (BitVec 8)) : List SV := bx (tabB (byteAt L) 32)
theorem b32L_eq {L : List (BitVec 8)} (h : L.length = 32) : b32L L = bx L := by unfold b32L; rw [tabB_at L h]
theorem hashB_len (l : List W32) : (hashB l).length = 32 := rfl
noncomputable def hsumS : Summ := fun args H _ => args1 args fun p => optC (ptrL p) (.stuck 763) fun po => boolC (Nat.beq po.2 128) (shaTP H (boolC (newOne po.1) (macC (nth H po.1) fun S => .need (0 < S.n ∧ S.n ≤ 1152921504606846976) (.ok ⟨.agg (b32L (hsF S)), [], []⟩)) (.stuck 763))) (.stuck 763)
theorem hsC_all {S : HSt} {b : Bool} {sz : Nat} {r : List Prop} (h0 : 0 < S.n) (hb : S.n ≤ 1152921504606846976) (hbb : decide (((S.n % 64 : Nat) : Int) + 9 > 64) = b) (hs : S.n % 64 + 9 ≤ sz) (hr : ∀ p ∈ r, p) : ∀ p ∈ hsC S b sz r, p :=
  all_cons (by rw [beq_eq_false_iff_ne]; omega) (all_cons ⟨by omega, by omega⟩ (all_cons ⟨by omega, by omega⟩ (all_cons (decide_eq_false (by omega)) (all_cons ⟨by omega, by omega⟩ (all_cons hbb (all_cons (apM_ok (by omega) (by omega)) (all_cons (by omega) (all_cons (by omega) (all_cons ⟨by omega, by omega⟩ (all_cons (by omega) hr))))))))))
theorem hsumOK : SumAt Tryz.prog globP 63 hsumS := by
  intro O w0 β H w base args vs hH hG ha
  refine args1_sat fun p hv => optC_only fun po hp => boolC_only fun h128 => shaTP_sat fun hT => boolC_only fun hn => macC_sat fun S hm => fun ⟨h0, hb⟩ => ?_
  rw [hv, ptrL_spec hp, beq_spec h128] at ha
  rw [nth_eq] at hm
  obtain ⟨x, ys, hx, hys, rfl⟩ := denL_cons.1 ha
  have hfit : Ifc.Fits (shaIP [po.1] [.row (.lst (mcells S))] [.ptr ⟨4, .lit 128⟩]) H := Ifc.fits (nd5 hn) rfl (shaIP_ents hT ⟨⟨hm _, mcells_uses _ _⟩, trivial⟩)
  by_cases h9 : S.n % 64 + 9 ≤ 64
  · refine sum_outOG cfgWOK 8000 hH (shaIP [po.1] [.row (.lst (mcells S))] [.ptr ⟨4, .lit 128⟩]) (shaIP_glob hG) (denL_cons.2 ⟨_, _, hx, hys, rfl⟩) hfit [] (by simp) (by simp) (hs_run1 S) (hsC_all h0 hb (decide_eq_false (by omega)) h9 (all_cons (by omega) all_nil)) fun _ _ => ?_
    unfold hsF
    rw [if_pos h9, b32L_eq (hashB_len _)]
    exact endsV rfl rfl
  · refine sum_outOG cfgWOK 8000 hH (shaIP [po.1] [.row (.lst (mcells S))] [.ptr ⟨4, .lit 128⟩]) (shaIP_glob hG) (denL_cons.2 ⟨_, _, hx, hys, rfl⟩) hfit [] (by simp) (by simp) (hs_run2 S) (hsC_all h0 hb (decide_eq_true (by omega)) (by omega) (all_cons (by omega) (all_cons (by omega) all_nil))) fun _ _ => ?_
    unfold hsF
    rw [if_neg h9, b32L_eq (hashB_len _)]
    exact endsV rfl rfl
/- finish -/
noncomputable def finS : Summ := fun args H _ => args2 args fun p v => optC (headP p) (.stuck 764) fun nm => shaTP H (boolC (newOne nm) (macC (nth H nm) fun S => v.asAgg (.stuck 764) fun l => optC (unb l) (.stuck 764) fun xs => boolC (Nat.beq (lenN xs) 32) (.ok ⟨.agg (b32L (hashB (finW S.K (byteAt xs)))), [], []⟩) (.stuck 764)) (.stuck 764))
theorem agg_imp {l m : List SV} (h : SV.ImpL l m) : (SV.agg l).Imp (.agg m) := by
  intro γ x hx
  simp only [SV.den, Option.map_eq_some_iff] at hx ⊢
  obtain ⟨us, hus, rfl⟩ := hx
  exact ⟨us, h γ us hus, rfl⟩
theorem finOK : SumAt Tryz.prog globP 62 finS := by
  intro O w0 β H w base args vs hH hG ha
  refine args2_sat fun p v hv => optC_only fun nm hp => shaTP_sat fun hT => boolC_only fun hn => macC_sat fun S hm => ?_
  rcases asAgg_cases v with ⟨l, rfl⟩ | hno
  · refine optC_only fun xs hxs => boolC_only fun h32 => ?_
    have h32 := beq_spec h32
    rw [lenN_eq] at h32
    rw [hv, headP_spec hp] at ha
    rw [nth_eq] at hm
    obtain ⟨x, ys, hx, hys, rfl⟩ := denL_cons.1 ha
    have hy2 : SV.denL β [.agg (bx (tabB (byteAt xs) 32))] = some ys := denL1 hys (agg_imp (by rw [tabB_at xs h32]; exact unb_imp hxs))
    have hfit : Ifc.Fits (shaIP [nm] [.row (.lst (mcells S))] [.ptr ⟨4, .lit 0⟩, .agg (bx (tabB (byteAt xs) 32))]) H := Ifc.fits (nd5 hn) (by show (_ && (SV.usesL _ (bx _) && true)) = true; rw [bx_uses]; rfl) (shaIP_ents hT ⟨⟨hm _, mcells_uses _ _⟩, trivial⟩)
    refine sum_outOG cfgWOK 8000 hH (shaIP [nm] [.row (.lst (mcells S))] [.ptr ⟨4, .lit 0⟩, .agg (bx (tabB (byteAt xs) 32))]) (shaIP_glob hG) ?_ hfit [] (by simp) (by simp) (fi_run S (byteAt xs)) ?_ fun _ _ => ?_
    · refine denL_cons.2 ⟨_, _, hx, ?_, rfl⟩
      show SV.denL β [.agg (SV.renL _ (bx (tabB (byteAt xs) 32)))] = _
      rw [bx_ren]; exact hy2
    · exact all_cons (by omega) (all_cons (by omega) (all_cons rfl (all_cons ⟨by omega, by omega⟩ (all_cons rfl (all_cons rfl (all_cons ⟨by omega, by omega⟩ (all_cons ⟨by omega, by omega⟩ (all_cons rfl (all_cons ⟨by omega, by omega⟩ (all_cons rfl (all_cons ⟨by omega, .inl (by omega), .inl (by omega), .inl (by omega), .inl (by omega), .inl (by omega), .inl (by omega), .inl (by omega), .inl (by omega), .inr (by omega), trivial⟩ (all_cons (by omega) (all_cons (by omega) (all_cons ⟨by omega, by omega⟩ (all_cons (by omega) (all_cons (by omega) all_nil))))))))))))))))
    · rw [b32L_eq (hashB_len _)]
      exact endsV rfl rfl
  · rw [hno]; trivial
/- Sum -/
noncomputable def macF (S : HSt) : List (BitVec 8) := hashB (finW S.K (byteAt (tabB (byteAt (hsF S)) 32)))
noncomputable def cfgMS : Cfg := cfgG globP (sumsOf [(63, hsumS), (62, finS)])
theorem cfgMSOK : CfgOK cfgMS := sumsG_ok (allS hsumOK (allS finOK (by simp)))
theorem ms_run (S : HSt) : outO [] (callSim cfgMS 2000 40 [.ptr ⟨4, .lit 0⟩] (shaHP [.row (.lst (mcells S))])) [] = ([0 ≤ (S.n : Int), 0 < S.n ∧ S.n ≤ 1152921504606846976, 0 ≤ (S.n : Int)], some (.tuple [.agg (b32L (macF S)), .int .i64 (.lit 0)], [])) := by kernel_rfl
end Go.Proofs.YtflafdhmmcknhaaGreatDoor.Aes


/-
  A keyed hash of parts: the runs.
-/
namespace Go.Proofs.YtflafdhmmcknhaaGreatDoor.Aes
open Go.Sim
open Go.Proofs
variable {α : Type}

set_option maxRecDepth 1000000
noncomputable def msSm : Summ := fun args H _ => args1 args fun p => optC (headP p) (.stuck 765) fun nm => shaTP H (boolC (newOne nm) (macC (nth H nm) fun S => .need (0 < S.n ∧ S.n ≤ 1152921504606846976) (.ok ⟨.tuple [.agg (b32L (macF S)), .int .i64 (.lit 0)], [], []⟩)) (.stuck 765))
theorem endsT {I : Ifc} {base : Nat} {L : List (BitVec 8)} {v : SV} {H : List SO} (ho : ownsOf I.ents 0 = []) (h : v = .tuple [.agg (b32L L), .int .i64 (.lit 0)]) : I.Ends base [] ⟨.tuple [.agg (b32L L), .int .i64 (.lit 0)], [], []⟩ v H := by
  subst h
  refine ends0 ho ?_ ?_
  · show SV.tuple [.agg (b32L L), _] = .tuple [.agg (SV.renL _ (b32L L)), _]
    unfold b32L
    rw [bx_ren]; rfl
  · show (SV.usesL (I.seen []) (b32L L) && (true && true)) = true
    unfold b32L
    rw [bx_uses]; rfl
theorem msOK : SumAt Tryz.prog globP 40 msSm := by
  intro O w0 β H w base args vs hH hG ha
  refine args1_sat fun p hv => optC_only fun nm hp => shaTP_sat fun hT => boolC_only fun hn => macC_sat fun S hm => fun ⟨h0, hb⟩ => ?_
  rw [hv, headP_spec hp] at ha
  rw [nth_eq] at hm
  exact sum_outOG cfgMSOK 2000 hH (shaIP [nm] [.row (.lst (mcells S))] [.ptr ⟨4, .lit 0⟩]) (shaIP_glob hG) ha (Ifc.fits (nd5 hn) rfl (shaIP_ents hT ⟨⟨hm _, mcells_uses _ _⟩, trivial⟩)) [] (by simp) (by simp) (ms_run S) (all_cons (by omega) (all_cons ⟨h0, hb⟩ (all_cons (by omega) all_nil))) fun _ _ => endsT rfl rfl
noncomputable def cfgHM : Cfg := cfgG globP (sumsOf [(36, newS), (39, mwSm), (40, msSm)])
theorem cfgHMOK : CfgOK cfgHM := sumsG_ok (allS newOK (allS mwOK (allS msOK (by simp))))
/-- what is looked at -/
noncomputable def norm (S : HSt) : HSt := ⟨byteAt (tabB S.K 128), eight S.ws, byteAt (tabB S.R 64), S.n⟩
/-- a slice of bytes: those of its block, their number; the place, the length; the capacity: a number, or what there is -/
structure Sl where
  X : Nat → BitVec 8
  N : Nat
  o : Nat
  n : Nat
  b : Bool
  k : Nat
noncomputable def Sl.row (s : Sl) : SO := rowF s.X s.N
noncomputable def Sl.val (s : Sl) (nm : Nat) : SV := .slice ⟨nm, .sym s.o⟩ (.sym s.n) (boolC s.b (.rest nm s.k) (.sym s.k))
noncomputable def Sl.F (s : Sl) : Nat → BitVec 8 := fun i => s.X (s.o + i)
noncomputable def hmT (k : Sl) (ps : List SV) (rs : List SO) : Tree := callSim cfgHM 4000 65 [k.val 4, .slice ⟨5, .lit 0⟩ (.lit (lenN ps)) (.lit (lenN ps))] (shaHP (k.row :: .row (.lst ps) :: rs))
/-- the state behind a part, and behind parts -/
noncomputable def partF (S : HSt) (p : Option Sl) : HSt := match p with | none => writeF (norm S) (fun _ => 0#8) 0 | some a => writeF (norm S) a.F a.n
noncomputable def partC (S : HSt) (p : Option Sl) (r : List Prop) : List Prop := (0 ≤ ((norm S).n : Int)) :: (0 < (norm S).n) :: (match p with | none => ((norm S).n ≤ 1152921504606846976) :: r | some a => IsB (byteF a.X) :: (a.o + a.n ≤ a.N ∧ (norm S).n + a.n ≤ 1152921504606846976) :: r)
noncomputable def hm0 (k : Sl) : HSt := newH (keyP shaF k.F k.n)
noncomputable def hmC0 (k : Sl) (r : List Prop) : List Prop := IsB (byteF k.X) :: (k.o + k.n ≤ k.N ∧ k.n ≤ 4096) :: r
noncomputable def hmE (S : HSt) : List Prop := [0 ≤ ((norm S).n : Int), 0 < (norm S).n ∧ (norm S).n ≤ 1152921504606846976]
noncomputable def hmV (S : HSt) : Option (SV × List (Option SO)) := some (.tuple [.agg (b32L (macF (norm S))), .int .i64 (.lit 0)], [])
theorem hm_run1 (k a : Sl) : outO [] (hmT k [a.val 6] [a.row]) [] = (hmC0 k (partC (hm0 k) (some a) (hmE (partF (hm0 k) (some a)))), hmV (partF (hm0 k) (some a))) := by kernel_rfl
theorem hm_run2 (k a b : Sl) : outO [] (hmT k [a.val 6, b.val 7] [a.row, b.row]) [] = (hmC0 k (partC (hm0 k) (some a) (partC (partF (hm0 k) (some a)) (some b) (hmE (partF (partF (hm0 k) (some a)) (some b))))), hmV (partF (partF (hm0 k) (some a)) (some b))) := by kernel_rfl
theorem hm_run5 (k a b c d : Sl) : outO [] (hmT k [a.val 6, b.val 7, c.val 8, .nilSlice, d.val 9] [a.row, b.row, c.row, d.row]) [] =
    (hmC0 k (partC (hm0 k) (some a) (partC (partF (hm0 k) (some a)) (some b) (partC (partF (partF (hm0 k) (some a)) (some b)) (some c) (partC (partF (partF (partF (hm0 k) (some a)) (some b)) (some c)) none (partC (partF (partF (partF (partF (hm0 k) (some a)) (some b)) (some c)) none) (some d) (hmE (partF (partF (partF (partF (partF (hm0 k) (some a)) (some b)) (some c)) none) (some d)))))))),
      hmV (partF (partF (partF (partF (partF (hm0 k) (some a)) (some b)) (some c)) none) (some d))) := by kernel_rfl
end Go.Proofs.YtflafdhmmcknhaaGreatDoor.Aes


/-
  A keyed hash of parts: what it comes to.
-/
namespace Go.Proofs.YtflafdhmmcknhaaGreatDoor.Aes
open Go.Sim
open Go.Proofs
variable {α : Type}

set_option maxRecDepth 100000
theorem byteAt_tab {X : Nat → BitVec 8} {n i : Nat} (h : i < n) : byteAt (tabB X n) i = X i := by
  unfold byteAt tabB
  rw [mapN_eq, fromN_eq, List.getElem?_map, List.getElem?_range' h]
  simp
theorem eight2 (l : List W32) : eight (eight l) = eight l := rfl
theorem rep_norm {S : HSt} {Y : Nat → BitVec 8} {N : Nat} (h : Rep S Y N) : Rep (norm S) Y N :=
  ⟨h.n, (eight2 _).trans h.ws, fun i hi => (byteAt_tab (by omega)).trans (h.rest i hi)⟩
theorem norm_K {S : HSt} {i : Nat} (h : i < 128) : (norm S).K i = S.K i := byteAt_tab h
theorem write_K (S : HSt) (X : Nat → BitVec 8) (m : Nat) : (writeF S X m).K = S.K := by
  unfold writeF
  by_cases h1 : S.n % 64 = 0
  · rw [if_pos h1]
  · rw [if_neg h1]
    by_cases h2 : S.n % 64 + m < 64
    · rw [if_pos h2]
    · rw [if_neg h2]
theorem hsF_eq {S : HSt} {Y : Nat → BitVec 8} {N : Nat} (h : Rep S Y N) : hsF S = shaF Y N := by
  unfold hsF
  rw [h.n]
  by_cases c : N % 64 + 9 ≤ 64
  · rw [if_pos c]; exact hend1_eq h c
  · rw [if_neg c]; exact hend2_eq h (by omega)
theorem shaF_len (Y : Nat → BitVec 8) (N : Nat) : (shaF Y N).length = 32 := hashB_len _
theorem fin_eq {K K' Y : Nat → BitVec 8} (h : ∀ i, i < 64 → K i = K' i) : hashB (finW K Y) = shaF (catF K' 64 Y) 96 := by
  unfold shaF finW
  rw [show (96 + 72) / 64 = 0 + 1 + 1 from rfl, iterW_succ, iterW_succ]
  refine congrArg hashB (cmp_congr (cmp_congr rfl (words16_congr fun i hi => ?_)) (words16_congr fun i hi => ?_))
  · unfold padF
    rw [if_pos (by omega), catF_lt (by omega), Nat.zero_add, h i hi]
  · rw [Nat.zero_add, endL_get (by omega) hi]
    unfold padF lenP
    by_cases c1 : i < 32
    · rw [if_pos c1, if_pos (show 64 * (0 + 1) + i < 96 by omega), catF_ge (by omega)]
      exact congrArg Y (by omega)
    · rw [if_neg c1, if_neg (show ¬ 64 * (0 + 1) + i < 96 by omega)]
      by_cases c2 : i = 32
      · rw [if_pos c2, if_pos (show 64 * (0 + 1) + i = 96 by omega)]
      · rw [if_neg c2, if_neg (show ¬ 64 * (0 + 1) + i = 96 by omega)]
        by_cases c3 : 64 ≤ i + 8
        · rw [if_pos c3, if_pos (by omega), show 64 * ((96 + 72) / 64) - 1 - (64 * (0 + 1) + i) = 64 - 1 - i from by omega]
        · rw [if_neg c3, if_neg (by omega)]
/-- a state of a key's, behind bytes -/
structure Mrep (S : HSt) (k : Nat → BitVec 8) (M : Nat → BitVec 8) (m : Nat) : Prop where
  rep : Rep S (catF (fun i => k i ^^^ 0x36#8) 64 M) (64 + m)
  K : ∀ i, i < 64 → S.K i = k i ^^^ 0x5c#8
theorem mrep_new (k M : Nat → BitVec 8) : Mrep (newH k) k M 0 := by
  refine ⟨⟨rfl, ?_, fun i hi => by omega⟩, fun i hi => ?_⟩
  · rw [show (64 + 0) / 64 = 0 + 1 from rfl, iterW_succ]
    refine congrArg eight (cmp_congr rfl (words16_congr fun i hi => ?_))
    unfold newK
    rw [if_neg (by omega), catF_lt (by omega), show 64 + i - 64 = 64 * 0 + i from by omega]
  · show newK k i = _
    unfold newK
    rw [if_pos hi]
theorem catF_congr {X X' Y Y' : Nat → BitVec 8} {n : Nat} (h : ∀ i, i < n → X i = X' i) (h' : ∀ i, Y i = Y' i) (i : Nat) : catF X n Y i = catF X' n Y' i := by
  unfold catF
  by_cases c : i < n
  · rw [if_pos c, if_pos c, h i c]
  · rw [if_neg c, if_neg c, h']
theorem rep_congr {S : HSt} {Y Z : Nat → BitVec 8} {N : Nat} (h : Rep S Y N) (hz : ∀ i, i < N → Y i = Z i) : Rep S Z N :=
  ⟨h.n, h.ws.trans (congrArg eight (iterW_congr _ fun i hi => hz i (by omega))), fun i hi => (h.rest i hi).trans (hz _ (by omega))⟩
theorem mrep_part {S : HSt} {k M X : Nat → BitVec 8} {m n : Nat} (h : Mrep S k M m) : Mrep (writeF (norm S) X n) k (catF M m X) (m + n) := by
  refine ⟨?_, fun i hi => by rw [write_K, norm_K (by omega)]; exact h.K i hi⟩
  have := write_rep (rep_norm h.rep) X n
  rw [Nat.add_assoc] at this
  refine rep_congr this fun i hi => ?_
  unfold catF
  by_cases c1 : i < 64
  · rw [if_pos (by omega), if_pos c1, if_pos c1]
  · by_cases c2 : i < 64 + m
    · rw [if_pos c2, if_neg c1, if_neg c1, if_pos (by omega)]
    · rw [if_neg c2, if_neg c1, if_neg (by omega)]
      exact congrArg X (by omega)
theorem mac_eq {S : HSt} {K M : Nat → BitVec 8} {n m : Nat} (h : Mrep S (keyP shaF K n) M m) : macF (norm S) = macB shaF K n M m := by
  unfold macF macB
  rw [hsF_eq (rep_norm h.rep), tabB_at _ (shaF_len _ _)]
  exact fin_eq fun i hi => (norm_K (by omega)).trans (h.K i hi)
end Go.Proofs.YtflafdhmmcknhaaGreatDoor.Aes


/-
  A keyed hash of parts: the summary.
-/
namespace Go.Proofs.YtflafdhmmcknhaaGreatDoor.Aes
open Go.Sim
open Go.Proofs
variable {α : Type}

set_option maxRecDepth 100000
noncomputable def capL (nm : Nat) (c : SC) : Option (Bool × Nat) := SC.rec (motive := fun _ => Option (Bool × Nat)) (fun m => some (false, m)) (fun m => some (false, m)) (fun q k => boolC (Nat.beq q nm) (some (true, k)) none) c
/-- a slice of bytes, wherever it lies -/
noncomputable def partL (H : List SO) (v : SV) (f : Sl → Nat → R α) : R α := v.asSlice (.stuck 770) fun a l c => optC (capL a.nm c) (.stuck 771) fun bk => boolC (newOne a.nm) (bytesE (nth H a.nm) fun X N => f ⟨X, N, a.off.den, l.den, bk.1, bk.2⟩ a.nm) (.stuck 772)
theorem capL_den {nm : Nat} {c : SC} {bk : Bool × Nat} (h : capL nm c = some bk) (γ : Val) : c.den γ = (boolC bk.1 (.rest nm bk.2) (.sym bk.2) : SC).den γ := by
  cases c with
  | lit m => cases h; rfl
  | sym m => cases h; rfl
  | rest q k =>
    obtain ⟨hq, h⟩ := boolC_opt (show boolC (Nat.beq q nm) (some (true, k)) none = some bk from h)
    cases h
    rw [beq_spec hq]; rfl
theorem partL_sat {H : List SO} {v : SV} {f : Sl → Nat → R α} {φ : α → Prop} (h : ∀ t nm, newOne nm = true → (∀ g, ∃ e', H[nm]? = some e' ∧ Taken g t.row e') → v.Imp (t.val nm) → (f t nm).Sat φ) : (partL H v f).Sat φ := by
  unfold partL
  rcases asSlice_cases v with ⟨a, l, c, rfl⟩ | hv
  · refine optC_only fun bk hbk => boolC_only fun hn => bytesE_sat fun X N ht => h ⟨X, N, a.off.den, l.den, bk.1, bk.2⟩ a.nm hn (fun g => by rw [← nth_eq]; exact ht g) fun γ x hx => ?_
    rw [den_slice] at hx
    obtain ⟨A, C, hA, hC, hle, rfl⟩ := hx
    rw [show (Sl.val ⟨X, N, a.off.den, l.den, bk.1, bk.2⟩ a.nm) = .slice ⟨a.nm, .sym a.off.den⟩ (.sym l.den) (boolC bk.1 (.rest a.nm bk.2) (.sym bk.2)) from rfl, den_slice]
    exact ⟨A, C, hA, by rw [← capL_den hbk]; exact hC, hle, rfl⟩
  · rw [hv]; trivial
theorem Sl.row_uses (t : Sl) (p : Nat → Bool) : t.row.CUses p := rowF_uses _ _ _
theorem Sl.val_ren (t : Sl) (f : Nat → Nat) (nm : Nat) : (t.val nm).ren f = t.val (f nm) := by
  unfold Sl.val
  cases t.b <;> rfl
theorem Sl.val_uses (t : Sl) (p : Nat → Bool) (nm : Nat) (h : p nm = true) : (t.val nm).uses p = true := by
  unfold Sl.val
  cases t.b with
  | false => show p nm && true = true; rw [h]; rfl
  | true => show (p nm && p nm) = true; rw [h]; rfl
noncomputable def outN' (x : Nat) (l : List Nat) : Bool := List.rec (motive := fun _ => Bool) true (fun y _ ih => boolC (Nat.beq x y) false ih) l
noncomputable def distN (l : List Nat) : Bool := List.rec (motive := fun _ => Bool) true (fun x r ih => boolC (outN' x r) ih false) l
theorem outN_spec {x : Nat} : ∀ {l : List Nat}, outN' x l = true → x ∉ l
  | [], _ => by simp
  | y :: l, h => by
    have h : boolC (Nat.beq x y) false (outN' x l) = true := h
    cases hb : Nat.beq x y with
    | true => rw [hb] at h; cases h
    | false =>
      rw [hb] at h
      rw [List.mem_cons, not_or]
      exact ⟨beq_ne hb, outN_spec h⟩
theorem distN_spec : ∀ {l : List Nat}, distN l = true → l.Nodup
  | [], _ => List.nodup_nil
  | x :: l, h => by
    obtain ⟨h1, h2⟩ := boolC_tt (show boolC (outN' x l) (distN l) false = true from h)
    exact List.nodup_cons.2 ⟨outN_spec h1, distN_spec h2⟩
theorem nd4 {l : List Nat} (h : distN l = true) (h4 : ∀ x ∈ l, newOne x = true) : (0 :: 1 :: 2 :: 3 :: l).Nodup := by
  have hn : ∀ x ∈ l, 4 ≤ x := fun x hx => Nat.le_of_ble_eq_true (h4 x hx)
  simp only [List.nodup_cons, List.mem_cons, not_or]
  refine ⟨⟨by omega, by omega, by omega, fun h => ?_⟩, ⟨by omega, by omega, fun h => ?_⟩, ⟨by omega, fun h => ?_⟩, fun h => ?_, distN_spec h⟩
  · have := hn _ h; omega
  · have := hn _ h; omega
  · have := hn _ h; omega
  · have := hn _ h; omega
/- What comes of it. -/
noncomputable def hmRes (F : (Nat → BitVec 8) → Nat → List (BitVec 8)) (k : Sl) (M : Nat → BitVec 8) (m : Nat) : SumRes := ⟨.tuple [.agg (b32L (macB F k.F k.n M m)), .int .i64 (.lit 0)], [], []⟩
noncomputable def okL (t : Sl) : Prop := t.o + t.n ≤ t.N ∧ t.n ≤ 1099511627776
noncomputable def two (a b : Sl) : Nat → BitVec 8 := catF a.F a.n b.F
noncomputable def four (a b c d : Sl) : Nat → BitVec 8 := catF (catF (two a b) (a.n + b.n) c.F) (a.n + b.n + c.n) d.F
noncomputable def hmS1 (F : (Nat → BitVec 8) → Nat → List (BitVec 8)) (H : List SO) (k : Sl) (kn pn : Nat) (l : List SV) : R SumRes := args1 l fun u => partL H u fun a an => boolC (distN [kn, pn, an]) (.need ((k.o + k.n ≤ k.N ∧ k.n ≤ 4096) ∧ okL a) (.ok (hmRes F k a.F a.n))) (.stuck 773)
noncomputable def hmS2 (F : (Nat → BitVec 8) → Nat → List (BitVec 8)) (H : List SO) (k : Sl) (kn pn : Nat) (l : List SV) : R SumRes := args2 l fun u v => partL H u fun a an => partL H v fun b bn => boolC (distN [kn, pn, an, bn]) (.need ((k.o + k.n ≤ k.N ∧ k.n ≤ 4096) ∧ okL a ∧ okL b) (.ok (hmRes F k (two a b) (a.n + b.n)))) (.stuck 773)
noncomputable def hmS5 (F : (Nat → BitVec 8) → Nat → List (BitVec 8)) (H : List SO) (k : Sl) (kn pn : Nat) (l : List SV) : R SumRes := List.rec (motive := fun _ => R SumRes) (.stuck 774) (fun u r _ => args4 r fun v x y z => partL H u fun a an => partL H v fun b bn => partL H x fun c cn => partL H z fun d dn => sliceR y (boolC (distN [kn, pn, an, bn, cn, dn]) (.need ((k.o + k.n ≤ k.N ∧ k.n ≤ 4096) ∧ okL a ∧ okL b ∧ okL c ∧ okL d) (.ok (hmRes F k (four a b c d) (a.n + b.n + c.n + d.n)))) (.stuck 773)) fun _ _ => .stuck 774) l
noncomputable def hmS (F : (Nat → BitVec 8) → Nat → List (BitVec 8)) : Summ := fun args H _ => args2 args fun kv pv => shaTP H (partL H kv fun k kn => optC (slNm pv) (.stuck 775) fun pn => boolC (newOne pn) (optC (cellsE (nth H pn)) (.stuck 775) fun l => boolC (isSlO pv pn 0 (lenN l))
  (boolC (Nat.beq (lenN l) 1) (hmS1 F H k kn pn l) (boolC (Nat.beq (lenN l) 2) (hmS2 F H k kn pn l) (hmS5 F H k kn pn l))) (.stuck 775)) (.stuck 775))
theorem Mrep.congr {S : HSt} {k M M' : Nat → BitVec 8} {m : Nat} (h : Mrep S k M m) (hm : ∀ i, i < m → M i = M' i) : Mrep S k M' m :=
  ⟨rep_congr h.rep fun i hi => by
    unfold catF
    by_cases c : i < 64
    · rw [if_pos c, if_pos c]
    · rw [if_neg c, if_neg c, hm _ (by omega)], h.K⟩
theorem mrep_one (k : Sl) (a : Sl) : Mrep (partF (hm0 k) (some a)) (keyP shaF k.F k.n) a.F a.n := by
  have h := mrep_part (X := a.F) (n := a.n) (mrep_new (keyP shaF k.F k.n) (fun _ => 0#8))
  rw [Nat.zero_add] at h
  exact h.congr fun i hi => by rw [catF_ge (by omega)]; rfl
theorem mrep_none {S : HSt} {k M : Nat → BitVec 8} {m : Nat} (h : Mrep S k M m) : Mrep (partF S none) k M m :=
  (mrep_part (X := fun _ => 0#8) (n := 0) h).congr fun i hi => catF_lt (by omega)
theorem partC_all {S : HSt} {k M : Nat → BitVec 8} {m : Nat} (h : Mrep S k M m) (hm : m ≤ 9007199254740992) (a : Sl) (ha : okL a) {r : List Prop} (hr : ∀ p ∈ r, p) : ∀ p ∈ partC S (some a) r, p := by
  have hn : (norm S).n = 64 + m := h.rep.n
  obtain ⟨h1, h2⟩ := ha
  exact all_cons (by omega) (all_cons (by omega) (all_cons (byteF_isB _) (all_cons ⟨h1, by omega⟩ hr)))
theorem partN_all {S : HSt} {k M : Nat → BitVec 8} {m : Nat} (h : Mrep S k M m) (hm : m ≤ 9007199254740992) {r : List Prop} (hr : ∀ p ∈ r, p) : ∀ p ∈ partC S none r, p := by
  have hn : (norm S).n = 64 + m := h.rep.n
  exact all_cons (by omega) (all_cons (by omega) (all_cons (by omega) hr))
theorem hmE_all {S : HSt} {k M : Nat → BitVec 8} {m : Nat} (h : Mrep S k M m) (hm : m ≤ 9007199254740992) : ∀ p ∈ hmE S, p := by
  have hn : (norm S).n = 64 + m := h.rep.n
  exact all_cons (by omega) (all_cons ⟨by omega, by omega⟩ all_nil)
theorem mrep_two {S : HSt} {k M : Nat → BitVec 8} {m : Nat} (h : Mrep S k M m) (b : Sl) : Mrep (partF S (some b)) k (catF M m b.F) (m + b.n) := mrep_part h
theorem endsH {I : Ifc} {base : Nat} {S : HSt} {k : Sl} {M : Nat → BitVec 8} {m : Nat} {H : List SO} {v : SV} (hr : Mrep S (keyP shaF k.F k.n) M m) (ho : ownsOf I.ents 0 = []) (h : v = .tuple [.agg (b32L (macF (norm S))), .int .i64 (.lit 0)]) : I.Ends base [] (hmRes shaF k M m) v H := by
  unfold hmRes
  rw [← mac_eq hr]
  exact endsT ho h
end Go.Proofs.YtflafdhmmcknhaaGreatDoor.Aes


/-
  A keyed hash of parts: the summary holds.
-/
namespace Go.Proofs.YtflafdhmmcknhaaGreatDoor.Aes
open Go.Sim
open Go.Proofs
variable {α : Type}

set_option maxRecDepth 100000
theorem hmI_args {β : Val} {k : Sl} {kn pn n : Nat} {kv pv : SV} {vs : List Value} (names : List Nat) (ents : List SO) (ha : SV.denL β [kv, pv] = some vs) (hk : kv.Imp (k.val kn)) (hp : isSlO pv pn 0 n = true) :
    SV.denL β (SV.renL (shaIP (kn :: pn :: names) ents [k.val 4, .slice ⟨5, .lit 0⟩ (.lit n) (.lit n)]).big (shaIP (kn :: pn :: names) ents [k.val 4, .slice ⟨5, .lit 0⟩ (.lit n) (.lit n)]).args) = some vs := by
  have h1 := impL_cons hk (SV.ImpL.refl [pv]) _ _ ha
  rw [isSlO_spec hp] at h1
  show SV.denL β [(k.val 4).ren _, .slice ⟨pn, .lit 0⟩ (.lit n) (.lit n)] = _
  rw [Sl.val_ren]
  exact h1
theorem hmI_uses {k : Sl} {kn pn n : Nat} (names : List Nat) (ents : List SO) : SV.usesL (shaIP (kn :: pn :: names) ents [k.val 4, .slice ⟨5, .lit 0⟩ (.lit n) (.lit n)]).known [k.val 4, .slice ⟨5, .lit 0⟩ (.lit n) (.lit n)] = true := by
  show ((k.val 4).uses _ && _) = true
  rw [Sl.val_uses _ _ _ rfl]; rfl
theorem hmS1_ok {O : Nat → Prop} {w0 : World} {β : Val} {H : List SO} {w : World} {base : Nat} {kv pv : SV} {vs : List Value} (hH : HeapRel0 Tryz.prog O w0 β H w) (hG : GlobRel globP β) (ha : SV.denL β [kv, pv] = some vs) (hT : ShaTP H) {k : Sl} {kn pn : Nat}
    (hn : newOne kn = true) (ht : ∀ g, ∃ e', H[kn]? = some e' ∧ Taken g k.row e') (hk : kv.Imp (k.val kn)) (hn2 : newOne pn = true) {l : List SV} (hl : cellsE (nth H pn) = some l) (hp : isSlO pv pn 0 (lenN l) = true) :
    (hmS1 shaF H k kn pn l).Sat (SumSem Tryz.prog H β w base 65 vs) := by
  refine args1_sat fun u hu => partL_sat fun a an hna hta hia => boolC_only fun hd => fun ⟨⟨h1, h2⟩, hok⟩ => ?_
  subst hu
  rw [nth_eq] at hl
  have hr := mrep_one k a
  have := hok.2
  refine sum_outOG cfgHMOK 4000 hH (shaIP [kn, pn, an] [k.row, .row (.lst [a.val 6]), a.row] [k.val 4, .slice ⟨5, .lit 0⟩ (.lit 1) (.lit 1)]) (shaIP_glob hG) (hmI_args _ _ ha hk hp) (Ifc.fits ?_ (hmI_uses _ _) (shaIP_ents hT ⟨⟨ht _, k.row_uses _⟩, ⟨taken_cells hl ?_, ?_⟩, ⟨hta _, a.row_uses _⟩, trivial⟩)) [] (by simp) (by simp) (hm_run1 k a) ?_ fun _ _ => endsH hr rfl rfl
  · exact nd4 hd (by simp only [List.mem_cons, List.not_mem_nil, or_false]; rintro x (rfl | rfl | rfl) <;> assumption)
  · show SV.ImpL _ [(a.val 6).ren _]
    rw [Sl.val_ren]
    exact impL_cons hia impL_nil
  · show ((a.val 6).uses _ && true) = true
    rw [Sl.val_uses _ _ _ rfl]; rfl
  · refine all_cons (byteF_isB _) (all_cons ⟨h1, h2⟩ (partC_all (mrep_new _ (fun _ => 0#8)) (by omega) a hok (hmE_all hr (by omega))))
theorem hmS2_ok {O : Nat → Prop} {w0 : World} {β : Val} {H : List SO} {w : World} {base : Nat} {kv pv : SV} {vs : List Value} (hH : HeapRel0 Tryz.prog O w0 β H w) (hG : GlobRel globP β) (ha : SV.denL β [kv, pv] = some vs) (hT : ShaTP H) {k : Sl} {kn pn : Nat}
    (hn : newOne kn = true) (ht : ∀ g, ∃ e', H[kn]? = some e' ∧ Taken g k.row e') (hk : kv.Imp (k.val kn)) (hn2 : newOne pn = true) {l : List SV} (hl : cellsE (nth H pn) = some l) (hp : isSlO pv pn 0 (lenN l) = true) :
    (hmS2 shaF H k kn pn l).Sat (SumSem Tryz.prog H β w base 65 vs) := by
  refine args2_sat fun u v hu => partL_sat fun a an hna hta hia => partL_sat fun b bn hnb htb hib => boolC_only fun hd => fun ⟨⟨h1, h2⟩, hok, hokb⟩ => ?_
  subst hu
  rw [nth_eq] at hl
  have hr := mrep_one k a
  have hr2 := mrep_two hr b
  have := hok.2
  have := hokb.2
  refine sum_outOG cfgHMOK 4000 hH (shaIP [kn, pn, an, bn] [k.row, .row (.lst [a.val 6, b.val 7]), a.row, b.row] [k.val 4, .slice ⟨5, .lit 0⟩ (.lit 2) (.lit 2)]) (shaIP_glob hG) (hmI_args _ _ ha hk hp) (Ifc.fits ?_ (hmI_uses _ _) (shaIP_ents hT ⟨⟨ht _, k.row_uses _⟩, ⟨taken_cells hl ?_, ?_⟩, ⟨hta _, a.row_uses _⟩, ⟨htb _, b.row_uses _⟩, trivial⟩)) [] (by simp) (by simp) (hm_run2 k a b) ?_ fun _ _ => endsH hr2 rfl rfl
  · exact nd4 hd (by simp only [List.mem_cons, List.not_mem_nil, or_false]; rintro x (rfl | rfl | rfl | rfl) <;> assumption)
  · show SV.ImpL _ [(a.val 6).ren _, (b.val 7).ren _]
    rw [Sl.val_ren, Sl.val_ren]
    exact impL_cons hia (impL_cons hib impL_nil)
  · show ((a.val 6).uses _ && ((b.val 7).uses _ && true)) = true
    rw [Sl.val_uses _ _ _ rfl, Sl.val_uses _ _ _ rfl]; rfl
  · exact all_cons (byteF_isB _) (all_cons ⟨h1, h2⟩ (partC_all (mrep_new _ (fun _ => 0#8)) (by omega) a hok (partC_all hr (by omega) b hokb (hmE_all hr2 (by omega)))))
theorem hmS5_ok {O : Nat → Prop} {w0 : World} {β : Val} {H : List SO} {w : World} {base : Nat} {kv pv : SV} {vs : List Value} (hH : HeapRel0 Tryz.prog O w0 β H w) (hG : GlobRel globP β) (ha : SV.denL β [kv, pv] = some vs) (hT : ShaTP H) {k : Sl} {kn pn : Nat}
    (hn : newOne kn = true) (ht : ∀ g, ∃ e', H[kn]? = some e' ∧ Taken g k.row e') (hk : kv.Imp (k.val kn)) (hn2 : newOne pn = true) {l : List SV} (hl : cellsE (nth H pn) = some l) (hp : isSlO pv pn 0 (lenN l) = true) :
    (hmS5 shaF H k kn pn l).Sat (SumSem Tryz.prog H β w base 65 vs) := by
  cases l with
  | nil => trivial
  | cons u r =>
    refine args4_sat fun v x y z hr0 => partL_sat fun a an hna hta hia => partL_sat fun b bn hnb htb hib => partL_sat fun c cn hnc htc hic => partL_sat fun d dn hnd htd hid => sliceR_sat (fun hy => boolC_only fun hd => fun ⟨⟨h1, h2⟩, hok, hokb, hokc, hokd⟩ => ?_) fun _ _ _ _ => trivial
    subst hr0
    rw [nth_eq] at hl
    rw [hy] at hl
    have hr := mrep_one k a
    have hr2 := mrep_two hr b
    have hr3 := mrep_two hr2 c
    have hr4 := mrep_none hr3
    have hr5 := mrep_two hr4 d
    have := hok.2
    have := hokb.2
    have := hokc.2
    have := hokd.2
    refine sum_outOG cfgHMOK 4000 hH (shaIP [kn, pn, an, bn, cn, dn] [k.row, .row (.lst [a.val 6, b.val 7, c.val 8, .nilSlice, d.val 9]), a.row, b.row, c.row, d.row] [k.val 4, .slice ⟨5, .lit 0⟩ (.lit 5) (.lit 5)]) (shaIP_glob hG) (hmI_args _ _ ha hk hp) (Ifc.fits ?_ (hmI_uses _ _) (shaIP_ents hT ⟨⟨ht _, k.row_uses _⟩, ⟨taken_cells hl ?_, ?_⟩, ⟨hta _, a.row_uses _⟩, ⟨htb _, b.row_uses _⟩, ⟨htc _, c.row_uses _⟩, ⟨htd _, d.row_uses _⟩, trivial⟩)) [] (by simp) (by simp) (hm_run5 k a b c d) ?_ fun _ _ => endsH hr5 rfl rfl
    · exact nd4 hd (by simp only [List.mem_cons, List.not_mem_nil, or_false]; rintro x (rfl | rfl | rfl | rfl | rfl | rfl) <;> assumption)
    · show SV.ImpL _ [(a.val 6).ren _, (b.val 7).ren _, (c.val 8).ren _, .nilSlice, (d.val 9).ren _]
      rw [Sl.val_ren, Sl.val_ren, Sl.val_ren, Sl.val_ren]
      exact impL_cons hia (impL_cons hib (impL_cons hic (impL_cons (.refl _) (impL_cons hid impL_nil))))
    · show ((a.val 6).uses _ && ((b.val 7).uses _ && ((c.val 8).uses _ && (true && ((d.val 9).uses _ && true))))) = true
      rw [Sl.val_uses _ _ _ rfl, Sl.val_uses _ _ _ rfl, Sl.val_uses _ _ _ rfl, Sl.val_uses _ _ _ rfl]; rfl
    · exact all_cons (byteF_isB _) (all_cons ⟨h1, h2⟩ (partC_all (mrep_new _ (fun _ => 0#8)) (by omega) a hok (partC_all hr (by omega) b hokb (partC_all hr2 (by omega) c hokc (partN_all hr3 (by omega) (partC_all hr4 (by omega) d hokd (hmE_all hr5 (by omega))))))))
theorem hmOK : SumAt Tryz.prog globP 65 (hmS shaF) := by
  intro O w0 β H w base args vs hH hG ha
  refine args2_sat fun kv pv hv => shaTP_sat fun hT => partL_sat fun k kn hn ht hk => optC_only fun pn hpn => boolC_only fun hn2 => optC_only fun l hl => boolC_only fun hp => ?_
  rw [hv] at ha
  exact boolC_sat (fun _ => hmS1_ok hH hG ha hT hn ht hk hn2 hl hp) fun _ => boolC_sat (fun _ => hmS2_ok hH hG ha hT hn ht hk hn2 hl hp) fun _ => hmS5_ok hH hG ha hT hn ht hk hn2 hl hp
end Go.Proofs.YtflafdhmmcknhaaGreatDoor.Aes


/-
  The symbolic simulator, thirty-fifth part: summaries whose new entries may be maps.
-/
namespace Go.Sim

/-- the small entry is the great one's, at last; a map, too -/
def GivenO (p : Nat → Bool) (g : Nat → Nat) (E : Option SO) (e : SO) : Prop := Given p g E e ∨ ∃ o, E = some (.obj o) ∧ o.uses p = true ∧ e = .obj (o.ren g)
structure Ifc.OutO (I : Ifc) (base : Nat) (turn keep : List Nat) (r : SumRes) (v : SV) (H : List SO) : Prop where
  val : (v.ren (I.out base keep)).Imp r.v
  uv : v.uses (I.seen keep) = true
  setsLen : r.sets.length = turn.length
  sets : ∀ (i j : Nat), turn[i]? = some j → ∃ e, r.sets[i]? = some (I.big j, e) ∧ Given (I.seen keep) (I.out base keep) H[j]? e
  newsLen : r.news.length = keep.length
  news : ∀ (i j : Nat), keep[i]? = some j → ∃ e, r.news[i]? = some e ∧ GivenO (I.seen keep) (I.out base keep) H[j]? e
/-- A SUMMARY FROM A SMALL RUN -/
theorem sum_smallCO {c : Cfg} {O : Nat → Prop} {w0 w : World} {β : Val} {H : List SO} {base : Nat} {f : FuncId} {vs : List Value} (hH : HeapRel0 c.P O w0 β H w)
    (I : Ifc) (hgl : ∀ g j, c.glob g = some j → I.known j = true ∧ ∃ l, β (I.big j) = some l ∧ l.blk = g ∧ l.off = 0) (ha : SV.denL β (SV.renL I.big I.args) = some vs) (hI : I.Fits H) {r : SumRes} (turn keep : List Nat) (ht1 : ∀ (j : Nat) c w el, I.ents[j]? = some (.own c w el) → j ∈ turn) (ht2 : ∀ j ∈ turn, ∃ c w el, I.ents[j]? = some (.own c w el)) (hk : ∀ j ∈ keep, I.names.length ≤ j) (hkn : keep.Nodup) (htn : turn.Nodup := by simp)
    (hbody : ∃ fn, c.P.funcs[f]? = some fn ∧ fn.body.isSome = true)
    (hrun : HeapRel c.P (I.owns β) w (I.val β) I.ents w → GlobRel c.glob (I.val β) → SV.denL (I.val β) I.args = some vs → Calls c.P f vs.toArray w (Came c.P (I.owns β) w (I.val β) (I.OutO base turn keep r))) : SumSem c.P H β w base f vs r := by
  intro hfree
  have hH' := Ifc.heap hH hI
  have ha' : SV.denL (I.val β) I.args = some vs := by
    rw [SV.denL_ren, SV.denL_uses Ifc.val_known _ hI.uargs] at ha; exact ha
  have hcalls := hrun hH' (fun g j hg => let ⟨hk, l, h1, h2⟩ := hgl g j hg; ⟨l, by rw [← Ifc.val_known j hk]; exact h1, h2⟩) ha'
  have hown : ∀ j ∈ turn, ∃ cb wb el l vs rest lo hi, H[I.big j]? = some (.own cb wb el) ∧ β (I.big j) = some l ∧ I.val β j = some l ∧ j < I.names.length ∧ w.heap[l.blk]? = some (.cells (vs ++ rest : List Value).toArray el (lo, hi)) := by
    intro j hj
    obtain ⟨cc, ww, el, he⟩ := ht2 j hj
    obtain ⟨e, he', ht⟩ := hI.ent j _ he
    obtain ⟨c1, rfl, _⟩ := ht
    obtain ⟨l, vs, rest, lo, hi, hl, _, _, hh, _⟩ := hH.entries _ _ he'
    have hjl : j < I.names.length := by rw [← hI.len]; exact (List.getElem?_eq_some_iff.1 he).1
    exact ⟨_, _, _, l, vs, rest, lo, hi, he', hl, by rw [← Ifc.val_known j ((I.known_iff j).2 hjl)]; exact hl, hjl, hh⟩
  -- what is turned
  have hsets : ∀ (v : SV) (H'' : List SO), I.OutO base turn keep r v H'' → ∀ m e, (m, e) ∈ r.sets → ∃ j ∈ turn, m = I.big j ∧ Given (I.seen keep) (I.out base keep) H''[j]? e ∧ ∃ i : Nat, turn[i]? = some j ∧ r.sets[i]? = some (m, e) := by
    intro v H'' hout m e hm
    obtain ⟨i, hi⟩ := List.mem_iff_getElem?.1 hm
    have hil := (List.getElem?_eq_some_iff.1 hi).1
    rw [hout.setsLen] at hil
    obtain ⟨e', h1, h2⟩ := hout.sets i _ (List.getElem?_eq_getElem hil)
    rw [hi] at h1
    cases h1
    exact ⟨_, List.getElem_mem hil, rfl, h2, i, List.getElem?_eq_getElem hil, hi⟩
  refine ⟨?_, .inl ⟨hbody, ?_⟩⟩
  · intro m e hm
    -- what is turned was a block of one's own
    obtain ⟨e', w', fr, hcame, _⟩ := hcalls []
    obtain ⟨v, H'', x, β'', _, hout, _⟩ := hcame
    obtain ⟨j, hj, rfl, _⟩ := hsets v H'' hout m e hm
    obtain ⟨cb, wb, el, l, vs, rest, lo, hi, h1, _⟩ := hown j hj
    exact ⟨_, h1, rfl⟩
  · intro cs
    obtain ⟨e', w', fr, hcame, hst⟩ := hcalls cs
    refine ⟨e', w', fr, ?_, hst⟩
    obtain ⟨v, H'', x, β'', rfl, hout, hle, hv, hH2⟩ := hcame
    -- the great valuation behind the call
    let βb : Val := fun n => if base ≤ n ∧ n < base + keep.length then (keep[n - base]?).bind β'' else β n
    have hlenn : r.news.length = keep.length := hout.newsLen
    have hfree' : ∀ i, i < keep.length → β (base + i) = none := fun i hi => hfree i (by rw [hlenn]; exact hi)
    have hβle : β.le βb := by
      intro n l hn
      show (if _ then _ else _) = _
      rw [if_neg]
      · exact hn
      · rintro ⟨h1, h2⟩
        have := hfree' (n - base) (by omega)
        rw [show base + (n - base) = n from by omega, hn] at this; cases this
    have hseen : ∀ j, I.seen keep j = true → βb (I.out base keep j) = β'' j := by
      intro j hj
      unfold Ifc.seen at hj
      unfold Ifc.out
      cases hkn' : I.known j with
      | true =>
        rw [boolC_true]
        have hjl := (I.known_iff j).1 hkn'
        obtain ⟨E, hE⟩ : ∃ E, I.ents[j]? = some E := ⟨_, List.getElem?_eq_getElem (by rw [hI.len]; exact hjl)⟩
        obtain ⟨e, he, htk⟩ := hI.ent j E hE
        -- it stands for something
        have hsome : ∃ l, β (I.big j) = some l := by
          have h0 := hH.entries _ e he
          have hu := hI.uent j E hE
          have hplaced : e.placed = true := by
            cases E with
            | own cc ww el => obtain ⟨c1, rfl, _⟩ := htk; rfl
            | row cc => obtain ⟨c1, rfl | ⟨ww, el, rfl⟩, _⟩ := htk <;> rfl
            | loop => exact hu.elim
            | deferred => exact hu.elim
            | gone => exact htk
            | obj => exact hu.elim
          cases e with
          | own cc ww el => obtain ⟨l, _, _, _, _, hl, _⟩ := h0; exact ⟨l, hl⟩
          | row cc => obtain ⟨l, _, hl, _⟩ := h0; exact ⟨l, hl⟩
          | loop => cases hplaced
          | deferred => cases hplaced
          | gone => cases hplaced
          | obj => cases hplaced
        obtain ⟨l, hl⟩ := hsome
        rw [hβle _ _ hl]
        have : I.val β j = some l := by rw [← Ifc.val_known j hkn']; exact hl
        rw [hle _ _ this]
      | false =>
        rw [hkn', boolC_false, memN_iff] at hj
        rw [boolC_false]
        have h1 := idxN_spec hj
        have h2 := (List.getElem?_eq_some_iff.1 h1).1
        show (if _ then _ else _) = _
        rw [if_pos (by omega), show base + idxN j keep - base = idxN j keep from by omega, h1]; rfl
    have hren0 : ∀ (j : Nat) (e : SO), Given (I.seen keep) (I.out base keep) H''[j]? e → I.seen keep j = true → e.owned = true ∧ OwnRel c.P βb w' (I.out base keep j) e := by
      intro j e hg hs
      obtain ⟨cc, ww, el, c', he, hu, himp, rfl⟩ := hg
      obtain ⟨l, vs, rest, lo, hi, hl, h0, hcl, hh, hfz, hw, hcap⟩ := hH2.entries j _ he
      exact ⟨rfl, l, vs, rest, lo, hi, (hseen j hs).trans hl, h0, himp _ _ ((CellsRel.ren hu hseen).2 hcl), hh, hfz, hw, hcap⟩
    have hrenOwn : ∀ (j : Nat) (e : SO), GivenO (I.seen keep) (I.out base keep) H''[j]? e → I.seen keep j = true → e.owned = true ∧ OwnRel c.P βb w' (I.out base keep j) e := by
      intro j e hg hs
      rcases hg with hg | ⟨o, he, hu, rfl⟩
      · exact hren0 j e hg hs
      · obtain ⟨l, y, hl, h0, hd, hh⟩ := hH2.entries j _ he
        exact ⟨rfl, l, y, (hseen j hs).trans hl, h0, by rw [SObj.den_ren, SObj.den_uses (β := fun n => βb (I.out base keep n)) (β' := β'') hseen hu]; exact hd, hh⟩
    have hatJ : ∀ (j : Nat) (e : SO), GivenO (I.seen keep) (I.out base keep) H''[j]? e → ∃ e0 l, H''[j]? = some e0 ∧ e0.owned = true ∧ β'' j = some l := by
      intro j e hg
      rcases hg with ⟨cc, ww, el, c', he, _⟩ | ⟨o, he, _⟩
      · obtain ⟨l, vs2, rest, lo, hi2, hl, _⟩ := hH2.entries j _ he
        exact ⟨_, l, he, rfl, hl⟩
      · obtain ⟨l, y, hl, _⟩ := hH2.entries j _ he
        exact ⟨_, l, he, rfl, hl⟩
    have hseenT : ∀ j ∈ turn, I.seen keep j = true ∧ I.out base keep j = I.big j := by
      intro j hj
      obtain ⟨_, _, _, _, _, _, _, _, _, _, _, hjl, _⟩ := hown j hj
      have := (I.known_iff j).2 hjl
      unfold Ifc.seen Ifc.out
      rw [this]; exact ⟨rfl, rfl⟩
    have hseenK : ∀ j ∈ keep, I.seen keep j = true ∧ I.known j = false := by
      intro j hj
      have hnk : I.known j = false := by
        cases hx : I.known j with
        | false => rfl
        | true => have := (I.known_iff j).1 hx; have := hk j hj; omega
      unfold Ifc.seen
      rw [hnk]; exact ⟨memN_spec hj, rfl⟩
    have hnewsAt : ∀ (i : Nat) (e : SO), r.news[i]? = some e → ∃ j, keep[i]? = some j ∧ GivenO (I.seen keep) (I.out base keep) H''[j]? e := by
      intro i e hi
      have hil := (List.getElem?_eq_some_iff.1 hi).1
      rw [hlenn] at hil
      obtain ⟨e', h1, h2⟩ := hout.news i _ (List.getElem?_eq_getElem hil)
      rw [hi] at h1; cases h1
      exact ⟨_, List.getElem?_eq_getElem hil, h2⟩
    refine ⟨x, βb, rfl, ?_, ⟨hβle, hH2.keep.os, hH2.keep.tape, hH2.keep.output, hH2.keep.size, ?_, ?_, ?_, ?_, ?_, ?_⟩⟩
    · refine hout.val _ _ ?_
      rw [SV.den_ren, SV.den_uses hseen _ hout.uv]; exact hv
    · intro n hn
      rw [hlenn] at hn
      show (if _ then _ else _) = _
      rw [if_neg (by omega)]
    · intro b hb hno
      refine hH2.keep.block b hb ?_
      rintro ⟨j, cc, ww, el, l, hj, hl, rfl⟩
      have hjt := ht1 j cc ww el hj
      obtain ⟨i, hi⟩ := List.mem_iff_getElem?.1 hjt
      obtain ⟨e, he, _⟩ := hout.sets i j hi
      exact hno (I.big j) e l (List.mem_of_getElem? he) hl rfl
    · intro m e e' h1 h2
      obtain ⟨j, hj, hm1, hg1, i1, ht1', hs1⟩ := hsets v H'' hout m e h1
      obtain ⟨k, hk', hm2, hg2, i2, ht2', hs2⟩ := hsets v H'' hout m e' h2
      obtain ⟨_, _, _, _, _, _, _, _, _, _, _, hjl, _⟩ := hown j hj
      obtain ⟨_, _, _, _, _, _, _, _, _, _, _, hkl, _⟩ := hown k hk'
      have hjk : k = j := hI.nodup k j (I.big k) (Ifc.big_get hkl) (by rw [← hm2, hm1]; exact Ifc.big_get hjl)
      subst hjk
      have : i1 = i2 := (List.getElem?_inj (List.getElem?_eq_some_iff.1 ht1').1 htn).1 (ht1'.trans ht2'.symm)
      subst this
      rw [hs1] at hs2
      exact (Prod.mk.inj (Option.some.inj hs2)).2
    · intro m e hm
      obtain ⟨j, hj, rfl, hg, _⟩ := hsets v H'' hout m e hm
      obtain ⟨hs, hb⟩ := hseenT j hj
      rw [← hb]
      exact (hren0 j e hg hs).2
    · intro i e hi
      obtain ⟨j, hj, hg⟩ := hnewsAt i e hi
      have hjm := List.mem_of_getElem? hj
      obtain ⟨hs, hnk⟩ := hseenK j hjm
      have hout' : I.out base keep j = base + i := by
        unfold Ifc.out
        rw [hnk, boolC_false]
        have h1 := idxN_spec hjm
        have : idxN j keep = i := (List.getElem?_inj (List.getElem?_eq_some_iff.1 h1).1 hkn).1 (h1.trans hj.symm)
        rw [this]
      obtain ⟨ho, hor⟩ := hrenOwn j e hg hs
      refine ⟨ho, hout' ▸ hor, ?_⟩
      obtain ⟨e0, l, he, he0, hl⟩ := hatJ j e hg
      refine ⟨l, by rw [← hout', hseen j hs]; exact hl, .inl ?_⟩
      rcases hH2.fresh j _ l he he0 hl with h1 | ⟨k, ck, wk, ek, lk, hk1, hk2, hk3⟩
      · exact h1
      · exfalso
        -- a block that was given is still its own
        have hkt := ht1 k ck wk ek hk1
        obtain ⟨i3, hi3⟩ := List.mem_iff_getElem?.1 hkt
        obtain ⟨_, _, c2, w2, e2, _, he2, _⟩ := hout.sets i3 k hi3
        obtain ⟨_, _, _, l2, _, _, _, _, _, hb2, hv2, hkl, _⟩ := hown k hkt
        rw [hb2] at hk2; cases hk2
        refine hH2.sep k j _ _ lk l he2 he rfl he0 ?_ (hle _ _ hv2) hl hk3
        have := hk j hjm; omega
    · intro i j l l' hij hi hj hl hl'
      rw [hlenn] at hi hj
      have hone : ∀ i, i < keep.length → ∀ l, βb (base + i) = some l → ∃ k, keep[i]? = some k ∧ β'' k = some l := by
        intro i hi l hl
        have hl : (if base ≤ base + i ∧ base + i < base + keep.length then (keep[base + i - base]?).bind β'' else β (base + i)) = some l := hl
        rw [if_pos (by omega), show base + i - base = i from by omega, List.getElem?_eq_getElem hi] at hl
        exact ⟨_, List.getElem?_eq_getElem hi, hl⟩
      obtain ⟨k1, hk1, hb1⟩ := hone i hi l hl
      obtain ⟨k2, hk2, hb2⟩ := hone j hj l' hl'
      obtain ⟨n1, _, hg1⟩ := hout.news i k1 hk1
      obtain ⟨n2, _, hg2⟩ := hout.news j k2 hk2
      obtain ⟨e1, _, he1, ho1, _⟩ := hatJ k1 n1 hg1
      obtain ⟨e2, _, he2, ho2, _⟩ := hatJ k2 n2 hg2
      refine hH2.sep k1 k2 _ _ l l' he1 he2 ho1 ho2 (fun h => ?_) hb1 hb2
      subst h
      exact hij ((List.getElem?_inj (List.getElem?_eq_some_iff.1 hk1).1 hkn).1 (hk1.trans hk2.symm))

theorem sum_smallO {c : Cfg} (hc : CfgOK c) {n : Nat} {O : Nat → Prop} {w0 w : World} {β : Val} {H : List SO} {base : Nat} {f : FuncId} {vs : List Value} (hH : HeapRel0 c.P O w0 β H w)
    (I : Ifc) (hgl : ∀ g j, c.glob g = some j → I.known j = true ∧ ∃ l, β (I.big j) = some l ∧ l.blk = g ∧ l.off = 0) (ha : SV.denL β (SV.renL I.big I.args) = some vs) (hI : I.Fits H) {r : SumRes} (turn keep : List Nat) (ht1 : ∀ (j : Nat) c w el, I.ents[j]? = some (.own c w el) → j ∈ turn) (ht2 : ∀ j ∈ turn, ∃ c w el, I.ents[j]? = some (.own c w el)) (hk : ∀ j ∈ keep, I.names.length ≤ j) (hkn : keep.Nodup) (htn : turn.Nodup := by simp)
    (hob : (callSim c n f I.args I.ents).Ob (I.OutO base turn keep r) fun _ => False) : SumSem c.P H β w base f vs r := by
  refine sum_smallCO hH I hgl ha hI turn keep ht1 ht2 hk hkn htn ?_ fun hH' hG ha' => calls_of hc hH' hG ha' hob
  unfold callSim at hob
  cases hg : enterF c.P f I.args with
  | none => rw [hg] at hob; exact hob.elim
  | some g => exact enterF_body hg

/- For whatever numbers that nobody knows: the directions may go by them. -/
end Go.Sim


/-
  The block cipher, first part: doubling, multiplying, and the places that shifting takes.
-/
namespace Go.Proofs.YtflafdhmmcknhaaGreatDoor.Aes
open Go.Sim
open Go.Proofs
variable {α : Type}

def dbl (x : BitVec 8) : BitVec 8 := if 128 ≤ x.toNat then x <<< 1 ^^^ 27#8 else x <<< 1
noncomputable def dblS : Summ := fun args _ _ => args1 args fun v => optC (unb1 v) (.stuck 600) fun x => byteR (dbl x)
theorem dbl_run (x : BitVec 8) : callSim cfg0 100 114 [.int .u8 (.b8 x)] [] = .fork (decide ((x.toNat : Int) ≥ 128)) (.done (.int .u8 (.b8 (x <<< 1 ^^^ BitVec.ofInt 8 27))) []) (.done (.int .u8 (.b8 (x <<< 1))) []) := by kernel_rfl
theorem dblOK : SumOK Tryz.prog 114 dblS := by
  intro glob O w0 β H w base args vs hH hG ha
  refine args1_sat fun v hv => optC_only fun x hx => ?_
  subst hv
  refine sum_run cfg0OK rfl 100 hH ⟨[], [], [.int .u8 (.b8 x)]⟩ (denL1 ha (unb1_imp hx)) (fits0 rfl) [] (by simp) (by simp) ?_
  rw [dbl_run]
  refine ⟨fun h => ?_, fun h => ?_⟩
  · have e : dbl x = x <<< 1 ^^^ BitVec.ofInt 8 27 := by
      have : 128 ≤ x.toNat := by have := of_decide_eq_true h; omega
      unfold dbl; rw [if_pos this]; rfl
    rw [e]; exact ends0 rfl rfl rfl
  · have e : dbl x = x <<< 1 := by
      have : ¬ 128 ≤ x.toNat := by have := of_decide_eq_false h; omega
      unfold dbl; rw [if_neg this]
    rw [e]; exact ends0 rfl rfl rfl

/- The products. -/
def m9 (x : BitVec 8) : BitVec 8 := x ^^^ dbl (dbl (dbl x))
def m11 (x : BitVec 8) : BitVec 8 := x ^^^ dbl x ^^^ dbl (dbl (dbl x))
def m13 (x : BitVec 8) : BitVec 8 := x ^^^ dbl (dbl x) ^^^ dbl (dbl (dbl x))
def m14 (x : BitVec 8) : BitVec 8 := dbl x ^^^ dbl (dbl x) ^^^ dbl (dbl (dbl x))
def m3 (x : BitVec 8) : BitVec 8 := x ^^^ dbl x
noncomputable def timesL (n : Int) (x : BitVec 8) : R SumRes :=
  boolC (eqI n 1) (byteR x) (boolC (eqI n 2) (byteR (dbl x)) (boolC (eqI n 3) (byteR (m3 x)) (boolC (eqI n 9) (byteR (m9 x)) (boolC (eqI n 11) (byteR (m11 x)) (boolC (eqI n 13) (byteR (m13 x)) (boolC (eqI n 14) (byteR (m14 x)) (.stuck 601)))))))
noncomputable def timesS : Summ := fun args _ _ => args2 args fun u v => optC (unl1 u) (.stuck 601) fun n => optC (unb1 v) (.stuck 601) fun x => timesL n x
noncomputable def cfg1 : Cfg := cfgOf (sumsOf [(114, dblS)])
theorem cfg1OK : CfgOK cfg1 := sumsOf_ok (all1 dblOK)
theorem times_run (x : BitVec 8) :
    callSim cfg1 400 116 [.int .u8 (.lit 1), .int .u8 (.b8 x)] [] = .done (.int .u8 (.b8 (BitVec.ofInt 8 0 ^^^ x))) [] ∧
    callSim cfg1 400 116 [.int .u8 (.lit 2), .int .u8 (.b8 x)] [] = .done (.int .u8 (.b8 (BitVec.ofInt 8 0 ^^^ dbl x))) [] ∧
    callSim cfg1 400 116 [.int .u8 (.lit 3), .int .u8 (.b8 x)] [] = .done (.int .u8 (.b8 (BitVec.ofInt 8 0 ^^^ x ^^^ dbl x))) [] ∧
    callSim cfg1 400 116 [.int .u8 (.lit 9), .int .u8 (.b8 x)] [] = .done (.int .u8 (.b8 (BitVec.ofInt 8 0 ^^^ x ^^^ dbl (dbl (dbl x))))) [] ∧
    callSim cfg1 400 116 [.int .u8 (.lit 11), .int .u8 (.b8 x)] [] = .done (.int .u8 (.b8 (BitVec.ofInt 8 0 ^^^ x ^^^ dbl x ^^^ dbl (dbl (dbl x))))) [] ∧
    callSim cfg1 400 116 [.int .u8 (.lit 13), .int .u8 (.b8 x)] [] = .done (.int .u8 (.b8 (BitVec.ofInt 8 0 ^^^ x ^^^ dbl (dbl x) ^^^ dbl (dbl (dbl x))))) [] ∧
    callSim cfg1 400 116 [.int .u8 (.lit 14), .int .u8 (.b8 x)] [] = .done (.int .u8 (.b8 (BitVec.ofInt 8 0 ^^^ dbl x ^^^ dbl (dbl x) ^^^ dbl (dbl (dbl x))))) [] := by
  refine ⟨?_, ?_, ?_, ?_, ?_, ?_, ?_⟩ <;> kernel_rfl
theorem timesOK : SumOK Tryz.prog 116 timesS := by
  intro glob O w0 β H w base args vs hH hG ha
  refine args2_sat fun u v hv => optC_only fun n hn => optC_only fun x hx => ?_
  subst hv
  have hu := unl1_spec hn
  subst hu
  obtain ⟨h1, h2, h3, h9, h11, h13, h14⟩ := times_run x
  have key : ∀ (m : Int) (y z : BitVec 8) (o : R SumRes), callSim cfg1 400 116 [.int .u8 (.lit m), .int .u8 (.b8 x)] [] = .done (.int .u8 (.b8 z)) [] → z = y → o.Sat (SumSem Tryz.prog H β w base 116 vs) →
      (boolC (eqI n m) (byteR y) o).Sat (SumSem Tryz.prog H β w base 116 vs) := by
    intro m y z o hrun hz ho
    refine boolC_sat (fun hm => ?_) fun _ => ho
    have hn := eqI_spec hm
    subst hn; subst hz
    refine sum_run cfg1OK rfl 400 hH ⟨[], [], [.int .u8 (.lit n), .int .u8 (.b8 x)]⟩ (impL_cons (.refl _) (impL_cons (unb1_imp hx) impL_nil) _ _ ha) (fits0 rfl) [] (by simp) (by simp) ?_
    rw [hrun]
    exact ends0 rfl rfl rfl
  have z0 : BitVec.ofInt 8 0 = 0#8 := by rfl
  rw [z0] at h1 h2 h3 h9 h11 h13 h14
  refine key 1 _ _ _ h1 (by simp) (key 2 _ _ _ h2 (by simp) (key 3 _ _ _ h3 (by simp [m3]) (key 9 _ _ _ h9 (by simp [m9]) (key 11 _ _ _ h11 (by simp [m11]) (key 13 _ _ _ h13 (by simp [m13]) (key 14 _ _ _ h14 (by simp [m14]) ?_))))))
  trivial

/- The place from which shifting takes a byte. -/
def shiftN (n : Nat) : Nat := (4 * (n / 4 + n % 4) + n % 4) % 16
noncomputable def shiftedS : Summ := fun args _ _ => args1 args fun v => optC (litI v) (.stuck 630) fun n => boolC (Nat.blt n 16) (.ok ⟨.int .i64 (.lit (.ofNat (shiftN n))), [], []⟩) (.stuck 630)
theorem shifted_run (n : Nat) (h : n < 16) : callSim cfg0 200 109 [.int .i64 (.lit (.ofNat n))] [] = .done (.int .i64 (.lit (.ofNat (shiftN n)))) [] := by
  have h' : n = 0 ∨ n = 1 ∨ n = 2 ∨ n = 3 ∨ n = 4 ∨ n = 5 ∨ n = 6 ∨ n = 7 ∨ n = 8 ∨ n = 9 ∨ n = 10 ∨ n = 11 ∨ n = 12 ∨ n = 13 ∨ n = 14 ∨ n = 15 := by omega
  rcases h' with rfl | rfl | rfl | rfl | rfl | rfl | rfl | rfl | rfl | rfl | rfl | rfl | rfl | rfl | rfl | rfl <;> (show (_ : Tree) = _) <;> kernel_rfl
theorem shiftedOK : SumOK Tryz.prog 109 shiftedS := by
  intro glob O w0 β H w base args vs hH hG ha
  refine args1_sat fun v hv => optC_only fun n hn => boolC_only fun hlt => ?_
  rw [hv, litI_spec hn] at ha
  refine sum_run cfg0OK rfl 200 hH ⟨[], [], [.int .i64 (.lit (.ofNat n))]⟩ ha (fits0 rfl) [] (by simp) (by simp) ?_
  rw [shifted_run n (blt_spec hlt)]
  exact ends0 rfl rfl rfl

end Go.Proofs.YtflafdhmmcknhaaGreatDoor.Aes


/-
  bytes.Clone: what it comes to.
-/
namespace Go.Proofs.YtflafdhmmcknhaaGreatDoor.Aes
open Go.Sim
open Go.Proofs
variable {α : Type}

noncomputable def bytesFrom (X : Nat → BitVec 8) (o n : Nat) : List (BitVec 8) := mapN (fun i => X (o + i)) (fromN n 0)
theorem fromN_range : ∀ n k : Nat, fromN n k = List.range' k n := by
  intro n
  induction n with
  | zero => intro k; rfl
  | succ n ih => intro k; show k :: fromN n (k + 1) = _; rw [ih]; rfl
theorem bytesFrom_length (X : Nat → BitVec 8) (o n : Nat) : (bytesFrom X o n).length = n := by
  unfold bytesFrom
  rw [mapN_eq, fromN_range]; simp
theorem bytesFrom_get (X : Nat → BitVec 8) (o n i : Nat) (h : i < n) : (bytesFrom X o n)[i]? = some (X (o + i)) := by
  unfold bytesFrom
  rw [mapN_eq, fromN_range, List.getElem?_map, List.getElem?_range' h]; simp
theorem bx_den {γ : Val} : ∀ xs : List (BitVec 8), SV.denL γ (bx xs) = some (xs.map fun x => Value.int .u8 (x.toNat : Int))
  | [] => rfl
  | _ :: xs => denL_cons.2 ⟨_, _, rfl, bx_den xs, rfl⟩
/-- a row of bytes, one by one -/
theorem fn_imp_lst (X : Nat → BitVec 8) (o n : Nat) : (Cells.fn (fun i => byteF X (o + i)) n).Imp (.lst (bx (bytesFrom X o n))) := by
  intro γ vs h
  obtain ⟨h1, h2⟩ := h
  show SV.denL γ (bx (bytesFrom X o n)) = some vs
  rw [bx_den]
  congr 1
  apply List.ext_getElem?
  intro i
  rw [List.getElem?_map]
  by_cases hi : i < n
  · rw [bytesFrom_get X o n i hi]
    have hv : vs[i]? = some vs[i] := List.getElem?_eq_getElem (by omega)
    have := h2 i _ hv
    rw [hv]; exact this
  · rw [List.getElem?_eq_none (by rw [bytesFrom_length]; omega), List.getElem?_eq_none (by omega)]; rfl
theorem clone_run (X : Nat → BitVec 8) (o n k m : Nat) : outO [2] (callSim cfg0 6000 50 [.slice ⟨0, .sym o⟩ (.sym k) (.sym m)] [rowF X n]) [false] =
    ([o + k ≤ n, decide (k = 0) = false, roomy k 1 ∧ 1 = 1], some (.slice ⟨2, .lit 0⟩ (.sym k) (.rest 2 0), [some (.own (.fn (fun i => byteF X (o + i)) k) false 5)])) := by kernel_rfl
theorem clone_zero (X : Nat → BitVec 8) (o n k m : Nat) : outO [1] (callSim cfg0 6000 50 [.slice ⟨0, .sym o⟩ (.sym k) (.sym m)] [rowF X n]) [true] =
    ([o + k ≤ n, decide (k = 0) = true, 1 = 1], some (.slice ⟨1, .lit 0⟩ (.lit 0) (.lit 0), [some (.own (.lst []) true 5)])) := by kernel_rfl
theorem clone_nil : outP [] (callSim cfg0 6000 50 [.nilSlice] []) = ([], some (.nilSlice, [])) := by kernel_rfl
noncomputable def clone0 (n o base k : Nat) : R SumRes := .need (o + k ≤ n) (.ok ⟨.slice ⟨base, .lit 0⟩ (.lit 0) (.lit 0), [], [.own (.lst []) true 5]⟩)
noncomputable def cloneL (X : Nat → BitVec 8) (n o base k : Nat) : R SumRes := boolC (Nat.beq k 0) (clone0 n o base k) (boolC (Nat.blt k 140737488355328) (.need (o + k ≤ n) (.ok ⟨.slice ⟨base, .lit 0⟩ (.lit k) (.rest base 0), [], [.own (.lst (bx (bytesFrom X o k))) false 5]⟩)) (.stuck 760))
noncomputable def cloneV (X : Nat → BitVec 8) (n o base k : Nat) : R SumRes := .fork (decide (k = 0)) (clone0 n o base k) (.need (o + k ≤ n ∧ roomy k 1) (.ok ⟨.slice ⟨base, .lit 0⟩ (.sym k) (.rest base 0), [], [.own (.fn (fun i => byteF X (o + i)) k) false 5]⟩))
noncomputable def cloneS : Summ := fun args H base => args1 args fun v => sliceR v (.ok ⟨.nilSlice, [], []⟩) fun a l => bytesE (nth H a.nm) fun X n =>
  SN.rec (motive := fun _ => R SumRes) (fun k => cloneL X n a.off.den base k) (fun k => cloneV X n a.off.den base k) (fun _ _ => .stuck 761) l
theorem cloneOK : SumOK Tryz.prog 50 cloneS := by
  intro glob O w0 β H w base args vs hH hG ha
  refine args1_sat fun v hv => sliceR_sat (fun hn => ?_) fun a l cc hs => bytesE_sat fun X n ht => ?_
  · rw [hv, hn] at ha
    exact sum_out cfg0OK rfl 6000 hH ⟨[], [], [.nilSlice]⟩ ha (fits0 rfl) [] (by simp) (by simp) clone_nil (by simp) fun H2 _ => ends0 rfl rfl rfl
  · rw [hv, hs] at ha
    rw [nth_eq] at ht
    obtain ⟨y, zs, hy, hz, rfl⟩ := denL_cons.1 ha
    obtain ⟨m, hlm, hd, _, _⟩ := slice_den hy
    have key : ∀ (k : Nat) (r : SumRes), l.den = k → k ≠ 0 → a.off.den + k ≤ n → roomy k 1 → r.sets = [] → ((SV.slice ⟨base, .lit 0⟩ (.sym k) (.rest base 0)).Imp r.v) →
        (∃ c, (Cells.fn (fun i => byteF X (a.off.den + i)) k).Imp c ∧ r.news = [.own c false 5]) → SumSem Tryz.prog H β w base 50 (y :: zs) r := by
      intro k r hk hk0 hle hro hsets hval hnews
      obtain ⟨c, hc, hnews⟩ := hnews
      rw [hk] at hd
      refine sum_outO cfg0OK rfl 6000 hH ⟨[a.nm], [rowF X n], [.slice ⟨0, .sym a.off.den⟩ (.sym k) (.sym m)]⟩ (denL_cons.2 ⟨_, _, hd, hz, rfl⟩) (Ifc.fits (by simp) rfl ⟨⟨ht _, rowF_uses _ _ _⟩, trivial⟩) [2] (by simp) (by simp)
        (clone_run X a.off.den n k m) (all_cons hle (all_cons (decide_eq_false hk0) (all_cons ⟨hro, rfl⟩ all_nil))) fun H2 hH2 => ⟨hval, rfl, by rw [hsets]; trivial, ?_⟩
      · rw [hnews]
        have hH2 : H2[2]? = some (.own (.fn (fun i => byteF X (a.off.den + i)) k) false 5) := (List.cons.inj hH2).1
        exact ⟨given_imp hH2 (fun _ => rfl) hc, trivial⟩
    have key0 : ∀ k : Nat, l.den = k → k = 0 → (clone0 n a.off.den base k).Sat (SumSem Tryz.prog H β w base 50 (y :: zs)) := by
      intro k hk hk0 hle
      rw [hk] at hd
      exact sum_outO cfg0OK rfl 6000 hH ⟨[a.nm], [rowF X n], [.slice ⟨0, .sym a.off.den⟩ (.sym k) (.sym m)]⟩ (denL_cons.2 ⟨_, _, hd, hz, rfl⟩) (Ifc.fits (by simp) rfl ⟨⟨ht _, rowF_uses _ _ _⟩, trivial⟩) [1] (by simp) (by simp)
        (clone_zero X a.off.den n k m) (all_cons hle (all_cons (decide_eq_true hk0) (all_cons rfl all_nil))) fun H2 hH2 => ⟨.refl _, rfl, trivial, ⟨given_own (List.cons.inj hH2).1 rfl rfl, trivial⟩⟩
    cases l with
    | lit k =>
      refine boolC_sat (fun h0 => key0 k rfl (beq_spec h0)) fun h0 => boolC_only fun hlt => fun hle => key k _ rfl (beq_ne h0) hle ⟨?_, blt_spec hlt⟩ rfl (.refl _) ⟨_, fn_imp_lst X _ k, rfl⟩
      have := blt_spec hlt; omega
    | sym k => exact ⟨fun h0 => key0 k rfl (of_decide_eq_true h0), fun h0 => fun h => key k _ rfl (of_decide_eq_false h0) h.1 h.2 rfl (.refl _) ⟨_, .refl _, rfl⟩⟩
    | byt => trivial

end Go.Proofs.YtflafdhmmcknhaaGreatDoor.Aes


/-
  The profiles: the map of kinds.
-/
namespace Go.Proofs.YtflafdhmmcknhaaGreatDoor.Aes
open Go.Sim
open Go.Proofs
variable {α : Type}

set_option maxRecDepth 100000
noncomputable def args0 (args : List SV) (r : R α) : R α := List.rec (motive := fun _ => R α) r (fun _ _ _ => .stuck 700) args
theorem args0_sat {args : List SV} {r : R α} {φ : α → Prop} (h : args = [] → r.Sat φ) : (args0 args r).Sat φ := by
  cases args with
  | nil => exact h rfl
  | cons => trivial
noncomputable def esOf (t : Tree) : List (SV × SV × Nat) := Tree.rec (motive := fun _ => List (SV × SV × Nat)) (fun _ H => match H with | [.obj (.map es _)] => es | _ => []) (fun _ => []) (fun _ _ ih => ih) (fun _ _ _ a _ => a) (fun _ => []) (fun _ ih => ih fun _ => 0) t
noncomputable def kindsT : Tree := callSim cfg0 400 16 [] []
noncomputable def kindsEs : List (SV × SV × Nat) := esOf kindsT
theorem kinds_run : outP [0] kindsT = ([], some (.map 0, [some (.obj (.map kindsEs 2))])) := by kernel_rfl
theorem kinds_ren (g : Nat → Nat) : (SObj.map kindsEs 2).ren g = .map kindsEs 2 := by kernel_rfl
theorem kinds_uses (p : Nat → Bool) : (SObj.map kindsEs 2).uses p = true := by kernel_rfl
noncomputable def kindsS : Summ := fun args _ base => args0 args (.ok ⟨.map base, [], [.obj (.map kindsEs 2)]⟩)
theorem kindsOK : SumOK Tryz.prog 16 kindsS := by
  intro glob O w0 β H w base args vs hH hG ha
  refine args0_sat fun hv => ?_
  rw [hv] at ha
  refine sum_smallO cfg0OK hH ⟨[], [], []⟩ (fun g j h => by cases h) ha (fits0 rfl) [] [0] (fun j c w el h => by simp at h) (fun j h => by cases h) (fun j h => Nat.zero_le _) (by simp) (by simp)
    (outP_ob0 kinds_run fun H2 hH2 => ⟨SV.imp_of_eq rfl, rfl, rfl, fun i j h => by simp at h, rfl, fun i j h => ?_⟩)
  match i, h with
  | 0, h =>
    cases h
    exact ⟨_, rfl, .inr ⟨.map kindsEs 2, (List.cons.inj hH2).1, kinds_uses _, by rw [kinds_ren]⟩⟩
end Go.Proofs.YtflafdhmmcknhaaGreatDoor.Aes


/-
  The profiles: find.
-/
namespace Go.Proofs.YtflafdhmmcknhaaGreatDoor.Aes
open Go.Sim
open Go.Proofs
variable {α : Type}

set_option maxRecDepth 1000000
noncomputable def cfgF : Cfg := cfgOf (sumsOf [(16, kindsS)])
theorem cfgFOK : CfgOK cfgF := sumsOf_ok (all1 kindsOK)
noncomputable def fdK (p v : Int) (s : SV) : SV := .agg [.int .i64 (.sym p), .int .i64 (.sym v), s]
noncomputable def fdT (p v : Int) (o l m : Nat) : Tree := callSim cfgF 400 24 [fdK p v (.slice ⟨0, .sym o⟩ (.sym l) (.sym m))] [.gone]
noncomputable def fdN (p v : Int) : Tree := callSim cfgF 400 24 [fdK p v .nilSlice] []
noncomputable def kName (i : Nat) : SV := optC (nth kindsEs i) undefS fun e => e.2.1.asAgg undefS fun l => optC (nth l 0) undefS fun v => v
noncomputable def fnV (f : FuncId) : SV := .func (.fn (.func f)) [] []
noncomputable def iL (n : Int) : SV := .int .i64 (.lit n)
noncomputable def kv1 : SV := .agg [kName 0, iL 16, iL 16, iL 16, iL 16, fnV 29, fnV 30, fnV 31]
noncomputable def kv2 : SV := .agg [kName 1, iL 32, iL 16, iL 32, iL 32, fnV 32, fnV 33, fnV 34]
noncomputable def kv0 : SV := optC (outO [] (callSim cfgF 400 24 [.agg [iL 3, iL 0, .nilSlice]] []) []).2 undefS fun r => SV.rec (motive_1 := fun _ => SV) (motive_2 := fun _ => Unit) (fun _ _ => undefS) (fun _ => undefS) (fun _ => undefS) (fun _ => undefS) undefS (fun _ _ _ => undefS) undefS (fun _ => undefS) undefS (fun _ _ _ _ _ => undefS) undefS (fun _ _ _ => undefS) undefS (fun _ _ => undefS) (fun l _ => optC (nth l 0) undefS fun v => v) (fun _ => undefS) (fun _ _ _ _ => undefS) () (fun _ _ _ _ => ()) r.1
noncomputable def fdV (k : SV) (b : SB) : Option (SV × List (Option SO)) := some (.tuple [k, .bool b], [])
section
variable (p v : Int) (o l m : Nat)
theorem fd_none : outO [] (fdT p v o l m) [false, false] = ([(p == 1) = false, (p == 2) = false], fdV kv0 (.lit false)) := by kernel_rfl
theorem fd_len1 : outO [] (fdT p v o l m) [true, false, false, false, false] = ([(p == 1) = true, ((l : Int) == 16) = false, ((l : Int) == 16) = false, ((l : Int) == 16) = false, ((l : Int) == 16) = false], fdV kv1 (.lit false)) := by kernel_rfl
theorem fd_neg1 : outO [] (fdT p v o l m) [true, true, false, false, false, false] = ([(p == 1) = true, ((l : Int) == 16) = true, decide (v ≥ 0) = false, decide (v ≥ 0) = false, decide (v ≥ 0) = false, decide (v ≥ 0) = false], fdV kv1 (.lit false)) := by kernel_rfl
theorem fd_ok1 : outO [] (fdT p v o l m) [true, true, true] = ([(p == 1) = true, ((l : Int) == 16) = true, decide (v ≥ 0) = true], fdV kv1 (.sym (decide (v ≤ 65535)))) := by kernel_rfl
theorem fd_len2 : outO [] (fdT p v o l m) [false, true, false, false, false, false] = ([(p == 1) = false, (p == 2) = true, ((l : Int) == 32) = false, ((l : Int) == 32) = false, ((l : Int) == 32) = false, ((l : Int) == 32) = false], fdV kv2 (.lit false)) := by kernel_rfl
theorem fd_neg2 : outO [] (fdT p v o l m) [false, true, true, false, false, false, false] = ([(p == 1) = false, (p == 2) = true, ((l : Int) == 32) = true, decide (v ≥ 0) = false, decide (v ≥ 0) = false, decide (v ≥ 0) = false, decide (v ≥ 0) = false], fdV kv2 (.lit false)) := by kernel_rfl
theorem fd_ok2 : outO [] (fdT p v o l m) [false, true, true, true] = ([(p == 1) = false, (p == 2) = true, ((l : Int) == 32) = true, decide (v ≥ 0) = true], fdV kv2 (.sym (decide (v ≤ 65535)))) := by kernel_rfl
theorem fn_none : outO [] (fdN p v) [false, false] = ([(p == 1) = false, (p == 2) = false], fdV kv0 (.lit false)) := by kernel_rfl
theorem fn_len1 : outO [] (fdN p v) [true] = ([(p == 1) = true], fdV kv1 (.lit false)) := by kernel_rfl
theorem fn_len2 : outO [] (fdN p v) [false, true] = ([(p == 1) = false, (p == 2) = true], fdV kv2 (.lit false)) := by kernel_rfl
end
end Go.Proofs.YtflafdhmmcknhaaGreatDoor.Aes


/-
  The profiles: the summary of find.
-/
namespace Go.Proofs.YtflafdhmmcknhaaGreatDoor.Aes
open Go.Sim
open Go.Proofs
variable {α : Type}

set_option maxRecDepth 100000
/-- a number: it is known, or there is a fork -/
noncomputable def isI (x : SI) (n : Int) (t f : R α) : R α := x.asLit (.fork (x.den == n) t f) fun a => boolC (eqI a n) t f
theorem isI_sat {x : SI} {n : Int} {t f : R α} {φ : α → Prop} (h : x.den = n → t.Sat φ) (h' : x.den ≠ n → f.Sat φ) : (isI x n t f).Sat φ := by
  unfold isI
  cases x with
  | lit m =>
    refine boolC_sat (fun hm => h (eqI_spec hm)) fun hm => h' fun e => ?_
    have e : m = n := e
    subst e
    rw [eqI_eq] at hm
    simp at hm
  | sym m => exact ⟨fun hm => h (by simpa using hm), fun hm => h' (by simpa using hm)⟩
  | b8 m => exact ⟨fun hm => h (by simpa using hm), fun hm => h' (by simpa using hm)⟩
  | b32 m => exact ⟨fun hm => h (by simpa using hm), fun hm => h' (by simpa using hm)⟩
  | b64 m => exact ⟨fun hm => h (by simpa using hm), fun hm => h' (by simpa using hm)⟩
/-- at least n -/
noncomputable def leI (n : Int) (x : SI) (t f : R α) : R α := x.asLit (.fork (decide (n ≤ x.den)) t f) fun a => boolC (decide (n ≤ a)) t f
theorem leI_sat {x : SI} {n : Int} {t f : R α} {φ : α → Prop} (h : n ≤ x.den → t.Sat φ) (h' : ¬ n ≤ x.den → f.Sat φ) : (leI n x t f).Sat φ := by
  unfold leI
  cases x with
  | lit m => exact boolC_sat (fun hm => h (of_decide_eq_true hm)) fun hm => h' (of_decide_eq_false hm)
  | sym m => exact ⟨fun hm => h (of_decide_eq_true hm), fun hm => h' (of_decide_eq_false hm)⟩
  | b8 m => exact ⟨fun hm => h (of_decide_eq_true hm), fun hm => h' (of_decide_eq_false hm)⟩
  | b32 m => exact ⟨fun hm => h (of_decide_eq_true hm), fun hm => h' (of_decide_eq_false hm)⟩
  | b64 m => exact ⟨fun hm => h (of_decide_eq_true hm), fun hm => h' (of_decide_eq_false hm)⟩
noncomputable def i64O (v : SV) (f : SI → R α) : R α := v.asInt (.stuck 781) fun k x => boolC (eqK k .i64) (f x) (.stuck 781)
theorem i64O_sat {v : SV} {f : SI → R α} {φ : α → Prop} (h : ∀ x, v = .int .i64 x → (f x).Sat φ) : (i64O v f).Sat φ := by
  unfold i64O
  rcases asInt_cases v with ⟨k, x, rfl⟩ | hv
  · refine boolC_only fun hk => h x ?_
    rw [eqK_spec hk]
  · rw [hv]; trivial
noncomputable def fdR (k : SV) (b : Bool) : R SumRes := .ok ⟨.tuple [k, .bool (.lit b)], [], []⟩
noncomputable def fdOne (k : SV) (n : Nat) (l : SN) (v : SI) : R SumRes := lenIs l n (leI 0 v (isLe v 65535 (fdR k true) (fdR k false)) (fdR k false)) (fdR k false)
where isLe (x : SI) (n : Int) (t f : R SumRes) : R SumRes := x.asLit (.fork (decide (x.den ≤ n)) t f) fun a => boolC (decide (a ≤ n)) t f
theorem isLe_sat {x : SI} {n : Int} {t f : R SumRes} {φ : SumRes → Prop} (h : x.den ≤ n → t.Sat φ) (h' : ¬ x.den ≤ n → f.Sat φ) : (fdOne.isLe x n t f).Sat φ := by
  unfold fdOne.isLe
  cases x with
  | lit m => exact boolC_sat (fun hm => h (of_decide_eq_true hm)) fun hm => h' (of_decide_eq_false hm)
  | sym m => exact ⟨fun hm => h (of_decide_eq_true hm), fun hm => h' (of_decide_eq_false hm)⟩
  | b8 m => exact ⟨fun hm => h (of_decide_eq_true hm), fun hm => h' (of_decide_eq_false hm)⟩
  | b32 m => exact ⟨fun hm => h (of_decide_eq_true hm), fun hm => h' (of_decide_eq_false hm)⟩
  | b64 m => exact ⟨fun hm => h (of_decide_eq_true hm), fun hm => h' (of_decide_eq_false hm)⟩
noncomputable def findS : Summ := fun args H _ => args1 args fun k => k.asAgg (.stuck 782) fun l => args3 l fun p v s => i64O p fun p => i64O v fun v =>
  sliceR s (isI p 1 (fdR kv1 false) (isI p 2 (fdR kv2 false) (fdR kv0 false))) fun a l => boolC (placedE (nth H a.nm)) (isI p 1 (fdOne kv1 16 l v) (isI p 2 (fdOne kv2 32 l v) (fdR kv0 false))) (.stuck 783)
theorem kv_plain (g : Nat → Nat) (p : Nat → Bool) : (kv0.ren g = kv0 ∧ kv0.uses p = true) ∧ (kv1.ren g = kv1 ∧ kv1.uses p = true) ∧ (kv2.ren g = kv2 ∧ kv2.uses p = true) := ⟨⟨by kernel_rfl, by kernel_rfl⟩, ⟨by kernel_rfl, by kernel_rfl⟩, ⟨by kernel_rfl, by kernel_rfl⟩⟩
theorem endsF {I : Ifc} {base : Nat} {k : SV} {b : SB} {c : Bool} (ho : ownsOf I.ents 0 = []) (hk : ∀ g p, k.ren g = k ∧ k.uses p = true) (hb : b.den = c) (H : List SO) : I.Ends base [] ⟨.tuple [k, .bool (.lit c)], [], []⟩ (.tuple [k, .bool b]) H := by
  refine ⟨?_, ?_, by rw [ho]; trivial, trivial⟩
  · show (SV.tuple [k.ren _, .bool b]).Imp _
    rw [(hk _ (fun _ => true)).1]
    intro γ x hx
    subst hb
    cases b with
    | lit b => exact hx
    | sym b => exact hx
  · show (k.uses _ && (true && true)) = true
    rw [(hk (fun n => n) _).2]; rfl
theorem findOK : SumOK Tryz.prog 24 findS := by
  intro glob O w0 β H w base args vs hH hG ha
  refine args1_sat fun k hv => ?_
  rcases asAgg_cases k with ⟨l, rfl⟩ | hno
  case inr => rw [hno]; trivial
  refine args3_sat fun p v s hl => i64O_sat fun p' hp => i64O_sat fun v' hv' => ?_
  subst hl hp hv'
  rw [hv] at ha
  have h0 := fun g p => (kv_plain g p).1
  have h1 := fun g p => (kv_plain g p).2.1
  have h2 := fun g p => (kv_plain g p).2.2
  refine sliceR_sat (fun hn => ?_) fun a len c hs => boolC_only fun hpl => ?_
  · subst hn
    have ha' : SV.denL β [fdK p'.den v'.den .nilSlice] = some vs := denL1 ha (agg_imp (impL_cons (int_imp0 rfl) (impL_cons (int_imp0 rfl) (impL_cons (.refl _) impL_nil))))
    have key : ∀ {ds cs k}, outO [] (fdN p'.den v'.den) ds = (cs, fdV k (.lit false)) → (∀ q ∈ cs, q) → (∀ g p, k.ren g = k ∧ k.uses p = true) → SumSem Tryz.prog H β w base 24 vs ⟨.tuple [k, .bool (.lit false)], [], []⟩ := by
      intro ds cs k hr hc hk
      exact sum_outO cfgFOK rfl 400 hH ⟨[], [], [fdK p'.den v'.den .nilSlice]⟩ ha' (fits0 rfl) [] (by simp) (by simp) hr hc fun H2 _ => endsF (b := .lit false) (c := false) rfl hk rfl H2
    refine isI_sat (fun hp => ?_) fun hp => isI_sat (fun hp2 => ?_) fun hp2 => ?_
    · exact key (fn_len1 p'.den v'.den) (all_cons (by simp [hp]) all_nil) h1
    · exact key (fn_len2 p'.den v'.den) (all_cons (by simp [hp]) (all_cons (by simp [hp2]) all_nil)) h2
    · exact key (fn_none p'.den v'.den) (all_cons (by simp [hp]) (all_cons (by simp [hp2]) all_nil)) h0
  · subst hs
    obtain ⟨x, ys, hx, hys, rfl⟩ := denL_cons.1 ha
    simp only [SV.den, SV.denL, Option.map_eq_some_iff, Option.bind_eq_some_iff] at hx
    obtain ⟨us, ⟨u1, hu1, us1, ⟨u2, hu2, us2, ⟨u3, hu3, us3, hus3, rfl⟩, rfl⟩, rfl⟩, rfl⟩ := hx
    have hu3' : (SV.slice a len c).den β = some u3 := by simpa only [SV.den, Option.bind_eq_some_iff] using hu3
    obtain ⟨m, hlm, hd, _, _⟩ := slice_den hu3'
    have ha' : SV.denL β [fdK p'.den v'.den (.slice ⟨a.nm, .sym a.off.den⟩ (.sym len.den) (.sym m))] = some (.agg (u1 :: u2 :: u3 :: us3).toArray :: ys) := by
      refine denL_cons.2 ⟨_, _, ?_, hys, rfl⟩
      show (SV.agg _).den β = _
      rw [SV.den]
      simp only [Option.map_eq_some_iff]
      exact ⟨_, denL_cons.2 ⟨u1, _, hu1, denL_cons.2 ⟨u2, _, hu2, denL_cons.2 ⟨u3, _, hd, hus3, rfl⟩, rfl⟩, rfl⟩, rfl⟩
    have key : ∀ {ds cs k b c}, outO [] (fdT p'.den v'.den a.off.den len.den m) ds = (cs, fdV k b) → (∀ q ∈ cs, q) → (∀ g p, k.ren g = k ∧ k.uses p = true) → b.den = c → SumSem Tryz.prog H β w base 24 (.agg (u1 :: u2 :: u3 :: us3).toArray :: ys) ⟨.tuple [k, .bool (.lit c)], [], []⟩ := by
      intro ds cs k b c hr hc hk hb
      refine sum_outO cfgFOK rfl 400 hH ⟨[a.nm], [.gone], [fdK p'.den v'.den (.slice ⟨0, .sym a.off.den⟩ (.sym len.den) (.sym m))]⟩ ha' (Ifc.fits (by simp) rfl ⟨⟨?_, trivial⟩, trivial⟩) [] (by simp) (by simp) hr hc fun H2 _ => endsF rfl hk hb H2
      have := taken_gone (f := (Ifc.big ⟨[a.nm], [.gone], [fdK p'.den v'.den (.slice ⟨0, .sym a.off.den⟩ (.sym len.den) (.sym m))]⟩)) hpl
      rw [nth_eq] at this
      exact this
    have f4 : ∀ {q : Prop}, q → ∀ p ∈ [q, q, q, q], p := fun h => all_cons h (all_cons h (all_cons h (all_cons h all_nil)))
    refine isI_sat (fun hp => ?_) fun hp => isI_sat (fun hp2 => ?_) fun hp2 => ?_
    · refine lenIs_sat (fun hl => leI_sat (fun hg => isLe_sat (fun hle => ?_) fun hle => ?_) fun hg => ?_) fun hl => ?_
      · exact key (fd_ok1 p'.den v'.den a.off.den len.den m) (all_cons (by simp [hp]) (all_cons (by simp [hl]) (all_cons (decide_eq_true hg) all_nil))) h1 (decide_eq_true hle)
      · exact key (fd_ok1 p'.den v'.den a.off.den len.den m) (all_cons (by simp [hp]) (all_cons (by simp [hl]) (all_cons (decide_eq_true hg) all_nil))) h1 (decide_eq_false hle)
      · exact key (fd_neg1 p'.den v'.den a.off.den len.den m) (all_cons (by simp [hp]) (all_cons (by simp [hl]) (f4 (decide_eq_false hg)))) h1 rfl
      · exact key (fd_len1 p'.den v'.den a.off.den len.den m) (all_cons (by simp [hp]) (f4 (by rw [beq_eq_false_iff_ne]; omega))) h1 rfl
    · refine lenIs_sat (fun hl => leI_sat (fun hg => isLe_sat (fun hle => ?_) fun hle => ?_) fun hg => ?_) fun hl => ?_
      · exact key (fd_ok2 p'.den v'.den a.off.den len.den m) (all_cons (by simp [hp]) (all_cons (by simp [hp2]) (all_cons (by simp [hl]) (all_cons (decide_eq_true hg) all_nil)))) h2 (decide_eq_true hle)
      · exact key (fd_ok2 p'.den v'.den a.off.den len.den m) (all_cons (by simp [hp]) (all_cons (by simp [hp2]) (all_cons (by simp [hl]) (all_cons (decide_eq_true hg) all_nil)))) h2 (decide_eq_false hle)
      · exact key (fd_neg2 p'.den v'.den a.off.den len.den m) (all_cons (by simp [hp]) (all_cons (by simp [hp2]) (all_cons (by simp [hl]) (f4 (decide_eq_false hg))))) h2 rfl
      · exact key (fd_len2 p'.den v'.den a.off.den len.den m) (all_cons (by simp [hp]) (all_cons (by simp [hp2]) (f4 (by rw [beq_eq_false_iff_ne]; omega)))) h2 rfl
    · exact key (fd_none p'.den v'.den a.off.den len.den m) (all_cons (by simp [hp]) (all_cons (by simp [hp2]) all_nil)) h0 rfl
end Go.Proofs.YtflafdhmmcknhaaGreatDoor.Aes


/-
  The profiles: numbers in four bytes, strings one after the other.
-/
namespace Go.Proofs.YtflafdhmmcknhaaGreatDoor.Aes
open Go.Sim
open Go.Proofs
variable {α : Type}

set_option maxRecDepth 100000
noncomputable def num4 (u : Int) : List (BitVec 8) := [BitVec.ofInt 8 (u.fdiv (2 ^ 24)), BitVec.ofInt 8 (u.fdiv (2 ^ 16)), BitVec.ofInt 8 (u.fdiv (2 ^ 8)), BitVec.ofInt 8 u]
noncomputable def numS : Summ := fun args _ base => args1 args fun v => i64O v fun x => .ok ⟨.slice ⟨base, .lit 0⟩ (.lit 4) (.lit 4), [], [.own (.lst (bx (num4 x.den))) true 5]⟩
theorem numOK {f : FuncId} (hrun : ∀ u : Int, outO [0] (callSim cfg0 400 f [.int .i64 (.sym u)] []) [] = ([], some (.slice ⟨0, .lit 0⟩ (.lit 4) (.lit 4), [some (.own (.lst (bx (num4 u))) true 5)]))) : SumOK Tryz.prog f numS := by
  intro glob O w0 β H w base args vs hH hG ha
  refine args1_sat fun v hv => i64O_sat fun x hx => ?_
  subst hx
  rw [hv] at ha
  exact sum_outO cfg0OK rfl 400 hH ⟨[], [], [.int .i64 (.sym x.den)]⟩ (denL1 ha (int_imp0 rfl)) (fits0 rfl) [0] (by simp) (by simp) (hrun x.den) all_nil fun H2 hH2 => ⟨SV.imp_of_eq rfl, rfl, trivial, ⟨given_own (List.cons.inj hH2).1 (bx_uses _ _) (by show SO.own (.lst (SV.renL _ (bx _))) _ _ = _; rw [bx_ren]), trivial⟩⟩
theorem pnumOK : SumOK Tryz.prog 52 numS := numOK fun u => by kernel_rfl
theorem dnumOK : SumOK Tryz.prog 42 numS := numOK fun u => by kernel_rfl
/-- with a length that is known -/
noncomputable def Sl.valN (s : Sl) (nm n : Nat) : SV := .slice ⟨nm, .sym s.o⟩ (.lit n) (boolC s.b (.rest nm s.k) (.sym s.k))
/-- a slice of bytes whose length is known -/
noncomputable def partN (H : List SO) (v : SV) (f : Sl → Nat → Nat → R α) : R α := v.asSlice (.stuck 770) fun a l c => l.asLit (.stuck 788) fun n => optC (capL a.nm c) (.stuck 771) fun bk => boolC (newOne a.nm) (bytesE (nth H a.nm) fun X N => f ⟨X, N, a.off.den, n, bk.1, bk.2⟩ a.nm n) (.stuck 772)
theorem partN_sat {H : List SO} {v : SV} {f : Sl → Nat → Nat → R α} {φ : α → Prop} (h : ∀ t nm n, newOne nm = true → (∀ g, ∃ e', H[nm]? = some e' ∧ Taken g t.row e') → v.Imp (t.valN nm n) → t.n = n → (f t nm n).Sat φ) : (partN H v f).Sat φ := by
  unfold partN
  rcases asSlice_cases v with ⟨a, l, c, rfl⟩ | hv
  · cases l with
    | sym n => trivial
    | byt o x => trivial
    | lit n =>
      refine optC_only fun bk hbk => boolC_only fun hn => bytesE_sat fun X N ht => h ⟨X, N, a.off.den, n, bk.1, bk.2⟩ a.nm n hn (fun g => by rw [← nth_eq]; exact ht g) (fun γ x hx => ?_) rfl
      rw [den_slice] at hx
      obtain ⟨A, C, hA, hC, hle, rfl⟩ := hx
      rw [show (Sl.valN ⟨X, N, a.off.den, n, bk.1, bk.2⟩ a.nm n) = .slice ⟨a.nm, .sym a.off.den⟩ (.lit n) (boolC bk.1 (.rest a.nm bk.2) (.sym bk.2)) from rfl, den_slice]
      exact ⟨A, C, hA, by rw [← capL_den hbk]; exact hC, hle, rfl⟩
  · rw [hv]; trivial
theorem Sl.valN_ren (t : Sl) (f : Nat → Nat) (nm n : Nat) : (t.valN nm n).ren f = t.valN (f nm) n := by
  unfold Sl.valN
  cases t.b <;> rfl
theorem Sl.valN_uses (t : Sl) (p : Nat → Bool) (nm n : Nat) (h : p nm = true) : (t.valN nm n).uses p = true := by
  unfold Sl.valN
  cases t.b with
  | false => show p nm && true = true; rw [h]; rfl
  | true => show (p nm && p nm) = true; rw [h]; rfl
/- join -/
noncomputable def joT (a b : Sl) : Tree := callSim cfg0 4000 17 [.slice ⟨0, .lit 0⟩ (.lit 2) (.lit 2)] [.row (.lst [a.val 1, b.val 2]), a.row, b.row]
noncomputable def joinV (nm n : Nat) : SV := .slice ⟨nm, .lit 0⟩ (.sym n) (.rest nm 0)
noncomputable def joinF (a b : Sl) : Nat → BitVec 8 := catF (fun i => a.X (a.o + (0 + i))) a.n b.F
theorem join_run (a b : Sl) : outO [4] (joT a b) [false] = ([a.o + a.n ≤ a.N, decide (a.n = 0) = false, ((a.n * 1 < 140737488355328 ∧ a.n < 140737488355328) ∧ 1 = 1), (b.o + b.n ≤ b.N ∧ IsB (byteF b.X)), (0 + a.n ≤ a.n ∧ IsB (fun i => byteF a.X (a.o + i))), (((a.n + b.n) * 1 < 140737488355328 ∧ a.n + b.n < 140737488355328) ∧ 1 = 1)],
  some (joinV 4 (a.n + b.n), [some (.own (.fn (byteF (joinF a b)) (a.n + b.n)) false 5)])) := by kernel_rfl
noncomputable def joN (a : Sl) : Tree := callSim cfg0 4000 17 [.slice ⟨0, .lit 0⟩ (.lit 2) (.lit 2)] [.row (.lst [a.val 1, .nilSlice]), a.row]
noncomputable def jo1 (a : Sl) : Tree := callSim cfg0 4000 17 [.slice ⟨0, .lit 0⟩ (.lit 1) (.lit 1)] [.row (.lst [a.val 1]), a.row]
noncomputable def joinG (a : Sl) : Nat → BitVec 8 := fun i => a.X (a.o + i)
noncomputable def joinH (a : Sl) : Nat → BitVec 8 := catF (fun i => a.X (a.o + (0 + i))) a.n (fun _ => 0#8)
theorem join_nil (a : Sl) : outO [3] (joN a) [false] = ([a.o + a.n ≤ a.N, decide (a.n = 0) = false, ((a.n * 1 < 140737488355328 ∧ a.n < 140737488355328) ∧ 1 = 1), (0 + a.n ≤ a.n ∧ IsB (fun i => byteF a.X (a.o + i))), (((a.n + 0) * 1 < 140737488355328 ∧ a.n + 0 < 140737488355328) ∧ 1 = 1)],
  some (joinV 3 (a.n + 0), [some (.own (.fn (byteF (joinH a)) (a.n + 0)) false 5)])) := by kernel_rfl
theorem join_one (a : Sl) : outO [2] (jo1 a) [false] = ([a.o + a.n ≤ a.N, decide (a.n = 0) = false, ((a.n * 1 < 140737488355328 ∧ a.n < 140737488355328) ∧ 1 = 1)], some (joinV 2 a.n, [some (.own (.fn (byteF (joinG a)) a.n) false 5)])) := by kernel_rfl
theorem join_zero (a : Sl) : outO [] (jo1 a) [true] = ([a.o + a.n ≤ a.N, decide (a.n = 0) = true, 1 = 1], some (.nilSlice, [])) := by kernel_rfl
theorem slice_len_imp {a : SA} {l l' : SN} {c : SC} (h : l.den = l'.den) : (SV.slice a l c).Imp (.slice a l' c) := by
  intro γ x hx
  rw [den_slice] at hx ⊢
  rw [← h]; exact hx
noncomputable def bytesR (base n : Nat) (X : Nat → BitVec 8) : SumRes := ⟨joinV base n, [], [.own (.fn (byteF X) n) false 5]⟩
noncomputable def isLitS (u : SV) (t f : R α) : R α := u.asSlice f fun _ l _ => l.asLit f fun _ => t
theorem isLitS_sat {u : SV} {t f : R α} {φ : α → Prop} (h : t.Sat φ) (h' : f.Sat φ) : (isLitS u t f).Sat φ := by
  unfold isLitS
  rcases asSlice_cases u with ⟨a, l, c, rfl⟩ | hv
  · cases l with
    | lit n => exact h
    | sym n => exact h'
    | byt o x => exact h'
  · rw [hv]; exact h'
noncomputable def jo1S (H : List SO) (base pn : Nat) (l : List SV) : R SumRes := args1 l fun u => isLitS u
  (partN H u fun a an n => boolC (distN [pn, an]) (.need (okL a) (boolC (Nat.beq n 0) (.ok ⟨.nilSlice, [], []⟩) (.ok ⟨.slice ⟨base, .lit 0⟩ (.lit n) (.rest base 0), [], [.own (.lst (bx (tabB a.F n))) false 5]⟩))) (.stuck 784))
  (partL H u fun a an => boolC (distN [pn, an]) (.need (okL a) (isI (.sym a.n) 0 (.ok ⟨.nilSlice, [], []⟩) (.ok (bytesR base a.n a.F)))) (.stuck 784))
noncomputable def jo2S (H : List SO) (base pn : Nat) (l : List SV) : R SumRes := args2 l fun u v => partL H u fun a an => sliceR v (boolC (distN [pn, an]) (.need (okL a ∧ a.n ≠ 0) (.ok (bytesR base a.n a.F))) (.stuck 784)) fun _ _ =>
  partL H v fun b bn => boolC (distN [pn, an, bn]) (.need ((okL a ∧ a.n ≠ 0) ∧ okL b) (.ok (bytesR base (a.n + b.n) (two a b)))) (.stuck 784)
noncomputable def joinS : Summ := fun args H base => args1 args fun v => optC (slNm v) (.stuck 785) fun pn => optC (cellsE (nth H pn)) (.stuck 785) fun l => boolC (isSlO v pn 0 (lenN l)) (boolC (Nat.beq (lenN l) 1) (jo1S H base pn l) (jo2S H base pn l)) (.stuck 785)
theorem fn_imp_ltP {f g : Nat → SV} {n : Nat} (h : ∀ i, i < n → (f i).Imp (g i)) : (Cells.fn f n).Imp (.fn g n) := fun γ vs hv => ⟨hv.1, fun i x hx => h i (by have := (List.getElem?_eq_some_iff.1 hx).1; have := hv.1; omega) γ x (hv.2 i x hx)⟩
theorem given_bytesP {p : Nat → Bool} {g : Nat → Nat} {E : Option SO} {Y Z : Nat → BitVec 8} {n : Nat} {w : Bool} {el : TypeId} (hE : E = some (.own (.fn (byteF Y) n) w el)) (h : ∀ i, i < n → Y i = Z i) : Given p g E (.own (.fn (byteF Z) n) w el) :=
  ⟨_, w, el, _, hE, fun _ => rfl, fn_imp_ltP fun i hi => by show (SV.int .u8 (.b8 (Y i))).Imp (.int .u8 (.b8 (Z i))); rw [h i hi]; exact .refl _, rfl⟩
theorem endsB {I : Ifc} {base j n n' : Nat} {X X' : Nat → BitVec 8} {H : List SO} (hj : I.known j = false) (ho : ownsOf I.ents 0 = []) (hE : H[j]? = some (.own (.fn (byteF X) n) false 5)) (hn : n = n') (h : ∀ i, i < n → X i = X' i) : I.Ends base [j] (bytesR base n' X') (joinV j n) H := by
  subst hn
  have ho' : I.out base [j] j = base := by
    unfold Ifc.out
    rw [hj]
    show base + idxN j [j] = base
    rw [show idxN j [j] = boolC (Nat.beq j j) 0 _ from rfl, Nat.beq_refl]; rfl
  have hs : I.seen [j] j = true := by
    unfold Ifc.seen
    rw [hj]
    exact (memN_iff (n := j) (l := [j])).2 List.mem_cons_self
  refine ⟨?_, ?_, by rw [ho]; trivial, ⟨given_bytesP hE h, trivial⟩⟩
  · show (SV.slice ⟨I.out base [j] j, .lit 0⟩ (.sym n) (.rest (I.out base [j] j) 0)).Imp _
    rw [ho']; exact .refl _
  · show (I.seen [j] j && I.seen [j] j) = true
    rw [hs]; rfl
theorem joinOK : SumOK Tryz.prog 17 joinS := by
  intro glob O w0 β H w base args vs hH hG ha
  refine args1_sat fun v hv => optC_only fun pn hpn => optC_only fun l hl => boolC_only fun hp => ?_
  rw [hv, isSlO_spec hp] at ha
  rw [nth_eq] at hl
  refine boolC_sat (fun h1 => ?_) fun h1 => ?_
  · rw [beq_spec h1] at ha
    refine args1_sat fun u hu => ?_
    subst hu
    have one : ∀ (a : Sl) (an : Nat), (∀ g, ∃ e', H[an]? = some e' ∧ Taken g a.row e') → u.Imp (a.val an) → distN [pn, an] = true → okL a →
        (a.n = 0 → SumSem Tryz.prog H β w base 17 vs ⟨.nilSlice, [], []⟩) ∧ (a.n ≠ 0 → ∀ r : SumRes, (∀ H2 : List SO, H2[2]? = some (.own (.fn (byteF (joinG a)) a.n) false 5) → Ifc.Ends ⟨[pn, an], [.row (.lst [a.val 1]), a.row], [.slice ⟨0, .lit 0⟩ (.lit 1) (.lit 1)]⟩ base [2] r (joinV 2 a.n) H2) → SumSem Tryz.prog H β w base 17 vs r) := by
      intro a an hta hia hd hok
      have hfit : Ifc.Fits ⟨[pn, an], [.row (.lst [a.val 1]), a.row], [.slice ⟨0, .lit 0⟩ (.lit 1) (.lit 1)]⟩ H := Ifc.fits (distN_spec hd) rfl ⟨⟨taken_cells hl (by show SV.ImpL _ [(a.val 1).ren _]; rw [Sl.val_ren]; exact impL_cons hia impL_nil), by show ((a.val 1).uses _ && true) = true; rw [Sl.val_uses _ _ _ rfl]; rfl⟩, ⟨hta _, a.row_uses _⟩, trivial⟩
      obtain ⟨h2, h3⟩ := hok
      refine ⟨fun h0 => ?_, fun h0 r hr => ?_⟩
      · exact sum_outO cfg0OK rfl 4000 hH ⟨[pn, an], [.row (.lst [a.val 1]), a.row], [.slice ⟨0, .lit 0⟩ (.lit 1) (.lit 1)]⟩ ha hfit [] (by simp) (by simp) (join_zero a) (all_cons h2 (all_cons (decide_eq_true h0) (all_cons rfl all_nil))) fun H2 _ => ends0 rfl rfl rfl
      · exact sum_outO cfg0OK rfl 4000 hH ⟨[pn, an], [.row (.lst [a.val 1]), a.row], [.slice ⟨0, .lit 0⟩ (.lit 1) (.lit 1)]⟩ ha hfit [2] (by simp) (by simp) (join_one a) (all_cons h2 (all_cons (decide_eq_false h0) (all_cons ⟨⟨by omega, by omega⟩, rfl⟩ all_nil))) fun H2 hH2 => hr H2 (List.cons.inj hH2).1
    refine isLitS_sat (partN_sat fun a an n hna hta hia han => boolC_only fun hd => fun hok => ?_) (partL_sat fun a an hna hta hia => boolC_only fun hd => fun hok => ?_)
    · obtain ⟨k0, k1⟩ := one a an hta (fun γ x hx => slice_len_imp (l := .lit n) (l' := .sym a.n) han.symm γ x (hia γ x hx)) hd hok
      subst han
      refine boolC_sat (fun h0 => k0 (beq_spec h0)) fun h0 => k1 (beq_ne h0) _ fun H2 hE => ?_
      have h := endsB (I := ⟨[pn, an], [.row (.lst [a.val 1]), a.row], [.slice ⟨0, .lit 0⟩ (.lit 1) (.lit 1)]⟩) (base := base) (X' := joinG a) rfl rfl hE rfl fun _ _ => rfl
      refine ⟨fun γ x hx => slice_len_imp (l := .sym a.n) (l' := .lit a.n) rfl γ x (h.val γ x hx), h.uv, h.sets, ⟨given_imp hE (fun _ => rfl) ?_, trivial⟩⟩
      have := fn_imp_lst a.X a.o a.n
      exact this
    · obtain ⟨k0, k1⟩ := one a an hta hia hd hok
      refine isI_sat (fun h0 => k0 ?_) fun h0 => k1 ?_ _ fun H2 hE => endsB rfl rfl hE rfl fun _ _ => rfl
      · have h0 : (a.n : Int) = 0 := h0
        omega
      · have h0 : (a.n : Int) ≠ 0 := h0
        omega
  · refine args2_sat fun u v2 hu => partL_sat fun a an hna hta hia => ?_
    subst hu
    have ha : SV.denL β [.slice ⟨pn, .lit 0⟩ (.lit 2) (.lit 2)] = some vs := ha
    refine sliceR_sat (fun hnil => boolC_only fun hd => fun ⟨⟨h2, h3⟩, h0⟩ => ?_) fun _ _ _ _ => partL_sat fun b bn hnb htb hib => boolC_only fun hd => fun ⟨⟨⟨h2, h3⟩, h0⟩, ⟨h4, h5⟩⟩ => ?_
    · subst hnil
      have hfit : Ifc.Fits ⟨[pn, an], [.row (.lst [a.val 1, .nilSlice]), a.row], [.slice ⟨0, .lit 0⟩ (.lit 2) (.lit 2)]⟩ H := Ifc.fits (distN_spec hd) rfl ⟨⟨taken_cells hl (by show SV.ImpL _ [(a.val 1).ren _, .nilSlice]; rw [Sl.val_ren]; exact impL_cons hia (impL_cons (.refl _) impL_nil)), by show ((a.val 1).uses _ && (true && true)) = true; rw [Sl.val_uses _ _ _ rfl]; rfl⟩, ⟨hta _, a.row_uses _⟩, trivial⟩
      refine sum_outO cfg0OK rfl 4000 hH ⟨[pn, an], [.row (.lst [a.val 1, .nilSlice]), a.row], [.slice ⟨0, .lit 0⟩ (.lit 2) (.lit 2)]⟩ ha hfit [3] (by simp) (by simp) (join_nil a) (all_cons h2 (all_cons (decide_eq_false h0) (all_cons ⟨⟨by omega, by omega⟩, rfl⟩ (all_cons ⟨by omega, byteF_isB fun i => a.X (a.o + i)⟩ (all_cons ⟨⟨by omega, by omega⟩, rfl⟩ all_nil))))) fun H2 hH2 => endsB rfl rfl (List.cons.inj hH2).1 rfl fun i hi => ?_
      unfold joinH Sl.F
      rw [catF_lt (by omega), Nat.zero_add]
    · have hfit : Ifc.Fits ⟨[pn, an, bn], [.row (.lst [a.val 1, b.val 2]), a.row, b.row], [.slice ⟨0, .lit 0⟩ (.lit 2) (.lit 2)]⟩ H := Ifc.fits (distN_spec hd) rfl ⟨⟨taken_cells hl (by show SV.ImpL _ [(a.val 1).ren _, (b.val 2).ren _]; rw [Sl.val_ren, Sl.val_ren]; exact impL_cons hia (impL_cons hib impL_nil)), by show ((a.val 1).uses _ && ((b.val 2).uses _ && true)) = true; rw [Sl.val_uses _ _ _ rfl, Sl.val_uses _ _ _ rfl]; rfl⟩, ⟨hta _, a.row_uses _⟩, ⟨htb _, b.row_uses _⟩, trivial⟩
      refine sum_outO cfg0OK rfl 4000 hH ⟨[pn, an, bn], [.row (.lst [a.val 1, b.val 2]), a.row, b.row], [.slice ⟨0, .lit 0⟩ (.lit 2) (.lit 2)]⟩ ha hfit [4] (by simp) (by simp) (join_run a b) (all_cons h2 (all_cons (decide_eq_false h0) (all_cons ⟨⟨by omega, by omega⟩, rfl⟩ (all_cons ⟨h4, byteF_isB _⟩ (all_cons ⟨by omega, byteF_isB fun i => a.X (a.o + i)⟩ (all_cons ⟨⟨by omega, by omega⟩, rfl⟩ all_nil)))))) fun H2 hH2 => endsB rfl rfl (List.cons.inj hH2).1 rfl fun i hi => ?_
      unfold joinF two
      refine catF_congr (fun j hj => ?_) (fun _ => rfl) i
      unfold Sl.F
      rw [Nat.zero_add]
end Go.Proofs.YtflafdhmmcknhaaGreatDoor.Aes


/-
  The profiles: keys that are derived from keys.
-/
namespace Go.Proofs.YtflafdhmmcknhaaGreatDoor.Aes
open Go.Sim
open Go.Proofs
variable {α : Type}

set_option maxRecDepth 1000000
abbrev HashF := (Nat → BitVec 8) → Nat → List (BitVec 8)
noncomputable def cfgKd (F : HashF) : Cfg := cfgG globP (sumsOf [(65, hmS F), (50, cloneS), (42, numS)])
theorem cfgKdOK : CfgOK (cfgKd shaF) := sumsG_ok (allS hmOK (allS (cloneOK _) (allS (dnumOK _) (by simp))))
/-- with a capacity that is a number -/
noncomputable def Sl.pl (s : Sl) (m : Nat) : Sl := ⟨s.X, s.N, s.o, s.n, false, m⟩
theorem Sl.val_den {t : Sl} {nm : Nat} {γ : Val} {x : Value} (h : (t.val nm).den γ = some x) : ∃ m, t.n ≤ m ∧ ((t.pl m).val nm).den γ = some x := by
  obtain ⟨m, hm, hd, _, _⟩ := slice_den (show (SV.slice ⟨nm, .sym t.o⟩ (.sym t.n) (boolC t.b (.rest nm t.k) (.sym t.k))).den γ = some x from h)
  exact ⟨m, hm, hd⟩
noncomputable def slL (L : List (BitVec 8)) : Sl := ⟨byteAt L, lenN L, 0, lenN L, false, lenN L⟩
noncomputable def kdfM (lb : Sl) (n : Int) : Nat → BitVec 8 := four (slL (num4 1)) lb (slL [0#8]) (slL (num4 (8 * n)))
/-- a derived key -/
noncomputable def kdfB (F : HashF) (K : Nat → BitVec 8) (kn : Nat) (lb : Sl) (n : Int) : List (BitVec 8) := macB F K kn (kdfM lb n) (4 + lb.n + 1 + 4)
noncomputable def kdT (F : HashF) (k lb : Sl) (n : Int) : Tree := callSim (cfgKd F) 4000 19 [k.val 4, lb.val 5, .nilSlice, .int .i64 (.lit n)] (shaHP [k.row, lb.row])
noncomputable def kdC (k lb : Sl) (n : Int) : List Prop := [decide ((k.n : Int) > 4096) = false, decide ((lb.n : Int) > 4096) = false, IsB (byteF k.X), IsB (byteF lb.X), ((k.o + k.n ≤ k.N ∧ k.n ≤ 4096) ∧ okL (slL (num4 1)) ∧ okL lb ∧ okL (slL [0#8]) ∧ okL (slL (num4 (8 * n)))), n.toNat ≤ 32]
noncomputable def kdE (F : HashF) (k lb : Sl) (n : Nat) : SO := .own (.lst (bx (tabB (byteAt (kdfB F k.F k.n lb n)) n))) false 5
noncomputable def kdV (nm n : Nat) : SV := .tuple [.slice ⟨nm, .lit 0⟩ (.lit n) (.rest nm 0), .int .i64 (.lit 0)]
theorem kd_run16 (F : HashF) (k lb : Sl) (m m2 : Nat) : outO [22] (kdT F (k.pl m) (lb.pl m2) 16) [false, false] = (kdC k lb 16, some (kdV 22 16, [some (kdE F k lb 16)])) := by kernel_rfl
theorem kd_run32 (F : HashF) (k lb : Sl) (m m2 : Nat) : outO [22] (kdT F (k.pl m) (lb.pl m2) 32) [false, false] = (kdC k lb 32, some (kdV 22 32, [some (kdE F k lb 32)])) := by kernel_rfl
/- Copy -/
noncomputable def cfgCp : Cfg := cfgOf (sumsOf [(50, cloneS)])
theorem cfgCpOK : CfgOK cfgCp := sumsOf_ok (all1 cloneOK)
noncomputable def cpT (X : Nat → BitVec 8) (p q : Int) (o n k m : Nat) : Tree := callSim cfgCp 400 25 [fdK p q (.slice ⟨0, .sym o⟩ (.sym k) (.sym m))] [rowF X n]
theorem cp_run (X : Nat → BitVec 8) (p q : Int) (o n k m : Nat) : outO [3] (cpT X p q o n k m) [false] = ([IsB (byteF X), decide (k = 0) = false, (o + k ≤ n ∧ roomy k 1)], some (fdK p q (.slice ⟨3, .lit 0⟩ (.sym k) (.rest 3 0)), [some (.own (.fn (byteF (fun i => X (o + i))) k) false 5)])) := by kernel_rfl
theorem cp_zero (X : Nat → BitVec 8) (p q : Int) (o n k m : Nat) : outO [3] (cpT X p q o n k m) [true] = ([IsB (byteF X), decide (k = 0) = true, o + k ≤ n], some (fdK p q (.slice ⟨3, .lit 0⟩ (.lit 0) (.lit 0)), [some (.own (.lst []) true 5)])) := by kernel_rfl
theorem cp_nil (p q : Int) : outO [] (callSim cfgCp 400 25 [fdK p q .nilSlice] []) [] = ([], some (fdK p q .nilSlice, [])) := by kernel_rfl
end Go.Proofs.YtflafdhmmcknhaaGreatDoor.Aes


/-
  The profiles: the summaries of KDF and Copy.
-/
namespace Go.Proofs.YtflafdhmmcknhaaGreatDoor.Aes
open Go.Sim
open Go.Proofs
variable {α : Type}

set_option maxRecDepth 100000
noncomputable def kdR (F : HashF) (base : Nat) (k lb : Sl) (n : Nat) : SumRes := ⟨kdV base n, [], [kdE F k lb n]⟩
noncomputable def kdfS (F : HashF) : Summ := fun args H base => args4 args fun kv lv cv nv => shaTP H (partL H kv fun k kn => partL H lv fun lb ln => boolC (distN [kn, ln]) (sliceR cv (.need ((k.o + k.n ≤ k.N ∧ k.n ≤ 4096) ∧ lb.o + lb.n ≤ lb.N ∧ lb.n ≤ 4096)
  (optC (litI nv) (.stuck 786) fun n => boolC (Nat.beq n 16) (.ok (kdR F base k lb 16)) (boolC (Nat.beq n 32) (.ok (kdR F base k lb 32)) (.stuck 786)))) fun _ _ => .stuck 786) (.stuck 786))
theorem slL_ok {L : List (BitVec 8)} {n : Nat} (h : L.length = n) (hn : n ≤ 64) : okL (slL L) := by
  unfold slL okL
  rw [lenN_eq, h]
  exact ⟨by show 0 + n ≤ n; omega, by show n ≤ _; omega⟩
theorem kdC_all {k lb : Sl} {n : Int} (h1 : k.o + k.n ≤ k.N) (h2 : k.n ≤ 4096) (h3 : lb.o + lb.n ≤ lb.N) (h4 : lb.n ≤ 4096) (hn : n.toNat ≤ 32) : ∀ p ∈ kdC k lb n, p :=
  all_cons (decide_eq_false (by omega)) (all_cons (decide_eq_false (by omega)) (all_cons (byteF_isB _) (all_cons (byteF_isB _) (all_cons ⟨⟨h1, h2⟩, slL_ok (n := 4) rfl (by omega), ⟨h3, by omega⟩, slL_ok (n := 1) rfl (by omega), slL_ok (n := 4) rfl (by omega)⟩ (all_cons hn all_nil)))))
theorem endsK {I : Ifc} {base j n : Nat} {L : List (BitVec 8)} {E : SO} {H : List SO} (hj : I.known j = false) (ho : ownsOf I.ents 0 = []) (hE : H[j]? = some E) (he : E = .own (.lst (bx L)) false 5) : I.Ends base [j] ⟨kdV base n, [], [E]⟩ (kdV j n) H := by
  have ho' : I.out base [j] j = base := by
    unfold Ifc.out
    rw [hj]
    show base + idxN j [j] = base
    rw [show idxN j [j] = boolC (Nat.beq j j) 0 _ from rfl, Nat.beq_refl]; rfl
  have hs : I.seen [j] j = true := by
    unfold Ifc.seen
    rw [hj]
    exact (memN_iff (n := j) (l := [j])).2 List.mem_cons_self
  subst he
  refine ⟨?_, ?_, by rw [ho]; trivial, ⟨given_own hE (bx_uses _ _) (by show SO.own (.lst (SV.renL _ (bx _))) _ _ = _; rw [bx_ren]), trivial⟩⟩
  · show (SV.tuple [.slice ⟨I.out base [j] j, .lit 0⟩ (.lit n) (.rest (I.out base [j] j) 0), _]).Imp _
    rw [ho']; exact .refl _
  · show ((I.seen [j] j && I.seen [j] j) && _) = true
    rw [hs]; rfl
theorem kdfOK : SumAt Tryz.prog globP 19 (kdfS shaF) := by
  intro O w0 β H w base args vs hH hG ha
  refine args4_sat fun kv lv cv nv hv => shaTP_sat fun hT => partL_sat fun k kn hn ht hk => partL_sat fun lb ln hn2 ht2 hk2 => boolC_only fun hd => sliceR_sat (fun hc => fun ⟨⟨h1, h2⟩, h3, h4⟩ => optC_only fun n hln => ?_) fun _ _ _ _ => trivial
  rw [hv, hc, litI_spec hln] at ha
  obtain ⟨x, ys, hx, hys, rfl⟩ := denL_cons.1 ha
  obtain ⟨y, zs, hy, hzs, rfl⟩ := denL_cons.1 hys
  obtain ⟨m, _, hx'⟩ := Sl.val_den (hk _ _ hx)
  obtain ⟨m2, _, hy'⟩ := Sl.val_den (hk2 _ _ hy)
  have key : ∀ (n : Nat), n ≤ 32 → SV.denL β [.nilSlice, .int .i64 (.lit n)] = some zs → outO [22] (kdT shaF (k.pl m) (lb.pl m2) n) [false, false] = (kdC k lb n, some (kdV 22 n, [some (kdE shaF k lb n)])) → SumSem Tryz.prog H β w base 19 (x :: y :: zs) (kdR shaF base k lb n) := by
    intro n hn32 hz hrun
    refine sum_outOG cfgKdOK 4000 hH (shaIP [kn, ln] [k.row, lb.row] [(k.pl m).val 4, (lb.pl m2).val 5, .nilSlice, .int .i64 (.lit n)]) (shaIP_glob hG) ?_ (Ifc.fits (nd4 hd (by simp only [List.mem_cons, List.not_mem_nil, or_false]; rintro x (rfl | rfl) <;> assumption)) ?_ (shaIP_ents hT ⟨⟨ht _, k.row_uses _⟩, ⟨ht2 _, lb.row_uses _⟩, trivial⟩)) [22] (by simp [shaIP]) (by simp) hrun (kdC_all h1 h2 h3 h4 (by omega)) fun H2 hH2 => endsK rfl rfl (List.cons.inj hH2).1 rfl
    · show SV.denL β [((k.pl m).val 4).ren _, ((lb.pl m2).val 5).ren _, .nilSlice, .int .i64 (.lit n)] = _
      rw [Sl.val_ren, Sl.val_ren]
      exact denL_cons.2 ⟨_, _, hx', denL_cons.2 ⟨_, _, hy', hz, rfl⟩, rfl⟩
    · show (((k.pl m).val 4).uses _ && (((lb.pl m2).val 5).uses _ && (true && (true && true)))) = true
      rw [Sl.val_uses _ _ _ rfl, Sl.val_uses _ _ _ rfl]; rfl
  refine boolC_sat (fun h => ?_) fun _ => boolC_only fun h => ?_
  · rw [beq_spec h] at hzs
    exact key 16 (by omega) hzs (kd_run16 shaF k lb m m2)
  · rw [beq_spec h] at hzs
    exact key 32 (by omega) hzs (kd_run32 shaF k lb m m2)
/- Copy -/
noncomputable def copyR (base : Nat) (p q : SI) (l : SN) (X : Nat → BitVec 8) : SumRes := ⟨.agg [.int .i64 p, .int .i64 q, .slice ⟨base, .lit 0⟩ l (.rest base 0)], [], [.own (.fn (byteF X) l.den) false 5]⟩
noncomputable def copyS : Summ := fun args H base => args1 args fun v => v.asAgg (.stuck 787) fun l => args3 l fun p q s => i64O p fun p => i64O q fun q => sliceR s (.ok ⟨.agg [.int .i64 p, .int .i64 q, .nilSlice], [], []⟩) fun a l => bytesE (nth H a.nm) fun X n => .need (a.off.den + l.den ≤ n ∧ l.den ≤ 1099511627776)
  (isI l.toI 0 (.ok ⟨.agg [.int .i64 p, .int .i64 q, .slice ⟨base, .lit 0⟩ (.lit 0) (.lit 0)], [], [.own (.lst []) true 5]⟩) (.ok (copyR base p q l fun i => X (a.off.den + i))))
theorem toI_den (l : SN) : l.toI.den = (l.den : Int) := by cases l <;> rfl
theorem copyOK : SumOK Tryz.prog 25 copyS := by
  intro glob O w0 β H w base args vs hH hG ha
  refine args1_sat fun k hv => ?_
  rcases asAgg_cases k with ⟨l, rfl⟩ | hno
  case inr => rw [hno]; trivial
  refine args3_sat fun p v s hl => i64O_sat fun p' hp => i64O_sat fun v' hv' => ?_
  subst hl hp hv'
  rw [hv] at ha
  refine sliceR_sat (fun hn => ?_) fun a len c hs => bytesE_sat fun X N ht => fun ⟨h1, h2⟩ => ?_
  · subst hn
    have ha' : SV.denL β [fdK p'.den v'.den .nilSlice] = some vs := denL1 ha (agg_imp (impL_cons (int_imp0 rfl) (impL_cons (int_imp0 rfl) (impL_cons (.refl _) impL_nil))))
    exact sum_outO cfgCpOK rfl 400 hH ⟨[], [], [fdK p'.den v'.den .nilSlice]⟩ ha' (fits0 rfl) [] (by simp) (by simp) (cp_nil p'.den v'.den) all_nil fun H2 _ => ⟨agg_imp (impL_cons (int_imp0 rfl) (impL_cons (int_imp0 rfl) (impL_cons (.refl _) impL_nil))), rfl, trivial, trivial⟩
  · subst hs
    rw [nth_eq] at ht
    obtain ⟨x, ys, hx, hys, rfl⟩ := denL_cons.1 ha
    simp only [SV.den, SV.denL, Option.map_eq_some_iff, Option.bind_eq_some_iff] at hx
    obtain ⟨us, ⟨u1, hu1, us1, ⟨u2, hu2, us2, ⟨u3, hu3, us3, hus3, rfl⟩, rfl⟩, rfl⟩, rfl⟩ := hx
    have hu3' : (SV.slice a len c).den β = some u3 := by simpa only [SV.den, Option.bind_eq_some_iff] using hu3
    obtain ⟨m, hlm, hd, _, _⟩ := slice_den hu3'
    have ha' : SV.denL β [fdK p'.den v'.den (.slice ⟨a.nm, .sym a.off.den⟩ (.sym len.den) (.sym m))] = some (.agg (u1 :: u2 :: u3 :: us3).toArray :: ys) := by
      refine denL_cons.2 ⟨_, _, ?_, hys, rfl⟩
      show (SV.agg _).den β = _
      rw [SV.den]
      simp only [Option.map_eq_some_iff]
      exact ⟨_, denL_cons.2 ⟨u1, _, hu1, denL_cons.2 ⟨u2, _, hu2, denL_cons.2 ⟨u3, _, hd, hus3, rfl⟩, rfl⟩, rfl⟩, rfl⟩
    have hfit : Ifc.Fits ⟨[a.nm], [rowF X N], [fdK p'.den v'.den (.slice ⟨0, .sym a.off.den⟩ (.sym len.den) (.sym m))]⟩ H := Ifc.fits (by simp) rfl ⟨⟨ht _, rowF_uses _ _ _⟩, trivial⟩
    refine isI_sat (fun h0 => ?_) fun h0 => ?_
    · rw [toI_den] at h0
      exact sum_outO cfgCpOK rfl 400 hH ⟨[a.nm], [rowF X N], [fdK p'.den v'.den (.slice ⟨0, .sym a.off.den⟩ (.sym len.den) (.sym m))]⟩ ha' hfit [3] (by simp) (by simp) (cp_zero X p'.den v'.den a.off.den N len.den m) (all_cons (byteF_isB X) (all_cons (decide_eq_true (by omega)) (all_cons h1 all_nil))) fun H2 hH2 => ⟨agg_imp (impL_cons (int_imp0 rfl) (impL_cons (int_imp0 rfl) (impL_cons (.refl _) impL_nil))), rfl, trivial, ⟨given_own (List.cons.inj hH2).1 rfl rfl, trivial⟩⟩
    · rw [toI_den] at h0
      exact sum_outO cfgCpOK rfl 400 hH ⟨[a.nm], [rowF X N], [fdK p'.den v'.den (.slice ⟨0, .sym a.off.den⟩ (.sym len.den) (.sym m))]⟩ ha' hfit [3] (by simp) (by simp) (cp_run X p'.den v'.den a.off.den N len.den m) (all_cons (byteF_isB X) (all_cons (decide_eq_false (by omega)) (all_cons ⟨h1, ⟨by omega, by omega⟩⟩ all_nil))) fun H2 hH2 => ⟨agg_imp (impL_cons (int_imp0 rfl) (impL_cons (int_imp0 rfl) (impL_cons (slice_len_imp rfl) impL_nil))), rfl, trivial, ⟨given_bytesP (List.cons.inj hH2).1 fun _ _ => rfl, trivial⟩⟩
end Go.Proofs.YtflafdhmmcknhaaGreatDoor.Aes


/-
  The profiles: derived keys.
-/
namespace Go.Proofs.YtflafdhmmcknhaaGreatDoor.Aes
open Go.Sim
open Go.Proofs
variable {α : Type}

set_option maxRecDepth 1000000
noncomputable def cfgDe (F : HashF) : Cfg := cfgG globP (sumsOf [(19, kdfS F), (52, numS), (17, joinS)])
theorem cfgDeOK : CfgOK (cfgDe shaF) := sumsG_ok (allS kdfOK (allS (pnumOK _) (allS (joinOK _) (by simp))))
noncomputable def lblS (u : Int) (x : BitVec 8) : Sl := ⟨two (slL (num4 u)) (slL [x]), 4 + 1, 0, 4 + 1, true, 0⟩
noncomputable def keyE (p v : Int) (s : SV) : SO := .row (.lst [.int .i64 (.sym p), .int .i64 (.sym v), s])
noncomputable def deT (F : HashF) (k : Sl) (n : Nat) (p v u : Int) (x : BitVec 8) : Tree := callSim (cfgDe F) 4000 51 [.int .u8 (.b8 x), .ptr ⟨4, .lit 0⟩, .ptr ⟨5, .lit 0⟩] (shaHP [keyE p v (k.valN 6 n), .row (.lst [.int .i64 (.sym u)]), k.row])
noncomputable def Sl.len (s : Sl) (n : Nat) : Sl := ⟨s.X, s.N, s.o, n, s.b, s.k⟩
noncomputable def deC (k : Sl) (n : Nat) (u : Int) (x : BitVec 8) : List Prop := [((okL (slL (num4 u)) ∧ (slL (num4 u)).n ≠ 0) ∧ okL (slL [x])), IsB (byteF k.X), IsB (byteF (two (slL (num4 u)) (slL [x]))), ((k.o + n ≤ k.N ∧ n ≤ 4096) ∧ 0 + (4 + 1) ≤ 4 + 1 ∧ 4 + 1 ≤ 4096)]
noncomputable def deV (nm n : Nat) : SV := .slice ⟨nm, .lit 0⟩ (.lit n) (.rest nm 0)
theorem de_run16 (F : HashF) (k : Sl) (p v u : Int) (x : BitVec 8) : outO [11] (deT F k 16 p v u x) [] = (deC k 16 u x, some (deV 11 16, [some (kdE F (k.len 16) (lblS u x) 16)])) := by
  cases k with
  | mk X N o n b kk => cases b <;> kernel_rfl
theorem de_run32 (F : HashF) (k : Sl) (p v u : Int) (x : BitVec 8) : outO [11] (deT F k 32 p v u x) [] = (deC k 32 u x, some (deV 11 32, [some (kdE F (k.len 32) (lblS u x) 32)])) := by
  cases k with
  | mk X N o n b kk => cases b <;> kernel_rfl
end Go.Proofs.YtflafdhmmcknhaaGreatDoor.Aes


/-
  The profiles: the summary of a derived key.
-/
namespace Go.Proofs.YtflafdhmmcknhaaGreatDoor.Aes
open Go.Sim
open Go.Proofs
variable {α : Type}

set_option maxRecDepth 100000
noncomputable def deR (F : HashF) (base : Nat) (k : Sl) (n : Nat) (u : Int) (x : BitVec 8) : SumRes := ⟨deV base n, [], [kdE F (k.len n) (lblS u x) n]⟩
/-- the key's cells -/
noncomputable def keyL (H : List SO) (kn : Nat) (f : Int → Int → Sl → Nat → Nat → R α) : R α := optC (cellsE (nth H kn)) (.stuck 789) fun l => args3 l fun p v s => i64O p fun p => i64O v fun v => partN H s fun k nm n => f p.den v.den k nm n
noncomputable def intL (H : List SO) (un : Nat) (f : Int → R α) : R α := optC (cellsE (nth H un)) (.stuck 789) fun l => args1 l fun u => i64O u fun u => f u.den
noncomputable def deS (F : HashF) : Summ := fun args H base => args3 args fun xv kv uv => optC (unb1 xv) (.stuck 790) fun x => optC (headP kv) (.stuck 790) fun kn => optC (headP uv) (.stuck 790) fun un => shaTP H (boolC (newOne kn) (boolC (newOne un)
  (keyL H kn fun _ _ k nm n => intL H un fun u => boolC (distN [kn, un, nm]) (.need (k.o + n ≤ k.N) (boolC (Nat.beq n 16) (.ok (deR F base k 16 u x)) (boolC (Nat.beq n 32) (.ok (deR F base k 32 u x)) (.stuck 790)))) (.stuck 790)) (.stuck 790)) (.stuck 790))
theorem keyL_sat {H : List SO} {kn : Nat} {f : Int → Int → Sl → Nat → Nat → R α} {φ : α → Prop} (h : ∀ p v k nm n, newOne nm = true → (∀ g, ∃ e', H[nm]? = some e' ∧ Taken g k.row e') → k.n = n → (∀ g : Nat → Nat, ∀ j, g j = nm → ∃ e', H[kn]? = some e' ∧ Taken g (keyE p v (k.valN j n)) e') → (f p v k nm n).Sat φ) : (keyL H kn f).Sat φ := by
  refine optC_only fun l hl => args3_sat fun p v s hls => i64O_sat fun p' hp => i64O_sat fun v' hv => partN_sat fun k nm n hn ht hi hkn => h p'.den v'.den k nm n hn ht hkn fun g j hj => ?_
  subst hls hp hv
  rw [nth_eq] at hl
  refine taken_cells hl ?_
  show SV.ImpL _ [.int .i64 (.sym p'.den), .int .i64 (.sym v'.den), (k.valN j n).ren g]
  rw [Sl.valN_ren, hj]
  exact impL_cons (int_imp0 rfl) (impL_cons (int_imp0 rfl) (impL_cons hi impL_nil))
theorem intL_sat {H : List SO} {un : Nat} {f : Int → R α} {φ : α → Prop} (h : ∀ u, (∀ g : Nat → Nat, ∃ e', H[un]? = some e' ∧ Taken g (.row (.lst [.int .i64 (.sym u)])) e') → (f u).Sat φ) : (intL H un f).Sat φ := by
  refine optC_only fun l hl => args1_sat fun u hlu => i64O_sat fun u' hu => h u'.den fun g => ?_
  subst hlu hu
  rw [nth_eq] at hl
  exact taken_cells hl (impL_cons (int_imp0 rfl) impL_nil)
theorem endsD {I : Ifc} {base j n : Nat} {L : List (BitVec 8)} {E : SO} {H : List SO} (hj : I.known j = false) (ho : ownsOf I.ents 0 = []) (hE : H[j]? = some E) (he : E = .own (.lst (bx L)) false 5) : I.Ends base [j] ⟨deV base n, [], [E]⟩ (deV j n) H := by
  have ho' : I.out base [j] j = base := by
    unfold Ifc.out
    rw [hj]
    show base + idxN j [j] = base
    rw [show idxN j [j] = boolC (Nat.beq j j) 0 _ from rfl, Nat.beq_refl]; rfl
  have hs : I.seen [j] j = true := by
    unfold Ifc.seen
    rw [hj]
    exact (memN_iff (n := j) (l := [j])).2 List.mem_cons_self
  subst he
  refine ⟨?_, ?_, by rw [ho]; trivial, ⟨given_own hE (bx_uses _ _) (by show SO.own (.lst (SV.renL _ (bx _))) _ _ = _; rw [bx_ren]), trivial⟩⟩
  · show (SV.slice ⟨I.out base [j] j, .lit 0⟩ (.lit n) (.rest (I.out base [j] j) 0)).Imp _
    rw [ho']; exact .refl _
  · show (I.seen [j] j && I.seen [j] j) = true
    rw [hs]; rfl
theorem deOK : SumAt Tryz.prog globP 51 (deS shaF) := by
  intro O w0 β H w base args vs hH hG ha
  refine args3_sat fun xv kv uv hv => optC_only fun x hx => optC_only fun kn hk => optC_only fun un hu => shaTP_sat fun hT => boolC_only fun hn1 => boolC_only fun hn2 => keyL_sat fun p v k nm n hn3 ht hkn hE => intL_sat fun u hU => boolC_only fun hd => fun hle => ?_
  rw [hv, headP_spec hk, headP_spec hu] at ha
  have ha' : SV.denL β [.int .u8 (.b8 x), .ptr ⟨kn, .lit 0⟩, .ptr ⟨un, .lit 0⟩] = some vs := impL_cons (unb1_imp hx) (SV.ImpL.refl _) _ _ ha
  have key : ∀ n, n ≤ 4096 → k.o + n ≤ k.N → (∀ g : Nat → Nat, ∀ j, g j = nm → ∃ e', H[kn]? = some e' ∧ Taken g (keyE p v (k.valN j n)) e') → outO [11] (deT shaF k n p v u x) [] = (deC k n u x, some (deV 11 n, [some (kdE shaF (k.len n) (lblS u x) n)])) → SumSem Tryz.prog H β w base 51 vs (deR shaF base k n u x) := by
    intro n h4 hle hE hrun
    refine sum_outOG cfgDeOK 4000 hH (shaIP [kn, un, nm] [keyE p v (k.valN 6 n), .row (.lst [.int .i64 (.sym u)]), k.row] [.int .u8 (.b8 x), .ptr ⟨4, .lit 0⟩, .ptr ⟨5, .lit 0⟩]) (shaIP_glob hG) ha' (Ifc.fits (nd4 hd (by simp only [List.mem_cons, List.not_mem_nil, or_false]; rintro y (rfl | rfl | rfl) <;> assumption)) rfl (shaIP_ents hT ⟨⟨hE _ 6 rfl, ?_⟩, ⟨hU _, rfl⟩, ⟨ht _, k.row_uses _⟩, trivial⟩)) [11] (by simp [shaIP]) (by simp) hrun ?_ fun H2 hH2 => endsD rfl rfl (List.cons.inj hH2).1 rfl
    · show (true && (true && ((k.valN 6 n).uses _ && true))) = true
      rw [Sl.valN_uses _ _ _ _ rfl]; rfl
    · exact all_cons ⟨⟨slL_ok (n := 4) rfl (by omega), by show (4 : Nat) ≠ 0; omega⟩, slL_ok (n := 1) rfl (by omega)⟩ (all_cons (byteF_isB _) (all_cons (byteF_isB _) (all_cons ⟨⟨hle, h4⟩, by omega, by omega⟩ all_nil)))
  refine boolC_sat (fun h => ?_) fun _ => boolC_only fun h => ?_
  · have h := beq_spec h
    subst h
    exact key 16 (by omega) hle hE (de_run16 shaF k p v u x)
  · have h := beq_spec h
    subst h
    exact key 32 (by omega) hle hE (de_run32 shaF k p v u x)
end Go.Proofs.YtflafdhmmcknhaaGreatDoor.Aes

