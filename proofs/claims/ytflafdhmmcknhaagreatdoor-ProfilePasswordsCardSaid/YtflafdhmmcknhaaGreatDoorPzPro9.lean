/-
  The profiles: the summary of usable.
-/
import Derived.Test.YtflafdhmmcknhaaGreatDoorPp9
namespace Go.Proofs.YtflafdhmmcknhaaGreatDoor.Aes
open Go.Sim
open Go.Proofs
variable {α : Type}

set_option maxRecDepth 1000000
noncomputable def cfgUs : Cfg := cfgOf (sumsOf [(24, findS)])
theorem cfgUsOK : CfgOK cfgUs := sumsOf_ok (all1 findOK)
noncomputable def usT (p v u : Int) (o l m : Nat) : Tree := callSim cfgUs 400 26 [fdK p v (.slice ⟨0, .sym o⟩ (.sym l) (.sym m)), .int .i64 (.sym u)] [.row (.lst [])]
noncomputable def usN (p v u : Int) : Tree := callSim cfgUs 400 26 [fdK p v .nilSlice, .int .i64 (.sym u)] []
noncomputable def usV (k : SV) (e : Int) : SV := .tuple [k, .int .i64 (.lit e)]
section
variable (p v u : Int) (o l m : Nat)
theorem us_none : outO [] (usT p v u o l m) [false, false] = ([(p == 1) = false, (p == 2) = false], some (usV kv0 2, [])) := by kernel_rfl
theorem us_nil0 : outO [] (usN p v u) [false, false] = ([(p == 1) = false, (p == 2) = false], some (usV kv0 2, [])) := by kernel_rfl
theorem us_nil1 : outO [] (usN p v u) [true] = ([(p == 1) = true], some (usV kv0 2, [])) := by kernel_rfl
theorem us_len1 : outO [] (usT p v u o l m) [true, false] = ([(p == 1) = true, decide (l = 16) = false], some (usV kv0 2, [])) := by kernel_rfl
theorem us_neg1 : outO [] (usT p v u o l m) [true, true, false] = ([(p == 1) = true, decide (l = 16) = true, decide (0 ≤ v) = false], some (usV kv0 2, [])) := by kernel_rfl
theorem us_big1 : outO [] (usT p v u o l m) [true, true, true, false] = ([(p == 1) = true, decide (l = 16) = true, decide (0 ≤ v) = true, decide (v ≤ 65535) = false], some (usV kv0 2, [])) := by kernel_rfl
theorem us_lo1 : outO [] (usT p v u o l m) [true, true, true, true, true, true, true] = ([(p == 1) = true, decide (l = 16) = true, decide (0 ≤ v) = true, decide (v ≤ 65535) = true, decide (u < 1) = true, decide (u < 1) = true, decide (u < 1) = true], some (usV kv0 2, [])) := by kernel_rfl
theorem us_hi1 : outO [] (usT p v u o l m) [true, true, true, true, false, true] = ([(p == 1) = true, decide (l = 16) = true, decide (0 ≤ v) = true, decide (v ≤ 65535) = true, decide (u < 1) = false, decide (u > 1023) = true], some (usV kv0 2, [])) := by kernel_rfl
theorem us_ok1 : outO [] (usT p v u o l m) [true, true, true, true, false, false] = ([(p == 1) = true, decide (l = 16) = true, decide (0 ≤ v) = true, decide (v ≤ 65535) = true, decide (u < 1) = false, decide (u > 1023) = false], some (usV kv1 0, [])) := by kernel_rfl
theorem us_nil2 : outO [] (usN p v u) [false, true] = ([(p == 1) = false, (p == 2) = true], some (usV kv0 2, [])) := by kernel_rfl
theorem us_len2 : outO [] (usT p v u o l m) [false, true, false] = ([(p == 1) = false, (p == 2) = true, decide (l = 32) = false], some (usV kv0 2, [])) := by kernel_rfl
theorem us_neg2 : outO [] (usT p v u o l m) [false, true, true, false] = ([(p == 1) = false, (p == 2) = true, decide (l = 32) = true, decide (0 ≤ v) = false], some (usV kv0 2, [])) := by kernel_rfl
theorem us_big2 : outO [] (usT p v u o l m) [false, true, true, true, false] = ([(p == 1) = false, (p == 2) = true, decide (l = 32) = true, decide (0 ≤ v) = true, decide (v ≤ 65535) = false], some (usV kv0 2, [])) := by kernel_rfl
theorem us_lo2 : outO [] (usT p v u o l m) [false, true, true, true, true, true, true, true] = ([(p == 1) = false, (p == 2) = true, decide (l = 32) = true, decide (0 ≤ v) = true, decide (v ≤ 65535) = true, decide (u < 1) = true, decide (u < 1) = true, decide (u < 1) = true], some (usV kv0 2, [])) := by kernel_rfl
theorem us_hi2 : outO [] (usT p v u o l m) [false, true, true, true, true, false, true] = ([(p == 1) = false, (p == 2) = true, decide (l = 32) = true, decide (0 ≤ v) = true, decide (v ≤ 65535) = true, decide (u < 1) = false, decide (u > 1023) = true], some (usV kv0 2, [])) := by kernel_rfl
theorem us_ok2 : outO [] (usT p v u o l m) [false, true, true, true, true, false, false] = ([(p == 1) = false, (p == 2) = true, decide (l = 32) = true, decide (0 ≤ v) = true, decide (v ≤ 65535) = true, decide (u < 1) = false, decide (u > 1023) = false], some (usV kv2 0, [])) := by kernel_rfl
end
noncomputable def usR (k : SV) (e : Int) : R SumRes := .ok ⟨usV k e, [], []⟩
noncomputable def usOne (k : SV) (n : Nat) (l : SN) (v u : SI) : R SumRes := lenIs l n (leI 0 v (fdOne.isLe v 65535 (leI 1 u (fdOne.isLe u 1023 (usR k 0) (usR kv0 2)) (usR kv0 2)) (usR kv0 2)) (usR kv0 2)) (usR kv0 2)
noncomputable def usableS : Summ := fun args H _ => args2 args fun k u => k.asAgg (.stuck 791) fun l => args3 l fun p v s => i64O p fun p => i64O v fun v => i64O u fun u =>
  sliceR s (isI p 1 (usR kv0 2) (isI p 2 (usR kv0 2) (usR kv0 2))) fun a l => boolC (placedE (nth H a.nm)) (isI p 1 (usOne kv1 16 l v u) (isI p 2 (usOne kv2 32 l v u) (usR kv0 2))) (.stuck 791)
theorem endsU {I : Ifc} {base : Nat} {k : SV} {e : Int} (ho : ownsOf I.ents 0 = []) (hk : ∀ g p, k.ren g = k ∧ k.uses p = true) (H : List SO) : I.Ends base [] ⟨usV k e, [], []⟩ (usV k e) H := by
  refine ⟨?_, ?_, by rw [ho]; trivial, trivial⟩
  · show (SV.tuple [k.ren _, _]).Imp _
    rw [(hk _ (fun _ => true)).1]
    exact .refl _
  · show (k.uses _ && (true && true)) = true
    rw [(hk (fun n => n) _).2]; rfl
theorem placed_any {f : Nat → Nat} {e : Option SO} (h : placedE e = true) : ∃ e', e = some e' ∧ Taken f (.row (.lst [])) e' := taken_any h
theorem usableOK : SumOK Tryz.prog 26 usableS := by
  intro glob O w0 β H w base args vs hH hG ha
  refine args2_sat fun k uv hv => ?_
  rcases asAgg_cases k with ⟨l, rfl⟩ | hno
  case inr => rw [hno]; trivial
  refine args3_sat fun p v s hl => i64O_sat fun p' hp => i64O_sat fun v' hv' => i64O_sat fun u hu => ?_
  subst hl hp hv' hu
  rw [hv] at ha
  have h0 := fun g p => (kv_plain g p).1
  have h1 := fun g p => (kv_plain g p).2.1
  have h2 := fun g p => (kv_plain g p).2.2
  refine sliceR_sat (fun hn => ?_) fun a len c hs => boolC_only fun hpl => ?_
  · subst hn
    have ha' : SV.denL β [fdK p'.den v'.den .nilSlice, .int .i64 (.sym u.den)] = some vs := impL_cons (agg_imp (impL_cons (int_imp0 rfl) (impL_cons (int_imp0 rfl) (impL_cons (.refl _) impL_nil)))) (impL_cons (int_imp0 rfl) impL_nil) _ _ ha
    have key : ∀ {ds cs k e}, outO [] (usN p'.den v'.den u.den) ds = (cs, some (usV k e, [])) → (∀ q ∈ cs, q) → (∀ g p, k.ren g = k ∧ k.uses p = true) → SumSem Tryz.prog H β w base 26 vs ⟨usV k e, [], []⟩ := by
      intro ds cs k e hr hc hk
      exact sum_outO cfgUsOK rfl 400 hH ⟨[], [], [fdK p'.den v'.den .nilSlice, .int .i64 (.sym u.den)]⟩ ha' (fits0 rfl) [] (by simp) (by simp) hr hc fun H2 _ => endsU rfl hk H2
    refine isI_sat (fun hp => ?_) fun hp => isI_sat (fun hp2 => ?_) fun hp2 => ?_
    · exact key (us_nil1 p'.den v'.den u.den) (all_cons (by simp [hp]) all_nil) h0
    · exact key (us_nil2 p'.den v'.den u.den) (all_cons (by simp [hp]) (all_cons (by simp [hp2]) all_nil)) h0
    · exact key (us_nil0 p'.den v'.den u.den) (all_cons (by simp [hp]) (all_cons (by simp [hp2]) all_nil)) h0
  · subst hs
    obtain ⟨x, ys, hx, hys, rfl⟩ := denL_cons.1 ha
    simp only [SV.den, SV.denL, Option.map_eq_some_iff, Option.bind_eq_some_iff] at hx
    obtain ⟨us, ⟨u1, hu1, us1, ⟨u2, hu2, us2, ⟨u3, hu3, us3, hus3, rfl⟩, rfl⟩, rfl⟩, rfl⟩ := hx
    have hu3' : (SV.slice a len c).den β = some u3 := by simpa only [SV.den, Option.bind_eq_some_iff] using hu3
    obtain ⟨m, hlm, hd, _, _⟩ := slice_den hu3'
    have hys' : SV.denL β [.int .i64 (.sym u.den)] = some ys := impL_cons (int_imp0 rfl) impL_nil _ _ hys
    have ha' : SV.denL β [fdK p'.den v'.den (.slice ⟨a.nm, .sym a.off.den⟩ (.sym len.den) (.sym m)), .int .i64 (.sym u.den)] = some (.agg (u1 :: u2 :: u3 :: us3).toArray :: ys) := by
      refine denL_cons.2 ⟨_, _, ?_, hys', rfl⟩
      show (SV.agg _).den β = _
      rw [SV.den]
      simp only [Option.map_eq_some_iff]
      exact ⟨_, denL_cons.2 ⟨u1, _, hu1, denL_cons.2 ⟨u2, _, hu2, denL_cons.2 ⟨u3, _, hd, hus3, rfl⟩, rfl⟩, rfl⟩, rfl⟩
    have key : ∀ {ds cs k e}, outO [] (usT p'.den v'.den u.den a.off.den len.den m) ds = (cs, some (usV k e, [])) → (∀ q ∈ cs, q) → (∀ g p, k.ren g = k ∧ k.uses p = true) → SumSem Tryz.prog H β w base 26 (.agg (u1 :: u2 :: u3 :: us3).toArray :: ys) ⟨usV k e, [], []⟩ := by
      intro ds cs k e hr hc hk
      refine sum_outO cfgUsOK rfl 400 hH ⟨[a.nm], [.row (.lst [])], [fdK p'.den v'.den (.slice ⟨0, .sym a.off.den⟩ (.sym len.den) (.sym m)), .int .i64 (.sym u.den)]⟩ ha' (Ifc.fits (by simp) rfl ⟨⟨?_, rfl⟩, trivial⟩) [] (by simp) (by simp) hr hc fun H2 _ => endsU rfl hk H2
      rw [nth_eq] at hpl
      exact placed_any hpl
    have t1 : ∀ {q : Prop}, q → ∀ p ∈ [q, q, q], p := fun h => all_cons h (all_cons h (all_cons h all_nil))
    refine isI_sat (fun hp => ?_) fun hp => isI_sat (fun hp2 => ?_) fun hp2 => ?_
    · refine lenIs_sat (fun hl => leI_sat (fun hg => isLe_sat (fun hb => leI_sat (fun hu => isLe_sat (fun hw => ?_) fun hw => ?_) fun hu => ?_) fun hb => ?_) fun hg => ?_) fun hl => ?_
      · exact key (us_ok1 p'.den v'.den u.den a.off.den len.den m) (all_cons (by simp [hp]) (all_cons (decide_eq_true hl) (all_cons (decide_eq_true hg) (all_cons (decide_eq_true hb) (all_cons (decide_eq_false (by omega)) (all_cons (decide_eq_false (by omega)) all_nil)))))) h1
      · exact key (us_hi1 p'.den v'.den u.den a.off.den len.den m) (all_cons (by simp [hp]) (all_cons (decide_eq_true hl) (all_cons (decide_eq_true hg) (all_cons (decide_eq_true hb) (all_cons (decide_eq_false (by omega)) (all_cons (decide_eq_true (by omega)) all_nil)))))) h0
      · exact key (us_lo1 p'.den v'.den u.den a.off.den len.den m) (all_cons (by simp [hp]) (all_cons (decide_eq_true hl) (all_cons (decide_eq_true hg) (all_cons (decide_eq_true hb) (t1 (decide_eq_true (by omega))))))) h0
      · exact key (us_big1 p'.den v'.den u.den a.off.den len.den m) (all_cons (by simp [hp]) (all_cons (decide_eq_true hl) (all_cons (decide_eq_true hg) (all_cons (decide_eq_false hb) all_nil)))) h0
      · exact key (us_neg1 p'.den v'.den u.den a.off.den len.den m) (all_cons (by simp [hp]) (all_cons (decide_eq_true hl) (all_cons (decide_eq_false hg) all_nil))) h0
      · exact key (us_len1 p'.den v'.den u.den a.off.den len.den m) (all_cons (by simp [hp]) (all_cons (decide_eq_false hl) all_nil)) h0
    · refine lenIs_sat (fun hl => leI_sat (fun hg => isLe_sat (fun hb => leI_sat (fun hu => isLe_sat (fun hw => ?_) fun hw => ?_) fun hu => ?_) fun hb => ?_) fun hg => ?_) fun hl => ?_
      · exact key (us_ok2 p'.den v'.den u.den a.off.den len.den m) (all_cons (by simp [hp]) (all_cons (by simp [hp2]) (all_cons (decide_eq_true hl) (all_cons (decide_eq_true hg) (all_cons (decide_eq_true hb) (all_cons (decide_eq_false (by omega)) (all_cons (decide_eq_false (by omega)) all_nil))))))) h2
      · exact key (us_hi2 p'.den v'.den u.den a.off.den len.den m) (all_cons (by simp [hp]) (all_cons (by simp [hp2]) (all_cons (decide_eq_true hl) (all_cons (decide_eq_true hg) (all_cons (decide_eq_true hb) (all_cons (decide_eq_false (by omega)) (all_cons (decide_eq_true (by omega)) all_nil))))))) h0
      · exact key (us_lo2 p'.den v'.den u.den a.off.den len.den m) (all_cons (by simp [hp]) (all_cons (by simp [hp2]) (all_cons (decide_eq_true hl) (all_cons (decide_eq_true hg) (all_cons (decide_eq_true hb) (t1 (decide_eq_true (by omega)))))))) h0
      · exact key (us_big2 p'.den v'.den u.den a.off.den len.den m) (all_cons (by simp [hp]) (all_cons (by simp [hp2]) (all_cons (decide_eq_true hl) (all_cons (decide_eq_true hg) (all_cons (decide_eq_false hb) all_nil))))) h0
      · exact key (us_neg2 p'.den v'.den u.den a.off.den len.den m) (all_cons (by simp [hp]) (all_cons (by simp [hp2]) (all_cons (decide_eq_true hl) (all_cons (decide_eq_false hg) all_nil)))) h0
      · exact key (us_len2 p'.den v'.den u.den a.off.den len.den m) (all_cons (by simp [hp]) (all_cons (by simp [hp2]) (all_cons (decide_eq_false hl) all_nil))) h0
    · exact key (us_none p'.den v'.den u.den a.off.den len.den m) (all_cons (by simp [hp]) (all_cons (by simp [hp2]) all_nil)) h0
end Go.Proofs.YtflafdhmmcknhaaGreatDoor.Aes

