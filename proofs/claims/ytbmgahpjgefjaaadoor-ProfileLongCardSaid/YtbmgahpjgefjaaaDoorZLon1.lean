/-
  ProfileLong: Seal and Open where a string is too long.
-/
import Derived.Test.YtbmgahpjgefjaaaDoorPk12
namespace Go.Proofs.YtbmgahpjgefjaaaDoor.Aes
open Go.Sim
open Go.Proofs
variable {α : Type}

set_option maxRecDepth 1000000
noncomputable def cfgSl (us : Summ) : Cfg := cfgOf (sumsOf [(18, us)])
theorem cfgSl0 : CfgOK (cfgSl usErrS) := sumsOf_ok (all1 usErrOK)
theorem cfgSl1 : CfgOK (cfgSl (usOkS 1 kv1)) := sumsOf_ok (all1 (usOkOK (.inl ⟨rfl, rfl⟩)))
theorem cfgSl2 : CfgOK (cfgSl (usOkS 2 kv2)) := sumsOf_ok (all1 (usOkOK (.inr ⟨rfl, rfl⟩)))
noncomputable def slA (cl tl : Nat) (x y : Option Addr) (a b : Nat) (u : Int) : List SV := [.int .i64 (.sym u), .val (.slice x cl a), .val (.slice y tl b)]
noncomputable def slT (us : Summ) (p v u : Int) (o l m cl tl : Nat) (x y : Option Addr) (a b : Nat) : Tree := callSim (cfgSl us) 400 7 (fdK p v (.slice ⟨0, .sym o⟩ (.sym l) (.sym m)) :: slA cl tl x y a b u) [.row (.lst [])]
noncomputable def slN (us : Summ) (p v u : Int) (cl tl : Nat) (x y : Option Addr) (a b : Nat) : Tree := callSim (cfgSl us) 400 7 (fdK p v .nilSlice :: slA cl tl x y a b u) []
noncomputable def slV : SV := .tuple [.agg [.int .i64 (.lit 0), .int .i64 (.lit 0), .nilSlice], .int .i64 (.lit 2)]
noncomputable def usQ (p v u : Int) (l : Nat) : Prop := validK p v l ∧ 1 ≤ u ∧ u ≤ 1023
noncomputable def slC (cl tl : Nat) : List Prop := [((cl : Int) != 16) = false, decide ((tl : Int) > 65536) = true]
section
variable (p v u sp : Int) (o l m cl tl : Nat) (x y : Option Addr) (a b : Nat)
theorem sl_nil : outO [] (slN usErrS p v u cl tl x y a b) [] = ([¬ usQ p v u 0], some (slV, [])) := by kernel_rfl
theorem sl_err : outO [] (slT usErrS p v u o l m cl tl x y a b) [] = ([¬ usQ p v u l], some (slV, [])) := by kernel_rfl
theorem sl_ok1 : outO [] (slT (usOkS 1 kv1) p v u o l m cl tl x y a b) [false, true] = ((p = 1 ∧ usQ p v u l) :: slC cl tl, some (slV, [])) := by kernel_rfl
theorem sl_ok2 : outO [] (slT (usOkS 2 kv2) p v u o l m cl tl x y a b) [false, true] = ((p = 2 ∧ usQ p v u l) :: slC cl tl, some (slV, [])) := by kernel_rfl
end
noncomputable def olA (p : Int) (tl : Nat) (y : Option Addr) (b : Nat) (u : Int) : List SV := [.int .i64 (.sym u), .agg [.int .i64 (.sym p), .int .i64 (.lit 0), .val (.slice y tl b)]]
noncomputable def olT (us : Summ) (p v u sp : Int) (o l m tl : Nat) (y : Option Addr) (b : Nat) : Tree := callSim (cfgSl us) 400 8 (fdK p v (.slice ⟨0, .sym o⟩ (.sym l) (.sym m)) :: olA sp tl y b u) [.row (.lst [])]
noncomputable def olN (us : Summ) (p v u sp : Int) (tl : Nat) (y : Option Addr) (b : Nat) : Tree := callSim (cfgSl us) 400 8 (fdK p v .nilSlice :: olA sp tl y b u) []
noncomputable def olC (t : Int) (tl : Nat) : List Prop := [inI64 ((tl : Int) - t), decide ((tl : Int) - t < 16) = false, decide ((tl : Int) - t > 65552) = true]
section
variable (p v u sp : Int) (o l m tl : Nat) (y : Option Addr) (b : Nat)
theorem ol_nil : outO [] (olN usErrS p v u sp tl y b) [] = ([¬ usQ p v u 0], some (opV 2, [])) := by kernel_rfl
theorem ol_err : outO [] (olT usErrS p v u sp o l m tl y b) [] = ([¬ usQ p v u l], some (opV 2, [])) := by kernel_rfl
theorem ol_zero1 : outO [] (olT (usOkS 1 kv1) p v u sp o l m tl y b) [false, false, false, false, false, false, true] = ((p = 1 ∧ usQ p v u l) :: ((sp != p) = false) :: ((0 != v) = false) :: ((0 != v) = false) :: ((0 != v) = false) :: ((0 != v) = false) :: olC 16 tl, some (opV 5, [])) := by kernel_rfl
theorem ol_vers1 : outO [] (olT (usOkS 1 kv1) p v u sp o l m tl y b) [false, true, false, true] = ((p = 1 ∧ usQ p v u l) :: ((sp != p) = false) :: ((0 != v) = true) :: olC 16 tl, some (opV 5, [])) := by kernel_rfl
theorem ol_zero2 : outO [] (olT (usOkS 2 kv2) p v u sp o l m tl y b) [false, false, false, false, false, false, true] = ((p = 2 ∧ usQ p v u l) :: ((sp != p) = false) :: ((0 != v) = false) :: ((0 != v) = false) :: ((0 != v) = false) :: ((0 != v) = false) :: olC 32 tl, some (opV 5, [])) := by kernel_rfl
theorem ol_vers2 : outO [] (olT (usOkS 2 kv2) p v u sp o l m tl y b) [false, true, false, true] = ((p = 2 ∧ usQ p v u l) :: ((sp != p) = false) :: ((0 != v) = true) :: olC 32 tl, some (opV 5, [])) := by kernel_rfl
end
/- a slice of which the length alone matters -/
noncomputable def lenV (v : SV) (f : Nat → R α) : R α := v.asSlice (.stuck 820) fun _ l _ => f l.den
theorem lenV_sat {v : SV} {f : Nat → R α} {φ : α → Prop} (h : ∀ n, (∀ β x, v.den β = some x → ∃ y m, x = .slice y n m) → (f n).Sat φ) : (lenV v f).Sat φ := by
  unfold lenV
  rcases asSlice_cases v with ⟨a, l, c, rfl⟩ | hv
  · refine h _ fun β x hx => ?_
    simp only [SV.den, Option.bind_eq_some_iff] at hx
    obtain ⟨y, _, m, _, hs⟩ := hx
    unfold sliceV at hs
    by_cases hl : l.den ≤ m
    · rw [if_pos hl] at hs
      cases hs
      exact ⟨_, _, rfl⟩
    · rw [if_neg hl] at hs; cases hs
  · rw [hv]; trivial
noncomputable def slS : Summ := fun args H _ => args4 args fun kv uv cv tv => keyQ H kv fun _ _ _ => i64O uv fun _ => lenV cv fun cl => lenV tv fun tl => .need (cl = 16 ∧ 65536 < tl) (.ok ⟨slV, [], []⟩)
theorem slOK : SumOK Tryd.prog 7 slS := by
  intro glob O w0 β H w base args vs hH hG ha
  refine args4_sat fun kv uv cv tv hv => ?_
  subst hv
  rcases asAgg_cases kv with ⟨l, rfl⟩ | hno
  case inr => unfold keyQ; rw [hno]; trivial
  refine args3_sat fun p v s hl => i64O_sat fun p' hp => i64O_sat fun v' hv' => ?_
  subst hl hp hv'
  have fin : ∀ {s' : SV} {u : SI} {cl tl : Nat}, uv = .int .i64 u → (∀ β x, cv.den β = some x → ∃ y m, x = .slice y cl m) → (∀ β x, tv.den β = some x → ∃ y m, x = .slice y tl m) → (∀ x, s.den β = some x → s'.den β = some x) → ∃ x y a b, SV.denL β (fdK p'.den v'.den s' :: slA cl tl x y a b u.den) = some vs := by
    intro s' u cl tl hu hc ht hs
    subst hu
    obtain ⟨⟨xs, hxs⟩, zs, hzs⟩ := agg3_at ha
    obtain ⟨xu, zs1, hxu, hzs1, rfl⟩ := denL_cons.1 hzs
    obtain ⟨xc, zs2, hxc, hzs2, rfl⟩ := denL_cons.1 hzs1
    obtain ⟨xt, zs3, hxt, hzs3, rfl⟩ := denL_cons.1 hzs2
    obtain ⟨y1, m1, rfl⟩ := hc _ _ hxc
    obtain ⟨y2, m2, rfl⟩ := ht _ _ hxt
    refine ⟨y1, y2, m1, m2, ?_⟩
    have h1 := agg3_den (s' := s') (p' := .int .i64 (.sym p'.den)) (v' := .int .i64 (.sym v'.den)) ha hs (int_imp0 rfl) (int_imp0 rfl)
    obtain ⟨xa, ws, hxa, hws, rfl⟩ := denL_cons.1 h1
    refine denL_cons.2 ⟨_, _, hxa, ?_, rfl⟩
    rw [hzs] at hws
    cases hws
    cases hzs3
    exact denL_cons.2 ⟨_, _, int_imp0 rfl _ _ hxu, denL_cons.2 ⟨_, _, rfl, denL_cons.2 ⟨_, _, rfl, rfl, rfl⟩, rfl⟩, rfl⟩
  refine sliceR_sat (fun hn => i64O_sat fun u hu => lenV_sat fun cl hc => lenV_sat fun tl ht => fun ⟨h1, h2⟩ => ?_) fun a len c hs => boolC_only fun hpl => i64O_sat fun u hu => lenV_sat fun cl hc => lenV_sat fun tl ht => fun ⟨h1, h2⟩ => ?_
  · subst hn
    obtain ⟨x, y, a, b, ha'⟩ := fin (s' := .nilSlice) hu hc ht fun x hx => hx
    exact sum_outO cfgSl0 rfl 400 hH ⟨[], [], fdK p'.den v'.den .nilSlice :: slA cl tl x y a b u.den⟩ ha' (fits0 rfl) [] (by simp) (by simp) (sl_nil p'.den v'.den u.den cl tl x y a b) (all_cons (fun h => by obtain ⟨⟨⟨_, h⟩ | ⟨_, h⟩, _⟩, _⟩ := h <;> cases h) all_nil) fun _ _ => ends0 rfl rfl rfl
  · subst hs
    obtain ⟨⟨xs, hxs⟩, _⟩ := agg3_at ha
    obtain ⟨m, hlm, hd, _, _⟩ := slice_den hxs
    obtain ⟨x, y, a1, b1, ha'⟩ := fin (s' := .slice ⟨a.nm, .sym a.off.den⟩ (.sym len.den) (.sym m)) hu hc ht fun x hx => by rw [hxs] at hx; cases hx; exact hd
    have key : ∀ {us cs ds}, CfgOK (cfgSl us) → outO [] (slT us p'.den v'.den u.den a.off.den len.den m cl tl x y a1 b1) ds = (cs, some (slV, [])) → (∀ q ∈ cs, q) → SumSem Tryd.prog H β w base 7 vs ⟨slV, [], []⟩ := by
      intro us cs ds hcf hr hc
      refine sum_outO hcf rfl 400 hH ⟨[a.nm], [.row (.lst [])], fdK p'.den v'.den (.slice ⟨0, .sym a.off.den⟩ (.sym len.den) (.sym m)) :: slA cl tl x y a1 b1 u.den⟩ ha' (Ifc.fits (by simp) rfl ⟨⟨?_, rfl⟩, trivial⟩) [] (by simp) (by simp) hr hc fun _ _ => ends0 rfl rfl rfl
      rw [nth_eq] at hpl
      exact placed_any hpl
    have hsl : ∀ q ∈ slC cl tl, q := all_cons (by subst h1; rfl) (all_cons (decide_eq_true (by omega)) all_nil)
    by_cases hq : usQ p'.den v'.den u.den len.den
    · rcases hq.1.1 with ⟨h, _⟩ | ⟨h, _⟩
      · exact key cfgSl1 (sl_ok1 p'.den v'.den u.den a.off.den len.den m cl tl x y a1 b1) (all_cons ⟨h, hq⟩ hsl)
      · exact key cfgSl2 (sl_ok2 p'.den v'.den u.den a.off.den len.den m cl tl x y a1 b1) (all_cons ⟨h, hq⟩ hsl)
    · exact key cfgSl0 (sl_err p'.den v'.den u.den a.off.den len.den m cl tl x y a1 b1) (all_cons hq all_nil)
noncomputable def olS (ok : Bool) (e : Int) : Summ := fun args H _ => args3 args fun kv uv zv => keyQ H kv fun p v l => i64O uv fun u => zv.asAgg (.stuck 821) fun l2 => args3 l2 fun sp sv ss => i64O sp fun sp => i64O sv fun sv => lenV ss fun tl =>
  .need (sp.den = p.den ∧ sv.den = 0 ∧ 65552 + l < tl ∧ tl ≤ 2 ^ 48 ∧ (usQ p.den v.den u.den l ↔ ok = true) ∧ e = (if ok then 5 else 2)) (.ok ⟨opV e, [], []⟩)
theorem olOK {ok : Bool} {e : Int} : SumOK Tryd.prog 8 (olS ok e) := by
  intro glob O w0 β H w base args vs hH hG ha
  refine args3_sat fun kv uv zv hv => ?_
  subst hv
  rcases asAgg_cases kv with ⟨l, rfl⟩ | hno
  case inr => unfold keyQ; rw [hno]; trivial
  refine args3_sat fun p v s hl => i64O_sat fun p' hp => i64O_sat fun v' hv' => ?_
  subst hl hp hv'
  have fin : ∀ {s' ss : SV} {u sp sv : SI} {tl : Nat}, uv = .int .i64 u → zv = .agg [.int .i64 sp, .int .i64 sv, ss] → sv.den = 0 → (∀ β x, ss.den β = some x → ∃ y m, x = .slice y tl m) → (∀ x, s.den β = some x → s'.den β = some x) → ∃ y b, SV.denL β (fdK p'.den v'.den s' :: olA sp.den tl y b u.den) = some vs := by
    intro s' ss u sp sv tl hu hz h0 ht hs
    subst hu hz
    obtain ⟨⟨xs, hxs⟩, zs, hzs⟩ := agg3_at ha
    obtain ⟨xu, zs1, hxu, hzs1, rfl⟩ := denL_cons.1 hzs
    obtain ⟨⟨xt, hxt⟩, zs2, hzs2⟩ := agg3_at hzs1
    obtain ⟨y2, m2, rfl⟩ := ht _ _ hxt
    have h2 : SV.denL β [.agg [.int .i64 (.sym sp.den), .int .i64 (.lit 0), .val (.slice y2 tl m2)]] = some zs1 := agg3_den hzs1 (fun x hx => by rw [hxt] at hx; cases hx; rfl) (int_imp0 rfl) (int_imp0 h0)
    refine ⟨y2, m2, ?_⟩
    have h1 := agg3_den (s' := s') (p' := .int .i64 (.sym p'.den)) (v' := .int .i64 (.sym v'.den)) ha hs (int_imp0 rfl) (int_imp0 rfl)
    obtain ⟨xa, ws, hxa, hws, rfl⟩ := denL_cons.1 h1
    refine denL_cons.2 ⟨_, _, hxa, ?_, rfl⟩
    rw [hzs] at hws
    cases hws
    exact denL_cons.2 ⟨_, _, int_imp0 rfl _ _ hxu, h2, rfl⟩
  have zed : ∀ {f : List SV → R SumRes} {φ : SumRes → Prop}, (∀ l2, zv = .agg l2 → (f l2).Sat φ) → (zv.asAgg (.stuck 821) f).Sat φ := by
    intro f φ h
    rcases asAgg_cases zv with ⟨l2, rfl⟩ | hno
    · exact h _ rfl
    · rw [hno]; trivial
  have hopv : ∀ n : Int, opV n = (opV n).ren id := fun _ => rfl
  refine sliceR_sat (fun hn => i64O_sat fun u hu => zed fun l2 hz => args3_sat fun sp sv ss hl2 => i64O_sat fun sp' hsp => i64O_sat fun sv' hsv => lenV_sat fun tl ht => fun ⟨h1, h2, h3, h4, h5, h6⟩ => ?_) fun a len c hs => boolC_only fun hpl => i64O_sat fun u hu => zed fun l2 hz => args3_sat fun sp sv ss hl2 => i64O_sat fun sp' hsp => i64O_sat fun sv' hsv => lenV_sat fun tl ht => fun ⟨h1, h2, h3, h4, h5, h6⟩ => ?_
  · subst hn hl2 hsp hsv
    obtain ⟨y, b, ha'⟩ := fin (s' := .nilSlice) hu hz h2 ht fun x hx => hx
    have hno : ¬ usQ p'.den v'.den u.den 0 := fun h => by obtain ⟨⟨⟨_, h⟩ | ⟨_, h⟩, _⟩, _⟩ := h <;> cases h
    obtain rfl : ok = false := by
      cases ok
      · rfl
      · exact absurd (h5.2 rfl) hno
    subst h6
    exact sum_outO cfgSl0 rfl 400 hH ⟨[], [], fdK p'.den v'.den .nilSlice :: olA sp'.den tl y b u.den⟩ ha' (fits0 rfl) [] (by simp) (by simp) (ol_nil p'.den v'.den u.den sp'.den tl y b) (all_cons hno all_nil) fun _ _ => ends0 rfl rfl rfl
  · subst hs hl2 hsp hsv
    obtain ⟨⟨xs, hxs⟩, _⟩ := agg3_at ha
    obtain ⟨m, hlm, hd, _, _⟩ := slice_den hxs
    obtain ⟨y, b, ha'⟩ := fin (s' := .slice ⟨a.nm, .sym a.off.den⟩ (.sym len.den) (.sym m)) hu hz h2 ht fun x hx => by rw [hxs] at hx; cases hx; exact hd
    have key : ∀ {us cs ds n}, CfgOK (cfgSl us) → outO [] (olT us p'.den v'.den u.den sp'.den a.off.den len.den m tl y b) ds = (cs, some (opV n, [])) → (∀ q ∈ cs, q) → SumSem Tryd.prog H β w base 8 vs ⟨opV n, [], []⟩ := by
      intro us cs ds n hcf hr hc
      refine sum_outO hcf rfl 400 hH ⟨[a.nm], [.row (.lst [])], fdK p'.den v'.den (.slice ⟨0, .sym a.off.den⟩ (.sym len.den) (.sym m)) :: olA sp'.den tl y b u.den⟩ ha' (Ifc.fits (by simp) rfl ⟨⟨?_, rfl⟩, trivial⟩) [] (by simp) (by simp) hr hc fun _ _ => ends0 rfl rfl rfl
      rw [nth_eq] at hpl
      exact placed_any hpl
    have e1 : (sp'.den != p'.den) = false := by rw [h1]; simp
    by_cases hq : usQ p'.den v'.den u.den len.den
    · obtain rfl : ok = true := h5.1 hq
      subst h6
      have hol : ∀ t : Int, t = len.den → ∀ q ∈ olC t tl, q := fun t ht => by
        subst ht
        exact all_cons ⟨by omega, by omega⟩ (all_cons (decide_eq_false (by omega)) (all_cons (decide_eq_true (by omega)) all_nil))
      rcases hq.1.1 with ⟨h, hlen⟩ | ⟨h, hlen⟩
      · by_cases hv0 : v'.den = 0
        · have e2 : (0 != v'.den) = false := by rw [hv0]; rfl
          exact key cfgSl1 (ol_zero1 p'.den v'.den u.den sp'.den a.off.den len.den m tl y b) (all_cons ⟨h, hq⟩ (all_cons e1 (all_cons e2 (all_cons e2 (all_cons e2 (all_cons e2 (hol 16 (by omega))))))))
        · have e2 : (0 != v'.den) = true := by rw [bne_iff_ne]; exact fun e => hv0 e.symm
          exact key cfgSl1 (ol_vers1 p'.den v'.den u.den sp'.den a.off.den len.den m tl y b) (all_cons ⟨h, hq⟩ (all_cons e1 (all_cons e2 (hol 16 (by omega)))))
      · by_cases hv0 : v'.den = 0
        · have e2 : (0 != v'.den) = false := by rw [hv0]; rfl
          exact key cfgSl2 (ol_zero2 p'.den v'.den u.den sp'.den a.off.den len.den m tl y b) (all_cons ⟨h, hq⟩ (all_cons e1 (all_cons e2 (all_cons e2 (all_cons e2 (all_cons e2 (hol 32 (by omega))))))))
        · have e2 : (0 != v'.den) = true := by rw [bne_iff_ne]; exact fun e => hv0 e.symm
          exact key cfgSl2 (ol_vers2 p'.den v'.den u.den sp'.den a.off.den len.den m tl y b) (all_cons ⟨h, hq⟩ (all_cons e1 (all_cons e2 (hol 32 (by omega)))))
    · obtain rfl : ok = false := by
        cases ok
        · rfl
        · exact absurd (h5.2 rfl) hq
      subst h6
      exact key cfgSl0 (ol_err p'.den v'.den u.den sp'.den a.off.den len.den m tl y b) (all_cons hq all_nil)
end Go.Proofs.YtbmgahpjgefjaaaDoor.Aes

