/-
  RouteLines: the law.
-/
import Derived.Test.YtbhhagnpgkjmgaaDoorZRls13
import Derived.Test.YtbhhagnpgkjmgaaDoorPk6
namespace Go.Proofs.YtbhhagnpgkjmgaaDoor.Aes
open Go.Sim
open Go.Proofs
open Go.RowKit
variable {α : Type}

set_option maxRecDepth 1000000
theorem appL_all : ∀ {l : List (List Prop)}, (∀ a ∈ l, ∀ p ∈ a, p) → ∀ p ∈ appL l, p
  | [], _ => fun p hp => by cases hp
  | a :: l, h => app_all (h a (by simp)) (appL_all fun b hb => h b (by simp [hb]))
theorem alls_nil : ∀ a ∈ ([] : List (List Prop)), ∀ p ∈ a, p := fun a ha => by cases ha
theorem alls_cons {a : List Prop} {l : List (List Prop)} (h : ∀ p ∈ a, p) (hs : ∀ b ∈ l, ∀ p ∈ b, p) : ∀ b ∈ a :: l, ∀ p ∈ b, p := fun b hb => by
  rcases List.mem_cons.1 hb with rfl | hb
  · exact h
  · exact hs b hb
theorem sam_all {u w : Ss} (hu : u.ok) (hw : w.ok) (h : sameP u w) : ∀ p ∈ samC u w, p := all_cons ⟨hu, hw⟩ (all_cons (cB_true h) all_nil)
theorem sam_refl {u : Ss} (hu : u.ok) : ∀ p ∈ samC u u, p := sam_all hu hu ⟨rfl, fun _ _ => rfl⟩
theorem sam_nil : ∀ p ∈ samC nilSs nilSs, p := sam_refl nil_ok
theorem em0_ok : em0.ok := ⟨Nat.le_refl _, by show (0 : Nat) ≤ _; omega⟩
section
variable {x y o : ByteArray} {u w : Ss}
/- Lists that are the same. -/
theorem same_rls (h : sameP u w) : rlsP u ↔ rlsP w := by
  obtain ⟨h1, h2⟩ := h
  constructor
  · intro k i hi
    rw [← h2 i (by omega)]; exact k i (by omega)
  · intro k i hi
    rw [h2 i hi]; exact k i (by omega)
theorem same_in (h : sameP u w) (z : ByteArray) : inP u z ↔ inP w z := by
  obtain ⟨h1, h2⟩ := h
  constructor
  · rintro ⟨i, hi, he⟩
    exact ⟨i, by omega, by rw [← h2 i hi]; exact he⟩
  · rintro ⟨i, hi, he⟩
    exact ⟨i, by omega, by rw [h2 i (by omega)]; exact he⟩
theorem cB_congr {p q : Prop} (h : p ↔ q) : cB p = cB q := by
  by_cases hp : p
  · rw [cB_true hp, cB_true (h.1 hp)]
  · rw [cB_false hp, cB_false fun hq => hp (h.2 hq)]
theorem same_okT (h : sameP u w) : okT u x y o = okT w x y o := cB_congr (and_congr (same_rls h) Iff.rfl)
theorem same_apB (h : sameP u w) : apB u x y o = apB w x y o := cB_congr (and_congr Iff.rfl (and_congr Iff.rfl (not_congr (same_in h y))))
theorem same_trN (h : sameP u w) : trN u x y o = trN w x y o := by unfold trN; rw [same_apB h, h.1]
/- The transited list. -/
theorem tr_all (h : sameP u w) (hu : u.ok) (hw : w.ok) (hn : w.n ≤ 20) (hu1 : trOk u x y o) (hw1 : trOk w x y o) : ∃ s, s < 5 ∧ (∀ p ∈ cdT x y o s u, p) ∧ (∀ p ∈ cdT x y o s w, p) ∧ ∀ p ∈ cdQ y s u w, p := by
  have e1 := same_okT (x := x) (y := y) (o := o) h
  have e2 := same_apB (x := x) (y := y) (o := o) h
  have e3 := same_trN (x := x) (y := y) (o := o) h
  have hun : u.n = w.n := h.1
  cases h1 : okT w x y o with
  | false => exact ⟨0, by omega, all_cons hu1 (all_cons (e1.trans h1) all_nil), all_cons hw1 (all_cons h1 all_nil), sam_nil⟩
  | true =>
  have k1 := e1.trans h1
  by_cases h2 : (trN w x y o : Int) > 16
  · exact ⟨1, by omega, all_cons hu1 (all_cons k1 (all_cons (decide_eq_true (by rw [e3]; exact h2)) all_nil)), all_cons hw1 (all_cons h1 (all_cons (decide_eq_true h2) all_nil)), sam_nil⟩
  have f2 : decide ((trN w x y o : Int) > 16) = false := decide_eq_false h2
  have k2 : decide ((trN u x y o : Int) > 16) = false := by rw [e3]; exact f2
  cases h3 : apB w x y o with
  | true =>
    refine ⟨2, by omega, all_cons hu1 (all_cons k1 (all_cons k2 (all_cons (e2.trans h3) all_nil))), all_cons hw1 (all_cons h1 (all_cons f2 (all_cons h3 all_nil))), all_cons (strF_isS _) (all_cons (strF_isS _) (sam_all ⟨by show 0 + (u.n + 1) ≤ u.n + 1; omega, by show u.n + 1 ≤ _; omega⟩ ⟨by show 0 + (w.n + 1) ≤ w.n + 1; omega, by show w.n + 1 ≤ _; omega⟩ ⟨by show u.n + 1 = w.n + 1; omega, fun i hi => ?_⟩))⟩
    show addS u y (0 + i) = addS w y (0 + i)
    unfold addS
    by_cases c : 0 + i < u.n
    · rw [if_pos c, if_pos (by omega), h.2 _ c]
    · rw [if_neg c, if_neg (by omega)]
  | false =>
  have k3 := e2.trans h3
  by_cases h4 : w.n = 0
  · exact ⟨3, by omega, all_cons hu1 (all_cons k1 (all_cons k2 (all_cons k3 (all_cons (decide_eq_true (by omega)) all_nil)))), all_cons hw1 (all_cons h1 (all_cons f2 (all_cons h3 (all_cons (decide_eq_true h4) all_nil)))), sam_refl em0_ok⟩
  · refine ⟨4, by omega, all_cons hu1 (all_cons k1 (all_cons k2 (all_cons k3 (all_cons (decide_eq_false (by omega)) all_nil)))), all_cons hw1 (all_cons h1 (all_cons f2 (all_cons h3 (all_cons (decide_eq_false h4) all_nil)))), all_cons (strF_isS _) (all_cons (strF_isS _) (sam_all ⟨by show 0 + u.n ≤ u.n; omega, hu.2⟩ ⟨by show 0 + w.n ≤ w.n; omega, hw.2⟩ ⟨hun, fun i hi => ?_⟩))⟩
    show u.at (0 + i) = w.at (0 + i)
    rw [Nat.zero_add]; exact h.2 i hi
/- The hierarchical path. -/
theorem cI_le (h : comB x y = true) : cI x y ≤ dep x ∧ hasM x y (cI x y) := by
  unfold comB at h
  unfold cI
  cases hc : comO x y with
  | none => rw [hc] at h; cases h
  | some i =>
    unfold comO at hc
    obtain ⟨h1, h2, _⟩ := List.find?_range_eq_some.1 hc
    exact ⟨by have := List.mem_range.1 h2; show i ≤ _; omega, cB_iff.1 h1⟩
theorem hi_all (hx : rlmP x) (hz : sz2 x y) : ∃ h, h < 4 ∧ (∀ p ∈ cdH x y h, p) ∧ ∀ p ∈ cdP x y h, p := by
  by_cases hy : rlmP y
  · have hb : (rlmB x && rlmB y) = true := by rw [rlmB_true hx, rlmB_true hy]; rfl
    cases hc : comB x y with
    | false => exact ⟨1, by omega, all_cons hb (all_cons hc (all_cons hb (all_cons hc all_nil))), sam_nil⟩
    | true =>
      obtain ⟨h1, h2⟩ := cI_le hc
      have hdx : dep x + 1 ≤ 16 := (dep_all 16 x hx hx.2.1).1
      have hdy : dep y + 1 ≤ 16 := (dep_all 16 y hy hy.2.1).1
      have h3 : cK x y ≤ dep y := (comK_le h2).1
      have hg : (hgL x y).ok := ⟨by show 0 + hieN x y ≤ hieN x y; omega, by show hieN x y ≤ _; unfold hieN; omega⟩
      by_cases hk : cK x y = 0
      · refine ⟨2, by omega, all_cons hb (all_cons hc (all_cons (decide_eq_true hk) (all_cons hb (all_cons hc all_nil)))), all_cons (strF_isS _) (all_cons (strF_isS _) (sam_all ⟨by show 0 + (cI x y + 1) ≤ dep x + 1; omega, by show cI x y + 1 ≤ _; omega⟩ hg ⟨by show cI x y + 1 = hieN x y; unfold hieN; omega, fun i hi => ?_⟩))⟩
        have hi : i < cI x y + 1 := hi
        show suf x (0 + i) = hieS x y (0 + i)
        unfold hieS hieG
        rw [if_pos (by omega)]
      · exact ⟨3, by omega, all_cons hb (all_cons hc (all_cons (decide_eq_false hk) (all_cons hb (all_cons hc all_nil)))), all_cons (strF_isS _) (all_cons (strF_isS _) (sam_refl hg))⟩
  · have hb : (rlmB x && rlmB y) = false := by rw [rlmB_false hy, Bool.and_false]
    exact ⟨0, by omega, all_cons hb (all_cons hb (all_cons hz all_nil)), sam_nil⟩
theorem com_self : comB x x = true := (com_some (i := 0) (Nat.zero_le _) ⟨0, Nat.zero_le _, rfl⟩ fun j hj => by omega).1
theorem cdS_all (hx : rlmP x) : ∀ p ∈ cdS x (cutF x), p := by
  have h := par_realm hx
  cases hc : cutF x with
  | true =>
    rw [hc] at h
    have e1 : (!(parB x == true)) = false := by rw [h]; rfl
    have e2 : (!parB x) = false := by rw [h]; rfl
    exact all_cons e1 (rep_all e2 4)
  | false =>
    rw [hc] at h
    have e1 : (!(parB x == false)) = false := by rw [h]; rfl
    have e2 : (!parB x) = true := by rw [h]; rfl
    exact all_cons e1 (rep_all e2 2)
theorem thr_few : fewP (thrSs x y o) 3 ↔ x.size ≤ 60 ∧ y.size ≤ 60 ∧ o.size ≤ 60 := by
  constructor
  · rintro ⟨_, h⟩
    exact ⟨h 0 (by show (0 : Nat) < 3; omega), h 1 (by show (1 : Nat) < 3; omega), h 2 (by show (2 : Nat) < 3; omega)⟩
  · rintro ⟨h1, h2, h3⟩
    refine ⟨Int.le_refl _, fun i hi => ?_⟩
    have hi : i < 3 := hi
    rcases (show i = 0 ∨ i = 1 ∨ i = 2 by omega) with rfl | rfl | rfl
    · exact h1
    · exact h2
    · exact h3
/-- what is asked holds, one way -/
theorem rl_conds {B g e : List Prop} (hB : ∀ p ∈ B, p) (hg : ∀ p ∈ g, p) (he : ∀ p ∈ e, p) (h : sameP u w) (hu : u.ok) (hw : w.ok) (hf : fewP w 20) (hf3 : fewP (thrSs x y o) 3) :
    (∃ s, s < 5 ∧ rlmP x ∧ ∃ k, k < 4 ∧ ∀ p ∈ rlD x y o (cutF x) B g e u w k s, p) ∨ ∃ s, s < 5 ∧ ∀ p ∈ rlB x y o B g e u w s, p := by
  obtain ⟨z1, z2, z3⟩ := thr_few.1 hf3
  have hn : w.n ≤ 20 := by have := hf.1; omega
  have hz2 : sz2 x y := ⟨by omega, by omega⟩
  have ho : trOk w x y o := ⟨⟨hw, fun i hi => by have := hf.2 i hi; omega⟩, by omega, by omega, by omega⟩
  have ho' : trOk u x y o := ⟨⟨hu, fun i hi => by rw [h.2 i hi]; have := hf.2 i (by have := h.1; omega); omega⟩, by omega, by omega, by omega⟩
  obtain ⟨s, hs, h1, h2, h3⟩ := tr_all h hu hw hn ho' ho
  have hG : ∀ p ∈ cdG x y o g w, p := appL_all (alls_cons hg (alls_cons (all_cons (fun _ => hw) (all_cons (cB_yes hf) (all_cons (fun _ => thr_ok x y o) (all_cons (cB_yes hf3) all_nil)))) alls_nil))
  have hE : ∀ p ∈ cdE x y o B g e s u w, p := appL_all (alls_cons hB (alls_cons he (alls_cons h1 (alls_cons hg (alls_cons h2 alls_nil)))))
  have hF : ∀ p ∈ cdF g e u w, p := appL_all (alls_cons he (alls_cons hg (alls_cons (sam_all hu hw h) alls_nil)))
  by_cases hx : rlmP x
  · obtain ⟨k, hk, h4, h5⟩ := hi_all hx hz2
    refine .inl ⟨s, hs, hx, k, hk, appL_all (alls_cons hG (alls_cons (all_cons (rlmB_true hx) (all_cons rfl (all_cons hz2.1 all_nil))) (alls_cons h4 (alls_cons (all_cons (by rw [rlmB_true hx]; rfl) (all_cons com_self all_nil)) (alls_cons (cdS_all hx) (alls_cons hE (alls_cons ?_ (alls_cons h5 (alls_cons h3 (alls_cons hF alls_nil))))))))))⟩
    cases cutF x with
    | true => exact all_cons (decide_eq_true rfl) all_nil
    | false => exact all_nil
  · have hb := rlmB_false hx
    exact .inr ⟨s, hs, appL_all (alls_cons hG (alls_cons (all_cons hb (all_cons hz2.1 (all_cons (by rw [hb]; rfl) (all_cons (by rw [hb]; rfl) (all_cons hz2 (all_cons (by rw [hb]; rfl) (all_cons ⟨hz2.1, hz2.1⟩ all_nil))))))) (alls_cons hE (alls_cons sam_nil (alls_cons h3 (alls_cons hF alls_nil))))))⟩
end
theorem few_all {w : Ss} {x y o : ByteArray} (hw : (w.n : Int) ≤ 20 → w.ok) (h : ¬ (fewP w 20 ∧ fewP (thrSs x y o) 3)) : ∃ b, ∀ p ∈ fewR x y o w b, p := by
  by_cases hf : fewP w 20
  · exact ⟨true, all_cons hw (all_cons (cB_yes hf) (all_cons (fun _ => thr_ok x y o) (all_cons (cB_not fun h3 => h ⟨hf, h3⟩) all_nil)))⟩
  · exact ⟨false, all_cons hw (rep_all (cB_not hf) 7)⟩
theorem cl_same (t : Ss) (k : Nat) : sameP (clSs t) (t.pl k) := ⟨rfl, fun i _ => by
  show t.S (t.o + (0 + i)) = t.S (t.o + i)
  rw [Nat.zero_add]⟩
theorem lines_law {w : World} {x y o : ByteArray} {a : Option Addr} {len cap : Nat} {S : Nat → ByteArray} (hr : StrRow w a len cap S) :
    Calls Tryd.prog 3 #[.string x, .string y, .string o, .slice a len cap] w fun e w' => e = .returned (.bool true) ∧ Below w.heap.size w w' := by
  rcases hr with ⟨rfl, rfl, rfl⟩ | ⟨z, rfl, hs, hl, hm, hx⟩
  · have ha : SV.denL (fun _ => none) [.str (.sym x), .str (.sym y), .str (.sym o), .nilSlice] = some [.string x, .string y, .string o, .slice none 0 0] := rfl
    have go : ∀ (ds : List Bool) {ps : List Prop}, outO [] (rlZ x y o) ds = (ps, rlV) → (∀ p ∈ ps, p) → Calls Tryd.prog 3 #[.string x, .string y, .string o, .slice none 0 0] w fun e w' => e = .returned (.bool true) ∧ Below w.heap.size w w' := fun ds ps h hp => law_by cfgRWOK 20000 (HeapRel.start _ _ w) (GlobRel.none _) ha ds h hp
    by_cases hf : fewP nilSs 20 ∧ fewP (thrSs x y o) 3
    · rcases rl_conds (x := x) (y := y) (o := o) (B := []) (g := []) (e := []) all_nil all_nil all_nil (⟨rfl, fun i hi => by have hi : i < 0 := hi; omega⟩ : sameP em0 nilSs) em0_ok nil_ok hf.1 hf.2 with ⟨s, hs, _, k, hk, hp⟩ | ⟨s, hs, hp⟩
      · exact go _ (mapN_atL (mapN_atL (rz_ok x y o (cutF x)) (Nat.zero_le k) (by omega)) (Nat.zero_le s) (by omega)) hp
      · exact go _ (mapN_atL (rz_bad x y o) (Nat.zero_le s) (by omega)) hp
    · obtain ⟨b, hp⟩ := few_all (fun _ => nil_ok) hf
      exact go _ (rz_few x y o b) hp
  · obtain ⟨β, hH, _, hd⟩ := start_strs (HeapRel.start Tryd.prog (fun _ => False) w) hs hl hx
    let t : Ss := ⟨S, cap, 0, len, false, cap⟩
    have hd : ((t.pl cap).val 0).den β = some (.slice (some z) len cap) := hd
    have ha : SV.denL β [.str (.sym x), .str (.sym y), .str (.sym o), (t.pl cap).val 0] = some [.string x, .string y, .string o, .slice (some z) len cap] := denL_cons.2 ⟨_, _, rfl, denL_cons.2 ⟨_, _, rfl, denL_cons.2 ⟨_, _, rfl, denL_cons.2 ⟨_, _, hd, rfl, rfl⟩, rfl⟩, rfl⟩, rfl⟩
    have hw' : ((t.pl cap).n : Int) ≤ 20 → (t.pl cap).ok := fun hn => ⟨by show 0 + len ≤ cap; omega, by have hn : (len : Int) ≤ 20 := hn; show len ≤ _; omega⟩
    have go : ∀ (ds : List Bool) {ps : List Prop}, outO [] (rlX t cap x y o) ds = (ps, rlV) → (∀ p ∈ ps, p) → Calls Tryd.prog 3 #[.string x, .string y, .string o, .slice (some z) len cap] w fun e w' => e = .returned (.bool true) ∧ Below w.heap.size w w' := fun ds ps h hp => law_by cfgRWOK 20000 hH (GlobRel.none _) ha ds h hp
    have hg : ∀ p ∈ gT t, p := all_cons (strF_isS _) all_nil
    by_cases hf : fewP (t.pl cap) 20 ∧ fewP (thrSs x y o) 3
    · have hw : (t.pl cap).ok := hw' hf.1.1
      have hn : len ≤ 20 := by have : (len : Int) ≤ 20 := hf.1.1; omega
      have hS : sameP (uSs t (decide (t.n = 0))) (t.pl cap) ∧ (uSs t (decide (t.n = 0))).ok ∧ (∀ p ∈ cdB t (decide (t.n = 0)), p) ∧ ∀ p ∈ eT t (decide (t.n = 0)), p := by
        by_cases h0 : t.n = 0
        · have e : decide (t.n = 0) = true := decide_eq_true h0
          rw [e]
          exact ⟨⟨h0.symm, fun i hi => by have hi : i < 0 := hi; omega⟩, em0_ok, appL_all (alls_cons (all_cons hw.1 (all_cons e all_nil)) (alls_cons (all_cons rfl all_nil) alls_nil)), all_nil⟩
        · have e : decide (t.n = 0) = false := decide_eq_false h0
          rw [e]
          refine ⟨cl_same t cap, cl_ok hw, appL_all (alls_cons (all_cons hw.1 (all_cons e all_nil)) (alls_cons (all_cons ⟨⟨?_, ?_⟩, rfl⟩ all_nil) alls_nil)), all_cons (fun _ => rfl) all_nil⟩
          · show len * 16 < _; omega
          · show len < _; omega
      obtain ⟨h1, h2, h3, h4⟩ := hS
      rcases rl_conds h3 hg h4 h1 h2 hw hf.1 hf.2 with ⟨s, hs, _, k, hk, hp⟩ | ⟨s, hs, hp⟩
      · exact go _ (mapN_atL (mapN_atL (rl_ok t cap x y o (cutF x) _) (Nat.zero_le k) (by omega)) (Nat.zero_le s) (by omega)) hp
      · exact go _ (mapN_atL (rl_bad t cap x y o _) (Nat.zero_le s) (by omega)) hp
    · obtain ⟨b, hp⟩ := few_all hw' hf
      exact go _ (rl_few t cap x y o b) (app_all hg hp)
end Go.Proofs.YtbhhagnpgkjmgaaDoor.Aes

