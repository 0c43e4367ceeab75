/-
  Texts behind one another: the symbolic simulator and what it is told of the program.
-/
import Derived.Test.YtmekechnnfhhkaaDoorPk6
import Derived.Test.YtmekechnnfhhkaaDoorZRtc6
import Derived.Shelf.SlMaps.Clone
import Derived.Ground.SlmcProg

/-
  The keys of a map of pairs, in order: the summary.
-/
namespace Go.Proofs.YtmekechnnfhhkaaDoor.Aes
open Go.Sim
open Go.Proofs
open Go.Shelf Go.Sort
variable {α : Type}

set_option maxRecDepth 1000000
/- In whatever order they come. -/
theorem srt_perm {l : List Pr} : (srtL cfPr l).Perm l := List.mergeSort_perm _ _
theorem srt_sorted (l : List Pr) : SortedIn (ltOf cfPr) 0 (srtL cfPr l).toArray.size (srtL cfPr l).toArray := by
  have h := List.pairwise_mergeSort (le := fun x y : Pr => !(ltOf cfPr) y x) (fun a b c h1 h2 => by
    simp only [Bool.not_eq_true'] at h1 h2 ⊢
    exact swoPr.ntrans _ _ _ h2 h1) (fun a b => by
    simp only [Bool.or_eq_true, Bool.not_eq_true']
    by_cases c : ltOf cfPr b a = false
    · exact .inl c
    · refine .inr ?_
      rw [ltPr] at c ⊢
      have c : prLt b a := by simpa using c
      exact decide_eq_false fun k => prLt_irrefl _ (prLt_trans c k)) l
  intro i j _ hij hj
  have hj : j < (srtL cfPr l).length := by simpa using hj
  have := List.pairwise_iff_getElem.1 h i j (by have : i < (srtL cfPr l).length := by omega
                                                exact this) hj hij
  have e1 : (srtL cfPr l).toArray[i]! = (srtL cfPr l)[i]'(by omega) := by simp [show i < (srtL cfPr l).length by omega]
  have e2 : (srtL cfPr l).toArray[j]! = (srtL cfPr l)[j]'hj := by simp [hj]
  rw [e1, e2]
  rw [Bool.not_eq_true'] at this
  exact this
theorem srt_congr {l l' : List Pr} (h : l.Perm l') : srtL cfPr l = srtL cfPr l' := by
  have hs : (srtL cfPr l).length = l'.length := srt_perm.length_eq.trans h.length_eq
  have := Go.Sort.sorted_unique_holds swoPr totPr l'.toArray (srtL cfPr l).toArray ⟨by simpa using hs, fun i hi => ?_, ?_⟩ (by
    have := srt_sorted l
    rwa [show (srtL cfPr l).toArray.size = l'.toArray.size by simpa using hs] at this)
  · exact this
  · rcases hi with hi | hi
    · omega
    · have hi : l'.length ≤ i := by simpa using hi
      have e1 : (srtL cfPr l).toArray[i]! = default := by simp [show ¬ i < (srtL cfPr l).length by omega]
      have e2 : l'.toArray[i]! = default := by simp [show ¬ i < l'.length by omega]
      rw [e1, e2]
  · have e1 : ((srtL cfPr l).toArray.extract 0 l'.toArray.size).toList = srtL cfPr l := by simp [hs.symm]
    have e2 : (l'.toArray.extract 0 l'.toArray.size).toList = l' := by simp
    rw [e1, e2]
    exact srt_perm.trans h
/-- the keys -/
noncomputable def keysL (es : List MapEntry) : List Pr := es.map fun e => prK e.key
/-- the key of a pair -/
noncomputable def kyP (p : Pr) : Value := .agg #[.string p.1, .string p.2]
/- What is added. -/
theorem addP_at {V : Nat → Value} {n : Nat} {p : Pr} : (∀ i, i < n → addP n V p (i * 2) = V (i * 2) ∧ addP n V p (i * 2 + 1) = V (i * 2 + 1)) ∧ addP n V p (n * 2) = .string p.1 ∧ addP n V p (n * 2 + 1) = .string p.2 := by
  unfold addP catV
  refine ⟨fun i hi => ⟨?_, ?_⟩, ?_, ?_⟩
  · rw [if_pos (by omega)]; show V (0 + i * 2) = _; rw [Nat.zero_add]
  · rw [if_pos (by omega)]; show V (0 + (i * 2 + 1)) = _; rw [Nat.zero_add]
  · rw [if_neg (by omega), Nat.sub_self]; rfl
  · rw [if_neg (by omega), show n * 2 + 1 - n * 2 = 1 by omega]; rfl
theorem prAt_add_old {V : Nat → Value} {n i : Nat} {p : Pr} (h : i < n) : prAt (addP n V p) i = prAt V i := by
  unfold prAt
  rw [(addP_at.1 i h).1, (addP_at.1 i h).2]
theorem prAt_add_new {V : Nat → Value} {n : Nat} {p : Pr} : prAt (addP n V p) n = p := by
  unfold prAt
  rw [addP_at.2.1, addP_at.2.2]
  rfl
theorem prV_add {V : Nat → Value} {n : Nat} {p : Pr} (h : PrV V n) : PrV (addP n V p) (n + 1) := by
  intro i hi
  by_cases c : i < n
  · rw [prAt_add_old c, (addP_at.1 i c).1, (addP_at.1 i c).2]; exact h i c
  · obtain rfl : i = n := by omega
    rw [prAt_add_new]; exact addP_at.2
theorem prL_add {V : Nat → Value} {n : Nat} {p : Pr} : prL (addP n V p) (n + 1) = prL V n ++ [p] := by
  unfold prL
  rw [List.range_succ, List.map_append, List.map_singleton, prAt_add_new]
  congr 1
  exact List.map_congr_left fun i hi => prAt_add_old (List.mem_range.1 hi)
/-- one pair's cells -/
noncomputable def oneV (p : Pr) : Nat → Value := atV [.string p.1, .string p.2]
theorem one_pr (p : Pr) : PrV (oneV p) 1 ∧ prL (oneV p) 1 = [p] := by
  refine ⟨fun i hi => ?_, rfl⟩
  obtain rfl : i = 0 := by omega
  exact ⟨rfl, rfl⟩
section
variable (vS : MSh) {es : List MapEntry} {c : Nat}
noncomputable def soC (es : List MapEntry) (c : Nat) : Option (List Nat × (Nat → Value)) → Cut
  | none => soC0 vS es c
  | some a => soC1 vS es c a.1 a.1.length a.2
def soQ (es : List MapEntry) : Option (List Nat × (Nat → Value)) → Prop
  | none => True
  | some a => VisOK es a.1 ∧ a.1 ≠ [] ∧ PrV a.2 a.1.length ∧ prL a.2 a.1.length = a.1.map fun b => prK (getB es b).key
noncomputable def soM (es : List MapEntry) : Option (List Nat × (Nat → Value)) → Nat
  | none => (leftA es []).length + 1
  | some a => (leftA es a.1).length
/-- what comes of it -/
def soD (es : List MapEntry) (c : Nat) (v : SV) (H : List SO) : Prop :=
  H[0]? = some (.obj (.amap kPr vS es c)) ∧ ((es = [] ∧ v = .nilSlice) ∨ (es ≠ [] ∧ v = .slice ⟨6, .lit 0⟩ (.sym es.length) (.rest 6 0) ∧ H[6]? = some (.own (.raw (flatV encPr 2 (srtL cfPr (keysL es))) (es.length * 2)) false 41)))
theorem so_runs (hm : MapOK es c) (hz : es.length ≤ 1000000) : Runs cfgS4 37 [.map 0] [.obj (.amap kPr vS es c)] (soD vS es c) := by
  have hG : ∀ seen, nxG es c seen := fun seen => ⟨not_gone hm, hm.lt⟩
  have hE : ∀ (seen : List Nat) {e : MapEntry}, e ∈ leftA es seen → nxE es c seen e.born := fun seen e he => ⟨rfl, by rw [app_eq]; simp, e, (left_mem.1 he).1, (lastB_app _ _).symm⟩
  have hK : ∀ (seen : List Nat) {e : MapEntry}, e ∈ leftA es seen → nxK es seen e.born = prK e.key := fun seen e he => by unfold nxK; rw [lastB_app, getB_of hm.nd (left_mem.1 he).1]
  have hnd : ∀ seen, VisOK es seen → seen.length ≤ 1000000 := fun seen hv => by
    have h2 : seen.length ≤ es.length := by
      have := List.Nodup.length_le_of_subset (l₁ := seen) (l₂ := es.map fun e => e.born) hv.nd fun b hb => by
        obtain ⟨e, he, rfl⟩ := hv.mem b hb
        exact List.mem_map.2 ⟨e, he, rfl⟩
      simpa using this
    omega
  refine runs_by cfgS4OK (soC vS es c) (soQ es) (soM es) (fun g nm hg => by cases hg) ?_ fun a ha J => ?_
  · exact to_start (some (5, 2)) 20000 none trivial (fun z => so_init vS es c z) (so_n0 vS es c) all_nil
  cases a with
  | none =>
    show TurnsTo cfgS4 _ (soC vS es c) _ _ ((soC0 vS es c).fill J)
    cases hl : (leftA es []).isEmpty with
    | true =>
      refine to_end none 20000 (fun z => so_none vS es c J z) (all_cons (hG _) (all_cons hl all_nil)) fun H hH => ⟨(List.cons.inj hH).1, .inl ⟨?_, rfl⟩⟩
      cases es with
      | nil => rfl
      | cons e es => exact absurd (left_none hl e (by simp)) (by simp)
    | false =>
      have hp : ∀ z, pickA (leftA es []) z ∈ leftA es [] := fun z => pick_mem hl z
      refine to_turnZ (js := []) (K := fun _ => False) (some (5, 2)) 20000 (M := soM0 vS es c) (names := [0, 1, 2, 3, 4, 5, 9]) (fun z => ?_) (fun v es h => h.elim)
      have hb := hp (z 0 0)
      have hk : nxK es [] (nxB es [] (z 0 0)) = prK (pickA (leftA es []) (z 0 0)).key := hK [] hb
      refine ⟨_, _, _, so_first vS es c (oneV (nxK es [] (nxB es [] (z 0 0)))) J z, all_cons (hG _) (all_cons hl (all_cons (hE _ hb) all_nil)), ?_⟩
      show SeenTurn _ _ _ _ _ _
      refine ⟨some ([nxB es [] (z 0 0)], oneV (nxK es [] (nxB es [] (z 0 0)))), 10, [], fsM (nxK es [] (nxB es [] (z 0 0))), ⟨⟨vis_next (vis_nil es) hb, by simp, (one_pr _).1, ?_⟩, ?_⟩, rfl, so_n9 vS es c _ _ _, by simp, fun e he E0 hE0 => ?_⟩
      · show prL (oneV _) 1 = [prK (getB es (nxB es [] (z 0 0))).key]
        rw [(one_pr _).2, hk]
        unfold nxB
        rw [getB_of hm.nd (left_mem.1 hb).1]
      · show (leftA es (app [] [nxB es [] (z 0 0)])).length < (leftA es []).length + 1
        exact Nat.lt_succ_of_lt (left_lt hb)
      · rcases List.mem_cons.1 he with rfl | he
        · cases hE0
          exact ⟨_, rfl, fun _ _ h => h⟩
        · obtain rfl := List.mem_singleton.1 he
          cases hE0
          refine ⟨_, rfl, fun γ vs h => ?_⟩
          have h : some [Value.string (nxK es [] (nxB es [] (z 0 0))).1, Value.string (nxK es [] (nxB es [] (z 0 0))).2] = some vs := h
          cases h
          refine ⟨rfl, fun i x hx => ?_⟩
          match i, hx with
          | 0, hx => exact (Option.some.inj hx).symm
          | 1, hx => exact (Option.some.inj hx).symm
  | some a =>
    obtain ⟨seen, V⟩ := a
    obtain ⟨hv, hne, hV, hL⟩ : VisOK es seen ∧ seen ≠ [] ∧ PrV V seen.length ∧ prL V seen.length = seen.map fun b => prK (getB es b).key := ha
    show TurnsTo cfgS4 _ (soC vS es c) _ _ ((soC1 vS es c seen seen.length V).fill J)
    have hle := hnd seen hv
    cases hl : (leftA es seen).isEmpty with
    | true =>
      have hp := vis_all hm hv hl
      have hlen : seen.length = es.length := by have := hp.length_eq; simpa using this
      refine to_end none 20000 (fun z => so_end vS es c seen seen.length V J z) (all_cons (hG _) (all_cons hl (all_cons ⟨rfl, hV, by omega⟩ all_nil))) fun H hH => ?_
      obtain ⟨h0, h1⟩ := List.cons.inj (show [H[0]?, H[6]?] = [some (.obj (.amap kPr vS es c)), some (.own (.raw (flatV encPr 2 (srtL cfPr (prL V seen.length))) (seen.length * 2)) false 41)] from hH)
      have h1 := (List.cons.inj h1).1
      refine ⟨h0, .inr ⟨fun he => ?_, ?_, ?_⟩⟩
      · subst he
        exact hne (List.length_eq_zero_iff.1 hlen)
      · rw [hlen]
      · rw [h1, hL, hlen]
        have : (seen.map fun b => prK (getB es b).key).Perm (keysL es) := by
          have := hp.map fun e : MapEntry => prK e.key
          rwa [List.map_map] at this
        rw [srt_congr this]
    | false =>
      have hp : ∀ z, pickA (leftA es seen) z ∈ leftA es seen := fun z => pick_mem hl z
      refine to_turnZ (js := []) (K := fun _ => False) (some (5, 2)) 20000 (M := soM0 vS es c) (names := [0, 1, 2, 3, 4, 5, 10]) (fun z => ?_) (fun v es h => h.elim)
      have hb := hp (z 0 0)
      have hk : nxK es seen (nxB es seen (z 0 0)) = prK (pickA (leftA es seen) (z 0 0)).key := hK seen hb
      have hl1 : (app seen [nxB es seen (z 0 0)]).length = seen.length + 1 := by rw [app_eq]; simp
      refine ⟨_, _, _, so_turn vS es c seen seen.length V J z, all_cons (hG _) (all_cons hl (all_cons (hE _ hb) (all_cons (Nat.le_refl 2) (all_cons (by omega) (all_cons ⟨⟨by omega, by omega⟩, fun i hi => ?_⟩ all_nil))))), ?_⟩
      · rcases (show i = 0 ∨ i = 1 by omega) with rfl | rfl <;> rfl
      show SeenTurn _ _ _ _ _ _
      rw [← hl1]
      refine SeenTurn.of (some (app seen [nxB es seen (z 0 0)], addP seen.length V (nxK es seen (nxB es seen (z 0 0))))) ⟨⟨vis_next hv hb, by rw [app_eq]; simp, ?_, ?_⟩, left_lt hb⟩ (so_n10 vS es c _ _ _)
      · show PrV _ (app seen [nxB es seen (z 0 0)]).length
        rw [hl1]; exact prV_add hV
      · show prL _ (app seen [nxB es seen (z 0 0)]).length = _
        rw [hl1, prL_add, hL, hk, app_eq, List.map_append, List.map_singleton]
        unfold nxB
        rw [getB_of hm.nd (left_mem.1 hb).1]
end
/- The summary. -/
noncomputable def prF (P : Nat → Pr) : Nat → SV := fun j => .str (.sym (boolC (Nat.beq (j % 2) 0) (P (j / 2)).1 (P (j / 2)).2))
noncomputable def prN (l : List Pr) (i : Nat) : Pr := (l[i]?).getD default
theorem flat_imp (l : List Pr) : (Cells.raw (flatV encPr 2 l) (l.length * 2)).Imp (.fn (prF (prN l)) (l.length * 2)) := fun γ vs hv => by
  obtain ⟨h1, h2⟩ : vs.length = l.length * 2 ∧ ∀ (i : Nat) (x : Value), vs[i]? = some x → x = flatV encPr 2 l i := hv
  refine ⟨h1, fun j x hx => ?_⟩
  have hj : j < vs.length := (List.getElem?_eq_some_iff.1 hx).1
  have hi : j / 2 < l.length := by omega
  obtain ⟨h3, h4⟩ := flat_pr l hi
  have e : prN l (j / 2) = l[j / 2] := by unfold prN; rw [List.getElem?_eq_getElem hi]; rfl
  rw [h2 j x hx]
  unfold prF
  rcases (show j = j / 2 * 2 ∨ j = j / 2 * 2 + 1 by omega) with c | c
  · have hb : Nat.beq (j % 2) 0 = true := by
      have : j % 2 = 0 := by omega
      rw [this]; rfl
    rw [hb, e, show flatV encPr 2 l j = .string l[j / 2].1 by rw [← h3, ← c]]
    rfl
  · have hb : Nat.beq (j % 2) 0 = false := by
      have : j % 2 = 1 := by omega
      rw [this]; rfl
    rw [hb, e, show flatV encPr 2 l j = .string l[j / 2].2 by rw [← h4, ← c]]
    rfl
theorem out1 {I : Ifc} {base nm : Nat} (h : I.names.length ≤ nm) : I.out base [nm] nm = base := by
  unfold Ifc.out
  have hk : I.known nm = false := by
    unfold Ifc.known
    rw [lenN_eq]
    cases hb : Nat.blt nm I.names.length with
    | false => rfl
    | true => have : nm < I.names.length := Nat.le_of_ble_eq_true hb; omega
  rw [hk]
  show base + boolC (Nat.beq nm nm) 0 _ = base
  rw [Nat.beq_refl]; rfl
theorem memN1 (q : Nat) : memN q [q] = true := by
  show boolC (Nat.beq q q) true _ = true
  rw [Nat.beq_refl]; rfl
theorem seen1 (I : Ifc) (nm : Nat) : I.seen [nm] nm = true := by
  unfold Ifc.seen
  cases I.known nm with
  | true => rfl
  | false => exact memN1 nm
noncomputable def isPrS (k : MSh) : Bool := match k with
  | ⟨true, [.s, .s]⟩ => true
  | _ => false
theorem isPrS_spec {k : MSh} (h : isPrS k = true) : k = kPr := by
  unfold isPrS at h
  split at h
  · rfl
  · cases h
noncomputable def amapOf (e : SO) : Option ((MSh × MSh) × List MapEntry × Nat) := match e with
  | .obj (.amap k v es c) => some ((k, v), es, c)
  | _ => none
theorem amapOf_spec {e : SO} {r : (MSh × MSh) × List MapEntry × Nat} (h : amapOf e = some r) : e = .obj (.amap r.1.1 r.1.2 r.2.1 r.2.2) := by
  unfold amapOf at h
  split at h
  · cases h; rfl
  · cases h
noncomputable def nilE (es : List MapEntry) : Bool := es.isEmpty
noncomputable def soR (base m : Nat) (vS : MSh) (es : List MapEntry) (c : Nat) : R SumRes :=
  .need (MapOK es c ∧ es.length ≤ 1000000) (.fork (nilE es) (.ok ⟨.nilSlice, [(m, .obj (.amap kPr vS es c))], []⟩) (.ok ⟨.slice ⟨base, .lit 0⟩ (.sym es.length) (.rest base 0), [(m, .obj (.amap kPr vS es c))], [.own (.fn (prF (prN (srtL cfPr (keysL es)))) (es.length * 2)) false 41]⟩))
noncomputable def isNilM (v : SV) : Bool := match v with
  | .nilMap => true
  | _ => false
theorem isNilM_spec {v : SV} (h : isNilM v = true) : v = .nilMap := by
  unfold isNilM at h
  split at h
  · rfl
  · cases h
noncomputable def soSm : Summ := fun args H base => args1 args fun v => boolC (isNilM v) (.ok ⟨.nilSlice, [], []⟩) (optC (mapNm v) (.stuck 7840) fun m => optC (nth H m) (.stuck 7841) fun e => optC (amapOf e) (.stuck 7842) fun r => boolC (isPrS r.1.1) (soR base m r.1.2 r.2.1 r.2.2) (.stuck 7843))
theorem so_nil : outO [] (callSim cfgS4 20000 37 [.nilMap] []) [] = ([], some (.nilSlice, [])) := by kernel_rfl
theorem soOK : SumOK Tryd.prog 37 soSm := by
  intro glob O w0 β H w base args vs hH hG ha
  refine args1_sat fun v hv => R.Sat.boolC (fun hnl => ?_) fun _ => optC_only fun m hm => optC_only fun e he => optC_only fun r hr => boolC_only fun hk => ?_
  · rw [hv, isNilM_spec hnl] at ha
    exact sum_runQ cfgS4OK 20000 hH ⟨[], [], [.nilMap]⟩ (by intro g j hg; cases hg) ha (fits0 rfl).q [] (by simp) (by simp) (outO_ob so_nil all_nil fun H2 _ => ⟨.refl _, rfl, trivial, trivial⟩)
  rw [hv, mapNm_spec hm] at ha
  rw [nth_eq, amapOf_spec hr, isPrS_spec hk] at he
  generalize r.1.2 = vS at he ⊢
  generalize r.2.1 = es at he ⊢
  generalize r.2.2 = c at he ⊢
  let I : Ifc := ⟨[m], [.obj (.amap kPr vS es c)], [.map 0]⟩
  rintro ⟨hok, hz⟩
  have hF : I.FitsQ H := Ifc.fitsQ (by simp [I]) rfl ⟨⟨⟨_, he, _, rfl, fun _ _ h => h⟩, rfl⟩, trivial⟩
  have hS : ∀ (keep : List Nat) {H2 : List SO}, H2[0]? = some (.obj (.amap kPr vS es c)) → SetsQ I.big (I.seen keep) (I.out base keep) H2 (ownedOf I.ents 0) [(m, .obj (.amap kPr vS es c))] := fun keep H2 h0 => ⟨⟨rfl, .inr ⟨_, _, h0, rfl, fun _ _ h => h, rfl⟩⟩, trivial⟩
  refine ⟨fun hn => ?_, fun hn => ?_⟩
  · have hn : es = [] := by unfold nilE at hn; simpa using hn
    refine sum_runsQ (c := cfgS4) hH I (by intro g j hg; cases hg) ha hF [] (by simp) (by simp) (runs_mono (so_runs vS hok hz) fun v H2 ⟨h0, h⟩ => ?_)
    rcases h with ⟨_, rfl⟩ | ⟨h, _⟩
    · exact ⟨.refl _, rfl, hS _ h0, trivial⟩
    · exact absurd hn h
  · have hn : es ≠ [] := by unfold nilE at hn; simpa using hn
    refine sum_runsQ (c := cfgS4) hH I (by intro g j hg; cases hg) ha hF [6] (by simp [I]) (by simp) (runs_mono (so_runs vS hok hz) fun v H2 ⟨h0, h⟩ => ?_)
    rcases h with ⟨h, _⟩ | ⟨_, rfl, h⟩
    · exact absurd h hn
    · have hl : (srtL cfPr (keysL es)).length = es.length := by
        rw [srt_perm.length_eq]; simp [keysL]
      refine ⟨?_, ?_, hS _ h0, ⟨.inl ⟨_, _, _, _, h, trivial, ?_, rfl⟩, trivial⟩⟩
      · show SV.Imp (.slice ⟨I.out base [6] 6, .lit 0⟩ (.sym es.length) (.rest (I.out base [6] 6) 0)) _
        rw [out1 (by simp [I])]
        exact .refl _
      · show (I.seen [6] 6 && I.seen [6] 6) = true
        rw [seen1]; rfl
      · have := flat_imp (srtL cfPr (keysL es))
        rw [hl] at this
        exact this
end Go.Proofs.YtmekechnnfhhkaaDoor.Aes


/-
  Strings: their bytes, their parts, the first place of a byte.
-/
namespace Go.Proofs.YtmekechnnfhhkaaDoor.Aes
open Go.Sim
open Go.Proofs
variable {α : Type}

/-- a byte of a string, az a number -/
noncomputable def bytN (s : ByteArray) (i : Nat) : Int := ((s.data.getD i 0).toBitVec.toNat : Int)
theorem ext_size (s : ByteArray) (a b : Nat) : (s.extract a b).size = min b s.size - a := by
  show (s.extract a b).data.size = _
  rw [ByteArray.data_extract, Array.size_extract]
  rfl
theorem ext_byt {s : ByteArray} {a b i : Nat} (h : a + i < min b s.size) : bytN (s.extract a b) i = bytN s (a + i) := by
  have h2 : min b s.data.size = min b s.size := rfl
  unfold bytN
  rw [ByteArray.data_extract, Array.getD_eq_getD_getElem?, Array.getD_eq_getD_getElem?, Array.getElem?_extract, if_pos (by omega)]
theorem ext_ext {s : ByteArray} {k a : Nat} (hk : k ≤ s.size) : (s.extract k s.size).extract a (s.extract k s.size).size = s.extract (k + a) s.size := by
  apply ByteArray.ext
  rw [ByteArray.data_extract, ByteArray.data_extract, ByteArray.data_extract, Array.extract_extract, ext_size]
  congr 1
  omega
theorem ext_all (s : ByteArray) : s.extract 0 s.size = s := by
  apply ByteArray.ext
  rw [ByteArray.data_extract]
  show s.data.extract 0 s.data.size = _
  rw [Array.extract_size]
theorem byt_at {s : ByteArray} {i : Nat} (h : i < s.size) (c : UInt8) : (s[i]! == c) = true ↔ bytN s i = (c.toNat : Int) := by
  have hd : i < s.data.size := h
  have e1 : s[i]! = s.data[i] := by
    rw [getElem!_pos s i h]; rfl
  have e2 : s.data.getD i 0 = s.data[i] := by
    rw [Array.getD_eq_getD_getElem?, Array.getElem?_eq_getElem hd]; rfl
  unfold bytN
  rw [e1, e2]
  constructor
  · intro he
    rw [eq_of_beq he]; rfl
  · intro he
    have : (s.data[i]).toNat = c.toNat := by
      have he : (((s.data[i]).toNat : Nat) : Int) = (c.toNat : Int) := he
      omega
    rw [UInt8.toNat_inj.1 this]
    exact beq_self_eq_true c
theorem fi_cases (r : ByteArray) (c : UInt8) : (firstIdx r c = -1 ∧ ∀ i, i < r.size → bytN r i ≠ (c.toNat : Int)) ∨ ∃ m : Nat, firstIdx r c = (m : Int) ∧ m < r.size ∧ bytN r m = (c.toNat : Int) ∧ ∀ j : Nat, j < m → bytN r j ≠ (c.toNat : Int) := by
  unfold firstIdx
  cases h : (List.range r.size).find? fun i => r[i]! == c with
  | none =>
    refine .inl ⟨rfl, fun i hi he => ?_⟩
    have := List.find?_eq_none.1 h i (List.mem_range.2 hi)
    exact this ((byt_at hi c).2 he)
  | some m =>
    obtain ⟨h1, h2, h3⟩ := List.find?_range_eq_some.1 h
    have h2 := List.mem_range.1 h2
    refine .inr ⟨m, rfl, h2, (byt_at h2 c).1 h1, fun j hj he => ?_⟩
    have h4 := h3 j hj
    rw [(byt_at (by omega) c).2 he] at h4
    cases h4
theorem size_zero {s : ByteArray} (h : s.size = 0) : s = ⟨#[]⟩ := by
  apply ByteArray.ext
  exact Array.eq_empty_of_size_eq_zero h
end Go.Proofs.YtmekechnnfhhkaaDoor.Aes


/-
  Which strings are realms: the runs of name.Realm, of any string.
-/
namespace Go.Proofs.YtmekechnnfhhkaaDoor.Aes
open Go.Sim
open Go.Proofs
variable {α : Type}

set_option maxRecDepth 1000000
noncomputable def rmT (st : Option (Nat × Nat)) (s : ByteArray) : Tree := callSim (cfgX.at st) 20000 39 [.str (.sym s)] []
noncomputable def rmS1 (s : ByteArray) : SS := stopOf (rmT (some (2, 3)) s) [true, false]
noncomputable def rmS2 (s : ByteArray) : SS := stopOf (rmT (some (3, 3)) s) [true, false, false, false, false]
noncomputable def rmS3 (s : ByteArray) : SS := stopOf (rmT (some (3, 3)) s) [true, false, false, true, false]
def dotB : ByteArray := ⟨#[46]⟩
def nilB : ByteArray := ⟨#[]⟩
noncomputable def rmB (s lab : ByteArray) (i : Nat) : List (Nat × SV) := [(0, .str (.sym s)), (2, .ptr ⟨0, .lit 0⟩), (3, .str (.sym lab)), (15, .int .i64 (.sym (lab.size : Int))), (16, .int .i64 (.sym i))]
noncomputable def rmO : List (Nat × SV) := [(0, .func (.yield 5) [] []), (1, .ptr ⟨2, .lit 0⟩), (2, .ptr ⟨1, .lit 0⟩), (3, .ptr ⟨3, .lit 0⟩), (9, .str (.lit dotB)), (10, .int .i64 (.lit 1)), (11, .bool (.lit false))]
noncomputable def rmR (s : ByteArray) : List (Nat × SV) := [(0, .str (.sym s)), (2, .ptr ⟨0, .lit 0⟩)]
noncomputable def rmE (S : SS) (j : Nat) : HP := optC (nth S.heap j) (.ent .gone) HP.ent
noncomputable def rmH (S : SS) (s r : ByteArray) : List HP := [rmE S 0, .ent (.own (.lst [.str (.sym r)]) true 9), rmE S 2, rmE S 3, rmE S 4, bareL (nth S.heap 5) (rmR s)]
noncomputable def rmCO (s r : ByteArray) : Cut := ⟨bareFs (rmS1 s).frames [rmO, rmR s], rmH (rmS1 s) s r⟩
noncomputable def rmCI (s r lab : ByteArray) (n : Int) (i : Nat) : Cut := ⟨bareFs (rmS2 s).frames [rmB s lab i, (7, .int .i64 (.sym n)) :: rmO, rmR s], rmH (rmS2 s) s r⟩
noncomputable def rmCF (s r : ByteArray) (i : Nat) : Cut := ⟨bareFs (rmS3 s).frames [rmB s r i, rmO, rmR s], rmH (rmS3 s) s r⟩
noncomputable def rmN : List Nat := [0, 1, 2, 3, 4, 5]
noncomputable def fiI (r : ByteArray) : Int := firstIdx r 46
noncomputable def labR (r : ByteArray) : ByteArray := r.extract 0 (fiI r + 0).toNat
noncomputable def noR : Option ((SV × List (Option SO)) ⊕ Seen) := some (.inl (.bool (.lit false), []))
noncomputable def yesR : Option ((SV × List (Option SO)) ⊕ Seen) := some (.inl (.bool (.lit true), []))
/-- a byte: in order, and not -/
noncomputable def chC (c : Int) (k : Nat) : List Prop := match k with
  | 0 => (decide (c < 65) = false) :: repN (decide (c > 90) = false) 5
  | 1 => app (repN (decide (c < 65) = true) 3) ((decide (c < 48) = false) :: repN (decide (c > 57) = false) 3)
  | 2 => app (repN (decide (c < 65) = true) 3) (app (repN (decide (c < 48) = true) 3) [(c != 45) = false])
  | 3 => app (repN (decide (c < 65) = true) 3) (app (repN (decide (c < 48) = true) 3) [(c != 45) = true])
  | 4 => app (repN (decide (c < 65) = true) 3) [decide (c < 48) = false, decide (c > 57) = true, (c != 45) = true]
  | _ => [decide (c < 65) = false, decide (c > 90) = true, decide (c < 48) = false, decide (c > 57) = true, (c != 45) = true]
def chD (k : Nat) : List Bool := match k with
  | 0 => [false, false, false, false, false, false]
  | 1 => [true, true, true, false, false, false, false]
  | 2 => [true, true, true, true, true, true, false]
  | 3 => [true, true, true, true, true, true, true]
  | 4 => [true, true, true, false, true, true]
  | _ => [false, true, false, true, true]
noncomputable def inC (r : ByteArray) (i : Nat) (q : List Prop) : List Prop := (decide ((i : Int) < (r.size : Int)) = true) :: ((0 : Int) ≤ (i : Int) ∧ (i : Int) < (r.size : Int)) :: q
noncomputable def nxC (r : ByteArray) (b : Bool) : List Prop := [decide (dotB = r) = false, decide (fiI r < 0) = false, inI64 (fiI r + 0), 0 ≤ fiI r + 0 ∧ fiI r + 0 ≤ (r.size : Int), decide (labR r = nilB) = b]
section
variable (s r lab : ByteArray) (n : Int) (i : Nat)
theorem rm_few : outO [] (rmT none s) (repN false 4) = (repN (decide ((s.size : Int) ≥ 1) = false) 4, some (.bool (.lit false), [])) := by kernel_rfl
theorem rm_many : outO [] (rmT none s) [true, true] = ([decide ((s.size : Int) ≥ 1) = true, (!decide ((s.size : Int) ≤ 32)) = true], some (.bool (.lit false), [])) := by kernel_rfl
theorem rm_init (z : Nat → Nat → Nat) : outL [] (rmCO s s) rmN (rmT (some (2, 3)) s) [true, false] z = ([decide ((s.size : Int) ≥ 1) = true, (!decide ((s.size : Int) ≤ 32)) = false], some (.inr (seenC rmN 6 (rmCO s s)))) := by kernel_rfl
theorem rm_in (J : Junk) (z : Nat → Nat → Nat) : outL [] (rmCI s r (labR r) (fiI r) 0) rmN (sim1 (cfgX.at (some (3, 3))) 20000 ((rmCO s r).fill J)) [false, false, false] z = (nxC r false, some (.inr (modSeen [(0, 16, .int .i64 (.lit 0))] [] (seenC rmN 6 (rmCI s r (labR r) (fiI r) 0))))) := by kernel_rfl
theorem rm_fin (J : Junk) (z : Nat → Nat → Nat) : outL [] (rmCF s r 0) rmN (sim1 (cfgX.at (some (3, 3))) 20000 ((rmCO s r).fill J)) [false, true, false] z = ([decide (dotB = r) = false, decide (fiI r < 0) = true, decide (r = nilB) = false], some (.inr (modSeen [(0, 16, .int .i64 (.lit 0))] [] (seenC rmN 6 (rmCF s r 0))))) := by kernel_rfl
theorem rm_dot (J : Junk) (z : Nat → Nat → Nat) : outL [] (rmCO s r) rmN (sim1 (cfgX.at none) 20000 ((rmCO s r).fill J)) [true, true] z = ([decide (dotB = r) = true, 0 ≤ r.size, decide (r.extract 0 (0 + 0) = nilB) = true], noR) := by kernel_rfl
theorem rm_nolab (J : Junk) (z : Nat → Nat → Nat) : outL [] (rmCO s r) rmN (sim1 (cfgX.at none) 20000 ((rmCO s r).fill J)) [false, false, true] z = (nxC r true, noR) := by kernel_rfl
theorem rm_none (J : Junk) (z : Nat → Nat → Nat) : outL [] (rmCO s r) rmN (sim1 (cfgX.at none) 20000 ((rmCO s r).fill J)) [false, true, true] z = ([decide (dotB = r) = false, decide (fiI r < 0) = true, decide (r = nilB) = true], noR) := by kernel_rfl
theorem rm_i0 (J : Junk) (z : Nat → Nat → Nat) : outL [] (rmCI s r lab n i) rmN (sim1 (cfgX.at (some (3, 3))) 20000 ((rmCI s r lab n i).fill J)) (true :: chD 0) z = (inC lab i (app (chC (bytN lab i) 0) [inI64 ((i : Int) + 1)]), some (.inr (seenC rmN 6 (rmCI s r lab n (i + 1))))) := by kernel_rfl
theorem rm_i1 (J : Junk) (z : Nat → Nat → Nat) : outL [] (rmCI s r lab n i) rmN (sim1 (cfgX.at (some (3, 3))) 20000 ((rmCI s r lab n i).fill J)) (true :: chD 1) z = (inC lab i (app (chC (bytN lab i) 1) [inI64 ((i : Int) + 1)]), some (.inr (seenC rmN 6 (rmCI s r lab n (i + 1))))) := by kernel_rfl
theorem rm_i2 (J : Junk) (z : Nat → Nat → Nat) : outL [] (rmCI s r lab n i) rmN (sim1 (cfgX.at (some (3, 3))) 20000 ((rmCI s r lab n i).fill J)) (true :: chD 2) z = (inC lab i (app (chC (bytN lab i) 2) [inI64 ((i : Int) + 1)]), some (.inr (seenC rmN 6 (rmCI s r lab n (i + 1))))) := by kernel_rfl
theorem rm_i3 (J : Junk) (z : Nat → Nat → Nat) : outL [] (rmCI s r lab n i) rmN (sim1 (cfgX.at none) 20000 ((rmCI s r lab n i).fill J)) (true :: chD 3) z = (inC lab i (chC (bytN lab i) 3), noR) := by kernel_rfl
theorem rm_i4 (J : Junk) (z : Nat → Nat → Nat) : outL [] (rmCI s r lab n i) rmN (sim1 (cfgX.at none) 20000 ((rmCI s r lab n i).fill J)) (true :: chD 4) z = (inC lab i (chC (bytN lab i) 4), noR) := by kernel_rfl
theorem rm_i5 (J : Junk) (z : Nat → Nat → Nat) : outL [] (rmCI s r lab n i) rmN (sim1 (cfgX.at none) 20000 ((rmCI s r lab n i).fill J)) (true :: chD 5) z = (inC lab i (chC (bytN lab i) 5), noR) := by kernel_rfl
theorem rm_io (J : Junk) (z : Nat → Nat → Nat) : outL [] (rmCO s (r.extract (n + 1).toNat r.size)) rmN (sim1 (cfgX.at (some (2, 3))) 20000 ((rmCI s r lab n i).fill J)) [false] z = ([decide ((i : Int) < (lab.size : Int)) = false, inI64 (n + 1), 0 ≤ n + 1 ∧ n + 1 ≤ (r.size : Int)], some (.inr (seenC rmN 6 (rmCO s (r.extract (n + 1).toNat r.size))))) := by kernel_rfl
theorem rm_f0 (J : Junk) (z : Nat → Nat → Nat) : outL [] (rmCF s r i) rmN (sim1 (cfgX.at (some (3, 3))) 20000 ((rmCF s r i).fill J)) (true :: chD 0) z = (inC r i (app (chC (bytN r i) 0) [inI64 ((i : Int) + 1)]), some (.inr (seenC rmN 6 (rmCF s r (i + 1))))) := by kernel_rfl
theorem rm_f1 (J : Junk) (z : Nat → Nat → Nat) : outL [] (rmCF s r i) rmN (sim1 (cfgX.at (some (3, 3))) 20000 ((rmCF s r i).fill J)) (true :: chD 1) z = (inC r i (app (chC (bytN r i) 1) [inI64 ((i : Int) + 1)]), some (.inr (seenC rmN 6 (rmCF s r (i + 1))))) := by kernel_rfl
theorem rm_f2 (J : Junk) (z : Nat → Nat → Nat) : outL [] (rmCF s r i) rmN (sim1 (cfgX.at (some (3, 3))) 20000 ((rmCF s r i).fill J)) (true :: chD 2) z = (inC r i (app (chC (bytN r i) 2) [inI64 ((i : Int) + 1)]), some (.inr (seenC rmN 6 (rmCF s r (i + 1))))) := by kernel_rfl
theorem rm_f3 (J : Junk) (z : Nat → Nat → Nat) : outL [] (rmCF s r i) rmN (sim1 (cfgX.at none) 20000 ((rmCF s r i).fill J)) (true :: chD 3) z = (inC r i (chC (bytN r i) 3), noR) := by kernel_rfl
theorem rm_f4 (J : Junk) (z : Nat → Nat → Nat) : outL [] (rmCF s r i) rmN (sim1 (cfgX.at none) 20000 ((rmCF s r i).fill J)) (true :: chD 4) z = (inC r i (chC (bytN r i) 4), noR) := by kernel_rfl
theorem rm_f5 (J : Junk) (z : Nat → Nat → Nat) : outL [] (rmCF s r i) rmN (sim1 (cfgX.at none) 20000 ((rmCF s r i).fill J)) (true :: chD 5) z = (inC r i (chC (bytN r i) 5), noR) := by kernel_rfl
theorem rm_end (J : Junk) (z : Nat → Nat → Nat) : outL [] (rmCF s r i) rmN (sim1 (cfgX.at none) 20000 ((rmCF s r i).fill J)) [false] z = ([decide ((i : Int) < (r.size : Int)) = false], yesR) := by kernel_rfl
theorem rm_nO : boolC (namesOK 0 rmN (rmCO s r) (rmCO s r)) (allN noLoopE (rmCO s r).heap) false = true := by kernel_rfl
theorem rm_nI : boolC (namesOK 0 rmN (rmCI s r lab n i) (rmCI s r lab n i)) (allN noLoopE (rmCI s r lab n i).heap) false = true := by kernel_rfl
theorem rm_nII (j : Nat) : boolC (namesOK 0 rmN (rmCI s r lab n i) (rmCI s r lab n j)) (allN noLoopE (rmCI s r lab n j).heap) false = true := by kernel_rfl
theorem rm_nF (j : Nat) : boolC (namesOK 0 rmN (rmCF s r i) (rmCF s r j)) (allN noLoopE (rmCF s r j).heap) false = true := by kernel_rfl
theorem rm_tI : (((rmCI s r lab n i).frames[0]?).bind fun p => p.tmps[16]?) = some (some (.int .i64 (.sym i))) := by kernel_rfl
theorem rm_tF : (((rmCF s r i).frames[0]?).bind fun p => p.tmps[16]?) = some (some (.int .i64 (.sym i))) := by kernel_rfl
end
end Go.Proofs.YtmekechnnfhhkaaDoor.Aes


/-
  Which strings are realms: the summary of name.Realm.
-/
namespace Go.Proofs.YtmekechnnfhhkaaDoor.Aes
open Go.Sim
open Go.Proofs
variable {α : Type}

set_option maxRecDepth 100000
def okc (c : Int) : Prop := (65 ≤ c ∧ c ≤ 90) ∨ (48 ≤ c ∧ c ≤ 57) ∨ c = 45
def chP (s : ByteArray) (i : Nat) : Prop := okc (bytN s i) ∨ (bytN s i = 46 ∧ i ≠ 0 ∧ i + 1 ≠ s.size ∧ bytN s (i - 1) ≠ 46)
/-- a realm -/
def rlmP (s : ByteArray) : Prop := 1 ≤ s.size ∧ s.size ≤ 32 ∧ ∀ i, i < s.size → chP s i
noncomputable def rlmB (s : ByteArray) : Bool := @decide (rlmP s) (Classical.propDecidable _)
theorem rlmB_true {s : ByteArray} (h : rlmP s) : rlmB s = true := @decide_eq_true _ (Classical.propDecidable _) h
theorem rlmB_false {s : ByteArray} (h : ¬ rlmP s) : rlmB s = false := @decide_eq_false _ (Classical.propDecidable _) h
theorem okc_dot {c : Int} (h : okc c) : c ≠ 46 := by rcases h with h | h | h <;> omega
/-- the labels up to a place are in order -/
def rmInv (s : ByteArray) (k : Nat) : Prop := k ≤ s.size ∧ (k = 0 ∨ (1 ≤ k ∧ bytN s (k - 1) = 46)) ∧ ∀ i, i < k → okc (bytN s i) ∨ (bytN s i = 46 ∧ i ≠ 0 ∧ bytN s (i - 1) ≠ 46)
theorem dot_bad {s : ByteArray} {k : Nat} (h : rmInv s k) (hk : k < s.size) (hd : bytN s k = 46) : ¬ rlmP s := by
  rintro ⟨_, _, ha⟩
  rcases ha k hk with h1 | ⟨_, h2, _, h4⟩
  · exact okc_dot h1 hd
  · rcases h.2.1 with h5 | ⟨_, h5⟩
    · exact h2 h5
    · exact h4 h5
theorem end_bad {s : ByteArray} (h1 : 1 ≤ s.size) {k : Nat} (h : rmInv s k) (hk : k = s.size) : ¬ rlmP s := by
  rintro ⟨_, _, ha⟩
  rcases h.2.1 with h5 | ⟨h6, h5⟩
  · omega
  · rcases ha (k - 1) (by omega) with h7 | ⟨_, _, h7, _⟩
    · exact okc_dot h7 h5
    · exact h7 (by omega)
theorem ch_bad {s : ByteArray} {i : Nat} (hi : i < s.size) (h1 : ¬ okc (bytN s i)) (h2 : bytN s i ≠ 46) : ¬ rlmP s := fun h => by
  rcases h.2.2 i hi with h3 | ⟨h3, _⟩
  · exact h1 h3
  · exact h2 h3
theorem inv_next {s : ByteArray} {k m : Nat} (h : rmInv s k) (hm : 1 ≤ m) (hk : k + m < s.size) (hd : bytN s (k + m) = 46) (ho : ∀ j, j < m → okc (bytN s (k + j))) : rmInv s (k + (m + 1)) := by
  refine ⟨by omega, .inr ⟨by omega, by rw [show k + (m + 1) - 1 = k + m by omega]; exact hd⟩, fun i hi => ?_⟩
  by_cases c1 : i < k
  · exact h.2.2 i c1
  · by_cases c2 : i < k + m
    · have := ho (i - k) (by omega)
      rw [show k + (i - k) = i by omega] at this
      exact .inl this
    · have e : i = k + m := by omega
      subst e
      refine .inr ⟨hd, by omega, ?_⟩
      have := ho (m - 1) (by omega)
      rw [show k + (m - 1) = k + m - 1 by omega] at this
      exact okc_dot this
theorem fin_good {s : ByteArray} {k : Nat} (h1 : 1 ≤ s.size) (h32 : s.size ≤ 32) (h : rmInv s k) (hk : k < s.size) (ho : ∀ j, j < s.size - k → okc (bytN s (k + j))) : rlmP s := by
  refine ⟨h1, h32, fun i hi => ?_⟩
  by_cases c1 : i < k
  · rcases h.2.2 i c1 with h2 | ⟨h2, h3, h4⟩
    · exact .inl h2
    · exact .inr ⟨h2, h3, by omega, h4⟩
  · have := ho (i - k) (by omega)
    rw [show k + (i - k) = i by omega] at this
    exact .inl this
inductive Rm where
  | out (r : ByteArray)
  | inn (r lab : ByteArray) (n : Int) (i : Nat)
  | fin (r : ByteArray) (i : Nat)
noncomputable def rmC (s : ByteArray) : Rm → Cut
  | .out r => rmCO s r
  | .inn r lab n i => rmCI s r lab n i
  | .fin r i => rmCF s r i
def rmQ (s : ByteArray) : Rm → Prop
  | .out r => ∃ k, rmInv s k ∧ r = s.extract k s.size
  | .inn r lab n i => ∃ k m : Nat, rmInv s k ∧ r = s.extract k s.size ∧ 1 ≤ m ∧ k + m < s.size ∧ n = m ∧ lab = r.extract 0 m ∧ bytN s (k + m) = 46 ∧ (∀ j, j < m → bytN s (k + j) ≠ 46) ∧ (∀ j, j < i → okc (bytN s (k + j))) ∧ i ≤ m
  | .fin r i => ∃ k, rmInv s k ∧ r = s.extract k s.size ∧ 1 ≤ r.size ∧ (∀ j, j < r.size → bytN s (k + j) ≠ 46) ∧ (∀ j, j < i → okc (bytN s (k + j))) ∧ i ≤ r.size
def rmMu : Rm → Nat
  | .out r => 100 * r.size + 99
  | .inn r lab _ i => 100 * r.size + (lab.size - i)
  | .fin r i => 100 * r.size + (r.size - i)
theorem chC0_all {c : Int} (h : 65 ≤ c ∧ c ≤ 90) : ∀ p ∈ chC c 0, p := all_cons (decide_eq_false (by omega)) (rep_all (decide_eq_false (by omega)) 5)
theorem chC1_all {c : Int} (h : 48 ≤ c ∧ c ≤ 57) : ∀ p ∈ chC c 1, p := app_all (rep_all (decide_eq_true (by omega)) 3) (all_cons (decide_eq_false (by omega)) (rep_all (decide_eq_false (by omega)) 3))
theorem chC2_all {c : Int} (h : c = 45) : ∀ p ∈ chC c 2, p := app_all (rep_all (decide_eq_true (by omega)) 3) (app_all (rep_all (decide_eq_true (by omega)) 3) (all_cons (by subst h; rfl) all_nil))
theorem chC3_all {c : Int} (h : c < 48) (h2 : c ≠ 45) : ∀ p ∈ chC c 3, p := app_all (rep_all (decide_eq_true (by omega)) 3) (app_all (rep_all (decide_eq_true (by omega)) 3) (all_cons (bne_iff_ne.2 h2) all_nil))
theorem chC4_all {c : Int} (h : 57 < c) (h2 : c < 65) : ∀ p ∈ chC c 4, p := app_all (rep_all (decide_eq_true (by omega)) 3) (all_cons (decide_eq_false (by omega)) (all_cons (decide_eq_true (by omega)) (all_cons (bne_iff_ne.2 (by omega)) all_nil)))
theorem chC5_all {c : Int} (h : 90 < c) : ∀ p ∈ chC c 5, p := all_cons (decide_eq_false (by omega)) (all_cons (decide_eq_true (by omega)) (all_cons (decide_eq_false (by omega)) (all_cons (decide_eq_true (by omega)) (all_cons (bne_iff_ne.2 (by omega)) all_nil))))
theorem inC_all {r : ByteArray} {i : Nat} (h : i < r.size) {q : List Prop} (hq : ∀ p ∈ q, p) : ∀ p ∈ inC r i q, p := all_cons (decide_eq_true (by omega)) (all_cons ⟨by omega, by omega⟩ hq)
theorem rm_runs (s : ByteArray) (h1 : 1 ≤ s.size) (h32 : s.size ≤ 32) : Runs cfgX 39 [.str (.sym s)] [] fun v _ => ∃ b, v = .bool b ∧ b.den = rlmB s := by
  have hno : ¬ rlmP s → ∀ H : List SO, (fun (v : SV) (_ : List SO) => ∃ b, v = .bool b ∧ b.den = rlmB s) (.bool (.lit false)) H := fun hn _ => ⟨_, rfl, (rlmB_false hn).symm⟩
  refine runs_by cfgXOK (rmC s) (rmQ s) rmMu (fun g nm hg => by cases hg) ?_ fun a ha J => ?_
  · exact to_start (some (2, 3)) 20000 (.out s) ⟨0, ⟨by omega, .inl rfl, fun i hi => by omega⟩, (ext_all s).symm⟩ (rm_init s) (rm_nO s s) (all_cons (decide_eq_true (by omega)) (all_cons (by rw [decide_eq_true (show ((s.size : Nat) : Int) ≤ 32 by omega)]; rfl) all_nil))
  cases a with
  | out r =>
    obtain ⟨k, hI, hr⟩ := ha
    have hk := hI.1
    have hsz : r.size = s.size - k := by rw [hr, ext_size]; omega
    have hb : ∀ j, j < r.size → bytN r j = bytN s (k + j) := fun j hj => by rw [hr]; exact ext_byt (by omega)
    show TurnsTo cfgX _ (rmC s) _ _ ((rmCO s r).fill J)
    by_cases hd : dotB = r
    · have hs1 : r.size = 1 := by rw [← hd]; rfl
      have hb0 : bytN s k = 46 := by
        have := hb 0 (by omega)
        rw [Nat.add_zero] at this
        rw [← this, ← hd]; rfl
      exact to_end none 20000 (rm_dot s r J) (all_cons (decide_eq_true hd) (all_cons (Nat.zero_le _) (all_cons (decide_eq_true (size_zero (by rw [ext_size]; omega))) all_nil))) fun H _ => hno (dot_bad hI (by omega) hb0) H
    · have hd' : decide (dotB = r) = false := decide_eq_false hd
      rcases fi_cases r 46 with ⟨h0, hnd⟩ | ⟨m, hm, hlt, hdot, hmin⟩
      · have h0' : fiI r = -1 := h0
        have hneg : decide (fiI r < 0) = true := decide_eq_true (by omega)
        by_cases hr0 : r.size = 0
        · exact to_end none 20000 (rm_none s r J) (all_cons hd' (all_cons hneg (all_cons (decide_eq_true (size_zero hr0)) all_nil))) fun H _ => hno (end_bad h1 hI (by omega)) H
        · refine to_turnM (some (3, 3)) 20000 (.fin r 0) ⟨⟨k, hI, hr, by omega, fun j hj => by rw [← hb j hj]; exact hnd j hj, fun j hj => by omega, by omega⟩, by show 100 * r.size + (r.size - 0) < 100 * r.size + 99; omega⟩ (rm_fin s r J) (rm_nF s r 0 0) (fun q hq p u hp hu => ?_) (fun e he => by cases he) (all_cons hd' (all_cons hneg (all_cons (decide_eq_false (fun e => hr0 (by rw [e]; rfl))) all_nil)))
          obtain rfl : q = (0, 16, .int .i64 (.lit 0)) := by simpa using hq
          exact tmp_set (rm_tF s r 0) hp hu (int_impS rfl)
      · have hm' : fiI r = (m : Int) := hm
        have hle : (fiI r + 0).toNat = m := by omega
        have hlab : labR r = r.extract 0 m := by unfold labR; rw [hle]
        have hdm : bytN s (k + m) = 46 := by rw [← hb m hlt]; exact hdot
        have c1 : decide (fiI r < 0) = false := decide_eq_false (by omega)
        have c2 : inI64 (fiI r + 0) := ⟨by omega, by omega⟩
        have c3 : 0 ≤ fiI r + 0 ∧ fiI r + 0 ≤ (r.size : Int) := ⟨by omega, by omega⟩
        have hls : (labR r).size = m := by rw [hlab, ext_size]; omega
        by_cases hm0 : m = 0
        · exact to_end none 20000 (rm_nolab s r J) (all_cons hd' (all_cons c1 (all_cons c2 (all_cons c3 (all_cons (decide_eq_true (size_zero (by omega))) all_nil))))) fun H _ => hno (dot_bad hI (by omega) (by rw [hm0, Nat.add_zero] at hdm; exact hdm)) H
        · refine to_turnM (some (3, 3)) 20000 (.inn r (labR r) (fiI r) 0) ⟨⟨k, m, hI, hr, by omega, by omega, hm', hlab, hdm, fun j hj => by rw [← hb j (by omega)]; exact hmin j hj, fun j hj => by omega, by omega⟩, by show 100 * r.size + ((labR r).size - 0) < 100 * r.size + 99; omega⟩ (rm_in s r J) (rm_nI s r (labR r) (fiI r) 0) (fun q hq p u hp hu => ?_) (fun e he => by cases he)
            (all_cons hd' (all_cons c1 (all_cons c2 (all_cons c3 (all_cons (decide_eq_false (fun e => hm0 (by rw [← hls, e]; rfl))) all_nil)))))
          obtain rfl : q = (0, 16, .int .i64 (.lit 0)) := by simpa using hq
          exact tmp_set (rm_tI s r (labR r) (fiI r) 0) hp hu (int_impS rfl)
  | inn r lab n i =>
    obtain ⟨k, m, hI, hr, hm1, hkm, hn, hlab, hdm, hmin, ho, him⟩ := ha
    have hk := hI.1
    have hsz : r.size = s.size - k := by rw [hr, ext_size]; omega
    have hls : lab.size = m := by rw [hlab, ext_size]; omega
    have hb : ∀ j, j < m → bytN lab j = bytN s (k + j) := fun j hj => by
      rw [hlab, ext_byt (by omega), Nat.zero_add, hr]
      exact ext_byt (by omega)
    show TurnsTo cfgX _ (rmC s) _ _ ((rmCI s r lab n i).fill J)
    by_cases hi : i < m
    · have hc := hb i hi
      have hne := hmin i hi
      have hq : okc (bytN s (k + i)) → (rmQ s (.inn r lab n (i + 1))) ∧ rmMu (.inn r lab n (i + 1)) < rmMu (.inn r lab n i) := fun hok => ⟨⟨k, m, hI, hr, hm1, hkm, hn, hlab, hdm, hmin, fun j hj => by
        by_cases c : j < i
        · exact ho j c
        · obtain rfl : j = i := by omega
          exact hok, by omega⟩, by show 100 * r.size + (lab.size - (i + 1)) < 100 * r.size + (lab.size - i); omega⟩
      have hin : ∀ q : List Prop, (∀ p ∈ q, p) → ∀ p ∈ inC lab i q, p := fun q hq => inC_all (by omega) hq
      have h64 : inI64 ((i : Int) + 1) := ⟨by omega, by omega⟩
      by_cases a1 : 65 ≤ bytN s (k + i) ∧ bytN s (k + i) ≤ 90
      · exact to_turn (some (3, 3)) 20000 (.inn r lab n (i + 1)) (hq (.inl a1)) (rm_i0 s r lab n i J) (rm_nII s r lab n i (i + 1)) (hin _ (app_all (by rw [hc]; exact chC0_all a1) (all_cons h64 all_nil)))
      by_cases a2 : 48 ≤ bytN s (k + i) ∧ bytN s (k + i) ≤ 57
      · exact to_turn (some (3, 3)) 20000 (.inn r lab n (i + 1)) (hq (.inr (.inl a2))) (rm_i1 s r lab n i J) (rm_nII s r lab n i (i + 1)) (hin _ (app_all (by rw [hc]; exact chC1_all a2) (all_cons h64 all_nil)))
      by_cases a3 : bytN s (k + i) = 45
      · exact to_turn (some (3, 3)) 20000 (.inn r lab n (i + 1)) (hq (.inr (.inr a3))) (rm_i2 s r lab n i J) (rm_nII s r lab n i (i + 1)) (hin _ (app_all (by rw [hc]; exact chC2_all a3) (all_cons h64 all_nil)))
      have hbad : ¬ rlmP s := ch_bad (i := k + i) (by omega) (fun h => by rcases h with h | h | h; exact a1 h; exact a2 h; exact a3 h) hne
      by_cases a4 : bytN s (k + i) < 48
      · exact to_end none 20000 (rm_i3 s r lab n i J) (hin _ (by rw [hc]; exact chC3_all a4 a3)) fun H _ => hno hbad H
      by_cases a5 : bytN s (k + i) < 65
      · exact to_end none 20000 (rm_i4 s r lab n i J) (hin _ (by rw [hc]; exact chC4_all (by omega) a5)) fun H _ => hno hbad H
      · exact to_end none 20000 (rm_i5 s r lab n i J) (hin _ (by rw [hc]; exact chC5_all (by omega))) fun H _ => hno hbad H
    · have e : i = m := by omega
      subst e
      have hnt : (n + 1).toNat = i + 1 := by omega
      have hr' : r.extract (n + 1).toNat r.size = s.extract (k + (i + 1)) s.size := by
        rw [hnt, hr]
        exact ext_ext hk
      have hsz' : (r.extract (n + 1).toNat r.size).size = s.size - (k + (i + 1)) := by rw [hr', ext_size]; omega
      exact to_turn (some (2, 3)) 20000 (.out (r.extract (n + 1).toNat r.size)) ⟨⟨k + (i + 1), inv_next hI hm1 hkm hdm ho, hr'⟩, by show 100 * (r.extract (n + 1).toNat r.size).size + 99 < 100 * r.size + (lab.size - i); omega⟩ (rm_io s r lab n i J) (rm_nO s _)
        (all_cons (decide_eq_false (by omega)) (all_cons ⟨by omega, by omega⟩ (all_cons ⟨by omega, by omega⟩ all_nil)))
  | fin r i =>
    obtain ⟨k, hI, hr, hr1, hnd, ho, hir⟩ := ha
    have hk := hI.1
    have hsz : r.size = s.size - k := by rw [hr, ext_size]; omega
    have hb : ∀ j, j < r.size → bytN r j = bytN s (k + j) := fun j hj => by rw [hr]; exact ext_byt (by omega)
    show TurnsTo cfgX _ (rmC s) _ _ ((rmCF s r i).fill J)
    by_cases hi : i < r.size
    · have hc := hb i hi
      have hne := hnd i hi
      have hq : okc (bytN s (k + i)) → (rmQ s (.fin r (i + 1))) ∧ rmMu (.fin r (i + 1)) < rmMu (.fin r i) := fun hok => ⟨⟨k, hI, hr, hr1, hnd, fun j hj => by
        by_cases c : j < i
        · exact ho j c
        · obtain rfl : j = i := by omega
          exact hok, by omega⟩, by show 100 * r.size + (r.size - (i + 1)) < 100 * r.size + (r.size - i); omega⟩
      have hin : ∀ q : List Prop, (∀ p ∈ q, p) → ∀ p ∈ inC r i q, p := fun q hq => inC_all hi hq
      have h64 : inI64 ((i : Int) + 1) := ⟨by omega, by omega⟩
      by_cases a1 : 65 ≤ bytN s (k + i) ∧ bytN s (k + i) ≤ 90
      · exact to_turn (some (3, 3)) 20000 (.fin r (i + 1)) (hq (.inl a1)) (rm_f0 s r i J) (rm_nF s r i (i + 1)) (hin _ (app_all (by rw [hc]; exact chC0_all a1) (all_cons h64 all_nil)))
      by_cases a2 : 48 ≤ bytN s (k + i) ∧ bytN s (k + i) ≤ 57
      · exact to_turn (some (3, 3)) 20000 (.fin r (i + 1)) (hq (.inr (.inl a2))) (rm_f1 s r i J) (rm_nF s r i (i + 1)) (hin _ (app_all (by rw [hc]; exact chC1_all a2) (all_cons h64 all_nil)))
      by_cases a3 : bytN s (k + i) = 45
      · exact to_turn (some (3, 3)) 20000 (.fin r (i + 1)) (hq (.inr (.inr a3))) (rm_f2 s r i J) (rm_nF s r i (i + 1)) (hin _ (app_all (by rw [hc]; exact chC2_all a3) (all_cons h64 all_nil)))
      have hbad : ¬ rlmP s := ch_bad (i := k + i) (by omega) (fun h => by rcases h with h | h | h; exact a1 h; exact a2 h; exact a3 h) hne
      by_cases a4 : bytN s (k + i) < 48
      · exact to_end none 20000 (rm_f3 s r i J) (hin _ (by rw [hc]; exact chC3_all a4 a3)) fun H _ => hno hbad H
      by_cases a5 : bytN s (k + i) < 65
      · exact to_end none 20000 (rm_f4 s r i J) (hin _ (by rw [hc]; exact chC4_all (by omega) a5)) fun H _ => hno hbad H
      · exact to_end none 20000 (rm_f5 s r i J) (hin _ (by rw [hc]; exact chC5_all (by omega))) fun H _ => hno hbad H
    · have e : i = r.size := by omega
      exact to_end none 20000 (rm_end s r i J) (all_cons (decide_eq_false (by omega)) all_nil) fun H _ => ⟨_, rfl, (rlmB_true (fin_good h1 h32 hI (by omega) fun j hj => ho j (by omega))).symm⟩
noncomputable def rlmS : Summ := fun args _ _ => args1 args fun v => optC (strV v) (.stuck 7796) fun s => .ok ⟨.bool (.sym (rlmB s.den)), [], []⟩
theorem rlmOK : SumOK Tryd.prog 39 rlmS := by
  intro glob O w0 β H w base args vs hH hG ha
  refine args1_sat fun v hv => optC_only fun s hs => ?_
  rw [hv, strV_spec hs] at ha
  have ha := impL_cons (str_imp (t := .sym s.den) rfl) impL_nil _ _ ha
  show SumSem Tryd.prog H β w base _ vs ⟨.bool (.sym (rlmB s.den)), [], []⟩
  generalize s.den = s at ha ⊢
  let I : Ifc := ⟨[], [], [.str (.sym s)]⟩
  have hb : ∀ b : SB, b.den = rlmB s → ∀ H2 : List SO, I.EndsQ base [] ⟨.bool (.sym (rlmB s)), [], []⟩ (.bool b) H2 := fun b hb H2 => bool_ends rfl ⟨b, rfl, hb⟩
  by_cases h1 : 1 ≤ s.size
  · by_cases h32 : s.size ≤ 32
    · exact sum_runsQ (c := cfgX) hH I (by intro g j hg; cases hg) ha (fits0 rfl).q [] (by simp) (by simp) (runs_mono (rm_runs s h1 h32) fun v H h => bool_ends rfl h)
    · refine sum_runQ cfgXOK 20000 hH I (by intro g j hg; cases hg) ha (fits0 rfl).q [] (by simp) (by simp) (outO_ob (rm_many s) (all_cons (decide_eq_true (by omega)) (all_cons (by rw [decide_eq_false (show ¬ ((s.size : Nat) : Int) ≤ 32 by omega)]; rfl) all_nil)) fun H2 _ => hb (.lit false) (rlmB_false fun h => h32 h.2.1).symm H2)
  · refine sum_runQ cfgXOK 20000 hH I (by intro g j hg; cases hg) ha (fits0 rfl).q [] (by simp) (by simp) (outO_ob (rm_few s) (rep_all (decide_eq_false (by omega)) 4) fun H2 _ => hb (.lit false) (rlmB_false fun h => h1 h.1).symm H2)
end Go.Proofs.YtmekechnnfhhkaaDoor.Aes


/-
  Which strings are realms: the reference's answer is the same.
-/
namespace Go.Proofs.YtmekechnnfhhkaaDoor.Aes
open Go.Sim
open Go.Proofs
variable {α : Type}

set_option maxRecDepth 1000000
section
variable (s : ByteArray) (i : Nat)
noncomputable def rdT (st : Option (Nat × Nat)) : Tree := callSim (cfgX.at st) 4000 44 [.str (.sym s)] []
noncomputable def rdC : Cut := ⟨bareFs (stopOf (rdT s (some (1, 3))) []).frames [[(0, .str (.sym s)), (3, .int .i64 (.sym i))]], []⟩
noncomputable def prevN : Int := ((s.data.getD ((i : Int) - 1).toNat 0).toBitVec.toNat : Int)
noncomputable def rdI (q : List Prop) : List Prop := (decide ((i : Int) < (s.size : Int)) = true) :: ((0 : Int) ≤ (i : Int) ∧ (i : Int) < (s.size : Int)) :: q
noncomputable def dotC (q : List Prop) : List Prop := ((bytN s i == 46) = true) :: q
noncomputable def dot2C (b : Bool) (q : List Prop) : List Prop := dotC s i ((((i : Int) == 0) = false) :: inI64 ((s.size : Int) - 1) :: (((i : Int) == (s.size : Int) - 1) = false) :: inI64 ((i : Int) - 1) :: ((0 : Int) ≤ (i : Int) - 1 ∧ (i : Int) - 1 < (s.size : Int)) :: ((prevN s i == 46) = b) :: q)
noncomputable def chrC (q : List Prop) : List Prop := app (repN ((bytN s i == 46) = false) 7) (((bytN s i != 46) = true) :: q)
noncomputable def lowC (q : List Prop) : List Prop := chrC s i (((bytN s i != 45) = true) :: app (repN (decide (bytN s i ≥ 65) = false) 3) q)
noncomputable def rdN (J : Junk) (ds : List Bool) (z : Nat → Nat → Nat) : OutL := outL [] (rdC s i) [] (sim1 (cfgX.at (some (1, 3))) 4000 ((rdC s i).fill J)) (true :: ds) z
noncomputable def rdE (J : Junk) (ds : List Bool) (z : Nat → Nat → Nat) : OutL := outL [] (rdC s i) [] (sim1 (cfgX.at none) 4000 ((rdC s i).fill J)) ds z
noncomputable def rdX : Option ((SV × List (Option SO)) ⊕ Seen) := some (.inr (seenC [] 0 (rdC s (i + 1))))
variable (J : Junk) (z : Nat → Nat → Nat)
theorem rd_init : outL [] (rdC s 0) [] (rdT s (some (1, 3))) [] z = ([], some (.inr (modSeen [(0, 3, .int .i64 (.lit 0))] [] (seenC [] 0 (rdC s 0))))) := by kernel_rfl
theorem rd_t0 : rdN s i J [true, false, false, false, false, false, false] z = (rdI s i (dot2C s i false (app (repN ((bytN s i != 46) = false) 3) [inI64 ((i : Int) + 1)])), rdX s i) := by kernel_rfl
theorem rd_ta : rdN s i J (app (repN false 7) (true :: repN false 6)) z = (rdI s i (chrC s i (app (repN ((bytN s i != 45) = false) 6) [inI64 ((i : Int) + 1)])), rdX s i) := by kernel_rfl
theorem rd_tb : rdN s i J (app (repN false 7) (true :: true :: true :: repN false 6)) z = (rdI s i (chrC s i (((bytN s i != 45) = true) :: (decide (bytN s i ≥ 65) = true) :: app (repN ((!decide (bytN s i ≤ 90)) = false) 6) [inI64 ((i : Int) + 1)])), rdX s i) := by kernel_rfl
theorem rd_tc : rdN s i J (app (repN false 7) (true :: true :: app (repN false 3) [true, false])) z = (rdI s i (lowC s i [decide (bytN s i ≥ 48) = true, (!decide (bytN s i ≤ 57)) = false, inI64 ((i : Int) + 1)]), rdX s i) := by kernel_rfl
theorem rd_x1 : rdE s i J (true :: true :: repN true 6) z = (rdI s i (dotC s i (repN (((i : Int) == 0) = true) 6)), noR) := by kernel_rfl
theorem rd_x2 : rdE s i J (true :: true :: false :: repN true 6) z = (rdI s i (dotC s i ((((i : Int) == 0) = false) :: inI64 ((s.size : Int) - 1) :: repN (((i : Int) == (s.size : Int) - 1) = true) 6)), noR) := by kernel_rfl
theorem rd_x3 : rdE s i J [true, true, false, false, true] z = (rdI s i (dot2C s i true []), noR) := by kernel_rfl
theorem rd_n1 : rdE s i J (true :: app (repN false 7) (true :: true :: repN false 6)) z = (rdI s i (lowC s i (repN (decide (bytN s i ≥ 48) = false) 3)), noR) := by kernel_rfl
theorem rd_n2 : rdE s i J (true :: app (repN false 7) (true :: true :: app (repN false 3) [true, true])) z = (rdI s i (lowC s i [decide (bytN s i ≥ 48) = true, (!decide (bytN s i ≤ 57)) = true]), noR) := by kernel_rfl
theorem rd_n3 : rdE s i J (true :: app (repN false 7) [true, true, true, true, true, true]) z = (rdI s i (chrC s i [(bytN s i != 45) = true, decide (bytN s i ≥ 65) = true, (!decide (bytN s i ≤ 90)) = true, decide (bytN s i ≥ 48) = true, (!decide (bytN s i ≤ 57)) = true]), noR) := by kernel_rfl
theorem rd_end : rdE s i J [false, true] z = ([decide ((i : Int) < (s.size : Int)) = false, decide ((s.size : Int) ≥ 1) = true], some (.inl (.bool (.sym (decide ((s.size : Int) ≤ 32))), []))) := by kernel_rfl
theorem rd_few : rdE s i J (repN false 5) z = ((decide ((i : Int) < (s.size : Int)) = false) :: repN (decide ((s.size : Int) ≥ 1) = false) 4, noR) := by kernel_rfl
theorem rd_names (j : Nat) : boolC (namesOK 0 [] (rdC s i) (rdC s j)) (allN noLoopE (rdC s j).heap) false = true := by kernel_rfl
theorem rd_tmp : (((rdC s i).frames[0]?).bind fun p => p.tmps[3]?) = some (some (.int .i64 (.sym i))) := by kernel_rfl
end
theorem beqI {a b : Int} (h : a ≠ b) : (a == b) = false := beq_eq_false_iff_ne.2 h
theorem bneF {a b : Int} (h : a = b) : (a != b) = false := by subst h; simp
theorem bneT {a b : Int} (h : a ≠ b) : (a != b) = true := bne_iff_ne.2 h
theorem eqT {a b : Int} (h : a = b) : (a == b) = true := by subst h; simp
theorem notT {p : Prop} [Decidable p] (h : ¬ p) : (!decide p) = true := by rw [decide_eq_false h]; rfl
theorem notF {p : Prop} [Decidable p] (h : p) : (!decide p) = false := by rw [decide_eq_true h]; rfl
theorem rd_runs (s : ByteArray) (hbig : s.size ≤ 9223372036854775807) : Runs cfgX 44 [.str (.sym s)] [] fun v _ => ∃ b, v = .bool b ∧ b.den = rlmB s := by
  have hno : ¬ rlmP s → ∀ H : List SO, (fun (v : SV) (_ : List SO) => ∃ b, v = .bool b ∧ b.den = rlmB s) (.bool (.lit false)) H := fun hn _ => ⟨_, rfl, (rlmB_false hn).symm⟩
  refine runs_by cfgXOK (rdC s) (fun i => i ≤ s.size ∧ ∀ j, j < i → chP s j) (fun i => s.size - i) (fun g nm hg => by cases hg) ?_ fun i hi J => ?_
  · refine to_startM (some (1, 3)) 4000 0 ⟨Nat.zero_le _, fun j hj => by omega⟩ (rd_init s) (rd_names s 0 0) (fun m hm p u hp hu => ?_) (by simp) all_nil
    obtain rfl : m = (0, 3, .int .i64 (.lit 0)) := by simpa using hm
    exact tmp_set (rd_tmp s 0) hp hu (int_impS rfl)
  obtain ⟨hi1, hi2⟩ := hi
  by_cases hin : i < s.size
  · have hI : ∀ q : List Prop, (∀ p ∈ q, p) → ∀ p ∈ rdI s i q, p := fun q hq => all_cons (decide_eq_true (by omega)) (all_cons ⟨by omega, by omega⟩ hq)
    have h64 : inI64 ((i : Int) + 1) := ⟨by omega, by omega⟩
    have hnext : chP s i → (i + 1 ≤ s.size ∧ ∀ j, j < i + 1 → chP s j) ∧ s.size - (i + 1) < s.size - i := fun hc => ⟨⟨by omega, fun j hj => by
      by_cases hj' : j < i
      · exact hi2 j hj'
      · obtain rfl : j = i := by omega
        exact hc⟩, by omega⟩
    have hbad : ¬ chP s i → ¬ rlmP s := fun hc h => hc (h.2.2 i hin)
    have hprev : i ≠ 0 → prevN s i = bytN s (i - 1) := fun h0 => by
      unfold prevN bytN
      rw [show ((i : Int) - 1).toNat = i - 1 by omega]
    by_cases hd : bytN s i = 46
    · have hdT := eqT hd
      have hok : okc (bytN s i) → False := fun h => okc_dot h hd
      by_cases h0 : i = 0
      · exact to_end none 4000 (rd_x1 s i J) (hI _ (all_cons hdT (rep_all (eqT (by omega)) 6))) fun H _ => hno (hbad fun h => by rcases h with h | h; exact hok h; exact h.2.1 h0) H
      have h0F : ((i : Int) == 0) = false := beqI (by omega)
      have c1 : inI64 ((s.size : Int) - 1) := ⟨by omega, by omega⟩
      by_cases hl : i + 1 = s.size
      · exact to_end none 4000 (rd_x2 s i J) (hI _ (all_cons hdT (all_cons h0F (all_cons c1 (rep_all (eqT (by omega)) 6))))) fun H _ => hno (hbad fun h => by rcases h with h | h; exact hok h; exact h.2.2.1 hl) H
      have hlF : ((i : Int) == (s.size : Int) - 1) = false := beqI (by omega)
      have c2 : inI64 ((i : Int) - 1) := ⟨by omega, by omega⟩
      have c3 : (0 : Int) ≤ (i : Int) - 1 ∧ (i : Int) - 1 < (s.size : Int) := ⟨by omega, by omega⟩
      by_cases hp : bytN s (i - 1) = 46
      · exact to_end none 4000 (rd_x3 s i J) (hI _ (all_cons hdT (all_cons h0F (all_cons c1 (all_cons hlF (all_cons c2 (all_cons c3 (all_cons (eqT (by rw [hprev h0]; exact hp)) all_nil)))))))) fun H _ => hno (hbad fun h => by rcases h with h | h; exact hok h; exact h.2.2.2 hp) H
      · exact to_turn (some (1, 3)) 4000 (i + 1) (hnext (.inr ⟨hd, h0, hl, hp⟩)) (rd_t0 s i J) (rd_names s i (i + 1)) (hI _ (all_cons hdT (all_cons h0F (all_cons c1 (all_cons hlF (all_cons c2 (all_cons c3 (all_cons (beqI (by rw [hprev h0]; exact hp)) (app_all (rep_all (bneF hd) 3) (all_cons h64 all_nil))))))))))
    · have hC : ∀ q : List Prop, (∀ p ∈ q, p) → ∀ p ∈ chrC s i q, p := fun q hq => app_all (rep_all (beqI hd) 7) (all_cons (bneT hd) hq)
      have hbad' : ¬ okc (bytN s i) → ¬ rlmP s := fun hc => hbad fun h => by rcases h with h | h; exact hc h; exact hd h.1
      by_cases a3 : bytN s i = 45
      · exact to_turn (some (1, 3)) 4000 (i + 1) (hnext (.inl (.inr (.inr a3)))) (rd_ta s i J) (rd_names s i (i + 1)) (hI _ (hC _ (app_all (rep_all (bneF a3) 6) (all_cons h64 all_nil))))
      have a3T := bneT a3
      have hL : bytN s i < 65 → ∀ q : List Prop, (∀ p ∈ q, p) → ∀ p ∈ lowC s i q, p := fun hl q hq => hC _ (all_cons a3T (app_all (rep_all (decide_eq_false (by omega)) 3) hq))
      by_cases a1 : 65 ≤ bytN s i
      · by_cases a2 : bytN s i ≤ 90
        · exact to_turn (some (1, 3)) 4000 (i + 1) (hnext (.inl (.inl ⟨a1, a2⟩))) (rd_tb s i J) (rd_names s i (i + 1)) (hI _ (hC _ (all_cons a3T (all_cons (decide_eq_true a1) (app_all (rep_all (notF a2) 6) (all_cons h64 all_nil))))))
        · exact to_end none 4000 (rd_n3 s i J) (hI _ (hC _ (all_cons a3T (all_cons (decide_eq_true a1) (all_cons (notT a2) (all_cons (decide_eq_true (by omega)) (all_cons (notT (by omega)) all_nil))))))) fun H _ => hno (hbad' fun h => by rcases h with h | h | h <;> omega) H
      · by_cases a4 : 48 ≤ bytN s i
        · by_cases a5 : bytN s i ≤ 57
          · exact to_turn (some (1, 3)) 4000 (i + 1) (hnext (.inl (.inr (.inl ⟨a4, a5⟩)))) (rd_tc s i J) (rd_names s i (i + 1)) (hI _ (hL (by omega) _ (all_cons (decide_eq_true a4) (all_cons (notF a5) (all_cons h64 all_nil)))))
          · exact to_end none 4000 (rd_n2 s i J) (hI _ (hL (by omega) _ (all_cons (decide_eq_true a4) (all_cons (notT a5) all_nil)))) fun H _ => hno (hbad' fun h => by rcases h with h | h | h <;> omega) H
        · exact to_end none 4000 (rd_n1 s i J) (hI _ (hL (by omega) _ (rep_all (decide_eq_false (by omega)) 3))) fun H _ => hno (hbad' fun h => by rcases h with h | h | h <;> omega) H
  · have e : i = s.size := by omega
    by_cases h1 : 1 ≤ s.size
    · refine to_end none 4000 (rd_end s i J) (all_cons (decide_eq_false (by omega)) (all_cons (decide_eq_true (by omega)) all_nil)) fun H _ => ⟨_, rfl, ?_⟩
      show decide ((s.size : Int) ≤ 32) = _
      by_cases h32 : s.size ≤ 32
      · rw [rlmB_true ⟨h1, h32, fun j hj => hi2 j (by omega)⟩]
        exact decide_eq_true (by omega)
      · rw [rlmB_false fun h => h32 h.2.1]
        exact decide_eq_false (by omega)
    · exact to_end none 4000 (rd_few s i J) (all_cons (decide_eq_false (by omega)) (rep_all (decide_eq_false (by omega)) 4)) fun H _ => hno (fun h => h1 h.1) H
noncomputable def rldS : Summ := fun args _ _ => args1 args fun v => optC (strV v) (.stuck 7795) fun s => .need (s.den.size ≤ 9223372036854775807) (.ok ⟨.bool (.sym (rlmB s.den)), [], []⟩)
theorem rldOK : SumOK Tryd.prog 44 rldS := by
  intro glob O w0 β H w base args vs hH hG ha
  refine args1_sat fun v hv => optC_only fun s hs => fun hb => ?_
  rw [hv, strV_spec hs] at ha
  have ha := impL_cons (str_imp (t := .sym s.den) rfl) impL_nil _ _ ha
  show SumSem Tryd.prog H β w base _ vs ⟨.bool (.sym (rlmB s.den)), [], []⟩
  generalize s.den = s at ha hb ⊢
  let I : Ifc := ⟨[], [], [.str (.sym s)]⟩
  exact sum_runsQ (c := cfgX) hH I (by intro g j hg; cases hg) ha (fits0 rfl).q [] (by simp) (by simp) (runs_mono (rd_runs s hb) fun v H h => bool_ends rfl h)
end Go.Proofs.YtmekechnnfhhkaaDoor.Aes


/-
  Slices of strings, wherever they lie.
-/
namespace Go.Proofs.YtmekechnnfhhkaaDoor.Aes
open Go.Sim
open Go.Proofs
variable {α : Type}

noncomputable def strF (S : Nat → ByteArray) : Nat → SV := fun i => .str (.sym (S i))
def IsS (g : Nat → SV) : Prop := ∀ i, g i = .str (.sym (strD (g i)))
theorem isS_eq {g : Nat → SV} (h : IsS g) : strF (fun i => strD (g i)) = g := funext fun i => (h i).symm
noncomputable def uns (l : List SV) : Option (List ByteArray) := List.rec (motive := fun _ => Option (List ByteArray)) (some []) (fun v _ ih => optC (strV v) none fun s => optC ih none fun xs => some (s.den :: xs)) l
noncomputable def strAt (l : List ByteArray) (i : Nat) : ByteArray := (l[i]?).getD .empty
noncomputable def sx (l : List ByteArray) : List SV := mapN (fun s => SV.str (.sym s)) l
theorem optC_optS {β γ : Type} {o : Option β} {f : β → Option γ} {r : γ} (h : optC o none f = some r) : ∃ x, o = some x ∧ f x = some r := by
  cases o with
  | none => cases h
  | some x => exact ⟨x, rfl, h⟩
theorem uns_imp : ∀ {l : List SV} {xs : List ByteArray}, uns l = some xs → SV.ImpL l (sx xs)
  | [], xs, h => by cases h; exact SV.ImpL.refl _
  | v :: l, xs, h => by
    obtain ⟨s, hs, h⟩ := optC_optS (show (optC (strV v) none fun s => optC (uns l) none fun xs => some (s.den :: xs)) = some xs from h)
    obtain ⟨ys, hy, h⟩ := optC_optS h
    cases h
    rw [strV_spec hs]
    exact impL_cons (str_imp (t := .sym s.den) rfl) (uns_imp hy)
theorem sx_rel {γ : Val} : ∀ {xs : List ByteArray} {vs : List Value}, SV.denL γ (sx xs) = some vs → CellsRel γ (.fn (strF (strAt xs)) xs.length) vs
  | [], vs, h => by cases h; exact ⟨rfl, fun i x hx => by simp at hx⟩
  | x :: xs, vs, h => by
    obtain ⟨v, us, hv, hu, rfl⟩ := denL_cons.1 (show SV.denL γ (.str (.sym x) :: sx xs) = some vs from h)
    obtain ⟨h1, h2⟩ := sx_rel hu
    refine ⟨by simp [h1], fun i y hy => ?_⟩
    cases i with
    | zero =>
      simp at hy; subst hy
      cases hv; rfl
    | succ i => exact h2 i y (by simpa using hy)
noncomputable def strsC (c : Cells) (f : (Nat → ByteArray) → Nat → R α) : R α :=
  Cells.rec (motive := fun _ => R α) (fun l => optC (uns l) (.stuck 7801) fun xs => f (strAt xs) (lenN xs)) (fun g n => .need (IsS g) (f (fun i => strD (g i)) n)) (fun _ _ => .stuck 7802) c
noncomputable def strsE (e : Option SO) (f : (Nat → ByteArray) → Nat → R α) : R α :=
  optC e (.stuck 7803) fun e => SO.rec (motive := fun _ => R α) (fun c _ _ => strsC c f) (fun c => strsC c f) (fun _ _ _ _ _ _ _ _ => .stuck 7804) (fun _ => .stuck 7804) (.stuck 7804) (fun _ => .stuck 7804) e
theorem strsC_sat {c : Cells} {f : (Nat → ByteArray) → Nat → R α} {φ : α → Prop} (h : ∀ S n, c.Imp (.fn (strF S) n) → (f S n).Sat φ) : (strsC c f).Sat φ := by
  cases c with
  | lst l =>
    refine optC_only fun xs hx => h _ _ fun γ vs hv => ?_
    rw [lenN_eq]
    exact sx_rel (uns_imp hx _ _ hv)
  | fn g n =>
    intro hg
    refine h _ _ ?_
    rw [isS_eq hg]; exact .refl _
  | raw V n => trivial
theorem strsE_sat {e : Option SO} {f : (Nat → ByteArray) → Nat → R α} {φ : α → Prop} (h : ∀ S n, (∀ g, ∃ e', e = some e' ∧ Taken g (rowSt S n) e') → (f S n).Sat φ) : (strsE e f).Sat φ := by
  refine optC_only fun e' he => ?_
  cases e' with
  | own c w el => exact strsC_sat fun S n hi => h S n fun g => ⟨_, he, taken_row (c0 := c) (.inr ⟨w, el, rfl⟩) hi.front⟩
  | row c => exact strsC_sat fun S n hi => h S n fun g => ⟨_, he, taken_row (c0 := c) (.inl rfl) hi.front⟩
  | loop => trivial
  | deferred => trivial
  | gone => trivial
  | obj => trivial
theorem rowSt_uses (p : Nat → Bool) (S : Nat → ByteArray) (n : Nat) : (rowSt S n).CUses p := fun _ => rfl
/-- a slice of strings: those of its block, their number; the place, the length; the capacity: a number, or what there is -/
structure Ss where
  S : Nat → ByteArray
  N : Nat
  o : Nat
  n : Nat
  b : Bool
  k : Nat
noncomputable def Ss.row (s : Ss) : SO := rowSt s.S s.N
noncomputable def Ss.val (s : Ss) (nm : Nat) : SV := .slice ⟨nm, .sym s.o⟩ (.sym s.n) (boolC s.b (.rest nm s.k) (.sym s.k))
noncomputable def Ss.at (s : Ss) (i : Nat) : ByteArray := s.S (s.o + i)
noncomputable def Ss.pl (s : Ss) (m : Nat) : Ss := ⟨s.S, s.N, s.o, s.n, false, m⟩
def Ss.ok (s : Ss) : Prop := s.o + s.n ≤ s.N ∧ s.n ≤ 1099511627776
noncomputable def capL (nm : Nat) (c : SC) : Option (Bool × Nat) := SC.rec (motive := fun _ => Option (Bool × Nat)) (fun m => some (false, m)) (fun m => some (false, m)) (fun q k => boolC (Nat.beq q nm) (some (true, k)) none) c
theorem capL_den {nm : Nat} {c : SC} {bk : Bool × Nat} (h : capL nm c = some bk) (γ : Val) : c.den γ = (boolC bk.1 (.rest nm bk.2) (.sym bk.2) : SC).den γ := by
  cases c with
  | lit m => cases h; rfl
  | sym m => cases h; rfl
  | rest q k =>
    have h : boolC (Nat.beq q nm) (some (true, k)) none = some bk := h
    cases hq : Nat.beq q nm with
    | false => rw [hq] at h; cases h
    | true =>
      rw [hq] at h
      cases h
      rw [Nat.eq_of_beq_eq_true hq]; rfl
noncomputable def nilSs : Ss := ⟨fun _ => .empty, 0, 0, 0, false, 0⟩
noncomputable def partSs (H : List SO) (v : SV) (f : Ss → Nat → R α) : R α := v.asSlice (.stuck 7805) fun a l c => optC (capL a.nm c) (.stuck 7806) fun bk => strsE (nth H a.nm) fun S N => f ⟨S, N, a.off.den, l.den, bk.1, bk.2⟩ a.nm
theorem partSs_sat {H : List SO} {v : SV} {f : Ss → Nat → R α} {φ : α → Prop} (h : ∀ t nm, (∀ g, ∃ e', H[nm]? = some e' ∧ Taken g t.row e') → v.Imp (t.val nm) → (f t nm).Sat φ) : (partSs H v f).Sat φ := by
  unfold partSs
  rcases asSlice_cases v with ⟨a, l, c, rfl⟩ | hv
  · refine optC_only fun bk hbk => strsE_sat fun S N ht => h ⟨S, N, a.off.den, l.den, bk.1, bk.2⟩ a.nm (fun g => by rw [← nth_eq]; exact ht g) fun γ x hx => ?_
    rw [den_slice] at hx
    obtain ⟨A, C, hA, hC, hle, rfl⟩ := hx
    rw [show (Ss.val ⟨S, N, a.off.den, l.den, bk.1, bk.2⟩ a.nm) = .slice ⟨a.nm, .sym a.off.den⟩ (.sym l.den) (boolC bk.1 (.rest a.nm bk.2) (.sym bk.2)) from rfl, den_slice]
    exact ⟨A, C, hA, by rw [← capL_den hbk]; exact hC, hle, rfl⟩
  · rw [hv]; trivial
/-- or nil -/
noncomputable def optSs (H : List SO) (v : SV) (f : Ss → Option Nat → R α) : R α := sliceR v (f nilSs none) fun _ _ => partSs H v fun t tn => f t (some tn)
theorem optSs_sat {H : List SO} {v : SV} {f : Ss → Option Nat → R α} {φ : α → Prop} (h0 : v = .nilSlice → (f nilSs none).Sat φ) (h : ∀ t nm, (∀ g, ∃ e', H[nm]? = some e' ∧ Taken g t.row e') → v.Imp (t.val nm) → (f t (some nm)).Sat φ) : (optSs H v f).Sat φ :=
  sliceR_sat h0 fun _ _ _ _ => partSs_sat h
theorem Ss.row_uses (t : Ss) (p : Nat → Bool) : t.row.CUses p := rowSt_uses _ _ _
theorem Ss.val_ren (t : Ss) (f : Nat → Nat) (nm : Nat) : (t.val nm).ren f = t.val (f nm) := by
  unfold Ss.val
  cases t.b <;> rfl
theorem Ss.val_uses (t : Ss) (p : Nat → Bool) (nm : Nat) (h : p nm = true) : (t.val nm).uses p = true := by
  unfold Ss.val
  cases t.b with
  | false => show p nm && true = true; rw [h]; rfl
  | true => show (p nm && p nm) = true; rw [h]; rfl
theorem Ss.val_den {t : Ss} {nm : Nat} {γ : Val} {x : Value} (h : (t.val nm).den γ = some x) : ∃ m, t.n ≤ m ∧ ((t.pl m).val nm).den γ = some x := by
  obtain ⟨m, hm, hd, _, _⟩ := slice_den (show (SV.slice ⟨nm, .sym t.o⟩ (.sym t.n) (boolC t.b (.rest nm t.k) (.sym t.k))).den γ = some x from h)
  exact ⟨m, hm, hd⟩
end Go.Proofs.YtmekechnnfhhkaaDoor.Aes


/-
  Slices of strings: few, realms, valid.
-/
namespace Go.Proofs.YtmekechnnfhhkaaDoor.Aes
open Go.Sim
open Go.Proofs
variable {α : Type}

set_option maxRecDepth 1000000
/-- a loop that asks the same of all -/
theorem all_loop {c : Cfg} (hc : CfgOK c) (C : Nat → Cut) (p : Nat → Prop) (n : Nat) {D : SV → List SO → Prop} {f : FuncId} {args : List SV} {H : List SO} (hgl : ∀ g nm, c.glob g = some nm → nm < H.length)
    (h0 : ∀ Q : Nat → Prop, Q 0 → Starts c H.length C Q D f args H)
    (h1 : ∀ i, i < n → p i → ∀ J (Q : Nat → Prop), Q (i + 1) → TurnsTo c H.length C Q D ((C i).fill J))
    (h2 : ∀ i, i < n → ¬ p i → ∀ J (Q : Nat → Prop), TurnsTo c H.length C Q D ((C i).fill J))
    (h3 : (∀ j, j < n → p j) → ∀ J (Q : Nat → Prop), TurnsTo c H.length C Q D ((C n).fill J)) : Runs c f args H D := by
  refine runs_by hc C (fun i => i ≤ n ∧ ∀ j, j < i → p j) (fun i => n - i) hgl (h0 _ ⟨Nat.zero_le _, fun j hj => by omega⟩) fun i hi J => ?_
  by_cases hin : i < n
  · by_cases hp : p i
    · refine h1 i hin hp J _ ⟨⟨by omega, fun j hj => ?_⟩, by omega⟩
      by_cases c : j < i
      · exact hi.2 j c
      · obtain rfl : j = i := by omega
        exact hp
    · exact h2 i hin hp J _
  · have e : i = n := by have := hi.1; omega
    subst e
    exact h3 hi.2 J _
noncomputable def cB (p : Prop) : Bool := @decide p (Classical.propDecidable _)
theorem cB_true {p : Prop} (h : p) : cB p = true := @decide_eq_true _ (Classical.propDecidable _) h
theorem cB_false {p : Prop} (h : ¬ p) : cB p = false := @decide_eq_false _ (Classical.propDecidable _) h
def isBool (t : Bool) (v : SV) : Prop := ∃ b, v = .bool b ∧ b.den = t
noncomputable def rlL : List (FuncId × Summ) := [(39, rlmS), (44, rldS)]
theorem rlLOK : ∀ y ∈ rlL, SumOK Tryd.prog y.1 y.2 := allC rlmOK (all1 rldOK)
noncomputable def cfgL : Cfg := cfgOf (sumsOf rlL)
theorem cfgLOK : CfgOK cfgL := sumsOf_ok rlLOK
noncomputable def inS (t : Ss) (i : Nat) (q : List Prop) : List Prop := (decide ((i : Int) < (t.n : Int)) = true) :: ((0 : Int) ≤ (i : Int) ∧ (i : Int) < (t.n : Int)) :: (t.o + i * 1 < t.N) :: q
noncomputable def Ss.el (t : Ss) (i : Nat) : ByteArray := t.S (t.o + i * 1)
theorem Ss.el_at (t : Ss) (i : Nat) : t.el i = t.at i := by unfold Ss.el Ss.at; rw [Nat.mul_one]
theorem inS_all {t : Ss} {i : Nat} (ht : t.ok) (h : i < t.n) {q : List Prop} (hq : ∀ p ∈ q, p) : ∀ p ∈ inS t i q, p := by
  have := ht.1
  exact all_cons (decide_eq_true (by omega)) (all_cons ⟨by omega, by omega⟩ (all_cons (by omega) hq))
section
variable (t : Ss) (k : Nat) (m : Int) (i : Nat) (J : Junk) (z : Nat → Nat → Nat)
noncomputable def rsT (st : Option (Nat × Nat)) (v : SV) (H : List SO) : Tree := callSim (cfgL.at st) 4000 24 [v] H
noncomputable def vdT (st : Option (Nat × Nat)) (v : SV) (H : List SO) : Tree := callSim (cfgL.at st) 4000 33 [v] H
noncomputable def rsC : Cut := ⟨bareFs (stopOf (rsT (some (1, 3)) ((t.pl k).val 0) [(t.pl k).row]) []).frames [[(5, (t.pl k).val 0), (6, .int .i64 (.sym (t.n : Int))), (7, .int .i64 (.sym i))]], [.ent t.row]⟩
noncomputable def vdC : Cut := ⟨bareFs (stopOf (vdT (some (1, 3)) ((t.pl k).val 0) [(t.pl k).row]) []).frames [[(0, (t.pl k).val 0), (3, .int .i64 (.sym i))]], [.ent t.row]⟩
theorem rs_nil : outO [] (rsT none .nilSlice []) [] = ([], some (.bool (.lit true), [])) := by kernel_rfl
theorem vd_nil : outO [] (vdT none .nilSlice []) [] = ([], some (.bool (.lit true), [])) := by kernel_rfl
theorem rs_init : outL [] (rsC t k 0) [0] (rsT (some (1, 3)) ((t.pl k).val 0) [(t.pl k).row]) [] z = ([], some (.inr (modSeen [(0, 7, .int .i64 (.lit 0))] [] (seenC [0] 1 (rsC t k 0))))) := by kernel_rfl
theorem vd_init : outL [] (vdC t k 0) [0] (vdT (some (1, 3)) ((t.pl k).val 0) [(t.pl k).row]) [] z = ([], some (.inr (modSeen [(0, 3, .int .i64 (.lit 0))] [] (seenC [0] 1 (vdC t k 0))))) := by kernel_rfl
theorem rs_turn : outL [] (rsC t k i) [0] (sim1 (cfgL.at (some (1, 3))) 4000 ((rsC t k i).fill J)) [true, false] z = (inS t i [(!rlmB (t.el i)) = false, inI64 ((i : Int) + 1)], some (.inr (seenC [0] 1 (rsC t k (i + 1))))) := by kernel_rfl
theorem vd_turn : outL [] (vdC t k i) [0] (sim1 (cfgL.at (some (1, 3))) 4000 ((vdC t k i).fill J)) [true, false] z = (inS t i [(t.el i).size ≤ 9223372036854775807, (!rlmB (t.el i)) = false, inI64 ((i : Int) + 1)], some (.inr (seenC [0] 1 (vdC t k (i + 1))))) := by kernel_rfl
theorem rs_fail : outL [] (rsC t k i) [0] (sim1 (cfgL.at none) 4000 ((rsC t k i).fill J)) [true, true] z = (inS t i [(!rlmB (t.el i)) = true], noR) := by kernel_rfl
theorem vd_fail : outL [] (vdC t k i) [0] (sim1 (cfgL.at none) 4000 ((vdC t k i).fill J)) [true, true] z = (inS t i [(t.el i).size ≤ 9223372036854775807, (!rlmB (t.el i)) = true], noR) := by kernel_rfl
theorem rs_end : outL [] (rsC t k i) [0] (sim1 (cfgL.at none) 4000 ((rsC t k i).fill J)) [false] z = ([decide ((i : Int) < (t.n : Int)) = false], yesR) := by kernel_rfl
theorem vd_end : outL [] (vdC t k i) [0] (sim1 (cfgL.at none) 4000 ((vdC t k i).fill J)) [false] z = ([decide ((i : Int) < (t.n : Int)) = false], yesR) := by kernel_rfl
theorem rs_names (j : Nat) : boolC (namesOK 1 [0] (rsC t k i) (rsC t k j)) (allN noLoopE (rsC t k j).heap) false = true := by kernel_rfl
theorem vd_names (j : Nat) : boolC (namesOK 1 [0] (vdC t k i) (vdC t k j)) (allN noLoopE (vdC t k j).heap) false = true := by kernel_rfl
theorem rs_tmp : (((rsC t k i).frames[0]?).bind fun p => p.tmps[7]?) = some (some (.int .i64 (.sym i))) := by kernel_rfl
theorem vd_tmp : (((vdC t k i).frames[0]?).bind fun p => p.tmps[3]?) = some (some (.int .i64 (.sym i))) := by kernel_rfl
end
/- What comes of it. -/
def rlsP (t : Ss) : Prop := ∀ i, i < t.n → rlmP (t.at i)
theorem rlm_not {s : ByteArray} : rlmP s → (!rlmB s) = false := fun h => by rw [rlmB_true h]; rfl
theorem rlm_not' {s : ByteArray} : ¬ rlmP s → (!rlmB s) = true := fun h => by rw [rlmB_false h]; rfl
theorem rs_runs {t : Ss} (k : Nat) (ht : t.ok) : Runs cfgL 24 [(t.pl k).val 0] [(t.pl k).row] fun v _ => isBool (cB (rlsP t)) v := by
  have hn := ht.2
  refine all_loop cfgLOK (rsC t k) (fun i => rlmP (t.at i)) t.n (fun g nm hg => by cases hg) (fun Q hQ => ?_) (fun i hi hp J Q hQ => ?_) (fun i hi hp J Q => ?_) (fun hp J Q => ?_)
  · refine to_startM (some (1, 3)) 4000 0 hQ (rs_init t k) (rs_names t k 0 0) (fun q hq p u hp hu => ?_) (fun e he => by cases he) all_nil
    obtain rfl : q = (0, 7, .int .i64 (.lit 0)) := by simpa using hq
    exact tmp_set (rs_tmp t k 0) hp hu (int_impS rfl)
  · exact to_turn (some (1, 3)) 4000 (i + 1) hQ (rs_turn t k i J) (rs_names t k i (i + 1)) (inS_all ht hi (all_cons (by rw [t.el_at]; exact rlm_not hp) (all_cons ⟨by omega, by omega⟩ all_nil)))
  · exact to_end none 4000 (rs_fail t k i J) (inS_all ht hi (all_cons (by rw [t.el_at]; exact rlm_not' hp) all_nil)) fun H _ => ⟨_, rfl, (cB_false fun h => hp (h i hi)).symm⟩
  · exact to_end none 4000 (rs_end t k t.n J) (all_cons (decide_eq_false (by omega)) all_nil) fun H _ => ⟨_, rfl, (cB_true hp).symm⟩
theorem vd_runs {t : Ss} (k : Nat) (ht : t.ok) (hs : ∀ i, i < t.n → (t.at i).size ≤ 9223372036854775807) : Runs cfgL 33 [(t.pl k).val 0] [(t.pl k).row] fun v _ => isBool (cB (rlsP t)) v := by
  have hn := ht.2
  refine all_loop cfgLOK (vdC t k) (fun i => rlmP (t.at i)) t.n (fun g nm hg => by cases hg) (fun Q hQ => ?_) (fun i hi hp J Q hQ => ?_) (fun i hi hp J Q => ?_) (fun hp J Q => ?_)
  · refine to_startM (some (1, 3)) 4000 0 hQ (vd_init t k) (vd_names t k 0 0) (fun q hq p u hp hu => ?_) (fun e he => by cases he) all_nil
    obtain rfl : q = (0, 3, .int .i64 (.lit 0)) := by simpa using hq
    exact tmp_set (vd_tmp t k 0) hp hu (int_impS rfl)
  · exact to_turn (some (1, 3)) 4000 (i + 1) hQ (vd_turn t k i J) (vd_names t k i (i + 1)) (inS_all ht hi (all_cons (by rw [t.el_at]; exact hs i hi) (all_cons (by rw [t.el_at]; exact rlm_not hp) (all_cons ⟨by omega, by omega⟩ all_nil))))
  · exact to_end none 4000 (vd_fail t k i J) (inS_all ht hi (all_cons (by rw [t.el_at]; exact hs i hi) (all_cons (by rw [t.el_at]; exact rlm_not' hp) all_nil))) fun H _ => ⟨_, rfl, (cB_false fun h => hp (h i hi)).symm⟩
  · exact to_end none 4000 (vd_end t k t.n J) (all_cons (decide_eq_false (by omega)) all_nil) fun H _ => ⟨_, rfl, (cB_true hp).symm⟩
end Go.Proofs.YtmekechnnfhhkaaDoor.Aes


/-
  Slices of strings: the summaries of few, realms, valid.
-/
namespace Go.Proofs.YtmekechnnfhhkaaDoor.Aes
open Go.Sim
open Go.Proofs
variable {α : Type}

set_option maxRecDepth 1000000
theorem ss_sem {g : FuncId → Option Summ} {f : FuncId} {O : Nat → Prop} {w0 w : World} {β : Val} {H : List SO} {base : Nat} {vs : List Value} (hH : HeapRel0 Tryd.prog O w0 β H w) {v : SV} {t : Ss} {nm : Nat} {rest : List SV} (ha : SV.denL β (v :: rest) = some vs)
    (ht : ∀ g, ∃ e', H[nm]? = some e' ∧ Taken g t.row e') (hi : v.Imp (t.val nm)) (hr : ∀ f, SV.renL f rest = rest) (hu : ∀ p, SV.usesL p rest = true) {b : Bool} (hrun : ∀ k, Runs (cfgOf g) f ((t.pl k).val 0 :: rest) [t.row] fun v _ => isBool b v) :
    SumSem Tryd.prog H β w base f vs ⟨.bool (.sym b), [], []⟩ := by
  obtain ⟨x, ys, hx, hys, rfl⟩ := denL_cons.1 ha
  obtain ⟨k, _, hx'⟩ := Ss.val_den (hi _ _ hx)
  refine sum_runsQ (c := cfgOf g) hH ⟨[nm], [t.row], (t.pl k).val 0 :: rest⟩ (by intro g j hg; cases hg) ?_ (Ifc.fitsQ (by simp) ?_ ⟨⟨ht _, t.row_uses _⟩, trivial⟩) [] (by simp) (by simp) (runs_mono (hrun k) fun v H h => bool_ends rfl h)
  · show SV.denL β (((t.pl k).val 0).ren _ :: SV.renL _ rest) = _
    rw [Ss.val_ren, hr]; exact denL_cons.2 ⟨_, _, hx', hys, rfl⟩
  · show (((t.pl k).val 0).uses _ && SV.usesL _ rest) = true
    rw [Ss.val_uses _ _ _ rfl, hu]; rfl
theorem i0_sem {g : FuncId → Option Summ} (hc : CfgOK (cfgOf g)) {f : FuncId} {O : Nat → Prop} {w0 w : World} {β : Val} {H : List SO} {base : Nat} {vs : List Value} (hH : HeapRel0 Tryd.prog O w0 β H w) {args : List SV} (ha : SV.denL β args = some vs) (hr : ∀ f, SV.renL f args = args) (hu : ∀ p, SV.usesL p args = true)
    {b t : Bool} {ds : List Bool} {ps : List Prop} {n : Nat} (hrun : outO [] (callSim (cfgOf g) n f args []) ds = (ps, some (.bool (.lit b), []))) (hp : ∀ p ∈ ps, p) (hb : b = t) : SumSem Tryd.prog H β w base f vs ⟨.bool (.sym t), [], []⟩ := by
  subst hb
  refine sum_runQ hc n hH ⟨[], [], args⟩ (by intro g j hg; cases hg) ?_ (Ifc.fitsQ (by simp) (hu _) trivial) [] (by simp) (by simp) (outO_ob hrun hp fun H2 _ => bool_ends rfl ⟨_, rfl, rfl⟩)
  show SV.denL β (SV.renL _ args) = _
  rw [hr]; exact ha
noncomputable def i64V (v : SV) : Option SI := v.asInt none fun k n => boolC (i64K k) (some n) none
theorem i64V_spec {v : SV} {n : SI} (h : i64V v = some n) : v = .int .i64 n := by
  cases v <;> first | (cases h; done) | skip
  rename_i k m
  cases k <;> first | (cases h; rfl) | (cases h; done)
noncomputable def bR (p : Prop) : SumRes := ⟨.bool (.sym (cB p)), [], []⟩
noncomputable def rlsS : Summ := fun args H _ => args1 args fun v => optSs H v fun t _ => .need t.ok (.ok (bR (rlsP t)))
noncomputable def vldS : Summ := fun args H _ => args1 args fun v => optSs H v fun t _ => .need (t.ok ∧ ∀ i, i < t.n → (t.at i).size ≤ 9223372036854775807) (.ok (bR (rlsP t)))
theorem rlsOK : SumOK Tryd.prog 24 rlsS := by
  intro glob O w0 β H w base args vs hH hG ha
  refine args1_sat fun v hv => ?_
  rw [hv] at ha
  refine optSs_sat (fun hn => fun _ => ?_) fun t nm ht hi => fun hok => ss_sem (g := sumsOf rlL) hH ha ht hi (fun _ => rfl) (fun _ => rfl) fun k => rs_runs k hok
  rw [hn] at ha
  exact i0_sem cfgLOK hH ha (fun _ => rfl) (fun _ => rfl) rs_nil all_nil (cB_true fun i hi => by have : i < 0 := hi; omega).symm
theorem vldOK : SumOK Tryd.prog 33 vldS := by
  intro glob O w0 β H w base args vs hH hG ha
  refine args1_sat fun v hv => ?_
  rw [hv] at ha
  refine optSs_sat (fun hn => fun _ => ?_) fun t nm ht hi => fun ⟨hok, hs⟩ => ss_sem (g := sumsOf rlL) hH ha ht hi (fun _ => rfl) (fun _ => rfl) fun k => vd_runs k hok hs
  rw [hn] at ha
  exact i0_sem cfgLOK hH ha (fun _ => rfl) (fun _ => rfl) vd_nil all_nil (cB_true fun i hi => by have : i < 0 := hi; omega).symm
end Go.Proofs.YtmekechnnfhhkaaDoor.Aes


/-
  The reference's pairs: Trusts, less.
-/
namespace Go.Proofs.YtmekechnnfhhkaaDoor.Aes
open Go.Sim
open Go.Proofs
variable {α : Type}

set_option maxRecDepth 1000000
noncomputable def cfgP0 : Cfg := cfgOf fun _ => none
theorem cfgP0OK : CfgOK cfgP0 := ⟨cfgR0OK.prog, fun f s h => by cases h⟩
/-- a row of pairs that is read alone; a slice of it -/
noncomputable def rwV (V : Nat → Value) (N : Nat) : SO := .row (.raw V (N * 2))
noncomputable def slP (nm n k : Nat) : SV := .slice ⟨nm, .lit 0⟩ (.sym n) (.sym k)
noncomputable def fit2 (V : Nat → Value) (a : Nat) : Prop := fitK .s (V (a + 0)) ∧ fitK .s (V (a + 1)) ∧ True
noncomputable def eqP (V : Nat → Value) (a : Nat) (p : Pr) : Bool := decide (vStr (V (a + 0)) = p.1) && decide (vStr (V (a + 1)) = p.2)
theorem fitS (s : ByteArray) : fitK .s (.string s) := fun _ => rfl
theorem fit2_of {V : Nat → Value} {n i : Nat} (h : PrV V n) (hi : i < n) : fit2 V (0 + i * 2) := by
  obtain ⟨h1, h2⟩ := h i hi
  unfold fit2
  rw [Nat.zero_add, Nat.add_zero, h1, h2]
  exact ⟨fitS _, fitS _, trivial⟩
theorem eqP_of {V : Nat → Value} {i : Nat} {p : Pr} : eqP V (0 + i * 2) p = decide (prAt V i = p) := by
  unfold eqP
  rw [Nat.zero_add, Nat.add_zero, ← Bool.decide_and]
  exact decide_eq_decide.2 ⟨fun h => Prod.ext h.1 h.2, fun h => ⟨congrArg Prod.fst h, congrArg Prod.snd h⟩⟩
section
variable (V : Nat → Value) (N n k : Nat) (x y : ByteArray) (i : Nat) (J : Junk) (z : Nat → Nat → Nat)
noncomputable def rdP (q : List Prop) : List Prop := (decide ((i : Int) < (n : Int)) = true) :: ((0 : Int) ≤ (i : Int) ∧ (i : Int) < (n : Int)) :: (0 + i * 2 + 2 ≤ N * 2) :: fit2 V (0 + i * 2) :: q
noncomputable def rtT (st : Option (Nat × Nat)) : Tree := callSim (cfgP0.at st) 20000 22 [slP 0 n k, .str (.sym x), .str (.sym y)] [rwV V N]
noncomputable def rtC : Cut := ⟨bareFs (stopOf (rtT V N n k x y (some (1, 3))) []).frames [[(0, slP 0 n k), (1, .str (.sym x)), (2, .str (.sym y)), (7, .int .i64 (.sym i))]], [.ent (rwV V N)]⟩
noncomputable def rtS (st : Option (Nat × Nat)) : Tree := sim1 (cfgP0.at st) 20000 ((rtC V N n k x y i).fill J)
theorem rt_init : outL [] (rtC V N n k x y 0) [0] (rtT V N n k x y (some (1, 3))) [] z = ([], some (.inr (modSeen [(0, 7, .int .i64 (.lit 0))] [] (seenC [0] 1 (rtC V N n k x y 0))))) := by kernel_rfl
theorem rt_turn : outL [] (rtC V N n k x y i) [0] (rtS V N n k x y i J (some (1, 3))) [true, false] z = (rdP V N n i [eqP V (0 + i * 2) (x, y) = false, inI64 ((i : Int) + 1)], some (.inr (seenC [0] 1 (rtC V N n k x y (i + 1))))) := by kernel_rfl
theorem rt_yes : outL [] (rtC V N n k x y i) [0] (rtS V N n k x y i J none) [true, true] z = (rdP V N n i [eqP V (0 + i * 2) (x, y) = true], yesR) := by kernel_rfl
theorem rt_end : outL [] (rtC V N n k x y i) [0] (rtS V N n k x y i J none) [false] z = ([decide ((i : Int) < (n : Int)) = false], noR) := by kernel_rfl
theorem rt_names (j : Nat) : boolC (namesOK 1 [0] (rtC V N n k x y i) (rtC V N n k x y j)) (allN noLoopE (rtC V N n k x y j).heap) false = true := by kernel_rfl
theorem rt_tmp : (((rtC V N n k x y i).frames[0]?).bind fun p => p.tmps[7]?) = some (some (.int .i64 (.sym i))) := by kernel_rfl
end
/-- a slice of pairs: what lies in its row, how much; how many of them -/
structure Pw where
  V : Nat → Value
  N : Nat
  n : Nat
def Pw.ok (t : Pw) : Prop := t.n ≤ t.N ∧ t.n ≤ 1000000 ∧ PrV t.V t.n
noncomputable def Pw.list (t : Pw) : List Pr := prL t.V t.n
def Pw.has (t : Pw) (p : Pr) : Prop := p ∈ t.list
theorem Pw.has_iff {t : Pw} {p : Pr} : t.has p ↔ ∃ i, i < t.n ∧ prAt t.V i = p := by
  unfold Pw.has Pw.list prL
  rw [List.mem_map]
  constructor
  · rintro ⟨i, hi, he⟩; exact ⟨i, List.mem_range.1 hi, he⟩
  · rintro ⟨i, hi, he⟩; exact ⟨i, List.mem_range.2 hi, he⟩
theorem rdP_all {t : Pw} {i : Nat} (ht : t.ok) (h : i < t.n) {q : List Prop} (hq : ∀ p ∈ q, p) : ∀ p ∈ rdP t.V t.N t.n i q, p := by
  have := ht.1
  exact all_cons (decide_eq_true (by omega)) (all_cons ⟨by omega, by omega⟩ (all_cons (by omega) (all_cons (fit2_of ht.2.2 h) hq)))
theorem rt_runs {t : Pw} (k : Nat) (x y : ByteArray) (ht : t.ok) : Runs cfgP0 22 [slP 0 t.n k, .str (.sym x), .str (.sym y)] [rwV t.V t.N] fun v _ => isBool (cB (t.has (x, y))) v := by
  have hn := ht.2.1
  refine all_loop cfgP0OK (rtC t.V t.N t.n k x y) (fun i => prAt t.V i ≠ (x, y)) t.n (fun g nm hg => by cases hg) (fun Q hQ => ?_) (fun i hi hp J Q hQ => ?_) (fun i hi hp J Q => ?_) (fun hp J Q => ?_)
  · refine to_startM (some (1, 3)) 20000 0 hQ (rt_init t.V t.N t.n k x y) (rt_names t.V t.N t.n k x y 0 0) (fun q hq p u hp hu => ?_) (fun e he => by cases he) all_nil
    obtain rfl : q = (0, 7, .int .i64 (.lit 0)) := by simpa using hq
    exact tmp_set (rt_tmp t.V t.N t.n k x y 0) hp hu (int_impS rfl)
  · exact to_turn (some (1, 3)) 20000 (i + 1) hQ (rt_turn t.V t.N t.n k x y i J) (rt_names t.V t.N t.n k x y i (i + 1)) (rdP_all ht hi (all_cons (by rw [eqP_of]; exact decide_eq_false hp) (all_cons ⟨by omega, by omega⟩ all_nil)))
  · have hp : prAt t.V i = (x, y) := Classical.not_not.1 hp
    exact to_end none 20000 (rt_yes t.V t.N t.n k x y i J) (rdP_all ht hi (all_cons (by rw [eqP_of]; exact decide_eq_true hp) all_nil)) fun H _ => ⟨_, rfl, (cB_true (Pw.has_iff.2 ⟨i, hi, hp⟩)).symm⟩
  · exact to_end none 20000 (rt_end t.V t.N t.n k x y t.n J) (all_cons (decide_eq_false (by omega)) all_nil) fun H _ => ⟨_, rfl, (cB_false fun h => by
      obtain ⟨i, hi, he⟩ := Pw.has_iff.1 h
      exact hp i hi he).symm⟩
end Go.Proofs.YtmekechnnfhhkaaDoor.Aes


/-
  The reference's pairs: slices of them looked at; the summaries of Trusts and less.
-/
namespace Go.Proofs.YtmekechnnfhhkaaDoor.Aes
open Go.Sim
open Go.Proofs
variable {α : Type}

set_option maxRecDepth 1000000
/-- a list's cells -/
noncomputable def lsV (xs : List ByteArray) (j : Nat) : Value := .string (strAt xs j)
noncomputable def pwC (c : Cells) (f : (Nat → Value) → Nat → R α) : R α :=
  Cells.rec (motive := fun _ => R α) (fun l => optC (uns l) (.stuck 7860) fun xs => .need (lenN xs = lenN xs / 2 * 2) (f (lsV xs) (lenN xs / 2))) (fun _ _ => .stuck 7861) (fun V m => .need (m = m / 2 * 2) (f V (m / 2))) c
theorem pwC_sat {c : Cells} {f : (Nat → Value) → Nat → R α} {φ : α → Prop} (h : ∀ V N, c.Imp (.raw V (N * 2)) → (f V N).Sat φ) : (pwC c f).Sat φ := by
  cases c with
  | lst l =>
    refine optC_only fun xs hx he => h _ _ fun γ vs hv => ?_
    rw [← he, lenN_eq]
    obtain ⟨h1, h2⟩ := sx_rel (uns_imp hx _ _ hv)
    refine ⟨h1, fun i x hi => ?_⟩
    have := h2 i x hi
    have : some (Value.string (strAt xs i)) = some x := this
    exact (Option.some.inj this).symm
  | fn g n => trivial
  | raw V m => exact fun he => h _ _ (by rw [← he]; exact .refl _)
noncomputable def pwE (e : Option SO) (f : (Nat → Value) → Nat → R α) : R α :=
  optC e (.stuck 7862) fun e => SO.rec (motive := fun _ => R α) (fun c _ _ => pwC c f) (fun c => pwC c f) (fun _ _ _ _ _ _ _ _ => .stuck 7863) (fun _ => .stuck 7863) (.stuck 7863) (fun _ => .stuck 7863) e
theorem pwE_sat {e : Option SO} {f : (Nat → Value) → Nat → R α} {φ : α → Prop} (h : ∀ V N, (∀ g, ∃ e', e = some e' ∧ Taken g (rwV V N) e') → (f V N).Sat φ) : (pwE e f).Sat φ := by
  refine optC_only fun e' he => ?_
  cases e' with
  | own c w el => exact pwC_sat fun V N hi => h V N fun g => ⟨_, he, taken_row (c0 := c) (.inr ⟨w, el, rfl⟩) hi.front⟩
  | row c => exact pwC_sat fun V N hi => h V N fun g => ⟨_, he, taken_row (c0 := c) (.inl rfl) hi.front⟩
  | loop => trivial
  | deferred => trivial
  | gone => trivial
  | obj => trivial
noncomputable def Pw.row (t : Pw) : SO := rwV t.V t.N
theorem Pw.row_uses (t : Pw) (p : Nat → Bool) : t.row.CUses p := trivial
noncomputable def partPw (H : List SO) (v : SV) (f : Pw → Nat → R α) : R α := v.asSlice (.stuck 7864) fun a l _ => boolC (is0 a.off) (pwE (nth H a.nm) fun V N => f ⟨V, N, l.den⟩ a.nm) (.stuck 7865)
theorem partPw_sat {H : List SO} {v : SV} {f : Pw → Nat → R α} {φ : α → Prop} (h : ∀ t nm, (∀ g, ∃ e', H[nm]? = some e' ∧ Taken g t.row e') → (∀ β x, v.den β = some x → ∃ k, (slP nm t.n k).den β = some x) → (f t nm).Sat φ) : (partPw H v f).Sat φ := by
  unfold partPw
  rcases asSlice_cases v with ⟨a, l, c, rfl⟩ | hv
  · refine boolC_only fun h0 => pwE_sat fun V N ht => h ⟨V, N, l.den⟩ a.nm (fun g => by rw [← nth_eq]; exact ht g) fun β x hx => ?_
    obtain ⟨m, _, hd, _, _⟩ := slice_den hx
    obtain ⟨nm, off⟩ := a
    obtain rfl := is0_spec h0
    exact ⟨m, hd⟩
  · rw [hv]; trivial
theorem slP_ren (f : Nat → Nat) (nm n k : Nat) : (slP nm n k).ren f = slP (f nm) n k := rfl
/-- a function of a slice of pairs and of what has no name: what it comes to -/
theorem pw_any {g : FuncId → Option Summ} {f : FuncId} {O : Nat → Prop} {w0 w : World} {β : Val} {H : List SO} {base : Nat} {vs : List Value} (hH : HeapRel0 Tryd.prog O w0 β H w) {v : SV} {t : Pw} {nm : Nat} {rest : List SV} (ha : SV.denL β (v :: rest) = some vs)
    (ht : ∀ g, ∃ e', H[nm]? = some e' ∧ Taken g t.row e') (hi : ∀ β x, v.den β = some x → ∃ k, (slP nm t.n k).den β = some x) (hr : ∀ f, SV.renL f rest = rest) (hu : ∀ p, SV.usesL p rest = true) {r : SumRes} {D : SV → List SO → Prop} {keep : List Nat} (hk : ∀ j ∈ keep, 1 ≤ j) (hkn : keep.Nodup) (hrun : ∀ k, Runs (cfgOf g) f (slP 0 t.n k :: rest) [t.row] D)
    (hD : ∀ k v H, D v H → (⟨[nm], [t.row], slP 0 t.n k :: rest⟩ : Ifc).EndsQ base keep r v H) :
    SumSem Tryd.prog H β w base f vs r := by
  obtain ⟨x, ys, hx, hys, rfl⟩ := denL_cons.1 ha
  obtain ⟨k, hx'⟩ := hi _ _ hx
  refine sum_runsQ (c := cfgOf g) hH ⟨[nm], [t.row], slP 0 t.n k :: rest⟩ (by intro g j hg; cases hg) ?_ (Ifc.fitsQ (by simp) ?_ ⟨⟨(let ⟨e, h1, h2⟩ := ht _; ⟨e, h1, h2.q⟩), (t.row_uses _).q⟩, trivial⟩) keep hk hkn (runs_mono (hrun k) fun v H h => hD k v H h)
  · show SV.denL β ((slP 0 t.n k).ren _ :: SV.renL _ rest) = _
    rw [slP_ren, hr]; exact denL_cons.2 ⟨_, _, hx', hys, rfl⟩
  · show ((true && true) && SV.usesL _ rest) = true
    rw [hu]; rfl
noncomputable def rtsS : Summ := fun args H _ => args3 args fun v xv yv => optC (strV xv) (.stuck 7866) fun x => optC (strV yv) (.stuck 7866) fun y => partPw H v fun t _ => .need t.ok (.ok (bR (t.has (x.den, y.den))))
theorem rtsOK : SumOK Tryd.prog 22 rtsS := by
  intro glob O w0 β H w base args vs hH hG ha
  refine args3_sat fun v xv yv hv => optC_only fun x hx => optC_only fun y hy => ?_
  rw [hv, strV_spec hx, strV_spec hy] at ha
  have ha := impL_cons (.refl v) (impL_cons (str_imp (t := .sym x.den) rfl) (impL_cons (str_imp (t := .sym y.den) rfl) impL_nil)) _ _ ha
  exact partPw_sat fun t nm ht hi hok => pw_any (g := fun _ => none) (keep := []) hH ha ht hi (fun _ => rfl) (fun _ => rfl) (by simp) (by simp) (fun k => rt_runs k x.den y.den hok) fun k v H h => bool_ends rfl h
/- less -/
noncomputable def leA (p q : Pr) : List SV := [.agg [.str (.sym p.1), .str (.sym p.2)], .agg [.str (.sym q.1), .str (.sym q.2)]]
noncomputable def leT (p q : Pr) : Tree := callSim cfgP0 400 34 (leA p q) []
noncomputable def leS : Summ := fun args _ _ => args2 args fun v w => optC (pairV v) (.stuck 7867) fun p => optC (pairV w) (.stuck 7867) fun q => .ok (bR (prLt (p.1.den, p.2.den) (q.1.den, q.2.den)))
noncomputable def lessB (x y : ByteArray) : Bool := Op.bytesLess x.data.toList y.data.toList
theorem le_1 (p q : Pr) : outO [] (leT p q) (repN true 8) = (repN (lessB p.1 q.1 = true) 8, some (.bool (.lit true), [])) := by kernel_rfl
theorem le_2 (p q : Pr) : outO [] (leT p q) [false, true] = ([lessB p.1 q.1 = false, decide (p.1 = q.1) = true], some (.bool (.sym (lessB p.2 q.2)), [])) := by kernel_rfl
theorem le_3 (p q : Pr) : outO [] (leT p q) (repN false 7) = ((lessB p.1 q.1 = false) :: repN (decide (p.1 = q.1) = false) 6, some (.bool (.lit false), [])) := by kernel_rfl
theorem leOK : SumOK Tryd.prog 34 leS := by
  intro glob O w0 β H w base args vs hH hG ha
  refine args2_sat fun v1 v2 hv => optC_only fun p hp => optC_only fun q hq => ?_
  rw [hv, pairV_spec hp, pairV_spec hq] at ha
  have ha := impL_cons (agg2_imp (c := .sym p.1.den) (d := .sym p.2.den) rfl rfl) (impL_cons (agg2_imp (c := .sym q.1.den) (d := .sym q.2.den) rfl rfl) impL_nil) _ _ ha
  generalize p.1.den = a at ha ⊢
  generalize p.2.den = b at ha ⊢
  generalize q.1.den = c at ha ⊢
  generalize q.2.den = d at ha ⊢
  have go : ∀ {ds ps b'}, outO [] (leT (a, b) (c, d)) ds = (ps, some (.bool b', [])) → (∀ p ∈ ps, p) → b'.den = cB (prLt (a, b) (c, d)) → SumSem Tryd.prog H β w base 34 vs (bR (prLt (a, b) (c, d))) := fun hr hp hb => sum_runQ cfgP0OK 400 hH ⟨[], [], leA (a, b) (c, d)⟩ (by intro g j hg; cases hg) ha (fits0 rfl).q [] (by simp) (by simp) (outO_ob hr hp fun H2 _ => bool_ends rfl ⟨_, rfl, hb⟩)
  cases h1 : lessB a c with
  | true => exact go (le_1 _ _) (rep_all h1 8) (cB_true (.inl (by unfold lessB at h1; rw [less_lt] at h1; exact of_decide_eq_true h1))).symm
  | false =>
    have n1 : ¬ a.data.toList < c.data.toList := by unfold lessB at h1; rw [less_lt] at h1; exact of_decide_eq_false h1
    by_cases h2 : a = c
    · refine go (le_2 _ _) (all_cons h1 (all_cons (decide_eq_true h2) all_nil)) ?_
      show lessB b d = _
      unfold lessB
      rw [less_lt]
      by_cases h3 : b.data.toList < d.data.toList
      · rw [decide_eq_true h3, cB_true (.inr ⟨h2, h3⟩)]
      · rw [decide_eq_false h3, cB_false]
        rintro (h | ⟨_, h⟩)
        · exact n1 h
        · exact h3 h
    · refine go (le_3 _ _) (all_cons h1 (rep_all (decide_eq_false h2) 6)) (cB_false ?_).symm
      rintro (h | ⟨h, _⟩)
      · exact n1 h
      · exact h2 h
end Go.Proofs.YtmekechnnfhhkaaDoor.Aes


/-
  The reference's pairs: Trust.
-/
namespace Go.Proofs.YtmekechnnfhhkaaDoor.Aes
open Go.Sim
open Go.Proofs
variable {α : Type}

set_option maxRecDepth 1000000
noncomputable def rlP1 : List (FuncId × Summ) := [(33, vldS), (22, rtsS), (34, leS)]
theorem rlP1OK : ∀ y ∈ rlP1, SumOK Tryd.prog y.1 y.2 := allC vldOK (allC rtsOK (all1 leOK))
noncomputable def cfgP1 : Cfg := cfgOf (sumsOf rlP1)
theorem cfgP1OK : CfgOK cfgP1 := sumsOf_ok rlP1OK
noncomputable def slQ (nm n : Nat) (b : Bool) (k : Nat) : SV := .slice ⟨nm, .lit 0⟩ (.sym n) (boolC b (.rest nm k) (.sym k))
section
variable (V : Nat → Value) (N n : Nat) (b : Bool) (k : Nat) (x y : ByteArray) (i : Nat) (J : Junk) (z : Nat → Nat → Nat)
noncomputable def tuT (st : Option (Nat × Nat)) : Tree := callSim (cfgP1.at st) 20000 17 [slQ 0 n b k, .str (.sym x), .str (.sym y)] [rwV V N]
noncomputable def twS : Ss := ⟨strAt [x, y], 2, 0, 2, false, 2⟩
noncomputable def twG (c : Bool) : List Prop := [twS x y |>.ok |> fun h => h ∧ ∀ j, j < 2 → ((twS x y).at j).size ≤ 9223372036854775807, (!cB (rlsP (twS x y))) = c]
noncomputable def tpR (V : Nat → Value) (N n : Nat) : Pw := ⟨V, N * 2 / 2, n⟩
noncomputable def tuG : List Prop := app (twG x y false) [decide (x = y) = false, N * 2 = N * 2 / 2 * 2, (tpR V N n).ok]
noncomputable def retQ (m : Int) : Option (SV × List (Option SO)) := some (.tuple [slQ 0 n b k, .int .i64 (.lit m)], [])
theorem tu_arg : outO [] (tuT V N n b k x y none) (repN true 4) = (((twS x y).ok ∧ ∀ j, j < 2 → ((twS x y).at j).size ≤ 9223372036854775807) :: repN ((!cB (rlsP (twS x y))) = true) 4, retQ n b k 2) := by cases b <;> kernel_rfl
theorem tu_same : outO [] (tuT V N n b k x y none) [false, true] = (app (twG x y false) [decide (x = y) = true], retQ n b k 2) := by cases b <;> kernel_rfl
theorem tu_busy : outO [] (tuT V N n b k x y none) [false, false, true] = (app (tuG V N n x y) [cB ((tpR V N n).has (x, y)) = true], retQ n b k 11) := by cases b <;> kernel_rfl
theorem tu_full : outO [] (tuT V N n b k x y none) [false, false, false, true] = (app (tuG V N n x y) [cB ((tpR V N n).has (x, y)) = false, decide ((n : Int) ≥ 1000) = true], retQ n b k 7) := by cases b <;> kernel_rfl
noncomputable def tuC : Cut := ⟨bareFs (stopOf (tuT V N n b k x y (some (1, 3))) (repN false 8)).frames [[(0, slQ 0 n b k), (1, .str (.sym x)), (2, .str (.sym y)), (8, .int .i64 (.sym i))]], [.ent (rwV V N)]⟩
noncomputable def tuS (st : Option (Nat × Nat)) : Tree := sim1 (cfgP1.at st) 20000 ((tuC V N n b k x y i).fill J)
theorem tu_init : outL [] (tuC V N n b k x y 0) [0] (tuT V N n b k x y (some (1, 3))) [false, false, false, false] z = (app (tuG V N n x y) [cB ((tpR V N n).has (x, y)) = false, decide ((n : Int) ≥ 1000) = false], some (.inr (modSeen [(0, 8, .int .i64 (.lit 0))] [] (seenC [0] 2 (tuC V N n b k x y 0))))) := by cases b <;> kernel_rfl
noncomputable def ltI : Prop := cB (prLt (vStr (V (0 + i * 2 + 0)), vStr (V (0 + i * 2 + 1))) (x, y)) = true
noncomputable def geI : Prop := cB (prLt (vStr (V (0 + i * 2 + 0)), vStr (V (0 + i * 2 + 1))) (x, y)) = false
theorem tu_turn : outL [] (tuC V N n b k x y i) [0] (tuS V N n b k x y i J (some (1, 3))) [true, true] z = (rdP V N n i [ltI V x y i, inI64 ((i : Int) + 1)], some (.inr (seenC [0] 1 (tuC V N n b k x y (i + 1))))) := by cases b <;> kernel_rfl
/- The way out: at the end, or ahead of one that is not less; the order in which the parts are made; at the beginning or not. -/
noncomputable def ord3 {β : Type} (o : Nat) (p q r : β) : β := Nat.rec (motive := fun _ => β) p (fun o _ => Nat.rec (motive := fun _ => β) q (fun _ _ => r) o) o
noncomputable def odD (o : Nat) : List Bool := ord3 o [true, true] [true, false] [false]
noncomputable def odC (o : Nat) : List Prop := ord3 o [decide (z 0 0 = 0) = true, decide (z 1 0 = 0) = true] [decide (z 0 0 = 0) = true, decide (z 1 0 = 0) = false] [decide (z 0 0 = 0) = false]
noncomputable def exW (e : Bool) : Nat → Value := boolC e (catV (fun j => atV [.string x, .string y] (0 + j)) (1 * 2) fun j => V (0 + i * 2 + j))
  (catV (fun j => catV (fun j => catV (fun j => atV [] (0 + j)) (0 * 2) (fun j => V (0 + j)) (0 + j)) ((0 + i) * 2) (fun j => atV [.string x, .string y] (0 + j)) (0 + j)) ((0 + i + 1) * 2) fun j => V (0 + i * 2 + j))
noncomputable def exN (e : Bool) : Nat := boolC e (1 + (n - i)) (0 + i + 1 + (n - i))
noncomputable def exM (e : Bool) : Nat := boolC e 4 5
noncomputable def oneR (m : Nat) (Y : Nat → Value) : Prop := ∀ j, j < m → (Y j).oneCell' = true
noncomputable def exC (e : Bool) : List Prop := app [(0 : Int) ≤ (i : Int) ∧ (i : Int) ≤ (n : Int), 0 + i * 2 ≤ N * 2, decide (0 + i ≤ 0) = e]
  (boolC e [(0 : Int) ≤ (i : Int) ∧ (i : Int) ≤ (n : Int), 0 + i * 2 + (n - i) * 2 ≤ N * 2, 2 ≤ 2, ((1 + (n - i)) * 32 < 140737488355328 ∧ 1 + (n - i) < 140737488355328) ∧ oneR ((n - i) * 2) fun j => V (0 + i * 2 + j)]
    [0 ≤ 0, (0 + i) * 32 < 140737488355328 ∧ 0 + i < 140737488355328, 2 ≤ 2, 0 + (0 + i) * 2 ≤ (0 + i) * 2, ((0 + i + 1) * 32 < 140737488355328 ∧ 0 + i + 1 < 140737488355328) ∧ oneR 2 (fun j => atV [.string x, .string y] (0 + j)),
      (0 : Int) ≤ (i : Int) ∧ (i : Int) ≤ (n : Int), 0 + i * 2 + (n - i) * 2 ≤ N * 2, 0 + (0 + i + 1) * 2 ≤ (0 + i + 1) * 2, ((0 + i + 1 + (n - i)) * 32 < 140737488355328 ∧ 0 + i + 1 + (n - i) < 140737488355328) ∧ oneR ((n - i) * 2) fun j => V (0 + i * 2 + j)])
noncomputable def exR (e : Bool) : SV × List (Option SO) := (.tuple [.slice ⟨exM e, .lit 0⟩ (.sym (exN n i e)) (.rest (exM e) 0), .int .i64 (.lit 0)], [some (.own (.raw (exW V x y i e) (exN n i e * 2)) false 41)])
noncomputable def exF (f : Bool) : List Bool := boolC f [true, false] (repN false 9)
noncomputable def exP (f : Bool) : List Prop := boolC f (rdP V N n i [geI V x y i]) (repN (decide ((i : Int) < (n : Int)) = false) 9)
theorem tu_end (f e : Bool) : mapN (fun o => outL [exM e] (tuC V N n b k x y i) [0] (tuS V N n b k x y i J none) (app (exF f) (app (odD o) [e])) z) (fromN 3 0) = mapN (fun o => (app (exP V N n x y i f) (app (odC z o) (exC V N n x y i e)), some (.inl (exR V n x y i e)))) (fromN 3 0) := by cases b <;> cases f <;> cases e <;> kernel_rfl
theorem tu_names (j : Nat) : boolC (namesOK 1 [0] (tuC V N n b k x y i) (tuC V N n b k x y j)) (allN noLoopE (tuC V N n b k x y j).heap) false = true := by cases b <;> kernel_rfl
theorem tu_tmp : (((tuC V N n b k x y i).frames[0]?).bind fun p => p.tmps[8]?) = some (some (.int .i64 (.sym i))) := by cases b <;> kernel_rfl
end
end Go.Proofs.YtmekechnnfhhkaaDoor.Aes


/-
  The symbolic simulator, thirty-ninth part: summaries of runs of which the new names depend on what is drawn.
-/
namespace Go.Sim
open Go.RowKit

theorem sum_smallCX {c : Cfg} {O : Nat → Prop} {w0 w : World} {β : Val} {H : List SO} {base : Nat} {f : FuncId} {vs : List Value} (hH : HeapRel0 c.P O w0 β H w)
    (I : Ifc) (hgl : ∀ g j, c.glob g = some j → I.known j = true ∧ ∃ l, β (I.big j) = some l ∧ l.blk = g ∧ l.off = 0) (ha : SV.denL β (SV.renL I.big I.args) = some vs) (hI : I.FitsQ H) {r : SumRes} (turn : List Nat) (ht1 : ∀ (j : Nat) E, I.ents[j]? = some E → E.owned = true → j ∈ turn) (ht2 : ∀ j ∈ turn, ∃ E, I.ents[j]? = some E ∧ E.owned = true) (htn : turn.Nodup := by simp)
    (hbody : ∃ fn, c.P.funcs[f]? = some fn ∧ fn.body.isSome = true)
    (hrun : HeapRel c.P (I.ownsQ β) w (I.val β) I.ents w → GlobRel c.glob (I.val β) → SV.denL (I.val β) I.args = some vs → Calls c.P f vs.toArray w (Came c.P (I.ownsQ β) w (I.val β) fun v H2 => ∃ keep : List Nat, (∀ j ∈ keep, I.names.length ≤ j) ∧ keep.Nodup ∧ I.OutQ base turn keep r v H2)) : SumSem c.P H β w base f vs r := by
  intro hfree
  have hH' := Ifc.heapQ hH hI
  have ha' : SV.denL (I.val β) I.args = some vs := by
    rw [SV.denL_ren, SV.denL_uses Ifc.val_known _ hI.uargs] at ha; exact ha
  have hcalls := hrun hH' (fun g j hg => let ⟨hk, l, h1, h2⟩ := hgl g j hg; ⟨l, by rw [← Ifc.val_known j hk]; exact h1, h2⟩) ha'
  have hown : ∀ j ∈ turn, ∃ e l, H[I.big j]? = some e ∧ e.owned = true ∧ β (I.big j) = some l ∧ I.val β j = some l ∧ j < I.names.length := by
    intro j hj
    obtain ⟨E, he, ho⟩ := ht2 j hj
    obtain ⟨e, he', ht⟩ := hI.ent j _ he
    have hu := hI.uent j _ he
    have hjl : j < I.names.length := by rw [← hI.len]; exact (List.getElem?_eq_some_iff.1 he).1
    have hpl : e.placed = true ∨ ∃ o, e = .obj o := by
      cases E with
      | own => obtain ⟨_, rfl, _⟩ := ht; exact .inl rfl
      | row => cases ho
      | loop => exact hu.elim
      | deferred => exact hu.elim
      | gone => cases ho
      | obj => obtain ⟨_, rfl, _⟩ := ht; exact .inr ⟨_, rfl⟩
    obtain ⟨l, hl⟩ := (hH.entries _ _ he').loc hpl
    exact ⟨e, l, he', ht.owned hu ho, hl, by rw [← Ifc.val_known j ((I.known_iff j).2 hjl)]; exact hl, hjl⟩
  -- what is turned
  have hsets : ∀ (keep : List Nat) (v : SV) (H'' : List SO), I.OutQ base turn keep r v H'' → ∀ m e, (m, e) ∈ r.sets → ∃ j ∈ turn, m = I.big j ∧ GivenQ (I.seen keep) (I.out base keep) H''[j]? e ∧ ∃ i : Nat, turn[i]? = some j ∧ r.sets[i]? = some (m, e) := by
    intro keep v H'' hout m e hm
    obtain ⟨i, hi⟩ := List.mem_iff_getElem?.1 hm
    have hil := (List.getElem?_eq_some_iff.1 hi).1
    rw [hout.setsLen] at hil
    obtain ⟨e', h1, h2⟩ := hout.sets i _ (List.getElem?_eq_getElem hil)
    rw [hi] at h1
    cases h1
    exact ⟨_, List.getElem_mem hil, rfl, h2, i, List.getElem?_eq_getElem hil, hi⟩
  refine ⟨?_, .inl ⟨hbody, ?_⟩⟩
  · intro m e hm
    obtain ⟨e', w', fr, hcame, _⟩ := hcalls []
    obtain ⟨v, H'', x, β'', _, ⟨keep, hk, hkn, hout⟩, _⟩ := hcame
    obtain ⟨j, hj, rfl, _⟩ := hsets keep v H'' hout m e hm
    obtain ⟨e0, l, h1, h2, _⟩ := hown j hj
    exact ⟨_, h1, h2⟩
  · intro cs
    obtain ⟨e', w', fr, hcame, hst⟩ := hcalls cs
    refine ⟨e', w', fr, ?_, hst⟩
    obtain ⟨v, H'', x, β'', rfl, ⟨keep, hk, hkn, hout⟩, hle, hv, hH2⟩ := hcame
    -- the great valuation behind the call
    let βb : Val := fun n => if base ≤ n ∧ n < base + keep.length then (keep[n - base]?).bind β'' else β n
    have hlenn : r.news.length = keep.length := hout.newsLen
    have hfree' : ∀ i, i < keep.length → β (base + i) = none := fun i hi => hfree i (by rw [hlenn]; exact hi)
    have hβle : β.le βb := by
      intro n l hn
      show (if _ then _ else _) = _
      rw [if_neg]
      · exact hn
      · rintro ⟨h1, h2⟩
        have := hfree' (n - base) (by omega)
        rw [show base + (n - base) = n from by omega, hn] at this; cases this
    have hseen : ∀ j, I.seen keep j = true → βb (I.out base keep j) = β'' j := by
      intro j hj
      unfold Ifc.seen at hj
      unfold Ifc.out
      cases hkn' : I.known j with
      | true =>
        rw [boolC_true]
        have hjl := (I.known_iff j).1 hkn'
        obtain ⟨E, hE⟩ : ∃ E, I.ents[j]? = some E := ⟨_, List.getElem?_eq_getElem (by rw [hI.len]; exact hjl)⟩
        obtain ⟨e, he, htk⟩ := hI.ent j E hE
        have hu := hI.uent j E hE
        have hpl : e.placed = true ∨ ∃ o, e = .obj o := by
          cases E with
          | own cc ww el => obtain ⟨c1, rfl, _⟩ := htk; exact .inl rfl
          | row cc => obtain ⟨c1, rfl | ⟨ww, el, rfl⟩, _⟩ := htk <;> exact .inl rfl
          | loop => exact hu.elim
          | deferred => exact hu.elim
          | gone => obtain ⟨_, _, h⟩ := htk; exact h
          | obj => obtain ⟨_, rfl, _⟩ := htk; exact .inr ⟨_, rfl⟩
        obtain ⟨l, hl⟩ := (hH.entries _ _ he).loc hpl
        rw [hβle _ _ hl]
        have : I.val β j = some l := by rw [← Ifc.val_known j hkn']; exact hl
        rw [hle _ _ this]
      | false =>
        rw [hkn', boolC_false, memN_iff] at hj
        rw [boolC_false]
        have h1 := idxN_spec hj
        have h2 := (List.getElem?_eq_some_iff.1 h1).1
        show (if _ then _ else _) = _
        rw [if_pos (by omega), show base + idxN j keep - base = idxN j keep from by omega, h1]; rfl
    have hrenOwn : ∀ (j : Nat) (e : SO), GivenQ (I.seen keep) (I.out base keep) H''[j]? e → I.seen keep j = true → e.owned = true ∧ OwnRel c.P βb w' (I.out base keep j) e := by
      intro j e hg hs
      rcases hg with ⟨cc, ww, el, c', he, hu, himp, rfl⟩ | ⟨o, o', he, hu, himp, rfl⟩
      · obtain ⟨l, vs, rest, lo, hi, hl, h0, hcl, hh, hfz, hw, hcap⟩ := hH2.entries j _ he
        exact ⟨rfl, l, vs, rest, lo, hi, (hseen j hs).trans hl, h0, himp _ _ ((CellsRel.ren hu hseen).2 hcl), hh, hfz, hw, hcap⟩
      · obtain ⟨l, y, hl, h0, hd, hh⟩ := hH2.entries j _ he
        exact ⟨rfl, l, y, (hseen j hs).trans hl, h0, himp _ _ (by rw [SObj.den_ren, SObj.den_uses (β := fun n => βb (I.out base keep n)) (β' := β'') hseen hu]; exact hd), hh⟩
    have hatJ : ∀ (j : Nat) (e : SO), GivenQ (I.seen keep) (I.out base keep) H''[j]? e → ∃ e0 l, H''[j]? = some e0 ∧ e0.owned = true ∧ β'' j = some l := by
      intro j e hg
      rcases hg with ⟨cc, ww, el, c', he, _⟩ | ⟨o, o', he, _⟩
      · obtain ⟨l, vs2, rest, lo, hi2, hl, _⟩ := hH2.entries j _ he
        exact ⟨_, l, he, rfl, hl⟩
      · obtain ⟨l, y, hl, _⟩ := hH2.entries j _ he
        exact ⟨_, l, he, rfl, hl⟩
    have hseenT : ∀ j ∈ turn, I.seen keep j = true ∧ I.out base keep j = I.big j := by
      intro j hj
      obtain ⟨_, _, _, _, _, _, hjl⟩ := hown j hj
      have := (I.known_iff j).2 hjl
      unfold Ifc.seen Ifc.out
      rw [this]; exact ⟨rfl, rfl⟩
    have hseenK : ∀ j ∈ keep, I.seen keep j = true ∧ I.known j = false := by
      intro j hj
      have hnk : I.known j = false := by
        cases hx : I.known j with
        | false => rfl
        | true => have := (I.known_iff j).1 hx; have := hk j hj; omega
      unfold Ifc.seen
      rw [hnk]; exact ⟨memN_spec hj, rfl⟩
    have hnewsAt : ∀ (i : Nat) (e : SO), r.news[i]? = some e → ∃ j, keep[i]? = some j ∧ GivenQ (I.seen keep) (I.out base keep) H''[j]? e := by
      intro i e hi
      have hil := (List.getElem?_eq_some_iff.1 hi).1
      rw [hlenn] at hil
      obtain ⟨e', h1, h2⟩ := hout.news i _ (List.getElem?_eq_getElem hil)
      rw [hi] at h1; cases h1
      exact ⟨_, List.getElem?_eq_getElem hil, h2⟩
    refine ⟨x, βb, rfl, ?_, ⟨hβle, hH2.keep.os, hH2.keep.tape, hH2.keep.output, hH2.keep.drawn, hH2.keep.size, ?_, ?_, ?_, ?_, ?_, ?_⟩⟩
    · refine hout.val _ _ ?_
      rw [SV.den_ren, SV.den_uses hseen _ hout.uv]; exact hv
    · intro n hn
      rw [hlenn] at hn
      show (if _ then _ else _) = _
      rw [if_neg (by omega)]
    · intro b hb hno
      refine hH2.keep.block b hb ?_
      rintro ⟨j, E, l, hj, ho, hl, rfl⟩
      have hjt := ht1 j E hj ho
      obtain ⟨i, hi⟩ := List.mem_iff_getElem?.1 hjt
      obtain ⟨e, he, _⟩ := hout.sets i j hi
      exact hno (I.big j) e l (List.mem_of_getElem? he) hl rfl
    · intro m e e' h1 h2
      obtain ⟨j, hj, hm1, hg1, i1, ht1', hs1⟩ := hsets keep v H'' hout m e h1
      obtain ⟨k, hk', hm2, hg2, i2, ht2', hs2⟩ := hsets keep v H'' hout m e' h2
      obtain ⟨_, _, _, _, _, _, hjl⟩ := hown j hj
      obtain ⟨_, _, _, _, _, _, hkl⟩ := hown k hk'
      have hjk : k = j := hI.nodup k j (I.big k) (Ifc.big_get hkl) (by rw [← hm2, hm1]; exact Ifc.big_get hjl)
      subst hjk
      have : i1 = i2 := (List.getElem?_inj (List.getElem?_eq_some_iff.1 ht1').1 htn).1 (ht1'.trans ht2'.symm)
      subst this
      rw [hs1] at hs2
      exact (Prod.mk.inj (Option.some.inj hs2)).2
    · intro m e hm
      obtain ⟨j, hj, rfl, hg, _⟩ := hsets keep v H'' hout m e hm
      obtain ⟨hs, hb⟩ := hseenT j hj
      rw [← hb]
      exact (hrenOwn j e hg hs).2
    · intro i e hi
      obtain ⟨j, hj, hg⟩ := hnewsAt i e hi
      have hjm := List.mem_of_getElem? hj
      obtain ⟨hs, hnk⟩ := hseenK j hjm
      have hout' : I.out base keep j = base + i := by
        unfold Ifc.out
        rw [hnk, boolC_false]
        have h1 := idxN_spec hjm
        have : idxN j keep = i := (List.getElem?_inj (List.getElem?_eq_some_iff.1 h1).1 hkn).1 (h1.trans hj.symm)
        rw [this]
      obtain ⟨ho, hor⟩ := hrenOwn j e hg hs
      refine ⟨ho, hout' ▸ hor, ?_⟩
      obtain ⟨e0, l, he, he0, hl⟩ := hatJ j e hg
      refine ⟨l, by rw [← hout', hseen j hs]; exact hl, .inl ?_⟩
      rcases hH2.fresh j _ l he he0 hl with h1 | ⟨k, E, lk, hk1, hko, hk2, hk3⟩
      · exact h1
      · exfalso
        -- a block that was given is still its own
        have hkt := ht1 k E hk1 hko
        obtain ⟨i3, hi3⟩ := List.mem_iff_getElem?.1 hkt
        obtain ⟨e3, _, hg3⟩ := hout.sets i3 k hi3
        obtain ⟨e4, l4, he4, ho4, hl4⟩ := hatJ k e3 hg3
        obtain ⟨_, l2, _, _, hb2, hv2, hkl⟩ := hown k hkt
        rw [hb2] at hk2; cases hk2
        rw [hle _ _ hv2] at hl4; cases hl4
        refine hH2.sep k j _ _ lk l he4 he ho4 he0 ?_ (hle _ _ hv2) hl hk3
        have := hk j hjm; omega
    · intro i j l l' hij hi hj hl hl'
      rw [hlenn] at hi hj
      have hone : ∀ i, i < keep.length → ∀ l, βb (base + i) = some l → ∃ k, keep[i]? = some k ∧ β'' k = some l := by
        intro i hi l hl
        have hl : (if base ≤ base + i ∧ base + i < base + keep.length then (keep[base + i - base]?).bind β'' else β (base + i)) = some l := hl
        rw [if_pos (by omega), show base + i - base = i from by omega, List.getElem?_eq_getElem hi] at hl
        exact ⟨_, List.getElem?_eq_getElem hi, hl⟩
      obtain ⟨k1, hk1, hb1⟩ := hone i hi l hl
      obtain ⟨k2, hk2, hb2⟩ := hone j hj l' hl'
      obtain ⟨n1, _, hg1⟩ := hout.news i k1 hk1
      obtain ⟨n2, _, hg2⟩ := hout.news j k2 hk2
      obtain ⟨e1, _, he1, ho1, _⟩ := hatJ k1 n1 hg1
      obtain ⟨e2, _, he2, ho2, _⟩ := hatJ k2 n2 hg2
      refine hH2.sep k1 k2 _ _ l l' he1 he2 ho1 ho2 (fun h => ?_) hb1 hb2
      subst h
      exact hij ((List.getElem?_inj (List.getElem?_eq_some_iff.1 hk1).1 hkn).1 (hk1.trans hk2.symm))
/- In short words. -/
/-- what a small run comes to, under whatever names -/
def Ifc.EndsX (I : Ifc) (base : Nat) (r : SumRes) (v : SV) (H : List SO) : Prop := ∃ keep : List Nat, (∀ j ∈ keep, I.names.length ≤ j) ∧ keep.Nodup ∧ I.EndsQ base keep r v H
end Go.Sim


/-
  The reference's pairs: Trust's summary.
-/
namespace Go.Sim
theorem sum_runsX {c : Cfg} {O : Nat → Prop} {w0 w : World} {β : Val} {H : List SO} {base : Nat} {f : FuncId} {vs : List Value} (hH : HeapRel0 c.P O w0 β H w)
    (I : Ifc) (hgl : ∀ g j, c.glob g = some j → I.known j = true ∧ ∃ l, β (I.big j) = some l ∧ l.blk = g ∧ l.off = 0) (ha : SV.denL β (SV.renL I.big I.args) = some vs) (hI : I.FitsQ H) {r : SumRes}
    (hr : Runs c f I.args I.ents (I.EndsX base r)) : SumSem c.P H β w base f vs r := by
  refine sum_smallCX hH I hgl ha hI (ownedOf I.ents 0) (fun j E h ho => (ownedOf_spec _ _ _).2 ⟨j, E, by omega, h, ho⟩) (fun j hj => ?_) (ownedOf_nodup _ _) hr.1 fun hH' hG ha' => (hr.2 _ _ _ _ _ hH' hG ha').mono fun e w' hcame => ?_
  · obtain ⟨i, E, h, h', ho⟩ := (ownedOf_spec _ _ _).1 hj
    exact ⟨E, by rw [h, Nat.zero_add]; exact h', ho⟩
  · obtain ⟨v, H', x, β', he, ⟨keep, hk, hkn, h⟩, hle, hv, hH2⟩ := hcame
    exact ⟨v, H', x, β', he, ⟨keep, hk, hkn, h.val, h.uv, h.sets.length, h.sets.get, h.news.length, h.news.get⟩, hle, hv, hH2⟩
end Go.Sim
namespace Go.Proofs.YtmekechnnfhhkaaDoor.Aes
open Go.Sim
open Go.Proofs
variable {α : Type}

set_option maxRecDepth 1000000
/-- put in at its place -/
noncomputable def insP (l : List Pr) (p : Pr) : List Pr := l.takeWhile (fun q => decide (prLt q p)) ++ p :: l.dropWhile (fun q => decide (prLt q p))
theorem ins_at {l : List Pr} {p : Pr} {i : Nat} (hi : i ≤ l.length) (h1 : ∀ j (h : j < l.length), j < i → prLt l[j] p) (h2 : ∀ h : i < l.length, ¬ prLt l[i] p) : insP l p = l.take i ++ p :: l.drop i := by
  unfold insP
  induction l generalizing i with
  | nil =>
    have : i = 0 := by simpa using hi
    subst this; rfl
  | cons a l ih =>
    cases i with
    | zero =>
      have ha : ¬ prLt a p := h2 (by simp)
      rw [List.takeWhile_cons_of_neg (by simpa using ha), List.dropWhile_cons_of_neg (by simpa using ha)]
      rfl
    | succ i =>
      have ha : prLt a p := h1 0 (by simp) (by omega)
      have := ih (i := i) (by simpa using hi) (fun j h hj => h1 (j + 1) (by simpa using h) (by omega)) (fun h => h2 (by simpa using h))
      rw [List.takeWhile_cons_of_pos (by simpa using ha), List.dropWhile_cons_of_pos (by simpa using ha), List.cons_append, this]
      rfl
theorem ins_length (l : List Pr) (p : Pr) : (insP l p).length = l.length + 1 := by
  unfold insP
  have := congrArg List.length (List.takeWhile_append_dropWhile (p := fun q => decide (prLt q p)) (l := l))
  rw [List.length_append] at this ⊢
  rw [List.length_cons]; omega
section
variable {V : Nat → Value} {n i : Nat} {x y : ByteArray}
/-- what lies where -/
theorem exW_at {e : Bool} (he : decide (0 + i ≤ 0) = e) : (∀ j, j < i → exW V x y i e (j * 2) = V (j * 2) ∧ exW V x y i e (j * 2 + 1) = V (j * 2 + 1)) ∧ (exW V x y i e (i * 2) = .string x ∧ exW V x y i e (i * 2 + 1) = .string y) ∧
    ∀ j, i < j → exW V x y i e (j * 2) = V ((j - 1) * 2) ∧ exW V x y i e (j * 2 + 1) = V ((j - 1) * 2 + 1) := by
  cases e with
  | true =>
    have h0 : i = 0 := by have := of_decide_eq_true he; omega
    subst h0
    refine ⟨fun j hj => by omega, ⟨rfl, rfl⟩, fun j hj => ?_⟩
    have e1 : exW V x y 0 true (j * 2) = catV (fun j => atV [Value.string x, .string y] (0 + j)) (1 * 2) (fun j => V (0 + 0 * 2 + j)) (j * 2) := rfl
    have e2 : exW V x y 0 true (j * 2 + 1) = catV (fun j => atV [Value.string x, .string y] (0 + j)) (1 * 2) (fun j => V (0 + 0 * 2 + j)) (j * 2 + 1) := rfl
    rw [e1, e2]
    unfold catV
    rw [if_neg (by omega), if_neg (by omega)]
    exact ⟨congrArg V (by omega), congrArg V (by omega)⟩
  | false =>
    have e1 : ∀ m, exW V x y i false m = if m < (0 + i + 1) * 2 then (if 0 + m < (0 + i) * 2 then (if 0 + (0 + m) < 0 * 2 then atV [] (0 + (0 + (0 + m))) else V (0 + (0 + (0 + m) - 0 * 2))) else atV [Value.string x, .string y] (0 + (0 + m - (0 + i) * 2))) else V (0 + i * 2 + (m - (0 + i + 1) * 2)) := fun m => rfl
    refine ⟨fun j hj => ⟨?_, ?_⟩, ⟨?_, ?_⟩, fun j hj => ⟨?_, ?_⟩⟩
    · rw [e1, if_pos (by omega), if_pos (by omega), if_neg (by omega)]; exact congrArg V (by omega)
    · rw [e1, if_pos (by omega), if_pos (by omega), if_neg (by omega)]; exact congrArg V (by omega)
    · rw [e1, if_pos (by omega), if_neg (by omega), show 0 + (0 + i * 2 - (0 + i) * 2) = 0 by omega]; rfl
    · rw [e1, if_pos (by omega), if_neg (by omega), show 0 + (0 + (i * 2 + 1) - (0 + i) * 2) = 1 by omega]; rfl
    · rw [e1, if_neg (by omega)]; exact congrArg V (by omega)
    · rw [e1, if_neg (by omega)]; exact congrArg V (by omega)
theorem exW_list {e : Bool} (he : decide (0 + i ≤ 0) = e) (hi : i ≤ n) (hV : PrV V n) : PrV (exW V x y i e) (n + 1) ∧ prL (exW V x y i e) (n + 1) = (prL V n).take i ++ (x, y) :: (prL V n).drop i := by
  obtain ⟨h1, h2, h3⟩ := exW_at (V := V) (x := x) (y := y) he
  have a1 : ∀ j, j < i → prAt (exW V x y i e) j = prAt V j := fun j hj => by unfold prAt; rw [(h1 j hj).1, (h1 j hj).2]
  have a2 : prAt (exW V x y i e) i = (x, y) := by unfold prAt; rw [h2.1, h2.2]; rfl
  have a3 : ∀ j, i < j → prAt (exW V x y i e) j = prAt V (j - 1) := fun j hj => by unfold prAt; rw [(h3 j hj).1, (h3 j hj).2]
  refine ⟨fun j hj => ?_, ?_⟩
  · rcases Nat.lt_trichotomy j i with c | c | c
    · rw [a1 j c, (h1 j c).1, (h1 j c).2]; exact hV j (by omega)
    · subst c; rw [a2]; exact h2
    · rw [a3 j c, (h3 j c).1, (h3 j c).2]; exact hV (j - 1) (by omega)
  · have hl : (prL V n).length = n := prL_length V n
    refine List.ext_getElem (by rw [prL_length, List.length_append, List.length_cons, List.length_take, List.length_drop, hl]; omega) fun j hj hj' => ?_
    have hj : j < n + 1 := by rwa [prL_length] at hj
    have g : ∀ (W : Nat → Value) (m k : Nat) (h : k < (prL W m).length), (prL W m)[k] = prAt W k := fun W m k h => by simp [prL]
    rw [g]
    rcases Nat.lt_trichotomy j i with c | c | c
    · rw [a1 j c, List.getElem_append_left (by rw [List.length_take, hl]; omega), List.getElem_take, g]
    · subst c
      rw [a2, List.getElem_append_right (by rw [List.length_take, hl]; omega)]
      simp [List.length_take, hl, Nat.min_eq_left hi]
    · rw [a3 j c, List.getElem_append_right (by rw [List.length_take, hl]; omega)]
      have hk : j - (List.take i (prL V n)).length = (j - i - 1) + 1 := by rw [List.length_take, hl, Nat.min_eq_left hi]; omega
      simp only [hk, List.getElem_cons_succ, List.getElem_drop]
      rw [g]
      congr 1; omega
end
theorem tw_ok (x y : ByteArray) : (twS x y).ok := ⟨Nat.le_refl _, by show (2 : Nat) ≤ _; omega⟩
theorem tw_rls {x y : ByteArray} : rlsP (twS x y) ↔ rlmP x ∧ rlmP y := by
  constructor
  · intro h
    exact ⟨h 0 (by show (0 : Nat) < 2; omega), h 1 (by show (1 : Nat) < 2; omega)⟩
  · rintro ⟨h1, h2⟩ i hi
    have hi : i < 2 := hi
    rcases (show i = 0 ∨ i = 1 by omega) with rfl | rfl
    · exact h1
    · exact h2
theorem cBi {p : Prop} : cB p = true ↔ p := by
  constructor
  · intro h
    by_cases hp : p
    · exact hp
    · rw [cB_false hp] at h; cases h
  · exact cB_true
theorem cB_no {p : Prop} (h : ¬ p) : (!cB p) = true := by rw [cB_false h]; rfl
theorem cB_ok {p : Prop} (h : p) : (!cB p) = false := by rw [cB_true h]; rfl
theorem one_of {V : Nat → Value} {n i m : Nat} (hV : PrV V n) (h : i * 2 + m ≤ n * 2) : oneR m fun j => V (0 + i * 2 + j) := by
  intro j hj
  have hi : (i * 2 + j) / 2 < n := by omega
  obtain ⟨h1, h2⟩ := hV _ hi
  show (V (0 + i * 2 + j)).oneCell' = true
  rcases (show 0 + i * 2 + j = (i * 2 + j) / 2 * 2 ∨ 0 + i * 2 + j = (i * 2 + j) / 2 * 2 + 1 by omega) with c | c
  · rw [c, h1]; rfl
  · rw [c, h2]; rfl
/-- what Trust comes to, the pair being a new one -/
def tuD (t : Pw) (x y : ByteArray) (v : SV) (H : List SO) : Prop := ∃ m W, 1 ≤ m ∧ v = .tuple [.slice ⟨m, .lit 0⟩ (.sym (t.n + 1)) (.rest m 0), .int .i64 (.lit 0)] ∧ H[m]? = some (.own (.raw W ((t.n + 1) * 2)) false 41) ∧ PrV W (t.n + 1) ∧ prL W (t.n + 1) = insP t.list (x, y)
theorem half2 (N : Nat) : N * 2 / 2 = N := by omega
theorem tu_runs {t : Pw} (b : Bool) (k : Nat) {x y : ByteArray} (ht : t.ok) (hx : rlmP x) (hy : rlmP y) (hne : x ≠ y) (hno : ¬ t.has (x, y)) (hn : t.n < 1000) : Runs cfgP1 17 [slQ 0 t.n b k, .str (.sym x), .str (.sym y)] [t.row] (tuD t x y) := by
  obtain ⟨V, N, n⟩ := t
  obtain ⟨h1, h2, h3⟩ : n ≤ N ∧ n ≤ 1000000 ∧ PrV V n := ht
  have hn : n < 1000 := hn
  have hxs := hx.2.1
  have hys := hy.2.1
  have etp : tpR V N n = ⟨V, N, n⟩ := by unfold tpR; rw [half2]
  have hsz : (twS x y).ok ∧ ∀ j, j < 2 → ((twS x y).at j).size ≤ 9223372036854775807 := ⟨tw_ok x y, fun j hj => by
    rcases (show j = 0 ∨ j = 1 by omega) with rfl | rfl
    · show x.size ≤ _; omega
    · show y.size ≤ _; omega⟩
  have hG : ∀ p ∈ tuG V N n x y, p := app_all (all_cons hsz (all_cons (cB_ok (tw_rls.2 ⟨hx, hy⟩)) all_nil)) (all_cons (decide_eq_false hne) (all_cons (by omega) (all_cons (by rw [etp]; exact ⟨h1, h2, h3⟩) all_nil)))
  have htp : (⟨V, N, n⟩ : Pw).ok := ⟨h1, h2, h3⟩
  show Runs cfgP1 _ [slQ 0 n b k, .str (.sym x), .str (.sym y)] [rwV V N] _
  have heq : ∀ i, (vStr (V (0 + i * 2 + 0)), vStr (V (0 + i * 2 + 1))) = prAt V i := fun i => by unfold prAt; rw [Nat.zero_add, Nat.add_zero]
  have hget : ∀ (j : Nat) (h : j < (prL V n).length), (prL V n)[j] = prAt V j := fun j h => by simp [prL]
  refine runs_by cfgP1OK (tuC V N n b k x y) (fun i => i ≤ n ∧ ∀ j, j < i → prLt (prAt V j) (x, y)) (fun i => n - i) (fun g nm hg => by cases hg) ?_ fun i ⟨hi, hlt⟩ J => ?_
  · refine to_startM (some (1, 3)) 20000 0 ⟨Nat.zero_le _, fun j hj => by omega⟩ (fun z => tu_init V N n b k x y z) (tu_names V N n b k x y 0 0) (fun q hq p u hp hu => ?_) (fun e he => by cases he) (app_all hG (all_cons (cB_false (by rw [etp]; exact hno)) (all_cons (decide_eq_false (by omega)) all_nil)))
    obtain rfl : q = (0, 8, .int .i64 (.lit 0)) := by simpa using hq
    exact tmp_set (tu_tmp V N n b k x y 0) hp hu (int_impS rfl)
  · by_cases hc : i < n ∧ prLt (prAt V i) (x, y)
    · refine to_turn (some (1, 3)) 20000 (i + 1) ⟨⟨by omega, fun j hj => ?_⟩, by omega⟩ (fun z => tu_turn V N n b k x y i J z) (tu_names V N n b k x y i (i + 1)) (rdP_all htp hc.1 (all_cons (by unfold ltI; rw [heq]; exact cB_true hc.2) (all_cons ⟨by omega, by omega⟩ all_nil)))
      by_cases c : j < i
      · exact hlt j c
      · obtain rfl : j = i := by omega
        exact hc.2
    · -- out
      have hf : ∃ f, ∀ p ∈ exP V N n x y i f, p := by
        by_cases c : i < n
        · exact ⟨true, rdP_all htp c (all_cons (by unfold geI; rw [heq]; exact cB_false fun h => hc ⟨c, h⟩) all_nil)⟩
        · exact ⟨false, rep_all (decide_eq_false (by omega)) 9⟩
      obtain ⟨f, hf⟩ := hf
      obtain ⟨hW1, hW2⟩ := exW_list (V := V) (n := n) (i := i) (x := x) (y := y) (e := decide (0 + i ≤ 0)) rfl hi h3
      have hEx : ∀ p ∈ exC V N n x y i (decide (0 + i ≤ 0)), p := by
        unfold exC
        refine app_all (all_cons ⟨by omega, by omega⟩ (all_cons (by omega) (all_cons rfl all_nil))) ?_
        have hone := one_of (V := V) (n := n) (i := i) (m := (n - i) * 2) h3 (by omega)
        cases decide (0 + i ≤ 0) with
        | true => exact all_cons ⟨by omega, by omega⟩ (all_cons (by omega) (all_cons (Nat.le_refl 2) (all_cons ⟨⟨by omega, by omega⟩, hone⟩ all_nil)))
        | false => exact all_cons (Nat.le_refl 0) (all_cons ⟨by omega, by omega⟩ (all_cons (Nat.le_refl 2) (all_cons (by omega) (all_cons ⟨⟨by omega, by omega⟩, fun j hj => by
            rcases (show j = 0 ∨ j = 1 by omega) with rfl | rfl <;> rfl⟩ (all_cons ⟨by omega, by omega⟩ (all_cons (by omega) (all_cons (by omega) (all_cons ⟨⟨by omega, by omega⟩, hone⟩ all_nil))))))))
      have hnn : exN n i (decide (0 + i ≤ 0)) = n + 1 := by
        cases h : decide (0 + i ≤ 0) with
        | true => have := of_decide_eq_true h; show 1 + (n - i) = _; omega
        | false => show 0 + i + 1 + (n - i) = _; omega
      have hm : 1 ≤ exM (decide (0 + i ≤ 0)) := by cases decide (0 + i ≤ 0) <;> (show (1 : Nat) ≤ _; decide)
      refine to_turnZ (js := [exM (decide (0 + i ≤ 0))]) (K := fun r => r = exR V n x y i (decide (0 + i ≤ 0))) none 20000 (M := tuC V N n b k x y i) (names := [0]) (fun z => ?_) (fun v es hk H hH => ?_)
      · have hz : ∃ o, o < 3 ∧ ∀ p ∈ odC z o, p := by
          by_cases c : z 0 0 = 0
          · by_cases c' : z 1 0 = 0
            · exact ⟨0, by omega, all_cons (decide_eq_true c) (all_cons (decide_eq_true c') all_nil)⟩
            · exact ⟨1, by omega, all_cons (decide_eq_true c) (all_cons (decide_eq_false c') all_nil)⟩
          · exact ⟨2, by omega, all_cons (decide_eq_false c) all_nil⟩
        obtain ⟨o, ho, hz⟩ := hz
        have hrun := tu_end V N n b k x y i J z f (decide (0 + i ≤ 0))
        rw [mapN_eq, mapN_eq] at hrun
        have hrun := List.map_inj_left.1 hrun o (by rw [fromN_eq]; exact List.mem_range'_1.2 ⟨by omega, by omega⟩)
        exact ⟨_, _, _, hrun, app_all hf (app_all hz hEx), rfl⟩
      · obtain ⟨rfl, rfl⟩ := Prod.mk.inj (show (v, es) = exR V n x y i (decide (0 + i ≤ 0)) from hk)
        have hH := (List.cons.inj (show [H[exM (decide (0 + i ≤ 0))]?] = [some (.own (.raw (exW V x y i (decide (0 + i ≤ 0))) (exN n i (decide (0 + i ≤ 0)) * 2)) false 41)] from hH)).1
        rw [hnn] at hH ⊢
        refine ⟨_, _, hm, rfl, hH, hW1, ?_⟩
        rw [hW2]
        exact (ins_at (by show i ≤ (prL V n).length; rw [prL_length]; exact hi) (fun j h hj => by rw [hget]; exact hlt j hj) (fun h hc' => hc ⟨by have : i < (prL V n).length := h; rwa [prL_length] at this, by
          have : prLt ((prL V n)[i]) (x, y) := hc'
          rwa [hget] at this⟩)).symm
/- The summary. -/
noncomputable def capQ (nm : Nat) (c : SC) : Option (Bool × Nat) := SC.rec (motive := fun _ => Option (Bool × Nat)) (fun m => some (false, m)) (fun m => some (false, m)) (fun q k => boolC (Nat.beq q nm) (some (true, k)) none) c
theorem capQ_den {nm : Nat} {c : SC} {bk : Bool × Nat} (h : capQ nm c = some bk) (γ : Val) : c.den γ = (boolC bk.1 (.rest nm bk.2) (.sym bk.2) : SC).den γ := by
  cases c with
  | lit m => cases h; rfl
  | sym m => cases h; rfl
  | rest q k =>
    have h : boolC (Nat.beq q nm) (some (true, k)) none = some bk := h
    cases hq : Nat.beq q nm with
    | false => rw [hq] at h; cases h
    | true =>
      rw [hq] at h
      cases h
      rw [Nat.eq_of_beq_eq_true hq]; rfl
noncomputable def partQ (H : List SO) (v : SV) (f : Pw → Nat → Bool → Nat → R α) : R α := v.asSlice (.stuck 7870) fun a l c => boolC (is0 a.off) (optC (capQ a.nm c) (.stuck 7871) fun bk => pwE (nth H a.nm) fun V N => f ⟨V, N, l.den⟩ a.nm bk.1 bk.2) (.stuck 7872)
theorem partQ_sat {H : List SO} {v : SV} {f : Pw → Nat → Bool → Nat → R α} {φ : α → Prop} (h : ∀ t nm b k, (∀ g, ∃ e', H[nm]? = some e' ∧ Taken g t.row e') → v.Imp (slQ nm t.n b k) → (f t nm b k).Sat φ) : (partQ H v f).Sat φ := by
  unfold partQ
  rcases asSlice_cases v with ⟨a, l, c, rfl⟩ | hv
  · refine boolC_only fun h0 => optC_only fun bk hbk => pwE_sat fun V N ht => h ⟨V, N, l.den⟩ a.nm bk.1 bk.2 (fun g => by rw [← nth_eq]; exact ht g) fun γ x hx => ?_
    obtain ⟨nm, off⟩ := a
    obtain rfl := is0_spec h0
    obtain ⟨A, C, hA, hC, hle, rfl⟩ := den_slice.1 hx
    exact den_slice.2 ⟨A, C, hA, by rw [← capQ_den hbk]; exact hC, hle, rfl⟩
  · rw [hv]; trivial
theorem slQ_ren (f : Nat → Nat) (nm n : Nat) (b : Bool) (k : Nat) : (slQ nm n b k).ren f = slQ (f nm) n b k := by cases b <;> rfl
theorem slQ_uses (p : Nat → Bool) (nm n : Nat) (b : Bool) (k : Nat) (h : p nm = true) : (slQ nm n b k).uses p = true := by
  cases b with
  | false => show (p nm && true) = true; rw [h]; rfl
  | true => show (p nm && p nm) = true; rw [h]; rfl
noncomputable def okPr (x y : ByteArray) : Bool := cB (rlmP x ∧ rlmP y ∧ x ≠ y)
noncomputable def tupQ (v : SV) (m : Int) : SV := .tuple [v, .int .i64 (.lit m)]
noncomputable def lsE (l : List Pr) (m : Nat) : SO := .own (.raw (flatV encPr 2 l) (m * 2)) false 41
noncomputable def tuR (base nm : Nat) (t : Pw) (b : Bool) (k : Nat) (x y : ByteArray) : R SumRes :=
  .need (t.ok ∧ x.size ≤ 9223372036854775807 ∧ y.size ≤ 9223372036854775807) (.fork (okPr x y) (.fork (cB (t.has (x, y))) (.ok ⟨tupQ (slQ nm t.n b k) 11, [], []⟩) (.fork (decide ((t.n : Int) ≥ 1000)) (.ok ⟨tupQ (slQ nm t.n b k) 7, [], []⟩)
    (.ok ⟨tupQ (.slice ⟨base, .lit 0⟩ (.sym (t.n + 1)) (.rest base 0)) 0, [], [lsE (insP t.list (x, y)) (t.n + 1)]⟩))) (.ok ⟨tupQ (slQ nm t.n b k) 2, [], []⟩))
noncomputable def tuSm : Summ := fun args H base => args3 args fun v xv yv => optC (strV xv) (.stuck 7873) fun x => optC (strV yv) (.stuck 7873) fun y => partQ H v fun t nm b k => tuR base nm t b k x.den y.den
theorem list_length (t : Pw) : t.list.length = t.n := prL_length _ _
theorem raw_list {W : Nat → Value} {l : List Pr} {m : Nat} (_ : l.length = m) (h1 : PrV W m) (h2 : prL W m = l) : (Cells.raw W (m * 2)).Imp (.raw (flatV encPr 2 l) (m * 2)) := fun γ vs hv => by
  obtain ⟨h3, h4⟩ : vs.length = m * 2 ∧ ∀ (i : Nat) (x : Value), vs[i]? = some x → x = W i := hv
  refine ⟨h3, fun i x hx => ?_⟩
  have hi := (List.getElem?_eq_some_iff.1 hx).1
  rw [h4 i x hx, ← h2]
  exact flat_prL h1 i (by rw [prL_length]; omega)
theorem tuOK : SumOK Tryd.prog 17 tuSm := by
  intro glob O w0 β H w base args vs hH hG ha
  refine args3_sat fun v xv yv hv => optC_only fun x hx => optC_only fun y hy => ?_
  rw [hv, strV_spec hx, strV_spec hy] at ha
  have ha := impL_cons (.refl v) (impL_cons (str_imp (t := .sym x.den) rfl) (impL_cons (str_imp (t := .sym y.den) rfl) impL_nil)) _ _ ha
  generalize x.den = x at ha ⊢
  generalize y.den = y at ha ⊢
  refine partQ_sat fun t nm b k ht hi => ?_
  have ha := impL_cons hi (SV.ImpL.refl _) _ _ ha
  let I : Ifc := ⟨[nm], [t.row], [slQ 0 t.n b k, .str (.sym x), .str (.sym y)]⟩
  have ha : SV.denL β (SV.renL I.big I.args) = some vs := by
    show SV.denL β [(slQ 0 t.n b k).ren _, _, _] = _
    rw [slQ_ren]; exact ha
  have hF : I.FitsQ H := Ifc.fitsQ (by simp [I]) (by
    show ((slQ 0 t.n b k).uses _ && _) = true
    rw [slQ_uses _ _ _ _ _ rfl]; rfl) ⟨⟨(let ⟨e, h1, h2⟩ := ht _; ⟨e, h1, h2.q⟩), (t.row_uses _).q⟩, trivial⟩
  have hgl : ∀ g j, (cfgP1.at none).glob g = some j → I.known j = true ∧ ∃ l, β (I.big j) = some l ∧ l.blk = g ∧ l.off = 0 := by intro g j hg; cases hg
  have go : ∀ {ds ps m}, outO [] (tuT t.V t.N t.n b k x y none) ds = (ps, retQ t.n b k m) → (∀ p ∈ ps, p) → SumSem Tryd.prog H β w base 17 vs ⟨tupQ (slQ nm t.n b k) m, [], []⟩ := fun {ds ps m} hr hp =>
    sum_runQ (cfgP1OK.at none) 20000 hH I hgl ha hF [] (by simp) (by simp) (outO_ob hr hp fun H2 _ => ⟨by
      show SV.Imp (tupQ ((slQ 0 t.n b k).ren (I.out base [])) m) _
      rw [slQ_ren]; exact .refl _, by
      show ((slQ 0 t.n b k).uses _ && _) = true
      rw [slQ_uses _ _ _ _ _ rfl]; rfl, trivial, trivial⟩)
  rintro ⟨hok, hxz, hyz⟩
  have hsz : (twS x y).ok ∧ ∀ j, j < 2 → ((twS x y).at j).size ≤ 9223372036854775807 := ⟨tw_ok x y, fun j hj => by
    rcases (show j = 0 ∨ j = 1 by omega) with rfl | rfl
    · exact hxz
    · exact hyz⟩
  have etp : tpR t.V t.N t.n = t := by unfold tpR; rw [half2]
  refine ⟨fun h1 => ?_, fun h1 => ?_⟩
  · obtain ⟨hx, hy, hne⟩ := cBi.1 h1
    have hG : ∀ p ∈ tuG t.V t.N t.n x y, p := app_all (all_cons hsz (all_cons (cB_ok (tw_rls.2 ⟨hx, hy⟩)) all_nil)) (all_cons (decide_eq_false hne) (all_cons (by omega) (all_cons (by rw [etp]; exact hok) all_nil)))
    refine ⟨fun h2 => ?_, fun h2 => ⟨fun h3 => ?_, fun h3 => ?_⟩⟩
    · exact go (tu_busy t.V t.N t.n b k x y) (app_all hG (all_cons (by rw [etp]; exact h2) all_nil))
    · exact go (tu_full t.V t.N t.n b k x y) (app_all hG (all_cons (by rw [etp]; exact h2) (all_cons h3 all_nil)))
    · have h2 : ¬ t.has (x, y) := fun h => by rw [cB_true h] at h2; cases h2
      have h3 : t.n < 1000 := by have := of_decide_eq_false h3; omega
      refine sum_runsX (c := cfgP1) hH I (by intro g j hg; cases hg) ha hF (runs_mono (tu_runs b k hok hx hy hne h2 h3) fun v H2 h => ?_)
      obtain ⟨m, W, hm, rfl, hW, hW1, hW2⟩ := h
      have hl : (insP t.list (x, y)).length = t.n + 1 := by rw [ins_length, list_length]
      refine ⟨[m], by simpa [I] using hm, by simp, ?_, ?_, trivial, ⟨.inl ⟨_, _, _, _, hW, trivial, raw_list hl hW1 hW2, rfl⟩, trivial⟩⟩
      · show SV.Imp (tupQ (.slice ⟨I.out base [m] m, .lit 0⟩ (.sym (t.n + 1)) (.rest (I.out base [m] m) 0)) 0) _
        rw [out1 (by simpa [I] using hm)]
        exact .refl _
      · show ((I.seen [m] m && I.seen [m] m) && _) = true
        rw [seen1]; rfl
  · have h1 : ¬ (rlmP x ∧ rlmP y ∧ x ≠ y) := fun h => by
      have h1 : okPr x y = false := h1
      unfold okPr at h1
      rw [cB_true h] at h1; cases h1
    by_cases hxy : rlmP x ∧ rlmP y
    · have he : x = y := Classical.not_not.1 fun h => h1 ⟨hxy.1, hxy.2, h⟩
      exact go (tu_same t.V t.N t.n b k x y) (app_all (all_cons hsz (all_cons (cB_ok (tw_rls.2 hxy)) all_nil)) (all_cons (decide_eq_true he) all_nil))
    · exact go (tu_arg t.V t.N t.n b k x y) (all_cons hsz (rep_all (cB_no fun h => hxy (tw_rls.1 h)) 4))
end Go.Proofs.YtmekechnnfhhkaaDoor.Aes


/-
  The reference's pairs: Untrust.
-/
namespace Go.Proofs.YtmekechnnfhhkaaDoor.Aes
open Go.Sim
open Go.Proofs
variable {α : Type}

set_option maxRecDepth 1000000
section
variable (V : Nat → Value) (N n : Nat) (b : Bool) (k : Nat) (x y : ByteArray) (i : Nat) (J : Junk) (z : Nat → Nat → Nat)
noncomputable def unT (st : Option (Nat × Nat)) : Tree := callSim (cfgP1.at st) 20000 18 [slQ 0 n b k, .str (.sym x), .str (.sym y)] [rwV V N]
theorem un_arg : outO [] (unT V N n b k x y none) (repN true 4) = (((twS x y).ok ∧ ∀ j, j < 2 → ((twS x y).at j).size ≤ 9223372036854775807) :: repN ((!cB (rlsP (twS x y))) = true) 4, retQ n b k 2) := by cases b <;> kernel_rfl
theorem un_same : outO [] (unT V N n b k x y none) [false, true] = (app (twG x y false) [decide (x = y) = true], retQ n b k 2) := by cases b <;> kernel_rfl
noncomputable def unC : Cut := ⟨bareFs (stopOf (unT V N n b k x y (some (1, 3))) (repN false 8)).frames [[(0, slQ 0 n b k), (1, .str (.sym x)), (2, .str (.sym y)), (8, .int .i64 (.sym i))]], [.ent (rwV V N)]⟩
noncomputable def unS (st : Option (Nat × Nat)) : Tree := sim1 (cfgP1.at st) 20000 ((unC V N n b k x y i).fill J)
theorem un_init : outL [] (unC V N n b k x y 0) [0] (unT V N n b k x y (some (1, 3))) [false, false] z = (app (twG x y false) [decide (x = y) = false], some (.inr (modSeen [(0, 8, .int .i64 (.lit 0))] [] (seenC [0] 2 (unC V N n b k x y 0))))) := by cases b <;> kernel_rfl
theorem un_turn : outL [] (unC V N n b k x y i) [0] (unS V N n b k x y i J (some (1, 3))) [true, false] z = (rdP V N n i [eqP V (0 + i * 2) (x, y) = false, inI64 ((i : Int) + 1)], some (.inr (seenC [0] 1 (unC V N n b k x y (i + 1))))) := by cases b <;> kernel_rfl
theorem un_none : outL [] (unC V N n b k x y i) [0] (unS V N n b k x y i J none) [false] z = ([decide ((i : Int) < (n : Int)) = false], some (.inl (.tuple [slQ 0 n b k, .int .i64 (.lit 9)], []))) := by cases b <;> kernel_rfl
noncomputable def dlW (e : Bool) : Nat → Value := boolC e (catV (fun j => atV [] (0 + j)) (0 * 2) fun j => V (0 + (i + 1) * 2 + j))
  (catV (fun j => catV (fun j => atV [] (0 + j)) (0 * 2) (fun j => V (0 + j)) (0 + j)) ((0 + i) * 2) fun j => V (0 + (i + 1) * 2 + j))
noncomputable def dlN (e : Bool) : Nat := boolC e (0 + (n - (i + 1))) (0 + i + (n - (i + 1)))
noncomputable def dlM (e : Bool) : Nat := boolC e 2 3
noncomputable def dlB : List Prop := [inI64 ((i : Int) + 1), (0 : Int) ≤ (i : Int) + 1 ∧ (i : Int) + 1 ≤ (n : Int), 0 + (i + 1) * 2 + (n - (i + 1)) * 2 ≤ N * 2]
noncomputable def dlA (e : Bool) : List Prop := [eqP V (0 + i * 2) (x, y) = true, (0 : Int) ≤ (i : Int) ∧ (i : Int) ≤ (n : Int), 0 + i * 2 ≤ N * 2, decide (0 + i ≤ 0) = e]
noncomputable def dlC (e : Bool) : List Prop := app (rdP V N n i (dlA V N n x y i e))
  (boolC e (app (dlB N n i) [decide (0 + (n - (i + 1)) ≤ 0) = false, 0 ≤ 0, (0 + (n - (i + 1))) * 32 < 140737488355328 ∧ 0 + (n - (i + 1)) < 140737488355328])
    (app [0 ≤ 0, (0 + i) * 32 < 140737488355328 ∧ 0 + i < 140737488355328] (app (dlB N n i) [0 + (0 + i) * 2 ≤ (0 + i) * 2, ((0 + i + (n - (i + 1))) * 32 < 140737488355328 ∧ 0 + i + (n - (i + 1)) < 140737488355328) ∧ oneR ((n - (i + 1)) * 2) fun j => V (0 + (i + 1) * 2 + j)])))
theorem un_last : outL [1] (unC V N n b k x y i) [0] (unS V N n b k x y i J none) [true, true, true, true] z = (app (rdP V N n i (dlA V N n x y i true)) (app (dlB N n i) [decide (0 + (n - (i + 1)) ≤ 0) = true]), some (.inl (.tuple [.slice ⟨1, .lit 0⟩ (.lit 0) (.lit 0), .int .i64 (.lit 0)], [some (.own (.lst []) true 41)]))) := by cases b <;> kernel_rfl
theorem un_cut (e : Bool) : outL [dlM e] (unC V N n b k x y i) [0] (unS V N n b k x y i J none) (true :: true :: e :: boolC e [false] []) z = (dlC V N n x y i e, some (.inl (.tuple [.slice ⟨dlM e, .lit 0⟩ (.sym (dlN n i e)) (.rest (dlM e) 0), .int .i64 (.lit 0)], [some (.own (.raw (dlW V i e) (dlN n i e * 2)) false 41)]))) := by cases b <;> cases e <;> kernel_rfl
theorem un_names (j : Nat) : boolC (namesOK 1 [0] (unC V N n b k x y i) (unC V N n b k x y j)) (allN noLoopE (unC V N n b k x y j).heap) false = true := by cases b <;> kernel_rfl
theorem un_tmp : (((unC V N n b k x y i).frames[0]?).bind fun p => p.tmps[8]?) = some (some (.int .i64 (.sym i))) := by cases b <;> kernel_rfl
end
/-- taken out -/
noncomputable def delP (l : List Pr) (p : Pr) : List Pr := l.eraseP fun q => decide (q = p)
theorem del_at {l : List Pr} {p : Pr} {i : Nat} (hi : i < l.length) (h1 : ∀ j (h : j < l.length), j < i → l[j] ≠ p) (h2 : l[i] = p) : delP l p = l.take i ++ l.drop (i + 1) := by
  unfold delP
  induction l generalizing i with
  | nil => simp at hi
  | cons a l ih =>
    cases i with
    | zero =>
      have ha : a = p := h2
      rw [List.eraseP_cons_of_pos (by simpa using ha)]
      rfl
    | succ i =>
      have ha : a ≠ p := h1 0 (by simp) (by omega)
      rw [List.eraseP_cons_of_neg (by simpa using ha), ih (i := i) (by simpa using hi) (fun j h hj => h1 (j + 1) (by simpa using h) (by omega)) (by simpa using h2)]
      rfl
section
variable {V : Nat → Value} {n i : Nat}
theorem dlW_at {e : Bool} (he : decide (0 + i ≤ 0) = e) : (∀ j, j < i → dlW V i e (j * 2) = V (j * 2) ∧ dlW V i e (j * 2 + 1) = V (j * 2 + 1)) ∧ ∀ j, i ≤ j → dlW V i e (j * 2) = V ((j + 1) * 2) ∧ dlW V i e (j * 2 + 1) = V ((j + 1) * 2 + 1) := by
  cases e with
  | true =>
    have h0 : i = 0 := by have := of_decide_eq_true he; omega
    subst h0
    have e1 : ∀ m, dlW V 0 true m = if m < 0 * 2 then atV [] (0 + m) else V (0 + (0 + 1) * 2 + (m - 0 * 2)) := fun m => rfl
    refine ⟨fun j hj => by omega, fun j hj => ⟨?_, ?_⟩⟩
    · rw [e1, if_neg (by omega)]; exact congrArg V (by omega)
    · rw [e1, if_neg (by omega)]; exact congrArg V (by omega)
  | false =>
    have e1 : ∀ m, dlW V i false m = if m < (0 + i) * 2 then (if 0 + m < 0 * 2 then atV [] (0 + (0 + m)) else V (0 + (0 + m - 0 * 2))) else V (0 + (i + 1) * 2 + (m - (0 + i) * 2)) := fun m => rfl
    refine ⟨fun j hj => ⟨?_, ?_⟩, fun j hj => ⟨?_, ?_⟩⟩
    · rw [e1, if_pos (by omega), if_neg (by omega)]; exact congrArg V (by omega)
    · rw [e1, if_pos (by omega), if_neg (by omega)]; exact congrArg V (by omega)
    · rw [e1, if_neg (by omega)]; exact congrArg V (by omega)
    · rw [e1, if_neg (by omega)]; exact congrArg V (by omega)
theorem dlW_list {e : Bool} (he : decide (0 + i ≤ 0) = e) (hi : i < n) (hV : PrV V n) : PrV (dlW V i e) (n - 1) ∧ prL (dlW V i e) (n - 1) = (prL V n).take i ++ (prL V n).drop (i + 1) := by
  obtain ⟨h1, h3⟩ := dlW_at (V := V) he
  have a1 : ∀ j, j < i → prAt (dlW V i e) j = prAt V j := fun j hj => by unfold prAt; rw [(h1 j hj).1, (h1 j hj).2]
  have a3 : ∀ j, i ≤ j → prAt (dlW V i e) j = prAt V (j + 1) := fun j hj => by unfold prAt; rw [(h3 j hj).1, (h3 j hj).2]
  refine ⟨fun j hj => ?_, ?_⟩
  · by_cases c : j < i
    · rw [a1 j c, (h1 j c).1, (h1 j c).2]; exact hV j (by omega)
    · rw [a3 j (by omega), (h3 j (by omega)).1, (h3 j (by omega)).2]; exact hV (j + 1) (by omega)
  · have hl : (prL V n).length = n := prL_length V n
    refine List.ext_getElem (by rw [prL_length, List.length_append, List.length_take, List.length_drop, hl]; omega) fun j hj hj' => ?_
    have hj : j < n - 1 := by rwa [prL_length] at hj
    have g : ∀ (W : Nat → Value) (m k : Nat) (h : k < (prL W m).length), (prL W m)[k] = prAt W k := fun W m k h => by simp [prL]
    rw [g]
    by_cases c : j < i
    · rw [a1 j c, List.getElem_append_left (by rw [List.length_take, hl]; omega), List.getElem_take, g]
    · rw [a3 j (by omega), List.getElem_append_right (by rw [List.length_take, hl]; omega)]
      simp only [List.getElem_drop]
      rw [g]
      congr 1
      rw [List.length_take, hl, Nat.min_eq_left (by omega)]; omega
end
/-- what Untrust comes to, the pair being there -/
def unD (t : Pw) (x y : ByteArray) (v : SV) (H : List SO) : Prop :=
  (t.n = 1 ∧ v = .tuple [.slice ⟨1, .lit 0⟩ (.lit 0) (.lit 0), .int .i64 (.lit 0)] ∧ H[1]? = some (.own (.lst []) true 41)) ∨
  (t.n ≠ 1 ∧ ∃ m W, 1 ≤ m ∧ v = .tuple [.slice ⟨m, .lit 0⟩ (.sym (t.n - 1)) (.rest m 0), .int .i64 (.lit 0)] ∧ H[m]? = some (.own (.raw W ((t.n - 1) * 2)) false 41) ∧ PrV W (t.n - 1) ∧ prL W (t.n - 1) = delP t.list (x, y))
/-- .. or not there -/
def unE (t : Pw) (b : Bool) (k : Nat) (x y : ByteArray) (v : SV) (H : List SO) : Prop := (¬ t.has (x, y) ∧ v = .tuple [slQ 0 t.n b k, .int .i64 (.lit 9)]) ∨ (t.has (x, y) ∧ unD t x y v H)
theorem un_runs {t : Pw} (b : Bool) (k : Nat) {x y : ByteArray} (ht : t.ok) (hx : rlmP x) (hy : rlmP y) (hne : x ≠ y) : Runs cfgP1 18 [slQ 0 t.n b k, .str (.sym x), .str (.sym y)] [t.row] (unE t b k x y) := by
  obtain ⟨V, N, n⟩ := t
  obtain ⟨h1, h2, h3⟩ : n ≤ N ∧ n ≤ 1000000 ∧ PrV V n := ht
  have hxs := hx.2.1
  have hys := hy.2.1
  have hsz : (twS x y).ok ∧ ∀ j, j < 2 → ((twS x y).at j).size ≤ 9223372036854775807 := ⟨tw_ok x y, fun j hj => by
    rcases (show j = 0 ∨ j = 1 by omega) with rfl | rfl
    · show x.size ≤ _; omega
    · show y.size ≤ _; omega⟩
  have htp : (⟨V, N, n⟩ : Pw).ok := ⟨h1, h2, h3⟩
  show Runs cfgP1 _ [slQ 0 n b k, .str (.sym x), .str (.sym y)] [rwV V N] _
  have hget : ∀ (j : Nat) (h : j < (prL V n).length), (prL V n)[j] = prAt V j := fun j h => by simp [prL]
  refine runs_by cfgP1OK (unC V N n b k x y) (fun i => i ≤ n ∧ ∀ j, j < i → prAt V j ≠ (x, y)) (fun i => n - i) (fun g nm hg => by cases hg) ?_ fun i ⟨hi, hlt⟩ J => ?_
  · refine to_startM (some (1, 3)) 20000 0 ⟨Nat.zero_le _, fun j hj => by omega⟩ (fun z => un_init V N n b k x y z) (un_names V N n b k x y 0 0) (fun q hq p u hp hu => ?_) (fun e he => by cases he) (app_all (all_cons hsz (all_cons (cB_ok (tw_rls.2 ⟨hx, hy⟩)) all_nil)) (all_cons (decide_eq_false hne) all_nil))
    obtain rfl : q = (0, 8, .int .i64 (.lit 0)) := by simpa using hq
    exact tmp_set (un_tmp V N n b k x y 0) hp hu (int_impS rfl)
  · by_cases hin : i < n
    · by_cases hc : prAt V i = (x, y)
      · have hA : ∀ e, decide (0 + i ≤ 0) = e → ∀ p ∈ rdP V N n i (dlA V N n x y i e), p := fun e he => rdP_all htp hin (all_cons (by rw [eqP_of]; exact decide_eq_true hc) (all_cons ⟨by omega, by omega⟩ (all_cons (by omega) (all_cons he all_nil))))
        have hB : ∀ p ∈ dlB N n i, p := all_cons ⟨by omega, by omega⟩ (all_cons ⟨by omega, by omega⟩ (all_cons (by omega) all_nil))
        have hh : (⟨V, N, n⟩ : Pw).has (x, y) := Pw.has_iff.2 ⟨i, hin, hc⟩
        by_cases hlast : n = 1
        · have hi0 : i = 0 := by omega
          refine to_end none 20000 (fun z => un_last V N n b k x y i J z) (app_all (hA true (decide_eq_true (by omega))) (app_all hB (all_cons (decide_eq_true (by omega)) all_nil))) fun H hH => .inr ⟨hh, .inl ⟨hlast, rfl, (List.cons.inj hH).1⟩⟩
        · obtain ⟨hW1, hW2⟩ := dlW_list (V := V) (n := n) (i := i) (e := decide (0 + i ≤ 0)) rfl hin h3
          have hone := one_of (V := V) (n := n) (i := i + 1) (m := (n - (i + 1)) * 2) h3 (by omega)
          have hC : ∀ p ∈ dlC V N n x y i (decide (0 + i ≤ 0)), p := by
            unfold dlC
            refine app_all (hA _ rfl) ?_
            cases h : decide (0 + i ≤ 0) with
            | true =>
              have := of_decide_eq_true h
              exact app_all hB (all_cons (decide_eq_false (by omega)) (all_cons (Nat.le_refl 0) (all_cons ⟨by omega, by omega⟩ all_nil)))
            | false => exact app_all (all_cons (Nat.le_refl 0) (all_cons ⟨by omega, by omega⟩ all_nil)) (app_all hB (all_cons (by omega) (all_cons ⟨⟨by omega, by omega⟩, hone⟩ all_nil)))
          have hnn : dlN n i (decide (0 + i ≤ 0)) = n - 1 := by
            cases h : decide (0 + i ≤ 0) with
            | true => have := of_decide_eq_true h; show 0 + (n - (i + 1)) = _; omega
            | false => show 0 + i + (n - (i + 1)) = _; omega
          have hm : 1 ≤ dlM (decide (0 + i ≤ 0)) := by cases decide (0 + i ≤ 0) <;> (show (1 : Nat) ≤ _; decide)
          refine to_end none 20000 (fun z => un_cut V N n b k x y i J z (decide (0 + i ≤ 0))) hC fun H hH => .inr ⟨hh, .inr ⟨hlast, ?_⟩⟩
          have hH := (List.cons.inj (show [H[dlM (decide (0 + i ≤ 0))]?] = [some (.own (.raw (dlW V i (decide (0 + i ≤ 0))) (dlN n i (decide (0 + i ≤ 0)) * 2)) false 41)] from hH)).1
          rw [hnn] at hH ⊢
          refine ⟨_, _, hm, rfl, hH, hW1, ?_⟩
          rw [hW2]
          have hil : i < (prL V n).length := by rw [prL_length]; exact hin
          exact (del_at hil (fun j h hj => by rw [hget]; exact hlt j hj) (by rw [hget]; exact hc)).symm
      · refine to_turn (some (1, 3)) 20000 (i + 1) ⟨⟨by omega, fun j hj => ?_⟩, by omega⟩ (fun z => un_turn V N n b k x y i J z) (un_names V N n b k x y i (i + 1)) (rdP_all htp hin (all_cons (by rw [eqP_of]; exact decide_eq_false hc) (all_cons ⟨by omega, by omega⟩ all_nil)))
        by_cases c : j < i
        · exact hlt j c
        · obtain rfl : j = i := by omega
          exact hc
    · refine to_end none 20000 (fun z => un_none V N n b k x y i J z) (all_cons (decide_eq_false (by omega)) all_nil) fun H _ => .inl ⟨fun h => ?_, rfl⟩
      obtain ⟨j, hj, he⟩ := Pw.has_iff.1 h
      exact hlt j (by have hj : j < n := hj; omega) he
noncomputable def emL : SO := .own (.lst []) true 41
noncomputable def unR (base nm : Nat) (t : Pw) (b : Bool) (k : Nat) (x y : ByteArray) : R SumRes :=
  .need (t.ok ∧ x.size ≤ 9223372036854775807 ∧ y.size ≤ 9223372036854775807) (.fork (okPr x y) (.fork (cB (t.has (x, y))) (.fork (decide (t.n = 1)) (.ok ⟨tupQ (.slice ⟨base, .lit 0⟩ (.lit 0) (.lit 0)) 0, [], [emL]⟩)
    (.ok ⟨tupQ (.slice ⟨base, .lit 0⟩ (.sym (t.n - 1)) (.rest base 0)) 0, [], [lsE (delP t.list (x, y)) (t.n - 1)]⟩)) (.ok ⟨tupQ (slQ nm t.n b k) 9, [], []⟩)) (.ok ⟨tupQ (slQ nm t.n b k) 2, [], []⟩))
noncomputable def unSm : Summ := fun args H base => args3 args fun v xv yv => optC (strV xv) (.stuck 7874) fun x => optC (strV yv) (.stuck 7874) fun y => partQ H v fun t nm b k => unR base nm t b k x.den y.den
theorem del_length {l : List Pr} {p : Pr} (h : p ∈ l) : (delP l p).length = l.length - 1 := by
  unfold delP
  rw [List.length_eraseP_of_mem h (by simp)]
theorem unOK : SumOK Tryd.prog 18 unSm := by
  intro glob O w0 β H w base args vs hH hG ha
  refine args3_sat fun v xv yv hv => optC_only fun x hx => optC_only fun y hy => ?_
  rw [hv, strV_spec hx, strV_spec hy] at ha
  have ha := impL_cons (.refl v) (impL_cons (str_imp (t := .sym x.den) rfl) (impL_cons (str_imp (t := .sym y.den) rfl) impL_nil)) _ _ ha
  generalize x.den = x at ha ⊢
  generalize y.den = y at ha ⊢
  refine partQ_sat fun t nm b k ht hi => ?_
  have ha := impL_cons hi (SV.ImpL.refl _) _ _ ha
  let I : Ifc := ⟨[nm], [t.row], [slQ 0 t.n b k, .str (.sym x), .str (.sym y)]⟩
  have ha : SV.denL β (SV.renL I.big I.args) = some vs := by
    show SV.denL β [(slQ 0 t.n b k).ren _, _, _] = _
    rw [slQ_ren]; exact ha
  have hF : I.FitsQ H := Ifc.fitsQ (by simp [I]) (by
    show ((slQ 0 t.n b k).uses _ && _) = true
    rw [slQ_uses _ _ _ _ _ rfl]; rfl) ⟨⟨(let ⟨e, h1, h2⟩ := ht _; ⟨e, h1, h2.q⟩), (t.row_uses _).q⟩, trivial⟩
  have hgl : ∀ g j, (cfgP1.at none).glob g = some j → I.known j = true ∧ ∃ l, β (I.big j) = some l ∧ l.blk = g ∧ l.off = 0 := by intro g j hg; cases hg
  have hQ : ∀ (m : Int) (H2 : List SO), I.EndsQ base [] ⟨tupQ (slQ nm t.n b k) m, [], []⟩ (tupQ (slQ 0 t.n b k) m) H2 := fun m H2 => ⟨by
      show SV.Imp (tupQ ((slQ 0 t.n b k).ren (I.out base [])) m) _
      rw [slQ_ren]; exact .refl _, by
      show ((slQ 0 t.n b k).uses _ && _) = true
      rw [slQ_uses _ _ _ _ _ rfl]; rfl, trivial, trivial⟩
  have go : ∀ {ds ps m}, outO [] (unT t.V t.N t.n b k x y none) ds = (ps, retQ t.n b k m) → (∀ p ∈ ps, p) → SumSem Tryd.prog H β w base 18 vs ⟨tupQ (slQ nm t.n b k) m, [], []⟩ := fun {ds ps m} hr hp =>
    sum_runQ (cfgP1OK.at none) 20000 hH I hgl ha hF [] (by simp) (by simp) (outO_ob hr hp fun H2 _ => hQ m H2)
  rintro ⟨hok, hxz, hyz⟩
  have hsz : (twS x y).ok ∧ ∀ j, j < 2 → ((twS x y).at j).size ≤ 9223372036854775807 := ⟨tw_ok x y, fun j hj => by
    rcases (show j = 0 ∨ j = 1 by omega) with rfl | rfl
    · exact hxz
    · exact hyz⟩
  refine ⟨fun h1 => ?_, fun h1 => ?_⟩
  · obtain ⟨hx, hy, hne⟩ := cBi.1 h1
    have hr := un_runs b k hok hx hy hne
    refine ⟨fun h2 => ⟨fun h3 => ?_, fun h3 => ?_⟩, fun h2 => ?_⟩
    · have h2 := cBi.1 h2
      have h3 := of_decide_eq_true h3
      refine sum_runsQ (c := cfgP1) hH I (by intro g j hg; cases hg) ha hF [1] (by simp [I]) (by simp) (runs_mono hr fun v H2 h => ?_)
      rcases h with ⟨h, _⟩ | ⟨_, ⟨_, rfl, hW⟩ | ⟨h, _⟩⟩
      · exact absurd h2 h
      · refine ⟨?_, ?_, trivial, ⟨.inl ⟨_, _, _, _, hW, rfl, .refl _, rfl⟩, trivial⟩⟩
        · show SV.Imp (tupQ (.slice ⟨I.out base [1] 1, .lit 0⟩ (.lit 0) (.lit 0)) 0) _
          rw [out1 (by simp [I])]
          exact .refl _
        · show ((I.seen [1] 1 && true) && _) = true
          rw [seen1]; rfl
      · exact absurd h3 h
    · have h2 := cBi.1 h2
      have h3 := of_decide_eq_false h3
      refine sum_runsX (c := cfgP1) hH I (by intro g j hg; cases hg) ha hF (runs_mono hr fun v H2 h => ?_)
      rcases h with ⟨h, _⟩ | ⟨_, ⟨h, _⟩ | ⟨_, m, W, hm, rfl, hW, hW1, hW2⟩⟩
      · exact absurd h2 h
      · exact absurd h h3
      · have hl : (delP t.list (x, y)).length = t.n - 1 := by rw [del_length h2, list_length]
        refine ⟨[m], by simpa [I] using hm, by simp, ?_, ?_, trivial, ⟨.inl ⟨_, _, _, _, hW, trivial, raw_list hl hW1 hW2, rfl⟩, trivial⟩⟩
        · show SV.Imp (tupQ (.slice ⟨I.out base [m] m, .lit 0⟩ (.sym (t.n - 1)) (.rest (I.out base [m] m) 0)) 0) _
          rw [out1 (by simpa [I] using hm)]
          exact .refl _
        · show ((I.seen [m] m && I.seen [m] m) && _) = true
          rw [seen1]; rfl
    · have h2 : ¬ t.has (x, y) := fun h => by rw [cB_true h] at h2; cases h2
      refine sum_runsQ (c := cfgP1) hH I (by intro g j hg; cases hg) ha hF [] (by simp) (by simp) (runs_mono hr fun v H2 h => ?_)
      rcases h with ⟨_, rfl⟩ | ⟨h, _⟩
      · exact hQ 9 H2
      · exact absurd h h2
  · have h1 : ¬ (rlmP x ∧ rlmP y ∧ x ≠ y) := fun h => by
      have h1 : okPr x y = false := h1
      unfold okPr at h1
      rw [cB_true h] at h1; cases h1
    by_cases hxy : rlmP x ∧ rlmP y
    · have he : x = y := Classical.not_not.1 fun h => h1 ⟨hxy.1, hxy.2, h⟩
      exact go (un_same t.V t.N t.n b k x y) (app_all (all_cons hsz (all_cons (cB_ok (tw_rls.2 hxy)) all_nil)) (all_cons (decide_eq_true he) all_nil))
    · exact go (un_arg t.V t.N t.n b k x y) (all_cons hsz (rep_all (cB_no fun h => hxy (tw_rls.1 h)) 4))
end Go.Proofs.YtmekechnnfhhkaaDoor.Aes


/-
  agrees: runs.
-/
namespace Go.Proofs.YtmekechnnfhhkaaDoor.Aes
open Go.Sim
open Go.Proofs
variable {α : Type}

set_option maxRecDepth 1000000
noncomputable def rlA1 : List (FuncId × Summ) := [(37, soSm)]
theorem rlA1OK : ∀ y ∈ rlA1, SumOK Tryd.prog y.1 y.2 := all1 soOK
noncomputable def cfgA1' : Cfg := cfgOf (sumsOf rlA1)
theorem cfgA1'OK : CfgOK cfgA1' := sumsOf_ok rlA1OK
noncomputable def vBo : MSh := ⟨false, [.b]⟩
section
variable (es : List MapEntry) (c : Nat) (V : Nat → Value) (N n : Nat) (b : Bool) (k : Nat) (i : Nat) (J : Junk) (z : Nat → Nat → Nat)
noncomputable def agT (st : Option (Nat × Nat)) : Tree := callSim (cfgA1'.at st) 20000 7 [.ptr ⟨0, .lit 0⟩, slQ 2 n b k] [.row (.lst [.map 1]), .obj (.amap kPr vBo es c), rwV V N]
noncomputable def agZ : Tree := callSim cfgA1' 20000 7 [.ptr ⟨0, .lit 0⟩, slQ 1 n b k] [.row (.lst [.nilMap]), rwV V N]
noncomputable def agS0 : SS := stopOf (agT es c V N n b k (some (2, 2))) [false]
noncomputable def agE (j : Nat) : HP := .ent ((nth (agS0 es c V N n b k).heap j).getD .gone)
noncomputable def agF (j : Nat) : List SV := optC (nth (agS0 es c V N n b k).frames j) [] fun f => f.tmps
noncomputable def agC : Cut := ⟨bareFs (agS0 es c V N n b k).frames [app (keepT (agF es c V N n b k 0) [0, 1, 5, 6]) [(7, .int .i64 (.sym i))], keepT (agF es c V N n b k 1) [3, 4, 6]],
  [agE es c V N n b k 0, agE es c V N n b k 1, agE es c V N n b k 2, agE es c V N n b k 3, agE es c V N n b k 4, agE es c V N n b k 5, agE es c V N n b k 6, .ent (.own (.lst [.int .i64 (.sym i)]) true 3), agE es c V N n b k 8, bareL (nth (agS0 es c V N n b k).heap 9) [(3, .ptr ⟨3, .lit 0⟩), (4, .ptr ⟨4, .lit 0⟩), (6, .ptr ⟨7, .lit 0⟩)]]⟩
noncomputable def agS (st : Option (Nat × Nat)) : Tree := sim1 (cfgA1'.at st) 20000 ((agC es c V N n b k i).fill J)
noncomputable def ag10 : List Nat := [0, 1, 2, 3, 4, 5, 6, 7, 8, 9]
def agG : Prop := MapOK es c ∧ es.length ≤ 1000000
noncomputable def boR (p : Bool) : SV := .bool (.sym p)
theorem ag_nil : outO [] (agZ V N n b k) [] = ([], some (boR (decide ((0 : Int) = (n : Int))), [])) := by cases b <;> kernel_rfl
theorem ag_noneL : outL [1] (agC es c V N n b k 0) [] (agT es c V N n b k none) [true] z = ([agG es c, nilE es = true], some (.inl (boR (decide ((0 : Int) = (n : Int))), [some (.obj (.amap kPr vBo es c))]))) := by cases b <;> kernel_rfl
theorem ag_init : outL [] (agC es c V N n b k 0) ag10 (agT es c V N n b k (some (2, 2))) [false] z = ([agG es c, nilE es = false], some (.inr (modSeen [(0, 7, .int .i64 (.lit 0))] [(7, .ent (.own (.lst [.int .i64 (.lit 0)]) true 3))] (seenC ag10 10 (agC es c V N n b k 0))))) := by cases b <;> kernel_rfl
noncomputable def srL : List Pr := srtL cfPr (keysL es)
noncomputable def cF (l : List Pr) (j : Nat) : ByteArray := boolC (Nat.beq (j % 2) 0) (prN l (j / 2)).1 (prN l (j / 2)).2
noncomputable def agQ : List Prop := [decide ((i : Int) < (es.length : Int)) = true, (0 : Int) ≤ (i : Int) ∧ (i : Int) < (es.length : Int), 0 + i * 2 + 2 ≤ es.length * 2, decide ((i : Int) ≥ (n : Int)) = false, (0 : Int) ≤ (i : Int) ∧ (i : Int) < (n : Int), 0 + i * 2 + 2 ≤ N * 2, fit2 V (0 + i * 2),
  (!(decide (vStr (V (0 + i * 2 + 0)) = cF (srL es) (0 + i * 2 + 0)) && decide (vStr (V (0 + i * 2 + 1)) = cF (srL es) (0 + i * 2 + 1)))) = false, inI64 ((i : Int) + 1), inI64 ((i : Int) + 1)]
theorem ag_turn : outL [] (agC es c V N n b k i) ag10 (agS es c V N n b k i J (some (2, 2))) [true, false, false] z = (agQ es V N n i, some (.inr (seenC ag10 11 (agC es c V N n b k (i + 1))))) := by cases b <;> kernel_rfl
theorem ag_end : outL [1] (agC es c V N n b k i) ag10 (agS es c V N n b k i J none) [false] z = ([decide ((i : Int) < (es.length : Int)) = false], some (.inl (boR (decide ((i : Int) = (n : Int))), [some (.obj (.amap kPr vBo es c))]))) := by cases b <;> kernel_rfl
theorem ag_names (j : Nat) : boolC (namesOK 3 ag10 (agC es c V N n b k i) (agC es c V N n b k j)) (allN noLoopE (agC es c V N n b k j).heap) false = true := by cases b <;> kernel_rfl
theorem ag_tmp : (((agC es c V N n b k i).frames[0]?).bind fun p => p.tmps[7]?) = some (some (.int .i64 (.sym i))) := by cases b <;> kernel_rfl
end
end Go.Proofs.YtmekechnnfhhkaaDoor.Aes


/-
  agrees: where the map's pairs are the list's, it answers true.
-/
namespace Go.Proofs.YtmekechnnfhhkaaDoor.Aes
open Go.Sim
open Go.Proofs
open Go.Sort
variable {α : Type}

set_option maxRecDepth 1000000
theorem srL_length (es : List MapEntry) : (srL es).length = es.length := by
  unfold srL
  rw [srt_perm.length_eq]; simp [keysL]
theorem prN_get {l : List Pr} {i : Nat} (h : i < l.length) : prN l i = l[i] := by
  unfold prN; rw [List.getElem?_eq_getElem h]; rfl
theorem cF_at (l : List Pr) (i : Nat) : cF l (0 + i * 2 + 0) = (prN l i).1 ∧ cF l (0 + i * 2 + 1) = (prN l i).2 := by
  unfold cF
  have e1 : (0 + i * 2 + 0) / 2 = i := by omega
  have e2 : (0 + i * 2 + 1) / 2 = i := by omega
  have e3 : (0 + i * 2 + 0) % 2 = 0 := by omega
  have e4 : (0 + i * 2 + 1) % 2 = 1 := by omega
  rw [e1, e2, e3, e4]
  exact ⟨rfl, rfl⟩
/-- what comes of it -/
def agD (es : List MapEntry) (c : Nat) (v : SV) (H : List SO) : Prop := (∃ b, v = .bool b ∧ b.den = true) ∧ H[1]? = some (.obj (.amap kPr vBo es c))
theorem ag_runs {es : List MapEntry} {c : Nat} {t : Pw} (b : Bool) (k : Nat) (hm : MapOK es c) (hz : es.length ≤ 1000000) (ht : t.ok) (he : t.list = srL es) : Runs cfgA1' 7 [.ptr ⟨0, .lit 0⟩, slQ 2 t.n b k] [.row (.lst [.map 1]), .obj (.amap kPr vBo es c), t.row] (agD es c) := by
  obtain ⟨V, N, n⟩ := t
  obtain ⟨h1, h2, h3⟩ : n ≤ N ∧ n ≤ 1000000 ∧ PrV V n := ht
  have htp : (⟨V, N, n⟩ : Pw).ok := ⟨h1, h2, h3⟩
  have hn : n = es.length := by
    have := congrArg List.length he
    rw [srL_length, list_length] at this
    exact this
  show Runs cfgA1' _ [.ptr ⟨0, .lit 0⟩, slQ 2 n b k] [.row (.lst [.map 1]), .obj (.amap kPr vBo es c), rwV V N] _
  have hpr : ∀ i, i < n → prAt V i = prN (srL es) i := fun i hi => by
    have hl : i < (srL es).length := by rw [srL_length]; omega
    rw [prN_get hl]
    have hl2 : i < (prL V n).length := by rw [prL_length]; exact hi
    have e : (prL V n)[i] = prAt V i := by simp [prL]
    rw [← e]
    have he : prL V n = srL es := he
    simp only [he]
  by_cases hemp : es = []
  · refine runs_by cfgA1'OK (fun i : Nat => agC es c V N n b k i) (fun _ => False) (fun i => i) (fun g nm hg => by cases hg) ?_ fun i h => h.elim
    subst hemp
    have hn0 : n = 0 := hn
    exact start_end (js := [1]) none 20000 (M := agC [] c V N n b k 0) (names := []) (fun z => ag_noneL [] c V N n b k z) (all_cons ⟨hm, hz⟩ (all_cons rfl all_nil)) fun H hH => ⟨⟨.sym (decide ((0 : Int) = (n : Int))), rfl, decide_eq_true (by rw [hn0]; rfl)⟩, (List.cons.inj hH).1⟩
  · have hne : nilE es = false := by
      unfold nilE
      cases es with
      | nil => exact absurd rfl hemp
      | cons => rfl
    refine runs_by cfgA1'OK (fun i : Nat => agC es c V N n b k i) (fun i => i ≤ n) (fun i => n - i) (fun g nm hg => by cases hg) ?_ fun i hi J => ?_
    · refine to_startM (some (2, 2)) 20000 0 (Nat.zero_le _) (fun z => ag_init es c V N n b k z) (ag_names es c V N n b k 0 0) (fun q hq p u hp hu => ?_) (fun e he E0 hE0 => ?_) (all_cons ⟨hm, hz⟩ (all_cons hne all_nil))
      · obtain rfl : q = (0, 7, .int .i64 (.lit 0)) := by simpa using hq
        exact tmp_set (ag_tmp es c V N n b k 0) hp hu (int_impS rfl)
      · obtain rfl := List.mem_singleton.1 he
        have hE0 : some (HP.ent (.own (.lst [.int .i64 (.sym 0)]) true 3)) = some E0 := hE0
        cases hE0
        exact ⟨_, rfl, fun _ _ h => h⟩
    · by_cases hin : i < n
      · refine to_turn (some (2, 2)) 20000 (i + 1) ⟨by omega, by omega⟩ (fun z => ag_turn es c V N n b k i J z) (ag_names es c V N n b k i (i + 1)) ?_
        refine all_cons (decide_eq_true (by omega)) (all_cons ⟨by omega, by omega⟩ (all_cons (by omega) (all_cons (decide_eq_false (by omega)) (all_cons ⟨by omega, by omega⟩ (all_cons (by omega) (all_cons (fit2_of h3 hin) (all_cons ?_ (all_cons ⟨by omega, by omega⟩ (all_cons ⟨by omega, by omega⟩ all_nil)))))))))
        obtain ⟨c1, c2⟩ := cF_at (srL es) i
        rw [c1, c2, ← hpr i hin]
        have e1 : (vStr (V (0 + i * 2 + 0)), vStr (V (0 + i * 2 + 1))) = prAt V i := by unfold prAt; rw [Nat.zero_add, Nat.add_zero]
        rw [← e1]
        simp
      · exact to_end none 20000 (fun z => ag_end es c V N n b k i J z) (all_cons (decide_eq_false (by omega)) all_nil) fun H hH => ⟨⟨.sym (decide ((i : Int) = (n : Int))), rfl, decide_eq_true (by omega)⟩, (List.cons.inj hH).1⟩
/- The summary. -/
noncomputable def ptrNm (v : SV) : Option Nat := match v with
  | .ptr ⟨nm, .lit 0⟩ => some nm
  | _ => none
theorem ptrNm_spec {v : SV} {nm : Nat} (h : ptrNm v = some nm) : v = .ptr ⟨nm, .lit 0⟩ := by
  unfold ptrNm at h
  split at h
  · cases h; rfl
  · cases h
/-- a struct of one cell -/
noncomputable def oneCl (e : SO) : Option SV := match e with
  | .own (.lst [v]) _ _ => some v
  | _ => none
theorem oneCl_spec {e : SO} {v : SV} (h : oneCl e = some v) : ∃ w el, e = .own (.lst [v]) w el := by
  unfold oneCl at h
  split at h
  · cases h; exact ⟨_, _, rfl⟩
  · cases h
noncomputable def isBoS (k : MSh) : Bool := match k with
  | ⟨false, [.b]⟩ => true
  | _ => false
theorem isBoS_spec {k : MSh} (h : isBoS k = true) : k = vBo := by
  unfold isBoS at h
  split at h
  · rfl
  · cases h
/-- a map of pairs: of unknown entries, or of one that is known -/
noncomputable def amOf (e : SO) : Option (List MapEntry × Nat) := match e with
  | .obj (.amap k v es c) => boolC (isPrS k) (boolC (isBoS v) (some (es, c)) none) none
  | .obj (.map [(.agg [.str a, .str b], .bool v, n)] c) => some ([⟨kyP (a.den, b.den), .bool v.den, n⟩], c)
  | _ => none
theorem fit_kyP (p : Pr) : kPr.fit (kyP p) := fun _ => rfl
theorem fit_bo (v : Bool) : vBo.fit (.bool v) := fun _ => rfl
theorem amOf_spec {e : SO} {r : List MapEntry × Nat} (h : amOf e = some r) : ∃ o, e = .obj o ∧ ∀ f, o.Imp ((SObj.amap kPr vBo r.1 r.2).ren f) := by
  unfold amOf at h
  split at h
  · rename_i k v es c
    cases hk : isPrS k with
    | false => rw [hk] at h; cases h
    | true =>
      cases hv : isBoS v with
      | false => rw [hk, hv] at h; cases h
      | true =>
        rw [hk, hv] at h
        cases h
        rw [isPrS_spec hk, isBoS_spec hv]
        exact ⟨_, rfl, fun f _ _ h => h⟩
  · rename_i a b v n c
    cases h
    refine ⟨_, rfl, fun f γ x hx => ?_⟩
    have hx : some (Obj.map #[⟨kyP (a.den, b.den), .bool v.den, n⟩] c) = some x := hx
    cases hx
    exact SObj.amap_den.2 ⟨fun e he => by
      obtain rfl := List.mem_singleton.1 he
      exact ⟨fit_kyP _, fit_bo _⟩, rfl⟩
  · cases h
noncomputable def agSm : Summ := fun args H _ => args2 args fun p v => optC (ptrNm p) (.stuck 7880) fun m => optC (nth H m) (.stuck 7881) fun e => optC (oneCl e) (.stuck 7882) fun x => partQ H v fun t nm b k =>
  boolC (isNilM x) (boolC (nodupP [m, nm]) (.need (t.n = 0) (.ok ⟨.bool (.lit true), [], []⟩)) (.stuck 7883)) (optC (mapNm x) (.stuck 7884) fun mm => optC (nth H mm) (.stuck 7885) fun e => optC (amOf e) (.stuck 7886) fun r => boolC (nodupP [m, mm, nm])
    (.need (t.ok ∧ MapOK r.1 r.2 ∧ r.1.length ≤ 1000000 ∧ t.list = srL r.1) (.ok ⟨.bool (.lit true), [(mm, .obj (.amap kPr vBo r.1 r.2))], []⟩)) (.stuck 7883))
theorem bool_true {b : SB} (h : b.den = true) : (SV.bool b).Imp (.bool (.lit true)) := fun β x hx => by
  have hx : some (Value.bool b.den) = some x := hx
  rw [h] at hx
  exact hx
theorem ten_lst {f : Nat → Nat} {v : SV} {v' : SV} {w : Bool} {el : TypeId} (h : v' = v.ren f) : TakenQ f (.row (.lst [v])) (.own (.lst [v']) w el) := by
  subst h
  exact ⟨_, .inr ⟨w, el, rfl⟩, Cells.Imp.front (Cells.imp_of_eq rfl)⟩
theorem agOK : SumOK Tryd.prog 7 agSm := by
  intro glob O w0 β H w base args vs hH hG ha
  refine args2_sat fun p v hv => optC_only fun m hm => optC_only fun e he => optC_only fun x hx => partQ_sat fun t nm b k ht hi => R.Sat.boolC (fun hnl => boolC_only fun hd => ?_) fun _ => optC_only fun mm hmm => optC_only fun e2 he2 => optC_only fun r hr => boolC_only fun hd => ?_
  all_goals
    rw [hv, ptrNm_spec hm] at ha
    have ha := impL_cons (.refl _) (impL_cons hi impL_nil) _ _ ha
    obtain ⟨wh, el, rfl⟩ := oneCl_spec hx
    rw [nth_eq] at he
    have hd := nodupP_spec hd
  · rw [isNilM_spec hnl] at he
    intro hn
    let I : Ifc := ⟨[m, nm], [.row (.lst [.nilMap]), t.row], [.ptr ⟨0, .lit 0⟩, slQ 1 t.n b k]⟩
    have ha : SV.denL β (SV.renL I.big I.args) = some vs := by
      show SV.denL β [.ptr ⟨m, .lit 0⟩, (slQ 1 t.n b k).ren _] = _
      rw [slQ_ren]; exact ha
    have hF : I.FitsQ H := Ifc.fitsQ hd (by
      show (true && ((slQ 1 t.n b k).uses _ && true)) = true
      rw [slQ_uses _ _ _ _ _ rfl]; rfl) ⟨⟨⟨_, he, ten_lst rfl⟩, rfl⟩, ⟨⟨(let ⟨e, h1, h2⟩ := ht _; ⟨e, h1, h2.q⟩), (t.row_uses _).q⟩, trivial⟩⟩
    exact sum_runQ cfgA1'OK 20000 hH I (by intro g j hg; cases hg) ha hF [] (by simp) (by simp) (outO_ob (ag_nil t.V t.N t.n b k) all_nil fun H2 _ => ⟨bool_true (decide_eq_true (by rw [hn]; rfl)), rfl, trivial, trivial⟩)
  · rw [mapNm_spec hmm] at he
    rw [nth_eq] at he2
    obtain ⟨o, rfl, ho⟩ := amOf_spec hr
    generalize r.1 = es at ho ⊢
    generalize r.2 = c at ho ⊢
    rintro ⟨hok, hmo, hz, hl⟩
    let I : Ifc := ⟨[m, mm, nm], [.row (.lst [.map 1]), .obj (.amap kPr vBo es c), t.row], [.ptr ⟨0, .lit 0⟩, slQ 2 t.n b k]⟩
    have ha : SV.denL β (SV.renL I.big I.args) = some vs := by
      show SV.denL β [.ptr ⟨m, .lit 0⟩, (slQ 2 t.n b k).ren _] = _
      rw [slQ_ren]; exact ha
    have hF : I.FitsQ H := Ifc.fitsQ hd (by
      show (true && ((slQ 2 t.n b k).uses _ && true)) = true
      rw [slQ_uses _ _ _ _ _ rfl]; rfl) ⟨⟨⟨_, he, ten_lst rfl⟩, rfl⟩, ⟨⟨_, he2, o, rfl, ho _⟩, rfl⟩, ⟨⟨(let ⟨e, h1, h2⟩ := ht _; ⟨e, h1, h2.q⟩), (t.row_uses _).q⟩, trivial⟩⟩
    exact sum_runsQ (c := cfgA1') hH I (by intro g j hg; cases hg) ha hF [] (by simp) (by simp) (runs_mono (ag_runs b k hmo hz hok hl) fun v H2 ⟨⟨b', h1, h2⟩, h3⟩ => by
      subst h1
      exact ⟨bool_true h2, rfl, ⟨⟨rfl, .inr ⟨_, _, h3, rfl, fun _ _ h => h, rfl⟩⟩, trivial⟩, trivial⟩)
end Go.Proofs.YtmekechnnfhhkaaDoor.Aes


/-
  Calls on a map: the law's short.
-/
namespace Go.Proofs.YtmekechnnfhhkaaDoor.Aes
open Go.Sim
open Go.Proofs
variable {α : Type}

set_option maxRecDepth 1000000
noncomputable def rwA (V : Nat → Value) (N : Nat) : SO := .row (.raw V (N * 3))
section
variable (V : Nat → Value) (N n k : Nat) (m : Int) (i : Nat) (J : Junk) (z : Nat → Nat → Nat)
noncomputable def shT (st : Option (Nat × Nat)) : Tree := callSim (cfgP0.at st) 20000 4 [slP 0 n k, .int .i64 (.sym m)] [rwA V N]
noncomputable def shZ : Tree := callSim cfgP0 20000 4 [.nilSlice, .int .i64 (.sym m)] []
noncomputable def shC : Cut := ⟨bareFs (stopOf (shT V N n k m (some (1, 3))) [false]).frames [[(0, slP 0 n k), (5, .int .i64 (.sym i))]], [.ent (rwA V N)]⟩
noncomputable def shS (st : Option (Nat × Nat)) : Tree := sim1 (cfgP0.at st) 20000 ((shC V N n k m i).fill J)
noncomputable def aFr (i : Nat) : ByteArray := vStr (V (0 + i * 3 + 1))
noncomputable def aTo (i : Nat) : ByteArray := vStr (V (0 + i * 3 + 2))
noncomputable def shA (j : Nat) (q : List Prop) : List Prop := ((0 : Int) ≤ (i : Int) ∧ (i : Int) < (n : Int)) :: (0 + i * 3 + j < N * 3) :: fitK .s (V (0 + i * 3 + j)) :: q
theorem sh_many : outO [] (shT V N n k m none) [true] = ([decide ((n : Int) > m) = true], some (.bool (.lit false), [])) := by kernel_rfl
theorem sh_nil0 : outO [] (shZ m) [false] = ([decide ((0 : Int) > m) = false], some (.bool (.lit true), [])) := by kernel_rfl
theorem sh_nil1 : outO [] (shZ m) [true] = ([decide ((0 : Int) > m) = true], some (.bool (.lit false), [])) := by kernel_rfl
theorem sh_init : outL [] (shC V N n k m 0) [0] (shT V N n k m (some (1, 3))) [false] z = ([decide ((n : Int) > m) = false], some (.inr (modSeen [(0, 5, .int .i64 (.lit 0))] [] (seenC [0] 1 (shC V N n k m 0))))) := by kernel_rfl
theorem sh_turn : outL [] (shC V N n k m i) [0] (shS V N n k m i J (some (1, 3))) [true, false, false] z = ((decide ((i : Int) < (n : Int)) = true) :: shA V N n i 1 ((decide (((aFr V i).size : Int) > 60) = false) :: shA V N n i 2 [decide (((aTo V i).size : Int) > 60) = false, inI64 ((i : Int) + 1)]), some (.inr (seenC [0] 1 (shC V N n k m (i + 1))))) := by kernel_rfl
theorem sh_f1 : outL [] (shC V N n k m i) [0] (shS V N n k m i J none) (true :: repN true 8) z = ((decide ((i : Int) < (n : Int)) = true) :: shA V N n i 1 (repN (decide (((aFr V i).size : Int) > 60) = true) 8), noR) := by kernel_rfl
theorem sh_f2 : outL [] (shC V N n k m i) [0] (shS V N n k m i J none) [true, false, true] z = ((decide ((i : Int) < (n : Int)) = true) :: shA V N n i 1 ((decide (((aFr V i).size : Int) > 60) = false) :: shA V N n i 2 [decide (((aTo V i).size : Int) > 60) = true]), noR) := by kernel_rfl
theorem sh_end : outL [] (shC V N n k m i) [0] (shS V N n k m i J none) [false] z = ([decide ((i : Int) < (n : Int)) = false], yesR) := by kernel_rfl
theorem sh_names (j : Nat) : boolC (namesOK 1 [0] (shC V N n k m i) (shC V N n k m j)) (allN noLoopE (shC V N n k m j).heap) false = true := by kernel_rfl
theorem sh_tmp : (((shC V N n k m i).frames[0]?).bind fun p => p.tmps[5]?) = some (some (.int .i64 (.sym i))) := by kernel_rfl
end
/-- a slice of calls -/
def ActV (V : Nat → Value) (n : Nat) : Prop := ∀ i, i < n → (∃ z, V (0 + i * 3) = .int .i64 z) ∧ V (0 + i * 3 + 1) = .string (aFr V i) ∧ V (0 + i * 3 + 2) = .string (aTo V i)
def Pw.okA (t : Pw) : Prop := t.n ≤ t.N ∧ ActV t.V t.n
def shP (t : Pw) (m : Int) : Prop := (t.n : Int) ≤ m ∧ ∀ i, i < t.n → (aFr t.V i).size ≤ 60 ∧ (aTo t.V i).size ≤ 60
theorem sh_runs {t : Pw} (k : Nat) {m : Int} (ht : t.okA) (hm : (t.n : Int) ≤ m) (hz : t.n ≤ 1000000) : Runs cfgP0 4 [slP 0 t.n k, .int .i64 (.sym m)] [rwA t.V t.N] fun v _ => isBool (cB (shP t m)) v := by
  obtain ⟨h1, h2⟩ := ht
  have hA : ∀ {i j : Nat} {q : List Prop}, i < t.n → (j = 1 ∨ j = 2) → (∀ p ∈ q, p) → ∀ p ∈ shA t.V t.N t.n i j q, p := fun {i j q} hi hj hq => by
    obtain ⟨_, h3, h4⟩ := h2 i hi
    refine all_cons ⟨by omega, by omega⟩ (all_cons (by omega) (all_cons ?_ hq))
    rcases hj with rfl | rfl
    · rw [h3]; exact fitS _
    · rw [h4]; exact fitS _
  refine all_loop cfgP0OK (shC t.V t.N t.n k m) (fun i => (aFr t.V i).size ≤ 60 ∧ (aTo t.V i).size ≤ 60) t.n (fun g nm hg => by cases hg) (fun Q hQ => ?_) (fun i hi hp J Q hQ => ?_) (fun i hi hp J Q => ?_) (fun hp J Q => ?_)
  · refine to_startM (some (1, 3)) 20000 0 hQ (sh_init t.V t.N t.n k m) (sh_names t.V t.N t.n k m 0 0) (fun q hq p u hp hu => ?_) (fun e he => by cases he) (all_cons (decide_eq_false (by omega)) all_nil)
    obtain rfl : q = (0, 5, .int .i64 (.lit 0)) := by simpa using hq
    exact tmp_set (sh_tmp t.V t.N t.n k m 0) hp hu (int_impS rfl)
  · exact to_turn (some (1, 3)) 20000 (i + 1) hQ (sh_turn t.V t.N t.n k m i J) (sh_names t.V t.N t.n k m i (i + 1)) (all_cons (decide_eq_true (by omega)) (hA hi (.inl rfl) (all_cons (decide_eq_false (by omega)) (hA hi (.inr rfl) (all_cons (decide_eq_false (by omega)) (all_cons ⟨by omega, by omega⟩ all_nil))))))
  · by_cases c : (aFr t.V i).size ≤ 60
    · have c2 : ¬ (aTo t.V i).size ≤ 60 := fun h => hp ⟨c, h⟩
      exact to_end none 20000 (sh_f2 t.V t.N t.n k m i J) (all_cons (decide_eq_true (by omega)) (hA hi (.inl rfl) (all_cons (decide_eq_false (by omega)) (hA hi (.inr rfl) (all_cons (decide_eq_true (by omega)) all_nil))))) fun H _ => ⟨_, rfl, (cB_false fun h => hp (h.2 i hi)).symm⟩
    · exact to_end none 20000 (sh_f1 t.V t.N t.n k m i J) (all_cons (decide_eq_true (by omega)) (hA hi (.inl rfl) (rep_all (decide_eq_true (by omega)) 8))) fun H _ => ⟨_, rfl, (cB_false fun h => hp (h.2 i hi)).symm⟩
  · exact to_end none 20000 (sh_end t.V t.N t.n k m t.n J) (all_cons (decide_eq_false (by omega)) all_nil) fun H _ => ⟨_, rfl, (cB_true ⟨hm, hp⟩).symm⟩
/- The summary, of a row az it came in. -/
noncomputable def partA (H : List SO) (v : SV) (f : Pw → Nat → R α) : R α := v.asSlice (.stuck 7890) fun a l _ => boolC (is0 a.off) (optC (nth H a.nm) (.stuck 7891) fun e => match e with
  | .row (.raw V m) => .need (m = m / 3 * 3) (f ⟨V, m / 3, l.den⟩ a.nm)
  | _ => .stuck 7892) (.stuck 7893)
theorem partA_sat {H : List SO} {v : SV} {f : Pw → Nat → R α} {φ : α → Prop} (h : ∀ t nm, (∀ g, ∃ e', H[nm]? = some e' ∧ Taken g (rwA t.V t.N) e') → (∀ β x, v.den β = some x → ∃ k, (slP nm t.n k).den β = some x) → (f t nm).Sat φ) : (partA H v f).Sat φ := by
  unfold partA
  rcases asSlice_cases v with ⟨a, l, c, rfl⟩ | hv
  · refine boolC_only fun h0 => optC_only fun e he => ?_
    cases e <;> first | exact trivial | skip
    rename_i cc
    cases cc <;> first | exact trivial | skip
    rename_i V m
    intro hm
    rw [nth_eq] at he
    refine h ⟨V, m / 3, l.den⟩ a.nm (fun g => ⟨_, he, taken_row (c0 := .raw V m) (.inl rfl) ?_⟩) fun β x hx => ?_
    · show (Cells.raw V m).Front (.raw V (m / 3 * 3))
      rw [← hm]
      exact Cells.Imp.front (.refl _)
    · obtain ⟨m, _, hd, _, _⟩ := slice_den hx
      obtain ⟨nm, off⟩ := a
      obtain rfl := is0_spec h0
      exact ⟨m, hd⟩
  · rw [hv]; trivial
noncomputable def shSm : Summ := fun args H _ => args2 args fun v mv => optC (i64V mv) (.stuck 7894) fun m => sliceR v (.ok (bR ((0 : Int) ≤ m.den))) fun _ _ => partA H v fun t _ => .need ((t.n : Int) ≤ m.den → t.okA ∧ t.n ≤ 1000000) (.ok (bR (shP t m.den)))
theorem shOK : SumOK Tryd.prog 4 shSm := by
  intro glob O w0 β H w base args vs hH hG ha
  refine args2_sat fun v mv hv => optC_only fun m hm => ?_
  rw [hv, i64V_spec hm] at ha
  have ha := impL_cons (.refl v) (impL_cons (int_impS (b := .sym m.den) rfl) impL_nil) _ _ ha
  generalize m.den = m at ha ⊢
  refine sliceR_sat (fun hn => ?_) fun _ _ _ _ => partA_sat fun t nm ht hi hok => ?_
  · rw [hn] at ha
    by_cases c : (0 : Int) > m
    · exact i0_sem cfgP0OK hH ha (fun _ => rfl) (fun _ => rfl) (sh_nil1 m) (all_cons (decide_eq_true c) all_nil) (cB_false fun h => by omega).symm
    · exact i0_sem cfgP0OK hH ha (fun _ => rfl) (fun _ => rfl) (sh_nil0 m) (all_cons (decide_eq_false c) all_nil) (cB_true (by omega)).symm
  · obtain ⟨x, ys, hx, hys, rfl⟩ := denL_cons.1 ha
    obtain ⟨k, hx'⟩ := hi _ _ hx
    have hr : Runs cfgP0 4 [slP 0 t.n k, .int .i64 (.sym m)] [rwA t.V t.N] fun v _ => isBool (cB (shP t m)) v := by
      by_cases c : (t.n : Int) ≤ m
      · exact sh_runs k (hok c).1 c (hok c).2
      · exact runs_of (c := cfgP0) cfgP0OK (outO_ob (sh_many t.V t.N t.n k m) (all_cons (decide_eq_true (by omega)) all_nil) fun H2 _ => ⟨_, rfl, (cB_false fun h => c h.1).symm⟩)
    refine sum_runsQ (c := cfgP0) hH ⟨[nm], [rwA t.V t.N], [slP 0 t.n k, .int .i64 (.sym m)]⟩ (by intro g j hg; cases hg) (denL_cons.2 ⟨_, _, hx', hys, rfl⟩) (Ifc.fitsQ (by simp) rfl ⟨⟨(let ⟨e, h1, h2⟩ := ht _; ⟨e, h1, h2.q⟩), (show (rwA t.V t.N).CUses _ from trivial).q⟩, trivial⟩) [] (by simp) (by simp) (runs_mono hr fun v H h => bool_ends rfl h)
end Go.Proofs.YtmekechnnfhhkaaDoor.Aes


/-
  A map's Trusts: what is only read.
-/
namespace Go.Sim
/-- a map that is az it was need not be told -/
theorem drop_set {P : Program} {O : Nat → Prop} {w0 w : World} {β : Val} {H : List SO} {base : Nat} {f : FuncId} {vs : List Value} (hH : HeapRel0 P O w0 β H w) {n : Nat} {k v k' v' : MSh} {es : List MapEntry} {c : Nat} (hn : H[n]? = some (.obj (.amap k v es c))) {r : SV} {news : List SO}
    (h : SumSem P H β w base f vs ⟨r, [(n, .obj (.amap k' v' es c))], news⟩) : SumSem P H β w base f vs ⟨r, [], news⟩ := by
  intro hf
  obtain ⟨_, h2⟩ := h hf
  have hx : ∃ l, β n = some l ∧ w.heap[l.blk]? = some (.map es.toArray c) := by
    obtain ⟨l, x, hl, _, hd, hh⟩ : OwnRel P β w n (.obj (.amap k v es c)) := (hH.entries n _ hn).toOwn rfl
    exact ⟨l, hl, by rw [hh, (SObj.amap_den.1 hd).2]⟩
  obtain ⟨l, hl, hh⟩ := hx
  have key : ∀ {β' : Val} {w' : World}, Eff P β w base [(n, .obj (.amap k' v' es c))] news β' w' → Eff P β w base [] news β' w' := fun {β' w'} hE => by
    obtain ⟨l', x', hl', _, hd', hh'⟩ : OwnRel P β' w' n (.obj (.amap k' v' es c)) := hE.turned n _ (by simp)
    have e1 : l' = l := by rw [hE.le _ _ hl] at hl'; exact (Option.some.inj hl').symm
    rw [(SObj.amap_den.1 hd').2, e1] at hh'
    refine ⟨hE.le, hE.os, hE.tape, hE.output, hE.drawn, hE.size, hE.dom, fun b hb _ => ?_, fun _ _ _ h => (by cases h), fun _ _ h => (by cases h), fun i e he => ?_, hE.apart⟩
    · by_cases c' : l.blk = b
      · rw [← c', hh, hh']
      · exact hE.frame b hb fun m e l2 hm hl2 => by
          have hm := List.mem_singleton.1 hm
          cases hm
          rw [hl] at hl2; cases hl2
          exact c'
    · obtain ⟨h1, h2, l2, h3, h4⟩ := hE.made i e he
      refine ⟨h1, h2, l2, h3, .inl ?_⟩
      rcases h4 with h4 | ⟨m, l3, h5, _⟩
      · exact h4
      · have h5 := List.mem_singleton.1 h5
        cases h5
  refine ⟨fun _ _ h => (by cases h), ?_⟩
  rcases h2 with ⟨hb, hc⟩ | ⟨v1, w1, β1, h3, h4, h5⟩
  · exact .inl ⟨hb, hc.mono fun e w' ⟨v1, β1, h3, h4, h5⟩ => ⟨v1, β1, h3, h4, key h5⟩⟩
  · exact .inr ⟨v1, w1, β1, h3, h4, key h5⟩
end Go.Sim
namespace Go.Proofs.YtmekechnnfhhkaaDoor.Aes
open Go.Sim
open Go.Proofs
variable {α : Type}

set_option maxRecDepth 1000000
section
variable (es : List MapEntry) (c : Nat) (x y : ByteArray)
noncomputable def mtT : Tree := callSim cfgP0 4000 21 [.ptr ⟨0, .lit 0⟩, .str (.sym x), .str (.sym y)] [.row (.lst [.map 1]), .obj (.amap kPr vBo es c)]
noncomputable def mtZ : Tree := callSim cfgP0 4000 21 [.ptr ⟨0, .lit 0⟩, .str (.sym x), .str (.sym y)] [.row (.lst [.nilMap])]
noncomputable def pK : Value := .agg #[.string x, .string y]
theorem mt_nil : outO [] (mtZ x y) [] = ([], some (.bool (.lit false), [])) := by kernel_rfl
theorem mt_no : outO [1] (mtT es c x y) [false] = ([hasK es (pK x y) = false], some (.bool (.lit false), [some (.obj (.amap kPr vBo es c))])) := by kernel_rfl
theorem mt_yes : outO [1] (mtT es c x y) [true] = ([hasK es (pK x y) = true], some (.bool (.sym (vBoo (getK es (pK x y)))), [some (.obj (.amap kPr vBo es c))])) := by kernel_rfl
end
noncomputable def mtB (es : List MapEntry) (x y : ByteArray) : Bool := hasK es (pK x y) && vBoo (getK es (pK x y))
noncomputable def mtSm : Summ := fun args H _ => args3 args fun p xv yv => optC (strV xv) (.stuck 7900) fun x => optC (strV yv) (.stuck 7900) fun y => optC (ptrNm p) (.stuck 7901) fun m => optC (nth H m) (.stuck 7902) fun e => optC (oneCl e) (.stuck 7903) fun s =>
  boolC (isNilM s) (.ok ⟨.bool (.lit false), [], []⟩) (optC (mapNm s) (.stuck 7904) fun mm => optC (nth H mm) (.stuck 7905) fun e => match e with
    | .obj (.amap k v es c) => boolC (isPrS k) (boolC (isBoS v) (boolC (nodupP [m, mm]) (.ok ⟨.bool (.sym (mtB es x.den y.den)), [], []⟩) (.stuck 7906)) (.stuck 7906)) (.stuck 7906)
    | _ => .stuck 7907)
theorem mtOK : SumOK Tryd.prog 21 mtSm := by
  intro glob O w0 β H w base args vs hH hG ha
  refine args3_sat fun p xv yv hv => optC_only fun x hx => optC_only fun y hy => optC_only fun m hm => optC_only fun e he => optC_only fun s hs => ?_
  rw [hv, ptrNm_spec hm, strV_spec hx, strV_spec hy] at ha
  have ha := impL_cons (.refl _) (impL_cons (str_imp (t := .sym x.den) rfl) (impL_cons (str_imp (t := .sym y.den) rfl) impL_nil)) _ _ ha
  generalize x.den = x at ha ⊢
  generalize y.den = y at ha ⊢
  obtain ⟨wh, el, rfl⟩ := oneCl_spec hs
  rw [nth_eq] at he
  refine R.Sat.boolC (fun hnl => ?_) fun _ => optC_only fun mm hmm => optC_only fun e2 he2 => ?_
  · rw [isNilM_spec hnl] at he
    let I : Ifc := ⟨[m], [.row (.lst [.nilMap])], [.ptr ⟨0, .lit 0⟩, .str (.sym x), .str (.sym y)]⟩
    exact sum_runQ cfgP0OK 4000 hH I (by intro g j hg; cases hg) ha (Ifc.fitsQ (by simp [I]) rfl ⟨⟨⟨_, he, ten_lst rfl⟩, rfl⟩, trivial⟩) [] (by simp) (by simp) (outO_ob (mt_nil x y) all_nil fun H2 _ => ⟨.refl _, rfl, trivial, trivial⟩)
  · split
    · rename_i k v es c
      refine boolC_only fun hk => boolC_only fun hv => boolC_only fun hd => ?_
      have hd := nodupP_spec hd
      rw [mapNm_spec hmm] at he
      rw [nth_eq] at he2
      rw [isPrS_spec hk, isBoS_spec hv] at he2
      refine drop_set (k' := kPr) (v' := vBo) hH he2 ?_
      let I : Ifc := ⟨[m, mm], [.row (.lst [.map 1]), .obj (.amap kPr vBo es c)], [.ptr ⟨0, .lit 0⟩, .str (.sym x), .str (.sym y)]⟩
      have hF : I.FitsQ H := Ifc.fitsQ hd rfl ⟨⟨⟨_, he, ten_lst rfl⟩, rfl⟩, ⟨⟨_, he2, _, rfl, fun _ _ h => h⟩, rfl⟩, trivial⟩
      have go : ∀ {ds ps b}, outO [1] (mtT es c x y) ds = (ps, some (.bool b, [some (.obj (.amap kPr vBo es c))])) → (∀ p ∈ ps, p) → b.den = mtB es x y → SumSem Tryd.prog H β w base 21 vs ⟨.bool (.sym (mtB es x y)), [(mm, .obj (.amap kPr vBo es c))], []⟩ := fun {ds ps b} hr hp hb =>
        sum_runQ cfgP0OK 4000 hH I (by intro g j hg; cases hg) ha hF [] (by simp) (by simp) (outO_ob hr hp fun H2 hH2 => ⟨fun γ x hx => by
          have hx : some (Value.bool b.den) = some x := hx
          rw [hb] at hx
          exact hx, rfl, ⟨⟨rfl, .inr ⟨_, _, (List.cons.inj hH2).1, rfl, fun _ _ h => h, rfl⟩⟩, trivial⟩, trivial⟩)
      cases hh : hasK es (pK x y) with
      | true => exact go (mt_yes es c x y) (all_cons hh all_nil) (by unfold mtB; rw [hh]; rfl)
      | false => exact go (mt_no es c x y) (all_cons hh all_nil) (by unfold mtB; rw [hh]; rfl)
    · trivial
end Go.Proofs.YtmekechnnfhhkaaDoor.Aes


/-
  maps.Clone: the kit's contract az a fact on heaps.
-/
namespace Go.Sim
open Go.Proofs Go.Shelf

/-- is it a map? -/
noncomputable def isMapO (e : SO) : Bool := match e with
  | .obj (.map _ _) => true
  | .obj (.amap _ _ _ _) => true
  | _ => false
theorem isMapO_spec {e : SO} (h : isMapO e = true) : ∃ o, e = .obj o ∧ ∀ β x, o.den β = some x → ∃ es c, x = .map es c := by
  unfold isMapO at h
  split at h
  · refine ⟨_, rfl, fun β x hx => ?_⟩
    simp only [SObj.den, Option.map_eq_some_iff] at hx
    obtain ⟨es, _, rfl⟩ := hx
    exact ⟨_, _, rfl⟩
  · refine ⟨_, rfl, fun β x hx => ?_⟩
    exact ⟨_, _, (SObj.amap_den.1 hx).2⟩
  · cases h
noncomputable def clnM : Summ := fun args H base => args1 args fun v => match v with
  | .nilMap => .ok ⟨.nilMap, [], []⟩
  | .map nm => optC (nth H nm) (.stuck 7850) fun e => boolC (isMapO e) (.ok ⟨.map base, [], [e]⟩) (.stuck 7851)
  | _ => .stuck 7852
section
variable {P : Program} {ρ : Ren}
theorem clone_map (L : SlLaysW.n5 P ρ) (hs : ∃ fn, P.funcs[ρ.f 5]? = some fn ∧ fn.body.isSome = true) : SumOK P (ρ.f 5) clnM := by
  intro glob O w0 β H w base args vs hH hG ha
  refine args1_sat fun v hv => ?_
  rw [hv] at ha
  cases v <;> first | exact trivial | skip
  · rename_i nm
    refine optC_only fun e he => boolC_only fun hm => ?_
    obtain ⟨o, rfl, ho⟩ := isMapO_spec hm
    rw [nth_eq] at he
    obtain ⟨x, ys, hx, hys, rfl⟩ := denL_cons.1 ha
    cases hys
    obtain ⟨l, x', hβ, h0, hd, hh⟩ : OwnRel P β w nm (.obj o) := (hH.entries nm _ he).toOwn rfl
    obtain ⟨es, c, rfl⟩ := ho _ _ hd
    have hx : (β nm).map (fun l => Value.map (some l.blk)) = some x := hx
    rw [hβ] at hx
    cases hx
    intro hnew
    have hb : β base = none := hnew 0 (by show (0 : Nat) < 1; omega)
    refine ⟨fun n e hm => (by cases hm), .inl ⟨hs, ?_⟩⟩
    refine (AnyW.maps_Clone L l.blk es c w hh).mono fun e w' ⟨he, hw⟩ => ⟨_, β.upd base ⟨w.heap.size, 0, 0⟩, he, ?_, ?_⟩
    · show ((β.upd base ⟨w.heap.size, 0, 0⟩) base).map (fun l => Value.map (some l.blk)) = _
      rw [Val.upd_same]; rfl
    · subst hw
      exact Eff.allocO hb rfl rfl rfl rfl hd
  · obtain ⟨x, ys, hx, hys, rfl⟩ := denL_cons.1 ha
    cases hys; cases hx
    intro hnew
    refine ⟨fun n e hm => (by cases hm), .inl ⟨hs, ?_⟩⟩
    refine (AnyW.maps_Clone_nil L w).mono fun e w' ⟨he, hw⟩ => ⟨_, β, he, rfl, ?_⟩
    subst hw
    exact ⟨fun n l h => h, rfl, rfl, rfl, Nat.le_refl _, Nat.le_refl _, fun _ _ => rfl, fun _ _ _ => rfl, fun _ _ _ h => (by cases h), fun _ _ h => (by cases h), fun _ _ h => (by simp at h), fun _ _ _ _ _ h => (by simp at h)⟩
end
end Go.Sim


/-
  maps.Clone of pairs.
-/
namespace Go.Proofs
open Go.Shelf
def Tryd.clnPr_ren : Go.Shelf.Ren := ⟨fun | 5 => 35 | 7 => 45 | n => n, fun | 23 => 26 | 25 => 41 | 3 => 4 | 4 => 4 | 20 => 20 | n => n, fun | n => n⟩
theorem Tryd.clnPr : Go.Proofs.SlLaysW.n5 Tryd.prog Tryd.clnPr_ren := {
  mixed := by kernel_rfl
  f5 := ⟨Tryd.f35.name, by decide, Tryd.func35.trans (congrArg some (by kernel_rfl))⟩
  f7 := Tryd.func45.trans (congrArg some (by kernel_rfl))
  t4 := Tryd.underlying4
  a4 := Tryd.isAgg4
  z4 := Tryd.sizeOf4
  v4 := Tryd.zeroValue4
  t20 := Tryd.underlying20
  a20 := Tryd.isAgg20
  z20 := Tryd.sizeOf20
  v20 := Tryd.zeroValue20
  t23 := Tryd.underlying26
  a23 := Tryd.isAgg26
  z23 := Tryd.sizeOf26
  v23 := Tryd.zeroValue26 }
end Go.Proofs
namespace Go.Proofs.YtmekechnnfhhkaaDoor.Aes
open Go.Sim
open Go.Proofs

theorem clnPrOK : SumOK Tryd.prog 35 clnM := clone_map Tryd.clnPr ⟨_, Tryd.func35, by kernel_rfl⟩
end Go.Proofs.YtmekechnnfhhkaaDoor.Aes

