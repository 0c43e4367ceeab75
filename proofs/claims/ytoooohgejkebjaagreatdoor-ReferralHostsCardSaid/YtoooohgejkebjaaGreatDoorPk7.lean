/-
  Texts behind one another: the symbolic simulator and what it is told of the program.
-/
import Derived.Test.YtoooohgejkebjaaGreatDoorPk6
import Derived.Ground.SlgnProg
import Derived.Test.YtoooohgejkebjaaGreatDoorPk3
import Derived.Sort.Walk0
import Derived.Shelf.SlMaps.Clone
import Derived.Ground.SlmcProg

/-
  slices.Sort of strings: the summary.
-/
namespace Go.Proofs
open Go.Shelf Go.RowKit Go.Lib Go.Sort
def Tryz.sortSt_ren : Go.Shelf.Ren := ⟨fun | 54 => 50 | 64 => 85 | 65 => 84 | 78 => 115 | 79 => 116 | 80 => 106 | 81 => 107 | 82 => 108 | 83 => 109 | 84 => 110 | 85 => 111 | 61 => 112 | 86 => 113 | 87 => 114 | 93 => 132 | 89 => 133 | 90 => 134 | 94 => 135 | 95 => 136 | 69 => 137 | 97 => 145 | n => n, fun | 25 => 50 | 26 => 9 | 3 => 3 | 51 => 152 | 0 => 0 | 67 => 57 | 69 => 185 | 4 => 4 | 61 => 177 | 60 => 176 | 44 => 181 | 5 => 5 | 9 => 9 | 75 => 200 | 79 => 204 | 83 => 221 | 84 => 222 | n => n, fun | n => n⟩
theorem Tryz.sortSt : Go.Proofs.SlLaysN.n54 Tryz.prog Tryz.sortSt_ren := {
  mixed := by kernel_rfl
  f54 := ⟨Tryz.f50.name, by decide, Tryz.func50.trans (congrArg some (by kernel_rfl))⟩
  f61 := ⟨Tryz.f112.name, by decide, Tryz.func112.trans (congrArg some (by kernel_rfl))⟩
  f64 := Tryz.func85.trans (congrArg some (by kernel_rfl))
  f65 := ⟨Tryz.f84.name, by decide, Tryz.func84.trans (congrArg some (by kernel_rfl))⟩
  f69 := ⟨Tryz.f137.name, by decide, Tryz.func137.trans (congrArg some (by kernel_rfl))⟩
  f78 := Tryz.func115.trans (congrArg some (by kernel_rfl))
  f79 := Tryz.func116.trans (congrArg some (by kernel_rfl))
  f80 := ⟨Tryz.f106.name, by decide, Tryz.func106.trans (congrArg some (by kernel_rfl))⟩
  f81 := ⟨Tryz.f107.name, by decide, Tryz.func107.trans (congrArg some (by kernel_rfl))⟩
  f82 := ⟨Tryz.f108.name, by decide, Tryz.func108.trans (congrArg some (by kernel_rfl))⟩
  f83 := ⟨Tryz.f109.name, by decide, Tryz.func109.trans (congrArg some (by kernel_rfl))⟩
  f84 := ⟨Tryz.f110.name, by decide, Tryz.func110.trans (congrArg some (by kernel_rfl))⟩
  f85 := ⟨Tryz.f111.name, by decide, Tryz.func111.trans (congrArg some (by kernel_rfl))⟩
  f86 := ⟨Tryz.f113.name, by decide, Tryz.func113.trans (congrArg some (by kernel_rfl))⟩
  f87 := ⟨Tryz.f114.name, by decide, Tryz.func114.trans (congrArg some (by kernel_rfl))⟩
  f89 := Tryz.func133.trans (congrArg some (by kernel_rfl))
  f90 := Tryz.func134.trans (congrArg some (by kernel_rfl))
  f93 := ⟨Tryz.f132.name, by decide, Tryz.func132.trans (congrArg some (by kernel_rfl))⟩
  f94 := ⟨Tryz.f135.name, by decide, Tryz.func135.trans (congrArg some (by kernel_rfl))⟩
  f95 := ⟨Tryz.f136.name, by decide, Tryz.func136.trans (congrArg some (by kernel_rfl))⟩
  f97 := ⟨Tryz.f145.name, by decide, Tryz.func145.trans (congrArg some (by kernel_rfl))⟩
  t0 := Tryz.underlying0
  a0 := Tryz.isAgg0
  z0 := Tryz.sizeOf0
  v0 := Tryz.zeroValue0
  t3 := Tryz.underlying3
  a3 := Tryz.isAgg3
  z3 := Tryz.sizeOf3
  v3 := Tryz.zeroValue3
  t4 := Tryz.underlying4
  a4 := Tryz.isAgg4
  z4 := Tryz.sizeOf4
  v4 := Tryz.zeroValue4
  t5 := Tryz.underlying5
  a5 := Tryz.isAgg5
  z5 := Tryz.sizeOf5
  v5 := Tryz.zeroValue5
  t9 := Tryz.underlying9
  a9 := Tryz.isAgg9
  z9 := Tryz.sizeOf9
  v9 := Tryz.zeroValue9
  t25 := Tryz.underlying50
  a25 := Tryz.isAgg50
  z25 := Tryz.sizeOf50
  v25 := Tryz.zeroValue50
  t26 := Tryz.underlying9
  a26 := Tryz.isAgg9
  z26 := Tryz.sizeOf9
  v26 := Tryz.zeroValue9
  t44 := Tryz.underlying181
  a44 := Tryz.isAgg181
  z44 := Tryz.sizeOf181
  v44 := Tryz.zeroValue181
  t51 := Tryz.underlying152
  a51 := Tryz.isAgg152
  z51 := Tryz.sizeOf152
  v51 := Tryz.zeroValue152
  t60 := Tryz.underlying176
  a60 := Tryz.isAgg176
  z60 := Tryz.sizeOf176
  v60 := Tryz.zeroValue176
  t61 := Tryz.underlying177
  a61 := Tryz.isAgg177
  z61 := Tryz.sizeOf177
  v61 := Tryz.zeroValue177
  t67 := Tryz.underlying57
  a67 := Tryz.isAgg57
  z67 := Tryz.sizeOf57
  v67 := Tryz.zeroValue57
  t69 := Tryz.underlying185
  a69 := Tryz.isAgg185
  z69 := Tryz.sizeOf185
  v69 := Tryz.zeroValue185
  t75 := Tryz.underlying200
  a75 := Tryz.isAgg200
  z75 := Tryz.sizeOf200
  v75 := Tryz.zeroValue200
  t79 := Tryz.underlying204
  a79 := Tryz.isAgg204
  z79 := Tryz.sizeOf204
  v79 := Tryz.zeroValue204
  t83 := Tryz.underlying221
  a83 := Tryz.isAgg221
  z83 := Tryz.sizeOf221
  v83 := Tryz.zeroValue221
  t84 := Tryz.underlying222
  a84 := Tryz.isAgg222
  z84 := Tryz.sizeOf222
  v84 := Tryz.zeroValue222 }
end Go.Proofs
namespace Go.Proofs.YtoooohgejkebjaaGreatDoor.Aes
open Go.Sim
open Go.Proofs
variable {α : Type}

set_option maxRecDepth 1000000
/-- the strings of a row -/
noncomputable def ssL (V : Nat → Value) (n : Nat) : List ByteArray := (List.range n).map fun i => vStr (V i)
def SsV (V : Nat → Value) (n : Nat) : Prop := ∀ i, i < n → V i = .string (vStr (V i))
theorem ssL_length (V : Nat → Value) (n : Nat) : (ssL V n).length = n := by simp [ssL]
theorem ssL_flat {V : Nat → Value} {n : Nat} (h : SsV V n) : ∀ j, j < (ssL V n).length → V j = ssV (ssL V n) j := by
  intro j hj
  unfold ssV
  rw [List.getElem?_eq_getElem hj, h j (by rwa [ssL_length] at hj)]
  simp [ssL]
noncomputable def rawOf (e : SO) : Option (((Nat → Value) × Nat) × Bool × TypeId) := match e with
  | .own (.raw V n) wh el => some ((V, n), wh, el)
  | _ => none
theorem rawOf_spec {e : SO} {r : ((Nat → Value) × Nat) × Bool × TypeId} (h : rawOf e = some r) : e = .own (.raw r.1.1 r.1.2) r.2.1 r.2.2 := by
  unfold rawOf at h
  split at h
  · cases h; rfl
  · cases h
noncomputable def stR (nm : Nat) (V : Nat → Value) (N n : Nat) (wh : Bool) (el : TypeId) : R SumRes :=
  .need (N = n ∧ SsV V n ∧ n < 4611686018427387904) (.ok ⟨.tuple [], [(nm, .own (.raw (ssV (srtB (ssL V n))) n) wh el)], []⟩)
noncomputable def stS : Summ := fun args H _ => args1 args fun v => sliceR v (.ok ⟨.tuple [], [], []⟩) fun a l => boolC (is0 a.off) (optC (nth H a.nm) (.stuck 7931) fun e => optC (rawOf e) (.stuck 7932) fun r => stR a.nm r.1.1 r.1.2 l.den r.2.1 r.2.2) (.stuck 7933)
theorem st_nil : outO [] (callSim cfgP0 4000 50 [.nilSlice] []) [] = ([], some (.tuple [], [])) := by kernel_rfl
theorem stOK : SumOK Tryz.prog 50 stS := by
  intro glob O w0 β H w base args vs hH hG ha
  refine args1_sat fun v hv => ?_
  rw [hv] at ha
  refine sliceR_sat (fun hn => ?_) fun a l c hs => boolC_only fun h0 => optC_only fun e he => optC_only fun r hr => ?_
  · rw [hn] at ha
    exact sum_runQ cfgP0OK 4000 hH ⟨[], [], [.nilSlice]⟩ (by intro g j hg; cases hg) ha (fits0 rfl).q [] (by simp) (by simp) (outO_ob st_nil all_nil fun H2 _ => ⟨.refl _, rfl, trivial, trivial⟩)
  · rintro ⟨hN, hV, hz⟩
    obtain ⟨nm, off⟩ := a
    obtain rfl := is0_spec h0
    have he := rawOf_spec hr ▸ he
    rw [nth_eq] at he
    rw [hs] at ha
    have hl := ssL_length r.1.1 l.den
    have := sortB_sem (P := Tryz.prog) Tryz.sortSt ⟨_, Tryz.func50, by kernel_rfl⟩ (base := base) (nm := nm) (wh := r.2.1) (el := r.2.2) (V := r.1.1) (D := ssL r.1.1 l.den) (c := c) (l := l) hH (by rw [hl, ← hN]; exact he) hl.symm (ssL_flat hV) (by rw [hl]; exact hz) ha
    rw [hl] at this
    exact this
end Go.Proofs.YtoooohgejkebjaaGreatDoor.Aes


/-
  Going through a map of unknown entries: plain facts.
-/
namespace Go.Sim

/-- a map's stamps: none twice, all below the clock -/
structure MapOK (es : List MapEntry) (c : Nat) : Prop where
  nd : (es.map fun e => e.born).Nodup
  lt : ∀ e ∈ es, e.born < c
/-- what has been gone through -/
structure VisOK (es : List MapEntry) (seen : List Nat) : Prop where
  nd : seen.Nodup
  mem : ∀ b ∈ seen, ∃ e ∈ es, e.born = b
theorem vis_nil (es : List MapEntry) : VisOK es [] := ⟨List.nodup_nil, fun _ h => by cases h⟩
theorem born_inj : ∀ {es : List MapEntry}, (es.map fun e => e.born).Nodup → ∀ {e e'}, e ∈ es → e' ∈ es → e.born = e'.born → e = e'
  | [], _, _, _, h, _, _ => by cases h
  | x :: es, hn, e, e', h, h', hb => by
    rw [List.map_cons, List.nodup_cons] at hn
    rcases List.mem_cons.1 h with h1 | h1
    · rcases List.mem_cons.1 h' with h2 | h2
      · rw [h1, h2]
      · exact absurd (show x.born ∈ es.map fun e => e.born from List.mem_map.2 ⟨e', h2, by rw [← h1, hb]⟩) hn.1
    · rcases List.mem_cons.1 h' with h2 | h2
      · exact absurd (show x.born ∈ es.map fun e => e.born from List.mem_map.2 ⟨e, h1, by rw [← h2, hb]⟩) hn.1
      · exact born_inj hn.2 h1 h2 hb
theorem getB_of {es : List MapEntry} (hn : (es.map fun e => e.born).Nodup) {e : MapEntry} (h : e ∈ es) : getB es e.born = e := by
  unfold getB
  cases hf : es.find? fun x => x.born == e.born with
  | none => exact absurd (List.find?_eq_none.1 hf e h) (by simp)
  | some x =>
    have h1 := List.find?_some hf
    have h2 := List.mem_of_find?_eq_some hf
    exact born_inj hn h2 h (by simpa using h1)
theorem lastB_app (seen : List Nat) (b : Nat) : lastB (app seen [b]) = b := by
  unfold lastB
  rw [app_eq]; simp
theorem left_mem {es : List MapEntry} {seen : List Nat} {e : MapEntry} : e ∈ leftA es seen ↔ e ∈ es ∧ e.born ∉ seen := by
  unfold leftA
  rw [List.mem_filter]
  simp
theorem pick_mem {l : List MapEntry} (h : l.isEmpty = false) (z : Nat) : pickA l z ∈ l := by
  have hl : l ≠ [] := by intro e; subst e; cases h
  have h0 : 0 < l.length := List.length_pos_iff.2 hl
  unfold pickA
  have hz : z % l.length < l.length := Nat.mod_lt _ h0
  rw [List.getElem?_eq_getElem hz]
  exact List.getElem_mem hz
theorem left_lt {es : List MapEntry} {seen : List Nat} {e : MapEntry} (h : e ∈ leftA es seen) : (leftA es (app seen [e.born])).length < (leftA es seen).length := by
  have h1 : leftA es (app seen [e.born]) = (leftA es seen).filter fun x => !(x.born == e.born) := by
    unfold leftA
    rw [app_eq, List.filter_filter]
    congr 1
    funext x
    rw [List.contains_eq_any_beq, List.contains_eq_any_beq, List.any_append]
    simp [Bool.and_comm, BEq.comm]
  rw [h1]
  exact List.length_filter_lt_length_iff_exists.2 ⟨e, h, by simp⟩
theorem left_none {es : List MapEntry} {seen : List Nat} (h : (leftA es seen).isEmpty = true) : ∀ e ∈ es, e.born ∈ seen := by
  intro e he
  have hn : leftA es seen = [] := by simpa using h
  by_cases c : e.born ∈ seen
  · exact c
  · have : e ∈ leftA es seen := left_mem.2 ⟨he, c⟩
    rw [hn] at this; cases this
theorem vis_next {es : List MapEntry} {seen : List Nat} (h : VisOK es seen) {e : MapEntry} (he : e ∈ leftA es seen) : VisOK es (app seen [e.born]) := by
  obtain ⟨h1, h2⟩ := left_mem.1 he
  rw [app_eq]
  refine ⟨List.nodup_append.2 ⟨h.nd, by simp, fun a ha b hb => ?_⟩, fun b hb => ?_⟩
  · rw [List.mem_singleton] at hb
    rintro rfl
    exact h2 (hb ▸ ha)
  · rcases List.mem_append.1 hb with hb | hb
    · exact h.mem b hb
    · exact ⟨e, h1, (List.mem_singleton.1 hb).symm⟩
theorem not_gone {es : List MapEntry} {seen : List Nat} {c : Nat} (h : MapOK es c) : ¬ goneA es seen c := by
  rintro ⟨_, h1, h2⟩
  cases es with
  | nil => exact h1 rfl
  | cons e es =>
    have := h2 e (by simp)
    have := h.lt e (by simp)
    omega
theorem perm_nodup {β : Type} [DecidableEq β] : ∀ {l l' : List β}, l.Nodup → l'.Nodup → (∀ x, x ∈ l ↔ x ∈ l') → l.Perm l'
  | [], l', _, _, h => by
    cases l' with
    | nil => exact .refl _
    | cons a l' => exact absurd ((h a).2 (by simp)) (by simp)
  | a :: l, l', hn, hn', h => by
    rw [List.nodup_cons] at hn
    have ha : a ∈ l' := (h a).1 (by simp)
    refine .trans (.cons a (perm_nodup hn.2 (hn'.erase a) fun x => ?_)) (List.perm_cons_erase ha).symm
    rw [hn'.mem_erase_iff]
    constructor
    · intro hx
      exact ⟨fun e => hn.1 (e ▸ hx), (h x).1 (by simp [hx])⟩
    · rintro ⟨h1, h2⟩
      rcases List.mem_cons.1 ((h x).2 h2) with e | e
      · exact absurd e h1
      · exact e
/-- all of it, in some order -/
theorem vis_all {es : List MapEntry} {seen : List Nat} {c : Nat} (hm : MapOK es c) (hv : VisOK es seen) (h : (leftA es seen).isEmpty = true) : (seen.map (getB es)).Perm es := by
  have h1 : seen.Perm (es.map fun e => e.born) := perm_nodup hv.nd hm.nd fun x => by
    constructor
    · intro hx
      obtain ⟨e, he, hb⟩ := hv.mem x hx
      exact List.mem_map.2 ⟨e, he, hb⟩
    · intro hx
      obtain ⟨e, he, rfl⟩ := List.mem_map.1 hx
      exact left_none h e he
  have h2 := h1.map (getB es)
  rw [List.map_map] at h2
  refine h2.trans ?_
  have : es.map (getB es ∘ fun e => e.born) = es := by
    conv => rhs; rw [← List.map_id es]
    exact List.map_congr_left fun e he => getB_of hm.nd he
  rw [this]
end Go.Sim


/-
  Structs of one cell that hold a map; maps that are only read (out of Agr2, Mtr1, Rtc4, Srt5).
-/
namespace Go.Sim
/-- a map that is az it was need not be told -/
theorem drop_set {P : Program} {O : Nat → Prop} {w0 w : World} {β : Val} {H : List SO} {base : Nat} {f : FuncId} {vs : List Value} (hH : HeapRel0 P O w0 β H w) {n : Nat} {k v k' v' : MSh} {es : List MapEntry} {c : Nat} (hn : H[n]? = some (.obj (.amap k v es c))) {r : SV} {news : List SO}
    (h : SumSem P H β w base f vs ⟨r, [(n, .obj (.amap k' v' es c))], news⟩) : SumSem P H β w base f vs ⟨r, [], news⟩ := by
  intro hf
  obtain ⟨_, h2⟩ := h hf
  have hx : ∃ l, β n = some l ∧ w.heap[l.blk]? = some (.map es.toArray c) := by
    obtain ⟨l, x, hl, _, hd, hh⟩ : OwnRel P β w n (.obj (.amap k v es c)) := (hH.entries n _ hn).toOwn rfl
    exact ⟨l, hl, by rw [hh, (SObj.amap_den.1 hd).2]⟩
  obtain ⟨l, hl, hh⟩ := hx
  have key : ∀ {β' : Val} {w' : World}, Eff P β w base [(n, .obj (.amap k' v' es c))] news β' w' → Eff P β w base [] news β' w' := fun {β' w'} hE => by
    obtain ⟨l', x', hl', _, hd', hh'⟩ : OwnRel P β' w' n (.obj (.amap k' v' es c)) := hE.turned n _ (by simp)
    have e1 : l' = l := by rw [hE.le _ _ hl] at hl'; exact (Option.some.inj hl').symm
    rw [(SObj.amap_den.1 hd').2, e1] at hh'
    refine ⟨hE.le, hE.os, hE.tape, hE.output, hE.drawn, hE.size, hE.dom, fun b hb _ => ?_, fun _ _ _ h => (by cases h), fun _ _ h => (by cases h), fun i e he => ?_, hE.apart⟩
    · by_cases c' : l.blk = b
      · rw [← c', hh, hh']
      · exact hE.frame b hb fun m e l2 hm hl2 => by
          have hm := List.mem_singleton.1 hm
          cases hm
          rw [hl] at hl2; cases hl2
          exact c'
    · obtain ⟨h1, h2, l2, h3, h4⟩ := hE.made i e he
      refine ⟨h1, h2, l2, h3, .inl ?_⟩
      rcases h4 with h4 | ⟨m, l3, h5, _⟩
      · exact h4
      · have h5 := List.mem_singleton.1 h5
        cases h5
  refine ⟨fun _ _ h => (by cases h), ?_⟩
  rcases h2 with ⟨hb, hc⟩ | ⟨v1, w1, β1, h3, h4, h5⟩
  · exact .inl ⟨hb, hc.mono fun e w' ⟨v1, β1, h3, h4, h5⟩ => ⟨v1, β1, h3, h4, key h5⟩⟩
  · exact .inr ⟨v1, w1, β1, h3, h4, key h5⟩
end Go.Sim
namespace Go.Proofs.YtoooohgejkebjaaGreatDoor.Aes
open Go.Sim
open Go.Proofs
variable {α : Type}

set_option maxRecDepth 1000000
noncomputable def ptrNm (v : SV) : Option Nat := match v with
  | .ptr ⟨nm, .lit 0⟩ => some nm
  | _ => none
theorem ptrNm_spec {v : SV} {nm : Nat} (h : ptrNm v = some nm) : v = .ptr ⟨nm, .lit 0⟩ := by
  unfold ptrNm at h
  split at h
  · cases h; rfl
  · cases h
/-- a struct of one cell -/
noncomputable def oneCl (e : SO) : Option SV := match e with
  | .own (.lst [v]) _ _ => some v
  | _ => none
theorem oneCl_spec {e : SO} {v : SV} (h : oneCl e = some v) : ∃ w el, e = .own (.lst [v]) w el := by
  unfold oneCl at h
  split at h
  · cases h; exact ⟨_, _, rfl⟩
  · cases h
theorem ten_lst {f : Nat → Nat} {v : SV} {v' : SV} {w : Bool} {el : TypeId} (h : v' = v.ren f) : TakenQ f (.row (.lst [v])) (.own (.lst [v']) w el) := by
  subst h
  exact ⟨_, .inr ⟨w, el, rfl⟩, Cells.Imp.front (Cells.imp_of_eq rfl)⟩
/-- the name of a map -/
noncomputable def mapNm (v : SV) : Option Nat :=
  SV.rec (motive_1 := fun _ => Option Nat) (motive_2 := fun _ => Unit) (fun _ _ => none) (fun _ => none) (fun _ => none) (fun _ => none) none (fun _ _ _ => none) none (fun n => some n) none (fun _ _ _ _ _ => none) none (fun _ _ _ => none) none (fun _ _ => none) (fun _ _ => none) (fun _ => none) (fun _ _ _ _ => none) () (fun _ _ _ _ => ()) v
theorem mapNm_spec {v : SV} {n : Nat} (h : mapNm v = some n) : v = .map n := by
  cases v <;> first | (cases h; done) | (cases h; rfl)
noncomputable def isNilM (v : SV) : Bool := match v with
  | .nilMap => true
  | _ => false
theorem isNilM_spec {v : SV} (h : isNilM v = true) : v = .nilMap := by
  unfold isNilM at h
  split at h
  · rfl
  · cases h
noncomputable def amapOf (e : SO) : Option ((MSh × MSh) × List MapEntry × Nat) := match e with
  | .obj (.amap k v es c) => some ((k, v), es, c)
  | _ => none
theorem amapOf_spec {e : SO} {r : (MSh × MSh) × List MapEntry × Nat} (h : amapOf e = some r) : e = .obj (.amap r.1.1 r.1.2 r.2.1 r.2.2) := by
  unfold amapOf at h
  split at h
  · cases h; rfl
  · cases h
end Go.Proofs.YtoooohgejkebjaaGreatDoor.Aes


/-
  Rules of a host map: lists of pairs in order of the first, maps of strings; plain facts.
-/
namespace Go.Proofs.YtoooohgejkebjaaGreatDoor.Aes
open Go.Sim
open Go.Proofs
variable {α : Type}

theorem isKey_iff {K : Value} {e : MapEntry} : isKey K e = true ↔ e.key = K := by unfold isKey; simp
/-- in order, none twice -/
def SoH (l : List Pr) : Prop := l.Pairwise fun a b => strLt a.1 b.1
/-- put in at its place -/
noncomputable def insH (l : List Pr) (p : Pr) : List Pr := @List.takeWhile _ (fun q => @decide (strLt q.1 p.1) (Classical.propDecidable _)) l ++ p :: @List.dropWhile _ (fun q => @decide (strLt q.1 p.1) (Classical.propDecidable _)) l
/-- taken out -/
noncomputable def delH (l : List Pr) (x : ByteArray) : List Pr := l.eraseP fun q => decide (q.1 = x)
theorem insH_pos {a : Pr} {l : List Pr} {p : Pr} (c : strLt a.1 p.1) : insH (a :: l) p = a :: insH l p := by
  unfold insH
  rw [List.takeWhile_cons_of_pos (by simpa using c), List.dropWhile_cons_of_pos (by simpa using c)]
  rfl
theorem insH_neg {a : Pr} {l : List Pr} {p : Pr} (c : ¬ strLt a.1 p.1) : insH (a :: l) p = p :: a :: l := by
  unfold insH
  rw [List.takeWhile_cons_of_neg (by simpa using c), List.dropWhile_cons_of_neg (by simpa using c)]
  rfl
theorem insH_perm (l : List Pr) (p : Pr) : (insH l p).Perm (p :: l) := by
  unfold insH
  refine List.perm_middle.trans ?_
  rw [List.takeWhile_append_dropWhile]
theorem insH_length (l : List Pr) (p : Pr) : (insH l p).length = l.length + 1 := (insH_perm l p).length_eq
theorem insH_at {l : List Pr} {p : Pr} {i : Nat} (hi : i ≤ l.length) (h1 : ∀ j (h : j < l.length), j < i → strLt l[j].1 p.1) (h2 : ∀ h : i < l.length, ¬ strLt l[i].1 p.1) : insH l p = l.take i ++ p :: l.drop i := by
  induction l generalizing i with
  | nil =>
    have : i = 0 := by simpa using hi
    subst this; rfl
  | cons a l ih =>
    cases i with
    | zero =>
      have h2' : ¬ strLt a.1 p.1 := h2 (by simp)
      rw [insH_neg h2']; rfl
    | succ i =>
      have h1' : strLt a.1 p.1 := h1 0 (by simp) (by omega)
      rw [insH_pos h1', ih (i := i) (by simpa using hi) (fun j h hj => h1 (j + 1) (by simpa using h) (by omega)) (fun h => h2 (by simpa using h))]
      rfl
theorem soH_ins {l : List Pr} {p : Pr} (h : SoH l) (hn : ∀ q ∈ l, q.1 ≠ p.1) : SoH (insH l p) := by
  induction l with
  | nil => exact List.pairwise_singleton _ _
  | cons a l ih =>
    obtain ⟨h1, h2⟩ := List.pairwise_cons.1 h
    by_cases c : strLt a.1 p.1
    · rw [insH_pos c]
      refine List.pairwise_cons.2 ⟨fun b hb => ?_, ih h2 fun q hq => hn q (by simp [hq])⟩
      rcases List.mem_cons.1 ((insH_perm l p).mem_iff.1 hb) with rfl | hb
      · exact c
      · exact h1 b hb
    · rw [insH_neg c]
      have hpa : strLt p.1 a.1 := by
        rcases strLt_tri a.1 p.1 with k | k | k
        · exact absurd k c
        · exact absurd k (hn a (by simp))
        · exact k
      refine List.pairwise_cons.2 ⟨fun b hb => ?_, h⟩
      rcases List.mem_cons.1 hb with rfl | hb
      · exact hpa
      · exact strLt_trans hpa (h1 b hb)
theorem soH_del {l : List Pr} (x : ByteArray) (h : SoH l) : SoH (delH l x) := h.sublist List.eraseP_sublist
theorem delH_at {l : List Pr} {x : ByteArray} {i : Nat} (hi : i < l.length) (h1 : ∀ j (h : j < l.length), j < i → l[j].1 ≠ x) (h2 : l[i].1 = x) : delH l x = l.take i ++ l.drop (i + 1) := by
  unfold delH
  induction l generalizing i with
  | nil => simp at hi
  | cons a l ih =>
    cases i with
    | zero =>
      have ha : a.1 = x := h2
      rw [List.eraseP_cons_of_pos (by simpa using ha)]
      rfl
    | succ i =>
      have ha : a.1 ≠ x := h1 0 (by simp) (by omega)
      rw [List.eraseP_cons_of_neg (by simpa using ha), ih (i := i) (by simpa using hi) (fun j h hj => h1 (j + 1) (by simpa using h) (by omega)) (by simpa using h2)]
      rfl
theorem delH_length {l : List Pr} {x : ByteArray} (h : ∃ p ∈ l, p.1 = x) : (delH l x).length = l.length - 1 := by
  obtain ⟨p, hp, hx⟩ := h
  unfold delH
  rw [List.length_eraseP_of_mem hp (by simpa using hx)]
/-- the pair of an entry -/
noncomputable def prE (e : MapEntry) : Pr := (vStr e.key, vStr e.val)
/-- a map of strings and its rules in order -/
structure HostOK (es : List MapEntry) (c : Nat) (l : List Pr) : Prop where
  ok : MapOK es c
  ent : ∀ e ∈ es, e.key = .string (prE e).1 ∧ e.val = .string (prE e).2
  so : SoH l
  perm : l.Perm (es.map prE)
theorem soH_inj {l : List Pr} (h : SoH l) {p q : Pr} (hp : p ∈ l) (hq : q ∈ l) (he : p.1 = q.1) : p = q := by
  induction l with
  | nil => cases hp
  | cons a l ih =>
    obtain ⟨h1, h2⟩ := List.pairwise_cons.1 h
    rcases List.mem_cons.1 hp with rfl | hp' <;> rcases List.mem_cons.1 hq with rfl | hq'
    · rfl
    · exact absurd (h1 q hq') (by rw [← he]; exact strLt_irrefl _)
    · exact absurd (h1 p hp') (by rw [he]; exact strLt_irrefl _)
    · exact ih h2 hp' hq'
theorem HostOK.len {es : List MapEntry} {c : Nat} {l : List Pr} (h : HostOK es c l) : l.length = es.length := by
  rw [h.perm.length_eq, List.length_map]
theorem HostOK.has {es : List MapEntry} {c : Nat} {l : List Pr} (h : HostOK es c l) {x : ByteArray} : hasK es (.string x) = true ↔ ∃ p ∈ l, p.1 = x := by
  unfold hasK
  rw [List.any_eq_true]
  constructor
  · rintro ⟨e, he, hk⟩
    refine ⟨prE e, h.perm.mem_iff.2 (List.mem_map.2 ⟨e, he, rfl⟩), ?_⟩
    have h1 := (h.ent e he).1
    rw [isKey_iff.1 hk] at h1
    cases h1; rfl
  · rintro ⟨p, hp, rfl⟩
    obtain ⟨e, he, rfl⟩ := List.mem_map.1 (h.perm.mem_iff.1 hp)
    exact ⟨e, he, isKey_iff.2 (h.ent e he).1⟩
theorem HostOK.get {es : List MapEntry} {c : Nat} {l : List Pr} (h : HostOK es c l) {p : Pr} (hp : p ∈ l) : getK es (.string p.1) = .string p.2 := by
  obtain ⟨j, e, _, _, h1, h2, h3⟩ := hasK_true (h.has.2 ⟨p, hp, rfl⟩)
  obtain ⟨h4, h5⟩ := h.ent e h3
  rw [h2, h5]
  have h6 : prE e = p := soH_inj h.so (h.perm.mem_iff.2 (List.mem_map.2 ⟨e, h3, rfl⟩)) hp (by
    rw [h1] at h4
    injection h4 with h4
    exact h4.symm)
  rw [h6]
theorem HostOK.ins {es : List MapEntry} {c : Nat} {l : List Pr} (h : HostOK es c l) {p : Pr} (hn : hasK es (.string p.1) = false) : HostOK (insK es c (.string p.1) (.string p.2)) (c + 1) (insH l p) := by
  have hn' : ∀ q ∈ l, q.1 ≠ p.1 := fun q hq he => by rw [h.has.2 ⟨q, hq, he⟩] at hn; cases hn
  refine ⟨⟨?_, fun e he => ?_⟩, fun e he => ?_, soH_ins h.so hn', ?_⟩
  · unfold insK
    rw [List.map_append, List.nodup_append]
    refine ⟨h.ok.nd, by simp, fun a ha b hb => ?_⟩
    obtain ⟨e, he, rfl⟩ := List.mem_map.1 ha
    have hb : b = c := by simpa using hb
    have := h.ok.lt e he
    omega
  · rcases List.mem_append.1 he with he | he
    · have := h.ok.lt e he; omega
    · obtain rfl := List.mem_singleton.1 he
      exact Nat.lt_succ_self c
  · rcases List.mem_append.1 he with he | he
    · exact h.ent e he
    · obtain rfl := List.mem_singleton.1 he
      exact ⟨rfl, rfl⟩
  · refine (insH_perm l p).trans ?_
    unfold insK
    rw [List.map_append]
    exact (List.Perm.cons p h.perm).trans (List.perm_append_singleton p (es.map prE)).symm
theorem map_delK {es : List MapEntry} (h : ∀ e ∈ es, e.key = .string (prE e).1 ∧ e.val = .string (prE e).2) (x : ByteArray) : (delK es (.string x)).map prE = delH (es.map prE) x := by
  unfold delK delH
  induction es with
  | nil => rfl
  | cons e es ih =>
    have h1 := (h e (by simp)).1
    have ih := ih fun y hy => h y (by simp [hy])
    by_cases c : (prE e).1 = x
    · rw [List.eraseP_cons_of_pos (isKey_iff.2 (by rw [h1, c])), List.map_cons, List.eraseP_cons_of_pos (by simpa using c)]
    · rw [List.eraseP_cons_of_neg (by rw [isKey_iff]; intro k; exact c (by rw [h1] at k; cases k; rfl)), List.map_cons, List.map_cons, List.eraseP_cons_of_neg (by simpa using c), ih]
theorem nodupH {l : List Pr} (h : SoH l) : l.Nodup := List.Pairwise.imp (R := fun a b : Pr => strLt a.1 b.1) (S := fun a b => a ≠ b) (fun {a b} hab e => by subst e; exact strLt_irrefl a.1 hab) h
theorem mem_delH {l : List Pr} (hn : l.Nodup) (hi : ∀ p ∈ l, ∀ q ∈ l, p.1 = q.1 → p = q) {x : ByteArray} {p : Pr} : p ∈ delH l x ↔ p ∈ l ∧ p.1 ≠ x := by
  unfold delH
  induction l with
  | nil => simp
  | cons a l ih =>
    rw [List.nodup_cons] at hn
    by_cases c : a.1 = x
    · rw [List.eraseP_cons_of_pos (by simpa using c), List.mem_cons]
      constructor
      · intro h
        refine ⟨.inr h, fun e => hn.1 ?_⟩
        rw [hi a (by simp) p (by simp [h]) (by rw [c, e])]
        exact h
      · rintro ⟨h | h, h'⟩
        · subst h; exact absurd c h'
        · exact h
    · rw [List.eraseP_cons_of_neg (by simpa using c), List.mem_cons, List.mem_cons, ih hn.2 fun p hp q hq => hi p (by simp [hp]) q (by simp [hq])]
      constructor
      · rintro (h | h)
        · exact ⟨.inl h, fun e => c (h ▸ e)⟩
        · exact ⟨.inr h.1, h.2⟩
      · rintro ⟨h | h, h'⟩
        · exact .inl h
        · exact .inr ⟨h, h'⟩
theorem HostOK.del {es : List MapEntry} {c : Nat} {l : List Pr} (h : HostOK es c l) (x : ByteArray) : HostOK (delK es (.string x)) c (delH l x) := by
  have hs : (delK es (.string x)).Sublist es := List.eraseP_sublist
  refine ⟨⟨h.ok.nd.sublist (hs.map _), fun e he => h.ok.lt e (hs.subset he)⟩, fun e he => h.ent e (hs.subset he), soH_del x h.so, ?_⟩
  rw [map_delK h.ent]
  have hn := nodupH h.so
  have hn2 : (es.map prE).Nodup := h.perm.nodup_iff.1 hn
  have hi : ∀ p ∈ l, ∀ q ∈ l, p.1 = q.1 → p = q := fun p hp q hq => soH_inj h.so hp hq
  have hi2 : ∀ p ∈ es.map prE, ∀ q ∈ es.map prE, p.1 = q.1 → p = q := fun p hp q hq => hi p (h.perm.mem_iff.2 hp) q (h.perm.mem_iff.2 hq)
  refine perm_nodup (hn.sublist List.eraseP_sublist) (hn2.sublist List.eraseP_sublist) fun p => ?_
  rw [mem_delH hn hi, mem_delH hn2 hi2, h.perm.mem_iff]
theorem HostOK.one (p : Pr) : HostOK [⟨.string p.1, .string p.2, 0⟩] 1 [p] := by
  refine ⟨⟨by simp, fun e he => ?_⟩, fun e he => ?_, List.pairwise_singleton _ _, List.Perm.refl _⟩
  · obtain rfl := List.mem_singleton.1 he; exact Nat.zero_lt_one
  · obtain rfl := List.mem_singleton.1 he; exact ⟨rfl, rfl⟩
end Go.Proofs.YtoooohgejkebjaaGreatDoor.Aes


/-
  Where a host name leads: the program's way (the first place from which it is a suffix that has a rule) and the reference's (the longest suffix of all rules that match); plain facts.
-/
namespace Go.Proofs.YtoooohgejkebjaaGreatDoor.Aes
open Go.Sim
open Go.Proofs
variable {α : Type}

/-- the rest of a string from a place on -/
noncomputable def sufA (L : ByteArray) (i : Nat) : ByteArray := L.extract i L.size
theorem sufA_size (L : ByteArray) (i : Nat) : (sufA L i).size = L.size - i := by unfold sufA; rw [ext_size]; omega
theorem byt_ext {s t : ByteArray} (h : s.size = t.size) (hb : ∀ i, i < s.size → bytN s i = bytN t i) : s = t := by
  apply ByteArray.ext
  refine Array.ext h fun i h1 h2 => ?_
  have h1' : i < s.size := h1
  have := hb i h1'
  unfold bytN at this
  rw [Array.getD_eq_getD_getElem?, Array.getD_eq_getD_getElem?, Array.getElem?_eq_getElem h1, Array.getElem?_eq_getElem h2] at this
  have this : ((s.data[i]).toBitVec.toNat : Int) = ((t.data[i]).toBitVec.toNat : Int) := this
  have e : (s.data[i]).toNat = (t.data[i]).toNat := by
    have this : (((s.data[i]).toNat : Nat) : Int) = ((t.data[i]).toNat : Int) := this
    omega
  exact UInt8.toNat_inj.1 e
theorem sufA_byt {L : ByteArray} {i j : Nat} (h : i + j < L.size) : bytN (sufA L i) j = bytN L (i + j) := ext_byt (by omega)
theorem sufA_zero (L : ByteArray) : sufA L 0 = L := ext_all L
/-- a place where a suffix may begin -/
def okAt (L : ByteArray) (i : Nat) : Prop := i = 0 ∨ bytN L (i - 1) = 46 ∨ bytN L i = 46
/-- a string ends with another -/
def endsP (L w : ByteArray) : Prop := w.size ≤ L.size ∧ sufA L (L.size - w.size) = w
/-- a rule's suffix matches, az the reference says; ds: a dot ahead of it -/
def mtP (L s ds : ByteArray) : Prop := L = s ∨ endsP L ds ∨ (bytN s 0 = 46 ∧ endsP L s)
/-- a dot ahead of a string -/
def DotP (s ds : ByteArray) : Prop := ds.size = s.size + 1 ∧ bytN ds 0 = 46 ∧ ∀ i, i < s.size → bytN ds (i + 1) = bytN s i
theorem mt_iff {L s ds : ByteArray} (hd : DotP s ds) (hs : 1 ≤ s.size) : mtP L s ds ↔ s.size ≤ L.size ∧ sufA L (L.size - s.size) = s ∧ okAt L (L.size - s.size) := by
  obtain ⟨d1, d2, d3⟩ := hd
  constructor
  · rintro (rfl | ⟨h1, h2⟩ | ⟨h0, h1, h2⟩)
    · refine ⟨Nat.le_refl _, ?_, .inl (by omega)⟩
      rw [Nat.sub_self, sufA_zero]
    · have hb : ∀ j, j < ds.size → bytN L (L.size - ds.size + j) = bytN ds j := fun j hj => by
        rw [← sufA_byt (by omega), h2]
      refine ⟨by omega, byt_ext (by rw [sufA_size]; omega) fun i hi => ?_, .inr (.inl ?_)⟩
      · rw [sufA_size] at hi
        rw [sufA_byt (by omega), ← d3 i (by omega), ← hb (i + 1) (by omega)]
        congr 1; omega
      · have := hb 0 (by omega)
        rw [d2] at this
        rw [← this]; congr 1; omega
    · refine ⟨h1, h2, .inr (.inr ?_)⟩
      rw [← h0]
      conv => rhs; rw [← h2]
      rw [sufA_byt (by omega), Nat.add_zero]
  · rintro ⟨h1, h2, h3⟩
    rcases h3 with h3 | h3 | h3
    · left
      rw [h3, sufA_zero] at h2
      exact h2
    · by_cases h0 : L.size - s.size = 0
      · left
        rw [h0, sufA_zero] at h2
        exact h2
      · refine .inr (.inl ⟨by omega, byt_ext (by rw [sufA_size]; omega) fun i hi => ?_⟩)
        rw [sufA_size] at hi
        rw [sufA_byt (by omega)]
        cases i with
        | zero => rw [d2, ← h3]; congr 1; omega
        | succ i =>
          rw [d3 i (by omega)]
          conv => rhs; rw [← h2]
          rw [sufA_byt (by omega)]
          congr 1; omega
    · refine .inr (.inr ⟨?_, h1, h2⟩)
      rw [← h3]
      conv => lhs; rw [← h2]
      rw [sufA_byt (by omega), Nat.add_zero]
/-- the longest of those that match -/
noncomputable def bestH (m : ByteArray → Prop) (l : List Pr) : Option Pr := l.foldl (fun b p => @ite _ (m p.1 ∧ ∀ q, b = some q → q.1.size < p.1.size) (Classical.propDecidable _) (some p) b) none
theorem best_app (m : ByteArray → Prop) (l : List Pr) (p : Pr) : bestH m (l ++ [p]) = @ite _ (m p.1 ∧ ∀ q, bestH m l = some q → q.1.size < p.1.size) (Classical.propDecidable _) (some p) (bestH m l) := by
  unfold bestH
  rw [List.foldl_append]
  rfl
theorem best_spec (m : ByteArray → Prop) (l : List Pr) : (bestH m l = none ∧ ∀ p ∈ l, ¬ m p.1) ∨ ∃ p, bestH m l = some p ∧ p ∈ l ∧ m p.1 ∧ ∀ q ∈ l, m q.1 → q.1.size ≤ p.1.size := by
  have key : ∀ k, k ≤ l.length → (bestH m (l.take k) = none ∧ ∀ p ∈ l.take k, ¬ m p.1) ∨ ∃ p, bestH m (l.take k) = some p ∧ p ∈ l.take k ∧ m p.1 ∧ ∀ q ∈ l.take k, m q.1 → q.1.size ≤ p.1.size := by
    intro k
    induction k with
    | zero => exact fun _ => .inl ⟨rfl, fun p hp => by simp at hp⟩
    | succ k ih =>
      intro hk
      have e : l.take (k + 1) = l.take k ++ [l[k]] := (List.take_append_getElem (by omega)).symm
      rw [e, best_app]
      rcases ih (by omega) with ⟨h1, h2⟩ | ⟨p, h1, h2, h3, h4⟩
      · by_cases c : m l[k].1
        · right
          refine ⟨l[k], by rw [if_pos ⟨c, fun q hq => by rw [h1] at hq; cases hq⟩], List.mem_append_right _ (List.mem_singleton.2 rfl), c, fun q hq hm => ?_⟩
          rcases List.mem_append.1 hq with hq | hq
          · exact absurd hm (h2 q hq)
          · rw [List.mem_singleton.1 hq]
            exact Nat.le_refl _
        · left
          refine ⟨by rw [if_neg fun h => c h.1]; exact h1, fun q hq => ?_⟩
          rcases List.mem_append.1 hq with hq | hq
          · exact h2 q hq
          · rw [List.mem_singleton.1 hq]; exact c
      · right
        by_cases c : m l[k].1 ∧ p.1.size < l[k].1.size
        · refine ⟨l[k], by rw [if_pos ⟨c.1, fun q hq => by rw [h1] at hq; cases hq; exact c.2⟩], List.mem_append_right _ (List.mem_singleton.2 rfl), c.1, fun q hq hm => ?_⟩
          rcases List.mem_append.1 hq with hq | hq
          · have := h4 q hq hm; omega
          · rw [List.mem_singleton.1 hq]
            exact Nat.le_refl _
        · refine ⟨p, by rw [if_neg fun h => c ⟨h.1, h.2 p h1⟩]; exact h1, List.mem_append_left _ h2, h3, fun q hq hm => ?_⟩
          rcases List.mem_append.1 hq with hq | hq
          · exact h4 q hq hm
          · rw [List.mem_singleton.1 hq] at hm ⊢
            by_cases c2 : p.1.size < l[k].1.size
            · exact absurd ⟨hm, c2⟩ c
            · omega
  have := key l.length (Nat.le_refl _)
  rwa [List.take_length] at this
/-- the program's first place -/
noncomputable def hitB (es : List MapEntry) (L : ByteArray) (i : Nat) : Bool := @decide (okAt L i ∧ hasK es (.string (sufA L i)) = true) (Classical.propDecidable _)
noncomputable def hpF (es : List MapEntry) (L : ByteArray) : Option Nat := (List.range L.size).find? fun i => decide (L.size - 64 ≤ i) && hitB es L i
/-- both lead to the same -/
theorem realm_same {es : List MapEntry} {c : Nat} {l : List Pr} {L : ByteArray} (h : HostOK es c l) {dot : ByteArray → ByteArray} (hd : ∀ s, DotP s (dot s)) (hl : ∀ p ∈ l, 1 ≤ p.1.size ∧ p.1.size ≤ 64) :
    (hpF es L = none ∧ bestH (fun s => mtP L s (dot s)) l = none) ∨ ∃ i p, hpF es L = some i ∧ bestH (fun s => mtP L s (dot s)) l = some p ∧ getK es (.string (sufA L i)) = .string p.2 := by
  have hm : ∀ p ∈ l, mtP L p.1 (dot p.1) ↔ p.1.size ≤ L.size ∧ sufA L (L.size - p.1.size) = p.1 ∧ okAt L (L.size - p.1.size) := fun p hp => mt_iff (hd p.1) (hl p hp).1
  have hit : ∀ p ∈ l, mtP L p.1 (dot p.1) → L.size - p.1.size < L.size ∧ (decide (L.size - 64 ≤ L.size - p.1.size) && hitB es L (L.size - p.1.size)) = true := fun p hp hmp => by
    obtain ⟨h1, h2, h3⟩ := (hm p hp).1 hmp
    obtain ⟨h4, h5⟩ := hl p hp
    refine ⟨by omega, ?_⟩
    rw [decide_eq_true (by omega), Bool.true_and]
    exact @decide_eq_true _ (Classical.propDecidable _) ⟨h3, by rw [h2]; exact h.has.2 ⟨p, hp, rfl⟩⟩
  have back : ∀ i, i < L.size → hitB es L i = true → ∃ p ∈ l, p.1 = sufA L i ∧ mtP L p.1 (dot p.1) := fun i hi hb => by
    obtain ⟨h1, h2⟩ := @of_decide_eq_true _ (Classical.propDecidable _) hb
    obtain ⟨p, hp, he⟩ := h.has.1 h2
    have hs : p.1.size = L.size - i := by rw [he, sufA_size]
    refine ⟨p, hp, he, (hm p hp).2 ⟨by omega, ?_, ?_⟩⟩
    · rw [show L.size - p.1.size = i by omega]; exact he.symm
    · rw [show L.size - p.1.size = i by omega]; exact h1
  cases hf : hpF es L with
  | none =>
    left
    refine ⟨rfl, ?_⟩
    rcases best_spec (fun s => mtP L s (dot s)) l with ⟨h1, _⟩ | ⟨p, _, h2, h3, _⟩
    · exact h1
    · obtain ⟨h4, h5⟩ := hit p h2 h3
      exact absurd h5 (List.find?_eq_none.1 hf _ (List.mem_range.2 h4))
  | some i =>
    right
    obtain ⟨h1, h2, h3⟩ := List.find?_range_eq_some.1 hf
    have hi := List.mem_range.1 h2
    obtain ⟨p, hp, he, hmp⟩ := back i hi (by
      rw [Bool.and_eq_true] at h1
      exact h1.2)
    refine ⟨i, p, rfl, ?_, by rw [← he]; exact h.get hp⟩
    rcases best_spec (fun s => mtP L s (dot s)) l with ⟨_, h5⟩ | ⟨q, h4, h5, h6, h7⟩
    · exact absurd hmp (h5 p hp)
    · rw [h4]
      congr 1
      have hs : p.1.size = L.size - i := by rw [he, sufA_size]
      have hqp : p.1.size ≤ q.1.size := h7 p hp hmp
      obtain ⟨h8, h9⟩ := hit q h5 h6
      obtain ⟨g1, g2, _⟩ := (hm q h5).1 h6
      have hge : i ≤ L.size - q.1.size := by
        by_cases c : L.size - q.1.size < i
        · have := h3 _ c
          rw [h9] at this; cases this
        · omega
      have heq : L.size - q.1.size = i := by omega
      rw [heq] at g2
      exact soH_inj h.so h5 hp (by rw [← g2, he])
end Go.Proofs.YtoooohgejkebjaaGreatDoor.Aes


/-
  Where a host name leads: ends, lower.
-/
namespace Go.Proofs.YtoooohgejkebjaaGreatDoor.Aes
open Go.Sim
open Go.Proofs
variable {α : Type}

set_option maxRecDepth 1000000
section
variable (s w : ByteArray) (i : Nat) (J : Junk) (z : Nat → Nat → Nat)
noncomputable def enT (st : Option (Nat × Nat)) : Tree := callSim (cfgP0.at st) 20000 48 [.str (.sym s), .str (.sym w)] []
noncomputable def loT (st : Option (Nat × Nat)) : Tree := callSim (cfgP0.at st) 20000 47 [.str (.sym s)] []
noncomputable def enD (c : Bool) : Prop := decide ((s.size : Int) ≥ (w.size : Int)) = c
theorem en_yes : outO [] (enT s w none) [true] = ([enD s w true, inI64 ((s.size : Int) - (w.size : Int)), (0 : Int) ≤ (s.size : Int) - (w.size : Int) ∧ (s.size : Int) - (w.size : Int) ≤ (s.size : Int)], some (.bool (.sym (decide (s.extract ((s.size : Int) - (w.size : Int)).toNat s.size = w))), [])) := by kernel_rfl
theorem en_no : outO [] (enT s w none) (repN false 10) = (repN (enD s w false) 10, some (.bool (.lit false), [])) := by kernel_rfl
end
noncomputable def enB (s w : ByteArray) : Bool := @decide (endsP s w) (Classical.propDecidable _)
noncomputable def enSm : Summ := fun args _ _ => args2 args fun v u => optC (strV v) (.stuck 7915) fun s => optC (strV u) (.stuck 7915) fun w => .need (s.den.size ≤ 9223372036854775807) (.ok ⟨.bool (.sym (enB s.den w.den)), [], []⟩)
theorem enOK : SumOK Tryz.prog 48 enSm := by
  intro glob O w0 β H w base args vs hH hG ha
  refine args2_sat fun v u hv => optC_only fun s hs => optC_only fun x hx => fun hb => ?_
  rw [hv, strV_spec hs, strV_spec hx] at ha
  have ha := impL_cons (str_imp (t := .sym s.den) rfl) (impL_cons (str_imp (t := .sym x.den) rfl) impL_nil) _ _ ha
  show SumSem Tryz.prog H β w base _ vs ⟨.bool (.sym (enB s.den x.den)), [], []⟩
  generalize s.den = s at ha hb ⊢
  generalize x.den = x at ha ⊢
  have go : ∀ {ds ps b'}, outO [] (enT s x none) ds = (ps, some (.bool b', [])) → (∀ p ∈ ps, p) → b'.den = enB s x → SumSem Tryz.prog H β w base 48 vs ⟨.bool (.sym (enB s x)), [], []⟩ := fun hr hp hb => sum_runQ cfgP0OK 20000 hH ⟨[], [], [.str (.sym s), .str (.sym x)]⟩ (by intro g j hg; cases hg) ha (fits0 rfl).q [] (by simp) (by simp) (outO_ob hr hp fun H2 _ => bool_ends rfl ⟨_, rfl, hb⟩)
  by_cases h : x.size ≤ s.size
  · refine go (en_yes s x) (all_cons (decide_eq_true (by omega)) (all_cons ⟨by omega, by omega⟩ (all_cons ⟨by omega, by omega⟩ all_nil))) ?_
    show decide (s.extract ((s.size : Int) - (x.size : Int)).toNat s.size = x) = _
    rw [show ((s.size : Int) - (x.size : Int)).toNat = s.size - x.size by omega]
    unfold enB
    by_cases h2 : sufA s (s.size - x.size) = x
    · rw [@decide_eq_true (endsP s x) (Classical.propDecidable _) ⟨h, h2⟩]; exact decide_eq_true h2
    · rw [@decide_eq_false (endsP s x) (Classical.propDecidable _) fun k => h2 k.2]; exact decide_eq_false h2
  · exact go (en_no s x) (rep_all (decide_eq_false (by omega)) 10) (@decide_eq_false (endsP s x) (Classical.propDecidable _) fun k => h k.1).symm
end Go.Proofs.YtoooohgejkebjaaGreatDoor.Aes


/-
  Where a host name leads: lower.
-/
namespace Go.Proofs.YtoooohgejkebjaaGreatDoor.Aes
open Go.Sim
open Go.Proofs
variable {α : Type}

set_option maxRecDepth 1000000
noncomputable def keepT (T : List SV) (l : List Nat) : List (Nat × SV) := mapN (fun i => (i, (nth T i).getD undefS)) l
section
variable (s : ByteArray) (X : Nat → BitVec 8) (i : Nat) (J : Junk) (z : Nat → Nat → Nat)
noncomputable def loT0 : List SV := optC (nth (stopOf (loT s (some (1, 3))) []).frames 0) [] fun f => f.tmps
noncomputable def loC : Cut := ⟨bareFs (stopOf (loT s (some (1, 3))) []).frames [app (keepT (loT0 s) [3]) [(4, .int .i64 (.sym i))]], [.ent (.own (.fn (byteF X) s.size) false 5)]⟩
noncomputable def loS (st : Option (Nat × Nat)) : Tree := sim1 (cfgP0.at st) 20000 ((loC s X i).fill J)
noncomputable def sX : Nat → BitVec 8 := fun i => (s.data.getD i 0).toBitVec
noncomputable def loI (q : List Prop) : List Prop := (decide ((i : Int) < (s.size : Int)) = true) :: ((0 : Int) ≤ (i : Int) ∧ (i : Int) < (s.size : Int)) :: (0 + i * 1 < s.size) :: q
noncomputable def loB (q : List Prop) : List Prop := ((0 : Int) ≤ (i : Int) ∧ (i : Int) < (s.size : Int)) :: (0 + i * 1 < s.size) :: q
noncomputable def loN : Int := ((X (0 + i * 1)).toNat : Int)
theorem lo_t0 : outL [] (loC s X i) [0] (loS s X i J (some (1, 3))) (true :: repN false 6) z = (loI s i (app (repN (decide (loN X i ≥ 65) = false) 6) [inI64 ((i : Int) + 1)]), some (.inr (seenC [0] 1 (loC s X (i + 1))))) := by kernel_rfl
theorem lo_t1 : outL [] (loC s X i) [0] (loS s X i J (some (1, 3))) [true, true, false] z = (loI s i ((decide (loN X i ≥ 65) = true) :: loB s i [decide (loN X i ≤ 90) = false, inI64 ((i : Int) + 1)]), some (.inr (seenC [0] 1 (loC s X (i + 1))))) := by kernel_rfl
noncomputable def loX : Nat → BitVec 8 := fun j => if j = 0 + i * 1 then X (0 + i * 1) + 32#8 else X j
theorem lo_t2 : outL [] (loC s X i) [0] (loS s X i J (some (1, 3))) [true, true, true] z = (loI s i ((decide (loN X i ≥ 65) = true) :: loB s i ((decide (loN X i ≤ 90) = true) :: loB s i (loB s i [inI64 ((i : Int) + 1)]))), some (.inr (setSeen 0 (.ent (.own (.fn (fun j => if j = 0 + i * 1 then .int .u8 (.b8 (X (0 + i * 1) + 32#8)) else byteF X j) s.size) false 5)) (seenC [0] 1 (loC s (loX X i) (i + 1)))))) := by kernel_rfl
theorem lo_end : outL [] (loC s X i) [0] (loS s X i J none) [false] z = ([decide ((i : Int) < (s.size : Int)) = false, 0 + s.size ≤ s.size ∧ ∀ i, i < s.size → isByte (byteF X (0 + i))], some (.inl (.str (.sym (strOfFn (byteF X) 0 s.size)), []))) := by kernel_rfl
theorem lo_init : outL [] (loC s (sX s) 0) [0] (loT s (some (1, 3))) [] z = ([], some (.inr (modSeen [(0, 4, .int .i64 (.lit 0))] [] (seenC [0] 1 (loC s (sX s) 0))))) := by kernel_rfl
theorem lo_names (Y : Nat → BitVec 8) (j : Nat) : boolC (namesOK 0 [0] (loC s X i) (loC s Y j)) (allN noLoopE (loC s Y j).heap) false = true := by kernel_rfl
theorem lo_tmp : (((loC s X i).frames[0]?).bind fun p => p.tmps[4]?) = some (some (.int .i64 (.sym i))) := by kernel_rfl
end
end Go.Proofs.YtoooohgejkebjaaGreatDoor.Aes


/-
  Where a host name leads: lower's summary.
-/
namespace Go.Proofs.YtoooohgejkebjaaGreatDoor.Aes
open Go.Sim
open Go.Proofs
variable {α : Type}

set_option maxRecDepth 1000000
theorem lo_t2' (s : ByteArray) (X : Nat → BitVec 8) (i : Nat) (J : Junk) (z : Nat → Nat → Nat) : outL [] (loC s X i) [0] (loS s X i J (some (1, 3))) [true, true, true] z = (loI s i ((decide (loN X i ≥ 65) = true) :: loB s i ((decide (loN X i ≤ 90) = true) :: loB s i (loB s i [inI64 ((i : Int) + 1)]))), some (.inr (seenC [0] 1 (loC s (loX X i) (i + 1))))) := by
  have e : (fun j => if j = 0 + i * 1 then SV.int .u8 (.b8 (X (0 + i * 1) + 32#8)) else byteF X j) = byteF (loX X i) := funext fun j => by
    unfold byteF loX
    by_cases c : j = 0 + i * 1
    · rw [if_pos c, if_pos c]
    · rw [if_neg c, if_neg c]
  have h := lo_t2 s X i J z
  rw [e] at h
  refine h.trans ?_
  kernel_rfl
/-- a small letter for a capital one -/
def low8 (x : BitVec 8) : BitVec 8 := if 65 ≤ x.toNat ∧ x.toNat ≤ 90 then x + 32#8 else x
noncomputable def loZ (s : ByteArray) (i : Nat) : Nat → BitVec 8 := fun j => if j < i then low8 (sX s j) else sX s j
noncomputable def lowS (s : ByteArray) : ByteArray := strOfFn (byteF fun j => low8 (sX s j)) 0 s.size
theorem loZ_zero (s : ByteArray) : loZ s 0 = sX s := funext fun j => if_neg (by omega)
theorem loZ_same {s : ByteArray} {i : Nat} (h : ¬ (65 ≤ (sX s i).toNat ∧ (sX s i).toNat ≤ 90)) : loZ s (i + 1) = loZ s i := funext fun j => by
  unfold loZ
  by_cases c : j < i
  · rw [if_pos c, if_pos (by omega)]
  · by_cases c2 : j = i
    · subst c2
      rw [if_pos (by omega), if_neg c]
      unfold low8
      rw [if_neg h]
    · rw [if_neg c, if_neg (by omega)]
theorem loZ_next {s : ByteArray} {i : Nat} (h : 65 ≤ (sX s i).toNat ∧ (sX s i).toNat ≤ 90) : loZ s (i + 1) = loX (loZ s i) i := funext fun j => by
  show (if j < i + 1 then low8 (sX s j) else sX s j) = (if j = 0 + i * 1 then (if 0 + i * 1 < i then low8 (sX s (0 + i * 1)) else sX s (0 + i * 1)) + 32#8 else (if j < i then low8 (sX s j) else sX s j))
  by_cases c2 : j = i
  · subst c2
    rw [if_pos (by omega), if_pos (by omega), if_neg (by omega), show 0 + j * 1 = j by omega]
    unfold low8
    rw [if_pos h]
  · rw [if_neg (show ¬ j = 0 + i * 1 by omega)]
    by_cases c : j < i
    · rw [if_pos c, if_pos (by omega)]
    · rw [if_neg c, if_neg (by omega)]
theorem loZ_end (s : ByteArray) : loZ s s.size = fun j => low8 (sX s j) := funext fun j => by
  unfold loZ
  by_cases c : j < s.size
  · rw [if_pos c]
  · rw [if_neg c]
    have : sX s j = 0#8 := by
      unfold sX
      have h : s.data.size ≤ j := by have : s.size = s.data.size := rfl; omega
      rw [Array.getD_eq_getD_getElem?, Array.getElem?_eq_none h]; rfl
    rw [this]; rfl
theorem loN_at (s : ByteArray) (i : Nat) : loN (loZ s i) i = ((sX s i).toNat : Int) := by
  unfold loN loZ
  rw [if_neg (by omega), show 0 + i * 1 = i by omega]
theorem lo_runs (s : ByteArray) (hb : s.size ≤ 9223372036854775807) : Runs cfgP0 47 [.str (.sym s)] [] fun v _ => v = .str (.sym (lowS s)) := by
  refine runs_by cfgP0OK (fun i => loC s (loZ s i) i) (fun i => i ≤ s.size) (fun i => s.size - i) (fun g nm hg => by cases hg) ?_ fun i hi J => ?_
  · refine to_startM (ms := [(0, 4, .int .i64 (.lit 0))]) (es := []) (ds := []) (names := [0]) (N := 1) (M := loC s (sX s) 0) (some (1, 3)) 20000 0 (Nat.zero_le _) (fun z => ?_) (lo_names s (sX s) 0 (loZ s 0) 0) (fun q hq p u hp hu => ?_) (fun e he => by cases he) all_nil
    · rw [loZ_zero]; exact lo_init s z
    · obtain rfl : q = (0, 4, .int .i64 (.lit 0)) := by simpa using hq
      exact tmp_set (lo_tmp s (loZ s 0) 0) hp hu (int_impS rfl)
  by_cases hin : i < s.size
  · have h64 : inI64 ((i : Int) + 1) := ⟨by omega, by omega⟩
    have hI : ∀ {q : List Prop}, (∀ p ∈ q, p) → ∀ p ∈ loI s i q, p := fun hq => all_cons (decide_eq_true (by omega)) (all_cons ⟨by omega, by omega⟩ (all_cons (by omega) hq))
    have hB : ∀ {q : List Prop}, (∀ p ∈ q, p) → ∀ p ∈ loB s i q, p := fun hq => all_cons ⟨by omega, by omega⟩ (all_cons (by omega) hq)
    have hn := loN_at s i
    by_cases a1 : 65 ≤ (sX s i).toNat
    · by_cases a2 : (sX s i).toNat ≤ 90
      · have hp : ∀ p ∈ loI s i ((decide (loN (loZ s i) i ≥ 65) = true) :: loB s i ((decide (loN (loZ s i) i ≤ 90) = true) :: loB s i (loB s i [inI64 ((i : Int) + 1)]))), p := hI (all_cons (decide_eq_true (by omega)) (hB (all_cons (decide_eq_true (by omega)) (hB (hB (all_cons h64 all_nil))))))
        refine to_turn (ds := [true, true, true]) (names := [0]) (N := 1) (M := loC s (loZ s i) i) (some (1, 3)) 20000 (i + 1) ⟨hin, by omega⟩ (fun z => ?_) (lo_names s (loZ s i) i (loZ s (i + 1)) (i + 1)) hp
        rw [loZ_next ⟨a1, a2⟩]; exact lo_t2' s (loZ s i) i J z
      · have hp : ∀ p ∈ loI s i ((decide (loN (loZ s i) i ≥ 65) = true) :: loB s i [decide (loN (loZ s i) i ≤ 90) = false, inI64 ((i : Int) + 1)]), p := hI (all_cons (decide_eq_true (by omega)) (hB (all_cons (decide_eq_false (by omega)) (all_cons h64 all_nil))))
        refine to_turn (ds := [true, true, false]) (names := [0]) (N := 1) (M := loC s (loZ s i) i) (some (1, 3)) 20000 (i + 1) ⟨hin, by omega⟩ (fun z => ?_) (lo_names s (loZ s i) i (loZ s (i + 1)) (i + 1)) hp
        rw [loZ_same fun h => a2 h.2]; exact lo_t1 s (loZ s i) i J z
    · have hp : ∀ p ∈ loI s i (app (repN (decide (loN (loZ s i) i ≥ 65) = false) 6) [inI64 ((i : Int) + 1)]), p := hI (app_all (rep_all (decide_eq_false (by omega)) 6) (all_cons h64 all_nil))
      refine to_turn (ds := (true :: repN false 6)) (names := [0]) (N := 1) (M := loC s (loZ s i) i) (some (1, 3)) 20000 (i + 1) ⟨hin, by omega⟩ (fun z => ?_) (lo_names s (loZ s i) i (loZ s (i + 1)) (i + 1)) hp
      rw [loZ_same fun h => a1 h.1]; exact lo_t0 s (loZ s i) i J z
  · have e : i = s.size := by omega
    subst e
    refine to_end none 20000 (fun z => lo_end s (loZ s s.size) s.size J z) (all_cons (decide_eq_false (by omega)) (all_cons ⟨by omega, fun i _ => trivial⟩ all_nil)) fun H _ => ?_
    rw [loZ_end]; rfl
noncomputable def loSm : Summ := fun args _ _ => args1 args fun v => optC (strV v) (.stuck 7916) fun s => .need (s.den.size ≤ 9223372036854775807) (.ok ⟨.str (.sym (lowS s.den)), [], []⟩)
theorem loOK : SumOK Tryz.prog 47 loSm := by
  intro glob O w0 β H w base args vs hH hG ha
  refine args1_sat fun v hv => optC_only fun s hs => fun hb => ?_
  rw [hv, strV_spec hs] at ha
  have ha := impL_cons (str_imp (t := .sym s.den) rfl) impL_nil _ _ ha
  show SumSem Tryz.prog H β w base _ vs ⟨.str (.sym (lowS s.den)), [], []⟩
  generalize s.den = s at ha hb ⊢
  exact sum_runsQ (c := cfgP0) hH ⟨[], [], [.str (.sym s)]⟩ (by intro g j hg; cases hg) ha (fits0 rfl).q [] (by simp) (by simp) (runs_mono (lo_runs s hb) fun v H h => by
    subst h
    exact ⟨.refl _, rfl, trivial, trivial⟩)
/- Its bytes. -/
theorem lowS_size (s : ByteArray) : (lowS s).size = s.size := by
  show (List.toArray _).size = _
  simp
end Go.Proofs.YtoooohgejkebjaaGreatDoor.Aes


/-
  The program's rules: where a host name leads.
-/
namespace Go.Proofs.YtoooohgejkebjaaGreatDoor.Aes
open Go.Sim
open Go.Proofs
variable {α : Type}

set_option maxRecDepth 1000000
noncomputable def kSt : MSh := ⟨false, [.s]⟩
section
variable (mn : Bool) (es : List MapEntry) (c : Nat) (x : ByteArray) (X : Nat → BitVec 8) (i : Nat) (J : Junk) (z : Nat → Nat → Nat)
noncomputable def prH : List SO := .row (.lst [boolC mn .nilMap (.map 1)]) :: boolC mn [] [.obj (.amap kSt kSt es c)]
noncomputable def prG : List HP := .ent (.row (.lst [boolC mn .nilMap (.map 1)])) :: boolC mn [] [.ent (.obj (.amap kSt kSt es c))]
noncomputable def prT (st : Option (Nat × Nat)) : Tree := callSim (cfgP0.at st) 20000 18 [.ptr ⟨0, .lit 0⟩, .str (.sym x)] (prH mn es c)
noncomputable def prT0 : List SV := optC (nth (stopOf (prT mn es c x (some (1, 3))) []).frames 0) [] fun f => f.tmps
noncomputable def prC : Cut := ⟨bareFs (stopOf (prT mn es c x (some (1, 3))) []).frames [app (keepT (prT0 mn es c x) [0, 6, 17]) [(18, .int .i64 (.sym (x.size : Int))), (19, .int .i64 (.sym i))]], app (prG mn es c) [.ent (.own (.fn (byteF X) x.size) false 5)]⟩
noncomputable def prS (st : Option (Nat × Nat)) : Tree := sim1 (cfgP0.at st) 20000 ((prC mn es c x X i).fill J)
noncomputable def pr3 : List Nat := boolC mn [0, 1] [0, 1, 2]
noncomputable def prN : Nat := boolC mn 2 3
theorem pr_t0 : outL [] (prC mn es c x X i) (pr3 mn) (prS mn es c x X i J (some (1, 3))) (true :: repN false 3) z = (loI x i (app (repN (decide (loN X i ≥ 65) = false) 3) [inI64 ((i : Int) + 1)]), some (.inr (seenC (pr3 mn) (prN mn) (prC mn es c x X (i + 1))))) := by cases mn <;> kernel_rfl
theorem pr_t1 : outL [] (prC mn es c x X i) (pr3 mn) (prS mn es c x X i J (some (1, 3))) [true, true, false] z = (loI x i [decide (loN X i ≥ 65) = true, decide (loN X i ≤ 90) = false, inI64 ((i : Int) + 1)], some (.inr (seenC (pr3 mn) (prN mn) (prC mn es c x X (i + 1))))) := by cases mn <;> kernel_rfl
theorem pr_init : outL [] (prC mn es c x (sX x) 0) (pr3 mn) (prT mn es c x (some (1, 3))) [] z = ([], some (.inr (modSeen [(0, 19, .int .i64 (.lit 0))] [] (seenC (pr3 mn) (prN mn) (prC mn es c x (sX x) 0))))) := by cases mn <;> kernel_rfl
theorem pr_names (Y : Nat → BitVec 8) (j : Nat) : boolC (namesOK (lenN (prH mn es c)) (pr3 mn) (prC mn es c x X i) (prC mn es c x Y j)) (allN noLoopE (prC mn es c x Y j).heap) false = true := by cases mn <;> kernel_rfl
theorem pr_t2 : outL [] (prC mn es c x X i) (pr3 mn) (prS mn es c x X i J (some (1, 3))) [true, true, true] z = (loI x i ((decide (loN X i ≥ 65) = true) :: (decide (loN X i ≤ 90) = true) :: loB x i [inI64 ((i : Int) + 1)]), some (.inr (setSeen (boolC mn 1 2) (.ent (.own (.fn (fun j => if j = 0 + i * 1 then .int .u8 (.b8 (X (0 + i * 1) - 65#8 + 97#8)) else byteF X j) x.size) false 5)) (seenC (pr3 mn) (prN mn) (prC mn es c x (loX X i) (i + 1)))))) := by cases mn <;> kernel_rfl
theorem pr_tmp : (((prC mn es c x X i).frames[0]?).bind fun p => p.tmps[19]?) = some (some (.int .i64 (.sym i))) := by cases mn <;> kernel_rfl
end
end Go.Proofs.YtoooohgejkebjaaGreatDoor.Aes


/-
  The reference's rules: find.
-/
namespace Go.Proofs.YtoooohgejkebjaaGreatDoor.Aes
open Go.Sim
open Go.Proofs
variable {α : Type}

set_option maxRecDepth 1000000
section
variable (V : Nat → Value) (N n : Nat) (b : Bool) (k : Nat) (x : ByteArray) (i : Nat) (J : Junk) (z : Nat → Nat → Nat)
noncomputable def fdT (st : Option (Nat × Nat)) : Tree := callSim (cfgP0.at st) 20000 45 [slQ 0 n b k, .str (.sym x)] [rwV V N]
noncomputable def fdC : Cut := ⟨bareFs (stopOf (fdT V N n b k x (some (1, 3))) []).frames [[(0, slQ 0 n b k), (1, .str (.sym x)), (5, .int .i64 (.sym i))]], [.ent (rwV V N)]⟩
noncomputable def fdS (st : Option (Nat × Nat)) : Tree := sim1 (cfgP0.at st) 20000 ((fdC V N n b k x i).fill J)
noncomputable def fdP (q : List Prop) : List Prop := (decide ((i : Int) < (n : Int)) = true) :: ((0 : Int) ≤ (i : Int) ∧ (i : Int) < (n : Int)) :: (0 + i * 2 + 0 < N * 2) :: fitK .s (V (0 + i * 2 + 0)) :: q
noncomputable def fdE (c : Bool) : Prop := decide (vStr (V (0 + i * 2 + 0)) = x) = c
theorem fd_init : outL [] (fdC V N n b k x 0) [0] (fdT V N n b k x (some (1, 3))) [] z = ([], some (.inr (modSeen [(0, 5, .int .i64 (.lit 0))] [] (seenC [0] 1 (fdC V N n b k x 0))))) := by cases b <;> kernel_rfl
theorem fd_turn : outL [] (fdC V N n b k x i) [0] (fdS V N n b k x i J (some (1, 3))) [true, false] z = (fdP V N n i [fdE V x i false, inI64 ((i : Int) + 1)], some (.inr (seenC [0] 1 (fdC V N n b k x (i + 1))))) := by cases b <;> kernel_rfl
theorem fd_yes : outL [] (fdC V N n b k x i) [0] (fdS V N n b k x i J none) [true, true] z = (fdP V N n i [fdE V x i true], some (.inl (.int .i64 (.sym (i : Int)), []))) := by cases b <;> kernel_rfl
theorem fd_end : outL [] (fdC V N n b k x i) [0] (fdS V N n b k x i J none) [false] z = ([decide ((i : Int) < (n : Int)) = false], some (.inl (.int .i64 (.lit (-1)), []))) := by cases b <;> kernel_rfl
theorem fd_names (j : Nat) : boolC (namesOK 1 [0] (fdC V N n b k x i) (fdC V N n b k x j)) (allN noLoopE (fdC V N n b k x j).heap) false = true := by cases b <;> kernel_rfl
theorem fd_tmp : (((fdC V N n b k x i).frames[0]?).bind fun p => p.tmps[5]?) = some (some (.int .i64 (.sym i))) := by cases b <;> kernel_rfl
end
/-- a rule with this suffix; where -/
def Pw.hasX (t : Pw) (x : ByteArray) : Prop := ∃ p ∈ t.list, p.1 = x
noncomputable def Pw.ix (t : Pw) (x : ByteArray) : Nat := ((List.range t.n).find? fun i => decide ((prAt t.V i).1 = x)).getD 0
theorem Pw.hasX_iff {t : Pw} {x : ByteArray} : t.hasX x ↔ ∃ i, i < t.n ∧ (prAt t.V i).1 = x := by
  unfold Pw.hasX Pw.list prL
  constructor
  · rintro ⟨p, hp, he⟩
    obtain ⟨i, hi, rfl⟩ := List.mem_map.1 hp
    exact ⟨i, List.mem_range.1 hi, he⟩
  · rintro ⟨i, hi, he⟩
    exact ⟨_, List.mem_map.2 ⟨i, List.mem_range.2 hi, rfl⟩, he⟩
theorem Pw.ix_of {t : Pw} {x : ByteArray} {i : Nat} (hi : i < t.n) (h : (prAt t.V i).1 = x) (hm : ∀ j, j < i → (prAt t.V j).1 ≠ x) : t.ix x = i := by
  unfold Pw.ix
  have : (List.range t.n).find? (fun i => decide ((prAt t.V i).1 = x)) = some i := List.find?_range_eq_some.2 ⟨by simpa using h, List.mem_range.2 hi, fun j hj => by simpa using hm j hj⟩
  rw [this]; rfl
theorem Pw.ix_spec {t : Pw} {x : ByteArray} (h : t.hasX x) : t.ix x < t.n ∧ (prAt t.V (t.ix x)).1 = x ∧ ∀ j, j < t.ix x → (prAt t.V j).1 ≠ x := by
  obtain ⟨i, hi, he⟩ := Pw.hasX_iff.1 h
  unfold Pw.ix
  cases hf : (List.range t.n).find? (fun i => decide ((prAt t.V i).1 = x)) with
  | none => exact absurd he (by simpa using List.find?_eq_none.1 hf i (List.mem_range.2 hi))
  | some m =>
    obtain ⟨h1, h2, h3⟩ := List.find?_range_eq_some.1 hf
    exact ⟨List.mem_range.1 h2, by simpa using h1, fun j hj => by simpa using h3 j hj⟩
theorem fdP_all {t : Pw} {i : Nat} (ht : t.ok) (h : i < t.n) {q : List Prop} (hq : ∀ p ∈ q, p) : ∀ p ∈ fdP t.V t.N t.n i q, p := by
  have := ht.1
  exact all_cons (decide_eq_true (by omega)) (all_cons ⟨by omega, by omega⟩ (all_cons (by omega) (all_cons (fit2_of ht.2.2 h).1 hq)))
theorem fdE_of {V : Nat → Value} {i : Nat} {x : ByteArray} {c : Bool} : fdE V x i c ↔ decide ((prAt V i).1 = x) = c := by
  unfold fdE prAt
  rw [Nat.zero_add, Nat.add_zero]
def fdD (t : Pw) (x : ByteArray) (v : SV) (_ : List SO) : Prop := (t.hasX x ∧ v = .int .i64 (.sym (t.ix x : Int))) ∨ (¬ t.hasX x ∧ v = .int .i64 (.lit (-1)))
theorem fd_runs {t : Pw} (b : Bool) (k : Nat) (x : ByteArray) (ht : t.ok) : Runs cfgP0 45 [slQ 0 t.n b k, .str (.sym x)] [t.row] (fdD t x) := by
  have hn := ht.2.1
  refine runs_by cfgP0OK (fdC t.V t.N t.n b k x) (fun i => i ≤ t.n ∧ ∀ j, j < i → (prAt t.V j).1 ≠ x) (fun i => t.n - i) (fun g nm hg => by cases hg) ?_ fun i ⟨hi, ho⟩ J => ?_
  · refine to_startM (some (1, 3)) 20000 0 ⟨Nat.zero_le _, fun j hj => by omega⟩ (fd_init t.V t.N t.n b k x) (fd_names t.V t.N t.n b k x 0 0) (fun q hq p u hp hu => ?_) (fun e he => by cases he) all_nil
    obtain rfl : q = (0, 5, .int .i64 (.lit 0)) := by simpa using hq
    exact tmp_set (fd_tmp t.V t.N t.n b k x 0) hp hu (int_impS rfl)
  by_cases hin : i < t.n
  · by_cases hp : (prAt t.V i).1 = x
    · refine to_end none 20000 (fd_yes t.V t.N t.n b k x i J) (fdP_all ht hin (all_cons (fdE_of.2 (decide_eq_true hp)) all_nil)) fun H _ => .inl ⟨Pw.hasX_iff.2 ⟨i, hin, hp⟩, ?_⟩
      rw [Pw.ix_of hin hp ho]
    · refine to_turn (some (1, 3)) 20000 (i + 1) ⟨⟨by omega, fun j hj => ?_⟩, by omega⟩ (fd_turn t.V t.N t.n b k x i J) (fd_names t.V t.N t.n b k x i (i + 1)) (fdP_all ht hin (all_cons (fdE_of.2 (decide_eq_false hp)) (all_cons ⟨by omega, by omega⟩ all_nil)))
      by_cases c : j < i
      · exact ho j c
      · obtain rfl : j = i := by omega
        exact hp
  · exact to_end none 20000 (fd_end t.V t.N t.n b k x i J) (all_cons (decide_eq_false (by omega)) all_nil) fun H _ => .inr ⟨fun h => by
      obtain ⟨j, hj, he⟩ := Pw.hasX_iff.1 h
      exact ho j (by omega) he, rfl⟩
noncomputable def fdSm : Summ := fun args H _ => args2 args fun v xv => optC (strV xv) (.stuck 7912) fun x => partQ H v fun t _ _ _ => .need t.ok (.fork (cB (t.hasX x.den)) (.ok ⟨.int .i64 (.sym (t.ix x.den : Int)), [], []⟩) (.ok ⟨.int .i64 (.lit (-1)), [], []⟩))
theorem fdOK : SumOK Tryz.prog 45 fdSm := by
  intro glob O w0 β H w base args vs hH hG ha
  refine args2_sat fun v xv hv => optC_only fun x hx => ?_
  rw [hv, strV_spec hx] at ha
  have ha := impL_cons (.refl v) (impL_cons (str_imp (t := .sym x.den) rfl) impL_nil) _ _ ha
  generalize x.den = x at ha ⊢
  refine partQ_sat fun t nm b k ht hi hok => ?_
  have ha := impL_cons hi (SV.ImpL.refl _) _ _ ha
  let I : Ifc := ⟨[nm], [t.row], [slQ 0 t.n b k, .str (.sym x)]⟩
  have ha : SV.denL β (SV.renL I.big I.args) = some vs := by
    show SV.denL β [(slQ 0 t.n b k).ren _, _] = _
    rw [slQ_ren]; exact ha
  have hF : I.FitsQ H := Ifc.fitsQ (by simp [I]) (by
    show ((slQ 0 t.n b k).uses _ && _) = true
    rw [slQ_uses _ _ _ _ _ rfl]; rfl) ⟨⟨(let ⟨e, h1, h2⟩ := ht _; ⟨e, h1, h2.q⟩), (t.row_uses _).q⟩, trivial⟩
  have go : ∀ {v}, (∀ v', fdD t x v' [] → v' = v) → (∀ f, v.ren f = v) → (∀ p, v.uses p = true) → SumSem Tryz.prog H β w base 45 vs ⟨v, [], []⟩ := fun {v} hv hr hu =>
    sum_runsQ (c := cfgP0) hH I (by intro g j hg; cases hg) ha hF [] (by simp) (by simp) (runs_mono (fd_runs b k x hok) fun v' H2 h => by
      obtain rfl := hv v' h
      exact ⟨by rw [hr]; exact .refl _, hu _, trivial, trivial⟩)
  refine ⟨fun h => ?_, fun h => ?_⟩
  · have h := cBi.1 h
    exact go (fun v' hd => by rcases hd with ⟨_, rfl⟩ | ⟨h', _⟩; exact rfl; exact absurd h h') (fun _ => rfl) fun _ => rfl
  · have h : ¬ t.hasX x := fun k => by rw [cB_true k] at h; cases h
    exact go (fun v' hd => by rcases hd with ⟨h', _⟩ | ⟨_, rfl⟩; exact absurd h' h; exact rfl) (fun _ => rfl) fun _ => rfl
end Go.Proofs.YtoooohgejkebjaaGreatDoor.Aes


/-
  The reference's rules: where a host name leads.
-/
namespace Go.Proofs.YtoooohgejkebjaaGreatDoor.Aes
open Go.Sim
open Go.Proofs
variable {α : Type}

set_option maxRecDepth 1000000
noncomputable def rlH2 : List (FuncId × Summ) := [(47, loSm), (48, enSm)]
theorem rlH2OK : ∀ y ∈ rlH2, SumOK Tryz.prog y.1 y.2 := allC loOK (all1 enOK)
noncomputable def cfgH2 : Cfg := cfgOf (sumsOf rlH2)
theorem cfgH2OK : CfgOK cfgH2 := sumsOf_ok rlH2OK
section
variable (V : Nat → Value) (N n : Nat) (b : Bool) (k : Nat) (x : ByteArray) (i : Nat) (J : Junk) (z : Nat → Nat → Nat)
noncomputable def rrT (st : Option (Nat × Nat)) : Tree := callSim (cfgH2.at st) 20000 22 [slQ 0 n b k, .str (.sym x)] [rwV V N]
variable (L : ByteArray) (be : Int)
noncomputable def rrC : Cut := ⟨bareFs (stopOf (rrT V N n b k L (some (1, 3))) []).frames [[(0, slQ 0 n b k), (1, .str (.sym L)), (6, .int .i64 (.sym be)), (7, .int .i64 (.sym i))]], [.ent (rwV V N)]⟩
noncomputable def rrS (st : Option (Nat × Nat)) : Tree := sim1 (cfgH2.at st) 20000 ((rrC V N n b k i L be).fill J)
noncomputable def rrI : ByteArray := vStr (V (0 + i * 2 + 0))
noncomputable def dotS (s : ByteArray) : ByteArray := (⟨#[46]⟩ : ByteArray) ++ s
noncomputable def rrQ (c : Bool) : Prop := decide (L = rrI V i) = c
noncomputable def rrF (q : List Prop) : List Prop := rrQ V i L false :: (1 + (rrI V i).size ≤ 9223372036854775807) :: (L.size ≤ 9223372036854775807) :: q
noncomputable def rrG (q : List Prop) : List Prop := rrF V i L ((enB L (dotS (rrI V i)) = false) :: ((0 : Int) ≤ 0 ∧ (0 : Int) < ((rrI V i).size : Int)) :: q)
noncomputable def rrDot (c : Bool) : Prop := (bytN (rrI V i) 0 == 46) = c
theorem rr_end0 (z : Nat → Nat → Nat) : outL [] (rrC V N n b k i L be) [0] (rrS V N n b k i J L be none) [false, true] z = ([decide ((i : Int) < (n : Int)) = false, decide (be < 0) = true], some (.inl (.tuple [.str (.lit ⟨#[]⟩), .int .i64 (.lit 9)], []))) := by cases b <;> kernel_rfl
theorem rr_end1 (z : Nat → Nat → Nat) : outL [] (rrC V N n b k i L be) [0] (rrS V N n b k i J L be none) [false, false] z = ([decide ((i : Int) < (n : Int)) = false, decide (be < 0) = false, (0 : Int) ≤ be ∧ be < (n : Int), 0 + be.toNat * 2 + 1 < N * 2, fitK .s (V (0 + be.toNat * 2 + 1))], some (.inl (.tuple [.str (.sym (vStr (V (0 + be.toNat * 2 + 1)))), .int .i64 (.lit 0)], []))) := by cases b <;> kernel_rfl
theorem rr_n3 (z : Nat → Nat → Nat) : outL [] (rrC V N n b k i L be) [0] (rrS V N n b k i J L be (some (1, 3))) [true, false, false, true, false] z = (fdP V N n i (rrG V i L [rrDot V i true, L.size ≤ 9223372036854775807, enB L (rrI V i) = false, inI64 ((i : Int) + 1)]), some (.inr (seenC [0] 1 (rrC V N n b k (i + 1) L be)))) := by cases b <;> kernel_rfl
theorem rr_n4 (z : Nat → Nat → Nat) : outL [] (rrC V N n b k i L be) [0] (rrS V N n b k i J L be (some (1, 3))) (true :: false :: false :: repN false 4) z = (fdP V N n i (rrG V i L (app (repN (rrDot V i false) 4) [inI64 ((i : Int) + 1)])), some (.inr (seenC [0] 1 (rrC V N n b k (i + 1) L be)))) := by cases b <;> kernel_rfl
noncomputable def beI : ByteArray := vStr (V (0 + be.toNat * 2 + 0))
noncomputable def beC (q : List Prop) : List Prop := (decide (be < 0) = false) :: ((0 : Int) ≤ be ∧ be < (n : Int)) :: (0 + be.toNat * 2 + 0 < N * 2) :: fitK .s (V (0 + be.toNat * 2 + 0)) :: q
noncomputable def th3 {β : Type} (o : Nat) (p q r : β) : β := Nat.rec (motive := fun _ => β) p (fun o _ => Nat.rec (motive := fun _ => β) q (fun _ _ => r) o) o
/- How it matches: equal, behind a dot, from a dot on; what then: the first, longer, not longer. -/
noncomputable def mcD (m : Nat) : List Bool := th3 m (repN true 5) (false :: repN true 6) [false, false, true, true]
noncomputable def mcC (m : Nat) (q : List Prop) : List Prop := th3 m (app (repN (rrQ V i L true) 5) q) (rrF V i L (app (repN (enB L (dotS (rrI V i)) = true) 6) q)) (rrG V i L (rrDot V i true :: (L.size ≤ 9223372036854775807) :: (enB L (rrI V i) = true) :: q))
noncomputable def thD (r : Nat) : List Bool := th3 r (repN true 10) [false, true] [false, false]
noncomputable def lgC (c : Bool) : Prop := decide (((rrI V i).size : Int) > ((beI V be).size : Int)) = c
noncomputable def thC (r : Nat) (q : List Prop) : List Prop := th3 r (app (repN (decide (be < 0) = true) 10) q) (beC V N n be (lgC V i be true :: q)) (beC V N n be (lgC V i be false :: q))
theorem rr_m (z : Nat → Nat → Nat) : mapN (fun m => mapN (fun r => outL [] (rrC V N n b k i L be) [0] (rrS V N n b k i J L be (some (1, 3))) (true :: app (mcD m) (thD r)) z) (fromN 3 0)) (fromN 3 0) =
  mapN (fun m => mapN (fun r => (fdP V N n i (mcC V i L m (thC V N n i be r [inI64 ((i : Int) + 1)])), some (.inr (seenC [0] 1 (rrC V N n b k (i + 1) L (th3 r (i : Int) (i : Int) be)))))) (fromN 3 0)) (fromN 3 0) := by cases b <;> kernel_rfl
theorem rr_names (j : Nat) (be' : Int) : boolC (namesOK 1 [0] (rrC V N n b k i L be) (rrC V N n b k j L be')) (allN noLoopE (rrC V N n b k j L be').heap) false = true := by cases b <;> kernel_rfl
theorem rr_tmp : (((rrC V N n b k i L be).frames[0]?).bind fun p => p.tmps[7]?) = some (some (.int .i64 (.sym i))) := by cases b <;> kernel_rfl
theorem rr_tmb : (((rrC V N n b k i L be).frames[0]?).bind fun p => p.tmps[6]?) = some (some (.int .i64 (.sym be))) := by cases b <;> kernel_rfl
theorem rr_init (z : Nat → Nat → Nat) : outL [] (rrC V N n b k 0 (lowS x) (-1)) [0] (rrT V N n b k x (some (1, 3))) [] z = ([x.size ≤ 9223372036854775807], some (.inr (modSeen [(0, 6, .int .i64 (.lit (-1))), (0, 7, .int .i64 (.lit 0))] [] (seenC [0] 1 (rrC V N n b k 0 (lowS x) (-1)))))) := by cases b <;> kernel_rfl
end
end Go.Proofs.YtoooohgejkebjaaGreatDoor.Aes


/-
  The reference's rules: where a host name leads; the summary.
-/
namespace Go.Proofs.YtoooohgejkebjaaGreatDoor.Aes
open Go.Sim
open Go.Proofs
variable {α : Type}

set_option maxRecDepth 1000000
theorem dot_ok (s : ByteArray) : DotP s (dotS s) := by
  have hd : (dotS s).data = #[46] ++ s.data := by
    unfold dotS
    rw [ByteArray.data_append]
  refine ⟨?_, ?_, fun i hi => ?_⟩
  · show (dotS s).data.size = s.data.size + 1
    rw [hd, Array.size_append]
    show 1 + s.data.size = _
    omega
  · unfold bytN
    rw [hd, Array.getD_eq_getD_getElem?, Array.getElem?_append_left (by simp)]
    rfl
  · unfold bytN
    rw [hd, Array.getD_eq_getD_getElem?, Array.getD_eq_getD_getElem?, Array.getElem?_append_right (by simp)]
    rfl
theorem eqI {a b : Int} (h : a = b) : (a == b) = true := by subst h; simp
theorem neI {a b : Int} (h : a ≠ b) : (a == b) = false := beq_eq_false_iff_ne.2 h
noncomputable def rrM (L : ByteArray) (s : ByteArray) : Prop := mtP L s (dotS s)
/-- which way it matches -/
theorem mc_any {L s : ByteArray} : (rrM L s ∧ (L = s ∨ (L ≠ s ∧ enB L (dotS s) = true) ∨ (L ≠ s ∧ enB L (dotS s) = false ∧ bytN s 0 = 46 ∧ enB L s = true))) ∨ (¬ rrM L s ∧ L ≠ s ∧ enB L (dotS s) = false ∧ ((bytN s 0 = 46 ∧ enB L s = false) ∨ bytN s 0 ≠ 46)) := by
  have e1 : ∀ w, enB L w = true ↔ endsP L w := fun w => ⟨fun h => @of_decide_eq_true _ (Classical.propDecidable _) h, fun h => @decide_eq_true _ (Classical.propDecidable _) h⟩
  by_cases h1 : L = s
  · exact .inl ⟨.inl h1, .inl h1⟩
  cases h2 : enB L (dotS s) with
  | true => exact .inl ⟨.inr (.inl ((e1 _).1 h2)), .inr (.inl ⟨h1, rfl⟩)⟩
  | false =>
    have h2' : ¬ endsP L (dotS s) := fun h => by rw [(e1 _).2 h] at h2; cases h2
    by_cases h3 : bytN s 0 = 46
    · cases h4 : enB L s with
      | true => exact .inl ⟨.inr (.inr ⟨h3, (e1 _).1 h4⟩), .inr (.inr ⟨h1, rfl, h3, rfl⟩)⟩
      | false =>
        have h4' : ¬ endsP L s := fun h => by rw [(e1 _).2 h] at h4; cases h4
        exact .inr ⟨fun h => by rcases h with h | h | h; exact h1 h; exact h2' h; exact h4' h.2, h1, rfl, .inl ⟨h3, rfl⟩⟩
    · exact .inr ⟨fun h => by rcases h with h | h | h; exact h1 h; exact h2' h; exact h3 h.1, h1, rfl, .inr h3⟩
end Go.Proofs.YtoooohgejkebjaaGreatDoor.Aes


/-
  The reference's rules: where a host name leads; runs.
-/
namespace Go.Proofs.YtoooohgejkebjaaGreatDoor.Aes
open Go.Sim
open Go.Proofs
variable {α : Type}

set_option maxRecDepth 1000000
theorem mapN_atR {β : Type} {f g : Nat → β} {k : Nat} (h : mapN f (fromN k 0) = mapN g (fromN k 0)) {l : Nat} (h2 : l < k) : f l = g l := by
  rw [mapN_eq, mapN_eq] at h
  exact List.map_inj_left.1 h l (by rw [fromN_eq]; exact List.mem_range'_1.2 ⟨Nat.zero_le _, by omega⟩)
/-- the best of the first so many -/
def rrB (t : Pw) (L : ByteArray) (i : Nat) (be : Int) : Prop := (be = -1 ∧ bestH (rrM L) (t.list.take i) = none) ∨ ∃ j : Nat, be = (j : Int) ∧ j < t.n ∧ bestH (rrM L) (t.list.take i) = some (prAt t.V j)
def rrD (t : Pw) (L : ByteArray) (v : SV) (_ : List SO) : Prop := (bestH (rrM L) t.list = none ∧ v = .tuple [.str (.lit ⟨#[]⟩), .int .i64 (.lit 9)]) ∨ ∃ p, bestH (rrM L) t.list = some p ∧ v = .tuple [.str (.sym p.2), .int .i64 (.lit 0)]
theorem rr_take {t : Pw} {i : Nat} (h : i < t.n) : t.list.take (i + 1) = t.list.take i ++ [prAt t.V i] := by
  have hl : i < t.list.length := by unfold Pw.list; rw [prL_length]; exact h
  rw [← List.take_append_getElem hl]
  congr 2
  exact prL_get (by unfold Pw.list at hl; exact hl)
theorem rr_runs {t : Pw} (b : Bool) (k : Nat) (x : ByteArray) (ht : t.ok) (hx : x.size ≤ 9223372036854775807) (hp : ∀ p ∈ t.list, 1 ≤ p.1.size ∧ p.1.size ≤ 64) : Runs cfgH2 22 [slQ 0 t.n b k, .str (.sym x)] [t.row] (rrD t (lowS x)) := by
  have hn := ht.2.1
  have hLs : (lowS x).size ≤ 9223372036854775807 := by rw [lowS_size]; exact hx
  generalize hL : lowS x = L at *
  refine runs_by cfgH2OK (fun a : Nat × Int => rrC t.V t.N t.n b k a.1 L a.2) (fun a => a.1 ≤ t.n ∧ rrB t L a.1 a.2) (fun a => t.n - a.1) (fun g nm hg => by cases hg) ?_ fun ⟨i, be⟩ ⟨hi, hB⟩ J => ?_
  · refine to_startM (ds := []) (N := 1) (M := rrC t.V t.N t.n b k 0 L (-1)) (names := [0]) (ms := [(0, 6, .int .i64 (.lit (-1))), (0, 7, .int .i64 (.lit 0))]) (es := []) (some (1, 3)) 20000 (0, -1) ⟨Nat.zero_le _, .inl ⟨rfl, rfl⟩⟩ (fun z => ?_) (rr_names t.V t.N t.n b k 0 L (-1) 0 (-1)) (fun q hq p u hp hu => ?_) (fun e he => by cases he) (all_cons hx all_nil)
    · have := rr_init t.V t.N t.n b k x z
      rw [hL] at this
      exact this
    · rcases List.mem_cons.1 hq with rfl | hq
      · exact tmp_set (rr_tmb t.V t.N t.n b k 0 L (-1)) hp hu (int_impS rfl)
      · obtain rfl := List.mem_singleton.1 hq
        exact tmp_set (rr_tmp t.V t.N t.n b k 0 L (-1)) hp hu (int_impS rfl)
  have hi : i ≤ t.n := hi
  have hB : rrB t L i be := hB
  have hbe : ∀ j : Nat, be = (j : Int) → j < t.n → ∀ {q : List Prop}, (∀ p ∈ q, p) → ∀ p ∈ beC t.V t.N t.n be q, p := fun j h1 h2 q hq => by
    subst h1
    have := ht.1
    refine all_cons (decide_eq_false (by omega)) (all_cons ⟨by omega, by omega⟩ (all_cons (by rw [Int.toNat_natCast]; omega) (all_cons ?_ hq)))
    rw [Int.toNat_natCast]
    exact (fit2_of ht.2.2 h2).1
  by_cases hin : i < t.n
  · have h64 : inI64 ((i : Int) + 1) := ⟨by omega, by omega⟩
    have hI : rrI t.V i = (prAt t.V i).1 := by unfold rrI prAt; rw [Nat.zero_add, Nat.add_zero]
    have hmem : prAt t.V i ∈ t.list := List.mem_map.2 ⟨i, List.mem_range.2 hin, rfl⟩
    obtain ⟨s1, s2⟩ := hp _ hmem
    rw [← hI] at s1 s2
    have htk := rr_take hin
    have hbst := best_app (rrM L) (t.list.take i) (prAt t.V i)
    rw [← htk, ← hI] at hbst
    have hF : L ≠ rrI t.V i → ∀ {q : List Prop}, (∀ p ∈ q, p) → ∀ p ∈ rrF t.V i L q, p := fun h q hq => all_cons (decide_eq_false h) (all_cons (by omega) (all_cons hLs hq))
    have hG : L ≠ rrI t.V i → enB L (dotS (rrI t.V i)) = false → ∀ {q : List Prop}, (∀ p ∈ q, p) → ∀ p ∈ rrG t.V i L q, p := fun h h2 q hq => hF h (all_cons h2 (all_cons ⟨Int.le_refl _, by omega⟩ hq))
    have go : ∀ (be' : Int) {ds : List Bool} {ps : List Prop}, rrB t L (i + 1) be' → (∀ z, outL [] (rrC t.V t.N t.n b k i L be) [0] (rrS t.V t.N t.n b k i J L be (some (1, 3))) ds z = (ps, some (.inr (seenC [0] 1 (rrC t.V t.N t.n b k (i + 1) L be'))))) → (∀ p ∈ ps, p) → TurnsTo cfgH2 1 (fun a : Nat × Int => rrC t.V t.N t.n b k a.1 L a.2) (fun a' => (a'.1 ≤ t.n ∧ rrB t L a'.1 a'.2) ∧ t.n - a'.1 < t.n - i) (rrD t L) ((rrC t.V t.N t.n b k i L be).fill J) := fun be' ds ps hB' hz hp =>
      to_turn (M := rrC t.V t.N t.n b k i L be) (some (1, 3)) 20000 (i + 1, be') ⟨⟨hin, hB'⟩, by show t.n - (i + 1) < t.n - i; omega⟩ hz (rr_names t.V t.N t.n b k i L be (i + 1) be') hp
    rcases mc_any (L := L) (s := rrI t.V i) with ⟨hm, hway⟩ | ⟨hm, h1, h2, hway⟩
    · -- it matches
      have hmc : ∃ m, m < 3 ∧ ∀ {q : List Prop}, (∀ p ∈ q, p) → ∀ p ∈ mcC t.V i L m q, p := by
        rcases hway with h | ⟨h1, h2⟩ | ⟨h1, h2, h3, h4⟩
        · exact ⟨0, by omega, fun hq => app_all (rep_all (decide_eq_true h) 5) hq⟩
        · exact ⟨1, by omega, fun hq => hF h1 (app_all (rep_all h2 6) hq)⟩
        · exact ⟨2, by omega, fun hq => hG h1 h2 (all_cons (eqI h3) (all_cons hLs (all_cons h4 hq)))⟩
      obtain ⟨m, hm3, hmc⟩ := hmc
      have hz : ∀ r, r < 3 → ∀ z, outL [] (rrC t.V t.N t.n b k i L be) [0] (rrS t.V t.N t.n b k i J L be (some (1, 3))) (true :: app (mcD m) (thD r)) z = (fdP t.V t.N t.n i (mcC t.V i L m (thC t.V t.N t.n i be r [inI64 ((i : Int) + 1)])), some (.inr (seenC [0] 1 (rrC t.V t.N t.n b k (i + 1) L (th3 r (i : Int) (i : Int) be))))) := fun r hr z => mapN_atR (mapN_atR (rr_m t.V t.N t.n b k i J L be z) hm3) hr
      rcases hB with ⟨hb1, hb2⟩ | ⟨j, hj, hjn, hb2⟩
      · refine go (i : Int) (.inr ⟨i, rfl, hin, ?_⟩) (hz 0 (by omega)) (fdP_all ht hin (hmc (app_all (rep_all (decide_eq_true (by omega)) 10) (all_cons h64 all_nil))))
        rw [hbst, if_pos ⟨hm, fun q hq => by rw [hb2] at hq; cases hq⟩]
      · have hbI : beI t.V be = (prAt t.V j).1 := by
          unfold beI prAt
          rw [hj, Int.toNat_natCast, Nat.zero_add, Nat.add_zero]
        by_cases hlt : (prAt t.V j).1.size < (rrI t.V i).size
        · refine go (i : Int) (.inr ⟨i, rfl, hin, ?_⟩) (hz 1 (by omega)) (fdP_all ht hin (hmc (hbe j hj hjn (all_cons (decide_eq_true (by rw [hbI]; omega)) (all_cons h64 all_nil)))))
          rw [hbst, if_pos ⟨hm, fun q hq => by rw [hb2] at hq; cases hq; exact hlt⟩]
        · refine go be (.inr ⟨j, hj, hjn, ?_⟩) (hz 2 (by omega)) (fdP_all ht hin (hmc (hbe j hj hjn (all_cons (decide_eq_false (by rw [hbI]; omega)) (all_cons h64 all_nil)))))
          rw [hbst, if_neg fun h => hlt (h.2 _ hb2), hb2]
    · have hB' : rrB t L (i + 1) be := by
        rcases hB with ⟨hb1, hb2⟩ | ⟨j, hj, hjn, hb2⟩
        · exact .inl ⟨hb1, by rw [hbst, if_neg fun h => hm h.1, hb2]⟩
        · exact .inr ⟨j, hj, hjn, by rw [hbst, if_neg fun h => hm h.1, hb2]⟩
      rcases hway with ⟨h3, h4⟩ | h3
      · exact go be hB' (fun z => rr_n3 t.V t.N t.n b k i J L be z) (fdP_all ht hin (hG h1 h2 (all_cons (eqI h3) (all_cons hLs (all_cons h4 (all_cons h64 all_nil))))))
      · exact go be hB' (fun z => rr_n4 t.V t.N t.n b k i J L be z) (fdP_all ht hin (hG h1 h2 (app_all (rep_all (neI h3) 4) (all_cons h64 all_nil))))
  · have e : i = t.n := by omega
    subst e
    have htk : t.list.take t.n = t.list := List.take_of_length_le (by unfold Pw.list; rw [prL_length]; exact Nat.le_refl _)
    rcases hB with ⟨hb1, hb2⟩ | ⟨j, hj, hjn, hb2⟩
    · rw [htk] at hb2
      exact to_end none 20000 (fun z => rr_end0 t.V t.N t.n b k t.n J L be z) (all_cons (decide_eq_false (by omega)) (all_cons (decide_eq_true (by omega)) all_nil)) fun H _ => .inl ⟨hb2, rfl⟩
    · rw [htk] at hb2
      subst hj
      have := ht.1
      refine to_end none 20000 (fun z => rr_end1 t.V t.N t.n b k t.n J L (j : Int) z) (all_cons (decide_eq_false (by omega)) (all_cons (decide_eq_false (by omega)) (all_cons ⟨by omega, by omega⟩ (all_cons (by rw [Int.toNat_natCast]; omega) (all_cons (by rw [Int.toNat_natCast]; exact (fit2_of ht.2.2 hjn).2.1) all_nil))))) fun H _ => .inr ⟨_, hb2, ?_⟩
      rw [Int.toNat_natCast]
      unfold prAt
      rw [Nat.zero_add]
end Go.Proofs.YtoooohgejkebjaaGreatDoor.Aes


/-
  The reference's rules: where a host name leads; the summary.
-/
namespace Go.Proofs.YtoooohgejkebjaaGreatDoor.Aes
open Go.Sim
open Go.Proofs
variable {α : Type}

set_option maxRecDepth 1000000
noncomputable def rrO (t : Pw) (x : ByteArray) : Option Pr := bestH (rrM (lowS x)) t.list
noncomputable def rrR (t : Pw) (x : ByteArray) : R SumRes := .need (t.ok ∧ x.size ≤ 9223372036854775807 ∧ ∀ p ∈ t.list, 1 ≤ p.1.size ∧ p.1.size ≤ 64)
  (.fork (rrO t x).isSome (.ok ⟨.tuple [.str (.sym ((rrO t x).getD default).2), .int .i64 (.lit 0)], [], []⟩) (.ok ⟨.tuple [.str (.lit ⟨#[]⟩), .int .i64 (.lit 9)], [], []⟩))
noncomputable def rrSm : Summ := fun args H _ => args2 args fun v xv => optC (strV xv) (.stuck 7917) fun x => partQ H v fun t _ _ _ => rrR t x.den
theorem rrOK : SumOK Tryz.prog 22 rrSm := by
  intro glob O w0 β H w base args vs hH hG ha
  refine args2_sat fun v xv hv => optC_only fun x hx => ?_
  rw [hv, strV_spec hx] at ha
  have ha := impL_cons (.refl v) (impL_cons (str_imp (t := .sym x.den) rfl) impL_nil) _ _ ha
  generalize x.den = x at ha ⊢
  refine partQ_sat fun t nm b k ht hi => ?_
  rintro ⟨hok, hxs, hps⟩
  have ha := impL_cons hi (SV.ImpL.refl _) _ _ ha
  let I : Ifc := ⟨[nm], [t.row], [slQ 0 t.n b k, .str (.sym x)]⟩
  have ha : SV.denL β (SV.renL I.big I.args) = some vs := by
    show SV.denL β [(slQ 0 t.n b k).ren _, _] = _
    rw [slQ_ren]; exact ha
  have hF : I.FitsQ H := Ifc.fitsQ (by simp [I]) (by
    show ((slQ 0 t.n b k).uses _ && _) = true
    rw [slQ_uses _ _ _ _ _ rfl]; rfl) ⟨⟨(let ⟨e, h1, h2⟩ := ht _; ⟨e, h1, h2.q⟩), (t.row_uses _).q⟩, trivial⟩
  have go : ∀ {v}, (∀ v', rrD t (lowS x) v' [] → v' = v) → (∀ f, v.ren f = v) → (∀ p, v.uses p = true) → SumSem Tryz.prog H β w base 22 vs ⟨v, [], []⟩ := fun {v} hv hr hu =>
    sum_runsQ (c := cfgH2) hH I (by intro g j hg; cases hg) ha hF [] (by simp) (by simp) (runs_mono (rr_runs b k x hok hxs hps) fun v' H2 h => by
      obtain rfl := hv v' h
      exact ⟨by rw [hr]; exact .refl _, hu _, trivial, trivial⟩)
  refine ⟨fun h => ?_, fun h => ?_⟩
  · cases ho : rrO t x with
    | none => rw [ho] at h; cases h
    | some p =>
      have ho' : bestH (rrM (lowS x)) t.list = some p := ho
      refine go (fun v' hd => ?_) (fun _ => rfl) fun _ => rfl
      rcases hd with ⟨h1, _⟩ | ⟨q, h1, rfl⟩
      · rw [ho'] at h1; cases h1
      · rw [ho'] at h1; cases h1; rfl
  · cases ho : rrO t x with
    | some p => rw [ho] at h; cases h
    | none =>
      have ho' : bestH (rrM (lowS x)) t.list = none := ho
      refine go (fun v' hd => ?_) (fun _ => rfl) fun _ => rfl
      rcases hd with ⟨_, rfl⟩ | ⟨q, h1, _⟩
      · rfl
      · rw [ho'] at h1; cases h1
end Go.Proofs.YtoooohgejkebjaaGreatDoor.Aes


/-
  The program's rules: where a host name leads; runs of the second loop.
-/
namespace Go.Proofs.YtoooohgejkebjaaGreatDoor.Aes
open Go.Sim
open Go.Proofs
variable {α : Type}

set_option maxRecDepth 1000000
noncomputable def j0 : Junk := ⟨fun _ _ => undef, fun _ _ => undef⟩
section
variable (mn : Bool) (es : List MapEntry) (c : Nat) (x L : ByteArray) (X : Nat → BitVec 8) (i : Nat) (J : Junk) (z : Nat → Nat → Nat)
noncomputable def prD : Cut := ⟨bareFs (stopOf (prS mn es c x (fun _ => 0#8) 0 j0 (some (1, 3))) [false]).frames [[(0, .ptr ⟨0, .lit 0⟩), (9, .str (.sym L)), (10, .int .i64 (.sym i))]], prG mn es c⟩
noncomputable def prU (st : Option (Nat × Nat)) : Tree := sim1 (cfgP0.at st) 20000 ((prD mn es c x L i).fill J)
noncomputable def pr2 : List Nat := boolC mn [0] [0, 1]
noncomputable def prL0 : ByteArray := strOfFn (byteF X) 0 x.size
noncomputable def prM (n : Int) : Int := if (0 : Int) < n - 64 then n - 64 else 0
theorem pr_mid (k : Nat) : outL [] (prD mn es c x L 0) (pr2 mn) (prS mn es c x X i J (some (1, 3))) [false] z = ([decide ((i : Int) < (x.size : Int)) = false, 0 + x.size ≤ x.size ∧ ∀ i, i < x.size → isByte (byteF X (0 + i)), inI64 (((prL0 x X).size : Int) - 64)],
  some (.inr (modSeen [(0, 9, .str (.sym (prL0 x X))), (0, 10, .int .i64 (.sym (prM ((prL0 x X).size : Int))))] [] (seenC (pr2 mn) (prN mn) (prD mn es c x L k))))) := by cases mn <;> kernel_rfl
noncomputable def prWd (o : Nat) : List Bool := th3 o (repN false 6) (true :: repN false 5) [true, true, false]
noncomputable def prI1 : List Prop := [decide ((i : Int) > 0) = true, inI64 ((i : Int) - 1), (0 : Int) ≤ (i : Int) - 1 ∧ (i : Int) - 1 < (L.size : Int)]
noncomputable def prDt (j : Nat) (b : Bool) : Prop := (bytN L j != 46) = b
noncomputable def prIn : Prop := (0 : Int) ≤ (i : Int) ∧ (i : Int) < (L.size : Int)
noncomputable def prWc (o : Nat) : List Prop := th3 o (repN (decide ((i : Int) > 0) = false) 6) (app (prI1 L i) (repN (prDt L ((i : Int) - 1).toNat false) 5)) (app (prI1 L i) [prDt L ((i : Int) - 1).toNat true, prIn L i, prDt L i false])
noncomputable def prHk (b : Bool) : List Prop := boolC mn [] [hasK es (.string (L.extract i L.size)) = b]
noncomputable def prR (o : Nat) (q : List Prop) : List Prop := (decide ((i : Int) < (L.size : Int)) = true) :: app (prWc L i o) (((0 : Int) ≤ (i : Int) ∧ (i : Int) ≤ (L.size : Int)) :: q)
theorem pr_no : mapN (fun o => outL [] (prD mn es c x L i) (pr2 mn) (prU mn es c x L i J (some (1, 3))) (true :: app (prWd o) (boolC mn [] [false])) z) (fromN 3 0) =
  mapN (fun o => (prR L i o (app (prHk mn es L i false) [inI64 ((i : Int) + 1)]), some (.inr (seenC (pr2 mn) (boolC mn 1 2) (prD mn es c x L (i + 1)))))) (fromN 3 0) := by cases mn <;> kernel_rfl
theorem pr_skip : outL [] (prD mn es c x L i) (pr2 mn) (prU mn es c x L i J (some (1, 3))) (repN true 4) z =
  ((decide ((i : Int) < (L.size : Int)) = true) :: app (prI1 L i) [prDt L ((i : Int) - 1).toNat true, prIn L i, prDt L i true, inI64 ((i : Int) + 1)], some (.inr (seenC (pr2 mn) (boolC mn 1 2) (prD mn es c x L (i + 1))))) := by cases mn <;> kernel_rfl
noncomputable def prO : List (Option SO) := boolC mn [] [some (.obj (.amap kSt kSt es c))]
noncomputable def prJ : List Nat := boolC mn [] [1]
noncomputable def prV (b : ByteArray) : SV := .tuple [.str (.sym b), .int .i64 (.lit 0)]
noncomputable def prX9 : SV := .tuple [.str (.lit ⟨#[]⟩), .int .i64 (.lit 9)]
theorem pr_yes : mapN (fun o => outL [1] (prD false es c x L i) (pr2 false) (prU false es c x L i J none) (true :: app (prWd o) [true]) z) (fromN 3 0) =
  mapN (fun o => (prR L i o (prHk false es L i true), some (.inl (prV (vStr (getK es (.string (L.extract i L.size)))), prO false es c)))) (fromN 3 0) := by kernel_rfl
theorem pr_end : outL (prJ mn) (prD mn es c x L i) (pr2 mn) (prU mn es c x L i J none) [false] z = ([decide ((i : Int) < (L.size : Int)) = false], some (.inl (prX9, prO mn es c))) := by cases mn <;> kernel_rfl
theorem pr_names1 (j : Nat) : boolC (namesOK (lenN (prH mn es c)) (pr2 mn) (prD mn es c x L i) (prD mn es c x L j)) (allN noLoopE (prD mn es c x L j).heap) false = true := by cases mn <;> kernel_rfl
theorem pr_tmL : (((prD mn es c x L i).frames[0]?).bind fun p => p.tmps[9]?) = some (some (.str (.sym L))) := by cases mn <;> kernel_rfl
theorem pr_tmi : (((prD mn es c x L i).frames[0]?).bind fun p => p.tmps[10]?) = some (some (.int .i64 (.sym i))) := by cases mn <;> kernel_rfl
end
end Go.Proofs.YtoooohgejkebjaaGreatDoor.Aes


/-
  The program's rules: where a host name leads; the summary.
-/
namespace Go.Proofs.YtoooohgejkebjaaGreatDoor.Aes
open Go.Sim
open Go.Proofs
variable {α : Type}

set_option maxRecDepth 1000000
theorem pr_t2' (mn : Bool) (es : List MapEntry) (c : Nat) (x : ByteArray) (X : Nat → BitVec 8) (i : Nat) (J : Junk) (z : Nat → Nat → Nat) : outL [] (prC mn es c x X i) (pr3 mn) (prS mn es c x X i J (some (1, 3))) [true, true, true] z = (loI x i ((decide (loN X i ≥ 65) = true) :: (decide (loN X i ≤ 90) = true) :: loB x i [inI64 ((i : Int) + 1)]), some (.inr (seenC (pr3 mn) (prN mn) (prC mn es c x (loX X i) (i + 1))))) := by
  have e : (fun j => if j = 0 + i * 1 then SV.int .u8 (.b8 (X (0 + i * 1) - 65#8 + 97#8)) else byteF X j) = byteF (loX X i) := funext fun j => by
    unfold byteF loX
    by_cases c : j = 0 + i * 1
    · rw [if_pos c, if_pos c]
      have : X (0 + i * 1) - 65#8 + 97#8 = X (0 + i * 1) + 32#8 := by bv_omega
      rw [this]
    · rw [if_neg c, if_neg c]
  have h := pr_t2 mn es c x X i J z
  rw [e] at h
  refine h.trans ?_
  cases mn <;> kernel_rfl
noncomputable def prK (mn : Bool) (es : List MapEntry) (c : Nat) (x : ByteArray) : Nat ⊕ Nat → Cut
  | .inl i => prC mn es c x (loZ x i) i
  | .inr i => prD mn es c x (lowS x) i
def prQ (es : List MapEntry) (x : ByteArray) : Nat ⊕ Nat → Prop
  | .inl i => i ≤ x.size
  | .inr i => i ≤ x.size ∧ x.size - 64 ≤ i ∧ ∀ j, j < i → x.size - 64 ≤ j → hitB es (lowS x) j = false
def prMu (x : ByteArray) : Nat ⊕ Nat → Nat
  | .inl i => (x.size - i) + x.size + 1
  | .inr i => x.size - i
def hrD (mn : Bool) (es : List MapEntry) (c : Nat) (x : ByteArray) (v : SV) (H : List SO) : Prop :=
  (mn = false → H[1]? = some (.obj (.amap kSt kSt es c))) ∧ ((hpF es (lowS x) = none ∧ v = prX9) ∨ ∃ i, hpF es (lowS x) = some i ∧ v = prV (vStr (getK es (.string (sufA (lowS x) i)))))
theorem hr_runs (mn : Bool) (es : List MapEntry) (c : Nat) (x : ByteArray) (hx : x.size ≤ 9223372036854775807) (hm : mn = true → es = []) : Runs cfgP0 18 [.ptr ⟨0, .lit 0⟩, .str (.sym x)] (prH mn es c) (hrD mn es c x) := by
  have hk : lenN (prH mn es c) = (prH mn es c).length := lenN_eq _
  have hLs := lowS_size x
  refine runs_by cfgP0OK (prK mn es c x) (prQ es x) (prMu x) (fun g nm hg => by cases hg) ?_ fun a ha J => ?_
  · rw [← hk]
    have hz : ∀ z, outL [] (prC mn es c x (sX x) 0) (pr3 mn) (prT mn es c x (some (1, 3))) [] z = ([], some (.inr (modSeen [(0, 19, .int .i64 (.lit 0))] [] (seenC (pr3 mn) (prN mn) (prC mn es c x (loZ x 0) 0))))) := fun z => by rw [loZ_zero]; exact pr_init mn es c x z
    refine to_startM (ms := [(0, 19, .int .i64 (.lit 0))]) (es := []) (ds := []) (names := pr3 mn) (N := prN mn) (M := prC mn es c x (sX x) 0) (some (1, 3)) 20000 (.inl 0) (Nat.zero_le _) hz (pr_names mn es c x (sX x) 0 (loZ x 0) 0) (fun q hq p u hp hu => ?_) (fun e he => by cases he) all_nil
    obtain rfl : q = (0, 19, .int .i64 (.lit 0)) := by simpa using hq
    exact tmp_set (pr_tmp mn es c x (loZ x 0) 0) hp hu (int_impS rfl)
  rw [← hk]
  cases a with
  | inl i =>
    have hi : i ≤ x.size := ha
    show TurnsTo cfgP0 _ (prK mn es c x) _ _ ((prC mn es c x (loZ x i) i).fill J)
    by_cases hin : i < x.size
    · have h64 : inI64 ((i : Int) + 1) := ⟨by omega, by omega⟩
      have hI : ∀ {q : List Prop}, (∀ p ∈ q, p) → ∀ p ∈ loI x i q, p := fun hq => all_cons (decide_eq_true (by omega)) (all_cons ⟨by omega, by omega⟩ (all_cons (by omega) hq))
      have hB : ∀ {q : List Prop}, (∀ p ∈ q, p) → ∀ p ∈ loB x i q, p := fun hq => all_cons ⟨by omega, by omega⟩ (all_cons (by omega) hq)
      have hn := loN_at x i
      have go : ∀ {ds : List Bool} {ps : List Prop}, (∀ z, outL [] (prC mn es c x (loZ x i) i) (pr3 mn) (prS mn es c x (loZ x i) i J (some (1, 3))) ds z = (ps, some (.inr (seenC (pr3 mn) (prN mn) (prC mn es c x (loZ x (i + 1)) (i + 1)))))) → (∀ p ∈ ps, p) → TurnsTo cfgP0 (lenN (prH mn es c)) (prK mn es c x) (fun a' => prQ es x a' ∧ prMu x a' < prMu x (.inl i)) (hrD mn es c x) ((prC mn es c x (loZ x i) i).fill J) := fun {ds ps} hz hp =>
        to_turn (ds := ds) (names := pr3 mn) (N := prN mn) (M := prC mn es c x (loZ x i) i) (some (1, 3)) 20000 (.inl (i + 1)) ⟨hin, by show (x.size - (i + 1)) + x.size + 1 < (x.size - i) + x.size + 1; omega⟩ hz (pr_names mn es c x (loZ x i) i (loZ x (i + 1)) (i + 1)) hp
      by_cases a1 : 65 ≤ (sX x i).toNat
      · by_cases a2 : (sX x i).toNat ≤ 90
        · refine go (ds := [true, true, true]) (ps := loI x i ((decide (loN (loZ x i) i ≥ 65) = true) :: (decide (loN (loZ x i) i ≤ 90) = true) :: loB x i [inI64 ((i : Int) + 1)])) (fun z => ?_) (hI (all_cons (decide_eq_true (by omega)) (all_cons (decide_eq_true (by omega)) (hB (all_cons h64 all_nil)))))
          rw [loZ_next ⟨a1, a2⟩]; exact pr_t2' mn es c x (loZ x i) i J z
        · refine go (ds := [true, true, false]) (ps := loI x i [decide (loN (loZ x i) i ≥ 65) = true, decide (loN (loZ x i) i ≤ 90) = false, inI64 ((i : Int) + 1)]) (fun z => ?_) (hI (all_cons (decide_eq_true (by omega)) (all_cons (decide_eq_false (by omega)) (all_cons h64 all_nil))))
          rw [loZ_same fun h => a2 h.2]; exact pr_t1 mn es c x (loZ x i) i J z
      · refine go (ds := true :: repN false 3) (ps := loI x i (app (repN (decide (loN (loZ x i) i ≥ 65) = false) 3) [inI64 ((i : Int) + 1)])) (fun z => ?_) (hI (app_all (rep_all (decide_eq_false (by omega)) 3) (all_cons h64 all_nil)))
        rw [loZ_same fun h => a1 h.1]; exact pr_t0 mn es c x (loZ x i) i J z
    · have e : i = x.size := by omega
      subst e
      have eL : prL0 x (loZ x x.size) = lowS x := by rw [loZ_end]; rfl
      have hz : ∀ z, outL [] (prD mn es c x (lowS x) 0) (pr2 mn) (prS mn es c x (loZ x x.size) x.size J (some (1, 3))) [false] z = ([decide ((x.size : Int) < (x.size : Int)) = false, 0 + x.size ≤ x.size ∧ ∀ i, i < x.size → isByte (byteF (loZ x x.size) (0 + i)), inI64 (((lowS x).size : Int) - 64)],
          some (.inr (modSeen [(0, 9, .str (.sym (lowS x))), (0, 10, .int .i64 (.sym (prM ((lowS x).size : Int))))] [] (seenC (pr2 mn) (prN mn) (prD mn es c x (lowS x) (x.size - 64)))))) := fun z => by
        have := pr_mid mn es c x (lowS x) (loZ x x.size) x.size J z (x.size - 64)
        rw [eL] at this
        exact this
      have hn := pr_names1 mn es c x (lowS x) 0 (x.size - 64)
      have hp : ∀ p ∈ [decide ((x.size : Int) < (x.size : Int)) = false, 0 + x.size ≤ x.size ∧ ∀ i, i < x.size → isByte (byteF (loZ x x.size) (0 + i)), inI64 (((lowS x).size : Int) - 64)], p := all_cons (decide_eq_false (by omega)) (all_cons ⟨by omega, fun i _ => trivial⟩ (all_cons (by rw [hLs]; exact ⟨by omega, by omega⟩) all_nil))
      refine to_turnM (ms := [(0, 9, .str (.sym (lowS x))), (0, 10, .int .i64 (.sym (prM ((lowS x).size : Int))))]) (es := []) (names := pr2 mn) (N := prN mn) (M := prD mn es c x (lowS x) 0) (some (1, 3)) 20000 (.inr (x.size - 64)) ⟨⟨by omega, Nat.le_refl _, fun j hj hj' => by omega⟩, by show x.size - (x.size - 64) < (x.size - x.size) + x.size + 1; omega⟩ hz hn (fun q hq p u hp hu => ?_) (fun e he => by cases he) hp
      rcases List.mem_cons.1 hq with rfl | hq
      · exact tmp_set (pr_tmL mn es c x (lowS x) (x.size - 64)) hp hu (fun γ y hy => hy)
      · obtain rfl := List.mem_singleton.1 hq
        refine tmp_set (pr_tmi mn es c x (lowS x) (x.size - 64)) hp hu (int_impS ?_)
        show prM ((lowS x).size : Int) = ((x.size - 64 : Nat) : Int)
        unfold prM
        rw [hLs]
        split <;> omega
  | inr i =>
    obtain ⟨hi, hlo, hno⟩ : i ≤ x.size ∧ x.size - 64 ≤ i ∧ ∀ j, j < i → x.size - 64 ≤ j → hitB es (lowS x) j = false := ha
    show TurnsTo cfgP0 _ (prK mn es c x) _ _ ((prD mn es c x (lowS x) i).fill J)
    generalize hL : lowS x = L at *
    rw [← hLs] at hi hlo hno hx
    have hF : ∀ j, (decide (L.size - 64 ≤ j) && hitB es L j) = true → L.size - 64 ≤ j ∧ hitB es L j = true := fun j h => by
      rw [Bool.and_eq_true, decide_eq_true_eq] at h; exact h
    have h1 : ∀ (H : List SO), (prJ mn).map (fun j => H[j]?) = prO mn es c → (mn = false → H[1]? = some (.obj (.amap kSt kSt es c))) := fun H hH hmn => by
      subst hmn
      exact (List.cons.inj (show [H[1]?] = [some (.obj (.amap kSt kSt es c))] from hH)).1
    by_cases hin : i < L.size
    · have h64 : inI64 ((i : Int) + 1) := ⟨by omega, by omega⟩
      have next : hitB es L i = false → prQ es x (.inr (i + 1)) ∧ prMu x (.inr (i + 1)) < prMu x (.inr i) := fun hh => by
        refine ⟨?_, by show x.size - (i + 1) < x.size - i; omega⟩
        show i + 1 ≤ x.size ∧ x.size - 64 ≤ i + 1 ∧ ∀ j, j < i + 1 → x.size - 64 ≤ j → hitB es (lowS x) j = false
        rw [hL, ← hLs]
        refine ⟨hin, by omega, fun j hj hj' => ?_⟩
        by_cases c : j < i
        · exact hno j c hj'
        · obtain rfl : j = i := by omega
          exact hh
      have e1 : ((i : Int) - 1).toNat = i - 1 := by omega
      have hcut : prK mn es c x (.inr (i + 1)) = prD mn es c x L (i + 1) := by show prD mn es c x (lowS x) (i + 1) = _; rw [hL]
      by_cases hok : okAt L i
      · have way : ∃ o, o < 3 ∧ ∀ {q : List Prop}, (∀ p ∈ q, p) → ∀ p ∈ prR L i o q, p := by
          have tail : ∀ {o} {q : List Prop}, (∀ p ∈ prWc L i o, p) → (∀ p ∈ q, p) → ∀ p ∈ prR L i o q, p := fun ho hq => all_cons (decide_eq_true (by omega)) (app_all ho (all_cons ⟨by omega, by omega⟩ hq))
          by_cases h0 : i = 0
          · exact ⟨0, by omega, fun hq => tail (rep_all (decide_eq_false (by omega)) 6) hq⟩
          have hp1 : ∀ p ∈ prI1 L i, p := all_cons (decide_eq_true (by omega)) (all_cons ⟨by omega, by omega⟩ (all_cons ⟨by omega, by omega⟩ all_nil))
          by_cases h1 : bytN L (i - 1) = 46
          · exact ⟨1, by omega, fun hq => tail (app_all hp1 (rep_all (by rw [e1]; exact bneF h1) 5)) hq⟩
          · have h2 : bytN L i = 46 := by rcases hok with h | h | h; exact absurd h h0; exact absurd h h1; exact h
            exact ⟨2, by omega, fun hq => tail (app_all hp1 (all_cons (by rw [e1]; exact bneT h1) (all_cons ⟨by omega, by omega⟩ (all_cons (bneF h2) all_nil)))) hq⟩
        obtain ⟨o, ho, way⟩ := way
        cases hh : hasK es (.string (L.extract i L.size)) with
        | false =>
          have hhit : hitB es L i = false := @decide_eq_false _ (Classical.propDecidable _) fun h => by
            have : hasK es (.string (L.extract i L.size)) = true := h.2
            rw [hh] at this; cases this
          refine to_turn (ds := true :: app (prWd o) (boolC mn [] [false])) (names := pr2 mn) (N := boolC mn 1 2) (M := prD mn es c x L i) (some (1, 3)) 20000 (.inr (i + 1)) (next hhit) (fun z => ?_) (by rw [hcut]; exact pr_names1 mn es c x L i (i + 1)) (way (app_all (l := prHk mn es L i false) ?_ (all_cons h64 all_nil)))
          · rw [hcut]; exact mapN_atR (pr_no mn es c x L i J z) ho
          · cases mn with
            | true => exact all_nil
            | false => exact all_cons hh all_nil
        | true =>
          have hmn : mn = false := by
            cases mn with
            | false => rfl
            | true => rw [hm rfl] at hh; cases hh
          subst hmn
          have hhit : hitB es L i = true := @decide_eq_true _ (Classical.propDecidable _) ⟨hok, hh⟩
          refine to_end (js := [1]) none 20000 (fun z => mapN_atR (pr_yes es c x L i J z) ho) (way (all_cons hh all_nil)) fun H hH => ⟨h1 H hH, .inr ⟨i, ?_, ?_⟩⟩
          · rw [hL]
            unfold hpF
            refine List.find?_range_eq_some.2 ⟨by rw [decide_eq_true hlo, hhit]; rfl, List.mem_range.2 hin, fun j hj => ?_⟩
            cases hd : (decide (L.size - 64 ≤ j) && hitB es L j) with
            | false => rfl
            | true =>
              obtain ⟨k1, k2⟩ := hF j hd
              rw [hno j hj k1] at k2; cases k2
          · rw [hL]; rfl
      · have hhit : hitB es L i = false := @decide_eq_false _ (Classical.propDecidable _) fun h => hok h.1
        have h0 : i ≠ 0 := fun h => hok (.inl h)
        have h1 : bytN L (i - 1) ≠ 46 := fun h => hok (.inr (.inl h))
        have h2 : bytN L i ≠ 46 := fun h => hok (.inr (.inr h))
        have hp : ∀ p ∈ (decide ((i : Int) < (L.size : Int)) = true) :: app (prI1 L i) [prDt L ((i : Int) - 1).toNat true, prIn L i, prDt L i true, inI64 ((i : Int) + 1)], p :=
          all_cons (decide_eq_true (by omega)) (app_all (l := prI1 L i) (all_cons (decide_eq_true (by omega)) (all_cons ⟨by omega, by omega⟩ (all_cons ⟨by omega, by omega⟩ all_nil))) (all_cons (by rw [e1]; exact bneT h1) (all_cons ⟨by omega, by omega⟩ (all_cons (bneT h2) (all_cons h64 all_nil)))))
        refine to_turn (ds := repN true 4) (names := pr2 mn) (N := boolC mn 1 2) (M := prD mn es c x L i) (some (1, 3)) 20000 (.inr (i + 1)) (next hhit) (fun z => ?_) (by rw [hcut]; exact pr_names1 mn es c x L i (i + 1)) hp
        rw [hcut]; exact pr_skip mn es c x L i J z
    · refine to_end (js := prJ mn) none 20000 (fun z => pr_end mn es c x L i J z) (all_cons (decide_eq_false (by omega)) all_nil) fun H hH => ⟨h1 H hH, .inl ⟨?_, rfl⟩⟩
      rw [hL]
      refine List.find?_eq_none.2 fun j hj hd => ?_
      have hj := List.mem_range.1 hj
      obtain ⟨k1, k2⟩ := hF j hd
      rw [hno j (by omega) k1] at k2; cases k2
/- The summary. -/
noncomputable def isStS (k : MSh) : Bool := match k with
  | ⟨false, [.s]⟩ => true
  | _ => false
theorem isStS_spec {k : MSh} (h : isStS k = true) : k = kSt := by
  unfold isStS at h
  split at h
  · rfl
  · cases h
noncomputable def hrR (es : List MapEntry) (x : ByteArray) : R SumRes := .need (x.size ≤ 9223372036854775807)
  (.fork (hpF es (lowS x)).isSome (.ok ⟨prV (vStr (getK es (.string (sufA (lowS x) ((hpF es (lowS x)).getD 0))))), [], []⟩) (.ok ⟨prX9, [], []⟩))
noncomputable def hrSm : Summ := fun args H _ => args2 args fun p xv => optC (strV xv) (.stuck 7940) fun x => optC (ptrNm p) (.stuck 7941) fun m => optC (nth H m) (.stuck 7942) fun e => optC (oneCl e) (.stuck 7943) fun s =>
  boolC (isNilM s) (hrR [] x.den) (optC (mapNm s) (.stuck 7944) fun mm => optC (nth H mm) (.stuck 7945) fun e => optC (amapOf e) (.stuck 7946) fun r => boolC (isStS r.1.1) (boolC (isStS r.1.2) (boolC (nodupP [m, mm]) (hrR r.2.1 x.den) (.stuck 7947)) (.stuck 7947)) (.stuck 7947))
theorem hr_sat {es : List MapEntry} {x : ByteArray} {φ : SumRes → Prop} (h : x.size ≤ 9223372036854775807 → ∀ v, (∀ c mn H v', hrD mn es c x v' H → v' = v) → (∀ f, v.ren f = v) → (∀ p, v.uses p = true) → φ ⟨v, [], []⟩) : (hrR es x).Sat φ := by
  intro hx
  refine ⟨fun hs => ?_, fun hs => ?_⟩
  · cases ho : hpF es (lowS x) with
    | none => rw [ho] at hs; cases hs
    | some i =>
      refine h hx _ (fun c mn H v' hd => ?_) (fun _ => rfl) fun _ => rfl
      rcases hd.2 with ⟨h1, _⟩ | ⟨j, h1, rfl⟩
      · rw [ho] at h1; cases h1
      · rw [ho] at h1; cases h1; rfl
  · cases ho : hpF es (lowS x) with
    | some p => rw [ho] at hs; cases hs
    | none =>
      refine h hx _ (fun c mn H v' hd => ?_) (fun _ => rfl) fun _ => rfl
      rcases hd.2 with ⟨_, rfl⟩ | ⟨q, h1, _⟩
      · rfl
      · rw [ho] at h1; cases h1
theorem hrOK : SumOK Tryz.prog 18 hrSm := by
  intro glob O w0 β H w base args vs hH hG ha
  refine args2_sat fun p xv hv => optC_only fun x hx => optC_only fun m hm => optC_only fun e he => optC_only fun s hs => ?_
  rw [hv, ptrNm_spec hm, strV_spec hx] at ha
  have ha := impL_cons (.refl _) (impL_cons (str_imp (t := .sym x.den) rfl) impL_nil) _ _ ha
  generalize x.den = x at ha ⊢
  obtain ⟨wh, el, rfl⟩ := oneCl_spec hs
  rw [nth_eq] at he
  refine R.Sat.boolC (fun hnl => ?_) fun _ => optC_only fun mm hmm => optC_only fun e2 he2 => optC_only fun r hr => boolC_only fun hk => boolC_only fun hv => boolC_only fun hd => ?_
  · rw [isNilM_spec hnl] at he
    refine hr_sat fun hxs v hv1 hv2 hv3 => ?_
    let I : Ifc := ⟨[m], prH true [] 0, [.ptr ⟨0, .lit 0⟩, .str (.sym x)]⟩
    have hF : I.FitsQ H := Ifc.fitsQ (by simp [I]) rfl ⟨⟨⟨_, he, ten_lst rfl⟩, rfl⟩, trivial⟩
    exact sum_runsQ (c := cfgP0) hH I (by intro g j hg; cases hg) ha hF [] (by simp) (by simp) (runs_mono (hr_runs true [] 0 x hxs fun _ => rfl) fun v' H2 h => by
      obtain rfl := hv1 _ _ _ _ h
      exact ⟨by rw [hv2]; exact .refl _, hv3 _, trivial, trivial⟩)
  · have hd := nodupP_spec hd
    rw [mapNm_spec hmm] at he
    rw [nth_eq, amapOf_spec hr, isStS_spec hk, isStS_spec hv] at he2
    generalize r.2.1 = es at he2 ⊢
    generalize r.2.2 = c at he2 ⊢
    refine hr_sat fun hxs v hv1 hv2 hv3 => ?_
    refine drop_set (k' := kSt) (v' := kSt) hH he2 ?_
    let I : Ifc := ⟨[m, mm], prH false es c, [.ptr ⟨0, .lit 0⟩, .str (.sym x)]⟩
    have hF : I.FitsQ H := Ifc.fitsQ hd rfl ⟨⟨⟨_, he, ten_lst rfl⟩, rfl⟩, ⟨⟨_, he2, _, rfl, fun _ _ h => h⟩, rfl⟩, trivial⟩
    exact sum_runsQ (c := cfgP0) hH I (by intro g j hg; cases hg) ha hF [] (by simp) (by simp) (runs_mono (hr_runs false es c x hxs fun h => by cases h) fun v' H2 h => by
      obtain rfl := hv1 _ _ _ _ h
      exact ⟨by rw [hv2]; exact .refl _, hv3 _, ⟨⟨rfl, .inr ⟨_, _, h.1 rfl, rfl, fun _ _ h => h, rfl⟩⟩, trivial⟩, trivial⟩)
end Go.Proofs.YtoooohgejkebjaaGreatDoor.Aes


/-
  Rules: the keys are collected; runs.
-/
namespace Go.Proofs.YtoooohgejkebjaaGreatDoor.Aes
open Go.Sim
open Go.Proofs
variable {α : Type}

set_option maxRecDepth 1000000
noncomputable def rlRu : List (FuncId × Summ) := [(50, stS)]
theorem rlRuOK : ∀ y ∈ rlRu, SumOK Tryz.prog y.1 y.2 := all1 stOK
noncomputable def cfgRu : Cfg := cfgOf (sumsOf rlRu)
theorem cfgRuOK : CfgOK cfgRu := sumsOf_ok rlRuOK
noncomputable def bareKs (ss : List SF) : List (List Nat) → List SP := List.rec (motive := fun _ => List (List Nat) → List SP) (fun _ => []) (fun s _ ih ls => List.rec (motive := fun _ => List SP) (bareF s [] :: ih []) (fun l r _ => bareF s (keepT s.tmps l) :: ih r) ls) ss
section
variable (es : List MapEntry) (c : Nat) (seen : List Nat) (n : Nat) (V : Nat → Value) (J : Junk)
noncomputable def ruT (st : Option (Nat × Nat)) : Tree := callSim (cfgRu.at st) 20000 7 [.ptr ⟨0, .lit 0⟩] [.row (.lst [.map 1]), .obj (.amap kSt kSt es c)]
noncomputable def ruZ : Tree := callSim cfgRu 20000 7 [.ptr ⟨0, .lit 0⟩] [.row (.lst [.nilMap])]
noncomputable def ruS : SS := stopOf (ruT es c (some (5, 2))) []
noncomputable def ruF : List SP := bareKs (ruS es c).frames [[0, 1, 4, 5], [2], [], [], [0, 3]]
noncomputable def ruE (i : Nat) : HP := .ent ((nth (ruS es c).heap i).getD .gone)
noncomputable def ruL : HP := bareL (nth (ruS es c).heap 6) [(2, .ptr ⟨4, .lit 0⟩)]
noncomputable def ruI : SO := .obj (.iter (some 1) c seen c)
noncomputable def ruC0 : Cut := ⟨ruF es c, [ruE es c 0, ruE es c 1, ruE es c 2, ruE es c 3, ruE es c 4, ruE es c 5, ruL es c, .ent (ruI c [])]⟩
noncomputable def ruC1 : Cut := ⟨ruF es c, [ruE es c 0, ruE es c 1, ruE es c 2, ruE es c 3, .ent (.own (.lst [.slice ⟨8, .lit 0⟩ (.sym n) (.rest 8 0)]) true 50), ruE es c 5, ruL es c, .ent (ruI c seen), .ent (.own (.raw V (n * 1)) false 9)]⟩
noncomputable def ru0 (st : Option (Nat × Nat)) : Tree := sim1 (cfgRu.at st) 20000 ((ruC0 es c).fill J)
noncomputable def ru1 (st : Option (Nat × Nat)) : Tree := sim1 (cfgRu.at st) 20000 ((ruC1 es c seen n V).fill J)
noncomputable def nxB (z : Nat) : Nat := (pickA (leftA es seen) z).born
noncomputable def nxS (b : Nat) : ByteArray := vStr (getB es (lastB (app seen [b]))).key
noncomputable def addS (s : ByteArray) : Nat → Value := catV (fun i => V (0 + i)) (n * 1) fun j => atV [.string s] (0 + j)
def nxG : Prop := ¬ goneA es seen c ∧ ∀ e ∈ es, e.born < c
noncomputable def nxE (b : Nat) : Prop := c = c ∧ app seen [b] ≠ [] ∧ ∃ e ∈ es, e.born = lastB (app seen [b])
variable (z : Nat → Nat → Nat)
noncomputable def n8 : List Nat := [0, 1, 2, 3, 4, 5, 6, 7]
noncomputable def ruV : SV := .func (.fn (.func 26)) [] [.ptr ⟨2, .lit 0⟩]
noncomputable def ruO (v : SV) : List (Option SO) := [some (.obj (.amap kSt kSt es c)), some (.own (.lst [v]) true 79)]
theorem ru_nil : outO [1] ruZ [] = ([], some (.func (.fn (.func 26)) [] [.ptr ⟨1, .lit 0⟩], [some (.own (.lst [.nilSlice]) true 79)])) := by kernel_rfl
theorem ru_init : outL [] (ruC0 es c) n8 (ruT es c (some (5, 2))) [] z = ([], some (.inr (seenC n8 8 (ruC0 es c)))) := by kernel_rfl
theorem ru_none : outL [1, 2] (ruC0 es c) n8 (ru0 es c J none) [true] z = ([nxG es c [], (leftA es []).isEmpty = true], some (.inl (ruV, ruO es c .nilSlice))) := by kernel_rfl
noncomputable def ruM0 : Cut := ruC1 es c [] 0 (fun _ => undef)
noncomputable def fsM (p : ByteArray) : List (Nat × HP) := [(4, .ent (.own (.lst [.slice ⟨9, .lit 0⟩ (.lit 1) (.rest 9 0)]) true 50)), (8, .ent (.own (.lst [.str (.sym p)]) false 9))]
noncomputable def n9 : List Nat := [0, 1, 2, 3, 4, 5, 6, 7, 9]
noncomputable def n10 : List Nat := [0, 1, 2, 3, 4, 5, 6, 7, 10]
theorem ru_first : outL [] (ruM0 es c) n9 (ru0 es c J (some (5, 2))) [false] z = ([nxG es c [], (leftA es []).isEmpty = false, nxE es c [] (nxB es [] (z 0 0))], some (.inr (modSeen [] (fsM (nxS es [] (nxB es [] (z 0 0)))) (seenC n9 10 (ruC1 es c (app [] [nxB es [] (z 0 0)]) 1 V))))) := by kernel_rfl
theorem ru_turn : outL [] (ruM0 es c) n10 (ru1 es c seen n V J (some (5, 2))) [false] z = ([nxG es c seen, (leftA es seen).isEmpty = false, nxE es c seen (nxB es seen (z 0 0)), 1 ≤ 1, 0 + n * 1 ≤ n * 1, ((n + 1) * 16 < 140737488355328 ∧ n + 1 < 140737488355328) ∧ ∀ i, i < 1 → (atV [.string (nxS es seen (nxB es seen (z 0 0)))] (0 + i)).oneCell' = true],
    some (.inr (seenC n10 11 (ruC1 es c (app seen [nxB es seen (z 0 0)]) (n + 1) (addS n V (nxS es seen (nxB es seen (z 0 0)))))))) := by kernel_rfl
theorem ru_n0 : boolC (namesOK 2 n8 (ruC0 es c) (ruC0 es c)) (allN noLoopE (ruC0 es c).heap) false = true := by kernel_rfl
theorem ru_n9 : boolC (namesOK 2 n9 (ruM0 es c) (ruC1 es c seen n V)) (allN noLoopE (ruC1 es c seen n V).heap) false = true := by kernel_rfl
theorem ru_n10 : boolC (namesOK 2 n10 (ruM0 es c) (ruC1 es c seen n V)) (allN noLoopE (ruC1 es c seen n V).heap) false = true := by kernel_rfl
end
end Go.Proofs.YtoooohgejkebjaaGreatDoor.Aes


/-
  Rules: the pairs are collected; runs.
-/
namespace Go.Proofs.YtoooohgejkebjaaGreatDoor.Aes
open Go.Sim
open Go.Proofs
variable {α : Type}

set_option maxRecDepth 1000000
section
variable (es : List MapEntry) (c : Nat) (seen : List Nat) (n i : Nat) (V W U : Nat → Value) (J : Junk) (z : Nat → Nat → Nat)
noncomputable def rbF : List SP := bareFs (stopOf (ru1 es c [] 0 (fun _ => undef) j0 (some (1, 3))) [true]).frames [[(0, .ptr ⟨0, .lit 0⟩), (3, .ptr ⟨2, .lit 0⟩), (13, .slice ⟨3, .lit 0⟩ (.sym n) (.rest 3 0)), (14, .int .i64 (.sym n)), (15, .int .i64 (.sym i))]]
noncomputable def rbE (v : SV) : List HP := [.ent (.row (.lst [.map 1])), .ent (.obj (.amap kSt kSt es c)), .ent (.own (.lst [v]) true 79), .ent (.own (.raw W n) false 9)]
noncomputable def rbC0 : Cut := ⟨rbF es c n 0, rbE es c n W .nilSlice⟩
noncomputable def rbC1 : Cut := ⟨rbF es c n i, app (rbE es c n W (.slice ⟨4, .lit 0⟩ (.sym i) (.rest 4 0))) [.ent (.own (.raw U (i * 2)) false 84)]⟩
noncomputable def rb0 (st : Option (Nat × Nat)) : Tree := sim1 (cfgRu.at st) 20000 ((rbC0 es c n W).fill J)
noncomputable def rb1 (st : Option (Nat × Nat)) : Tree := sim1 (cfgRu.at st) 20000 ((rbC1 es c n i W U).fill J)
noncomputable def n28 : List Nat := [0, 1, 2, 8]
noncomputable def n25 : List Nat := [0, 1, 2, 3, 5]
noncomputable def n26 : List Nat := [0, 1, 2, 3, 6]
noncomputable def addP (p : Pr) : Nat → Value := catV (fun j => U (0 + j)) (i * 2) fun j => atV [.string p.1, .string p.2] (0 + j)
/-- the pair of a key -/
noncomputable def pkA (s : ByteArray) : Pr := (s, vStr (getK es (.string s)))
theorem rb_mid : outL [] (rbC0 es c n W) n28 (ru1 es c seen n V J (some (1, 3))) [true] z = ([nxG es c seen, (leftA es seen).isEmpty = true, n * 1 = n ∧ SsV V n ∧ n < 4611686018427387904], some (.inr (modSeen [(0, 15, .int .i64 (.lit 0))] [] (seenC n28 9 (rbC0 es c n (ssV (srtB (ssL V n)))))))) := by kernel_rfl
noncomputable def rbQ (j : Nat) (q : List Prop) : List Prop := (decide ((j : Int) < (n : Int)) = true) :: ((0 : Int) ≤ (j : Int) ∧ (j : Int) < (n : Int)) :: (0 + j * 1 < n) :: fitK .s (W (0 + j * 1)) :: (hasK es (.string (vStr (W (0 + j * 1)))) = true) :: q
noncomputable def fsP (p : Pr) : List (Nat × HP) := [(2, .ent (.own (.lst [.slice ⟨5, .lit 0⟩ (.lit 1) (.rest 5 0)]) true 79)), (4, .ent (.own (.lst [.str (.sym p.1), .str (.sym p.2)]) false 84))]
theorem rb_first : outL [] (rbC1 es c n 1 W U) n25 (rb0 es c n W J (some (1, 3))) [true, true] z = (rbQ es n W 0 [inI64 (1 : Int)], some (.inr (modSeen [] (fsP (pkA es (vStr (W 0)))) (seenC n25 6 (rbC1 es c n 1 W U))))) := by kernel_rfl
theorem rb_turn : outL [] (rbC1 es c n 1 W U) n26 (rb1 es c n i W U J (some (1, 3))) [true, true] z = (rbQ es n W i [2 ≤ 2, 0 + i * 2 ≤ i * 2, ((i + 1) * 32 < 140737488355328 ∧ i + 1 < 140737488355328) ∧ ∀ j, j < 2 → (atV [.string (pkA es (vStr (W (0 + i * 1)))).1, .string (pkA es (vStr (W (0 + i * 1)))).2] (0 + j)).oneCell' = true, inI64 ((i : Int) + 1)],
  some (.inr (seenC n26 7 (rbC1 es c n (i + 1) W (addP i U (pkA es (vStr (W (0 + i * 1))))))))) := by kernel_rfl
theorem rb_end : outL [1, 2, 4] (rbC1 es c n i W U) n25 (rb1 es c n i W U J none) [false] z = ([decide ((i : Int) < (n : Int)) = false], some (.inl (ruV, app (ruO es c (.slice ⟨4, .lit 0⟩ (.sym i) (.rest 4 0))) [some (.own (.raw U (i * 2)) false 84)]))) := by kernel_rfl
theorem rb_n28 : boolC (namesOK 2 n28 (rbC0 es c n W) (rbC0 es c n V)) (allN noLoopE (rbC0 es c n V).heap) false = true := by kernel_rfl
theorem rb_n25 (k : Nat) (X : Nat → Value) : boolC (namesOK 2 n25 (rbC1 es c n i W U) (rbC1 es c n k W X)) (allN noLoopE (rbC1 es c n k W X).heap) false = true := by kernel_rfl
theorem rb_n26 (k : Nat) (X : Nat → Value) : boolC (namesOK 2 n26 (rbC1 es c n i W U) (rbC1 es c n k W X)) (allN noLoopE (rbC1 es c n k W X).heap) false = true := by kernel_rfl
theorem rb_tmp : (((rbC0 es c n W).frames[0]?).bind fun p => p.tmps[15]?) = some (some (.int .i64 (.sym (0 : Nat)))) := by kernel_rfl
end
end Go.Proofs.YtoooohgejkebjaaGreatDoor.Aes


/-
  Which strings can be suffixes: the program, the reference.
-/
namespace Go.Proofs.YtoooohgejkebjaaGreatDoor.Aes
open Go.Sim
open Go.Proofs
variable {α : Type}

set_option maxRecDepth 1000000
section
variable (s : ByteArray) (i : Nat) (J : Junk) (z : Nat → Nat → Nat)
noncomputable def vsT (st : Option (Nat × Nat)) : Tree := callSim (cfgX.at st) 20000 27 [.str (.sym s)] []
noncomputable def sxT (st : Option (Nat × Nat)) : Tree := callSim (cfgX.at st) 20000 43 [.str (.sym s)] []
noncomputable def vsC : Cut := ⟨bareFs (stopOf (vsT s (some (1, 3))) [false, false]).frames [[(0, .str (.sym s)), (13, .int .i64 (.sym (s.size : Int))), (14, .int .i64 (.sym i))]], []⟩
noncomputable def vsN (st : Option (Nat × Nat)) : Tree := sim1 (cfgX.at st) 20000 ((vsC s i).fill J)
noncomputable def sxC : Cut := ⟨bareFs (stopOf (sxT s (some (1, 3))) []).frames [[(0, .str (.sym s)), (3, .int .i64 (.sym i))]], []⟩
noncomputable def sxN (st : Option (Nat × Nat)) : Tree := sim1 (cfgX.at st) 20000 ((sxC s i).fill J)
noncomputable def sfB : Prop := (0 : Int) ≤ (i : Int) ∧ (i : Int) < (s.size : Int)
noncomputable def sfI (q : List Prop) : List Prop := (decide ((i : Int) < (s.size : Int)) = true) :: sfB s i :: q
noncomputable def sfA (q : List Prop) : List Prop := sfI s i ((decide (bytN s i < 33) = false) :: sfB s i :: (decide (bytN s i > 126) = false) :: sfB s i :: q)
noncomputable def sfL (q : List Prop) : List Prop := app (repN (decide (bytN s i ≥ 65) = false) 5) q
noncomputable def sfU (q : List Prop) : List Prop := (decide (bytN s i ≥ 65) = true) :: sfB s i :: q
theorem vs_init : outL [] (vsC s 0) [] (vsT s (some (1, 3))) [false, false] z = ([decide ((s.size : Int) < 1) = false, decide ((s.size : Int) > 64) = false], some (.inr (modSeen [(0, 14, .int .i64 (.lit 0))] [] (seenC [] 0 (vsC s 0))))) := by kernel_rfl
theorem vs_t0 : outL [] (vsC s i) [] (vsN s i J (some (1, 3))) (true :: false :: false :: repN false 5) z = (sfA s i (sfL s i [inI64 ((i : Int) + 1)]), some (.inr (seenC [] 0 (vsC s (i + 1))))) := by kernel_rfl
theorem vs_t1 : outL [] (vsC s i) [] (vsN s i J (some (1, 3))) [true, false, false, true, false] z = (sfA s i (sfU s i [decide (bytN s i ≤ 90) = false, inI64 ((i : Int) + 1)]), some (.inr (seenC [] 0 (vsC s (i + 1))))) := by kernel_rfl
theorem vs_b0 : outL [] (vsC s i) [] (vsN s i J none) (true :: repN true 5) z = (sfI s i (repN (decide (bytN s i < 33) = true) 5), noR) := by kernel_rfl
theorem vs_b1 : outL [] (vsC s i) [] (vsN s i J none) (true :: false :: repN true 7) z = (sfI s i ((decide (bytN s i < 33) = false) :: sfB s i :: repN (decide (bytN s i > 126) = true) 7), noR) := by kernel_rfl
theorem vs_b2 : outL [] (vsC s i) [] (vsN s i J none) [true, false, false, true, true] z = (sfA s i (sfU s i [decide (bytN s i ≤ 90) = true]), noR) := by kernel_rfl
theorem vs_names (j : Nat) : boolC (namesOK 0 [] (vsC s i) (vsC s j)) (allN noLoopE (vsC s j).heap) false = true := by kernel_rfl
theorem vs_tmp : (((vsC s i).frames[0]?).bind fun p => p.tmps[14]?) = some (some (.int .i64 (.sym i))) := by kernel_rfl
theorem vs_end : outL [] (vsC s i) [] (vsN s i J none) [false] z = ([decide ((i : Int) < (s.size : Int)) = false], yesR) := by kernel_rfl
theorem vs_few : outO [] (vsT s none) (repN true 4) = (repN (decide ((s.size : Int) < 1) = true) 4, some (.bool (.lit false), [])) := by kernel_rfl
theorem vs_many : outO [] (vsT s none) [false, true] = ([decide ((s.size : Int) < 1) = false, decide ((s.size : Int) > 64) = true], some (.bool (.lit false), [])) := by kernel_rfl
theorem sx_init : outL [] (sxC s 0) [] (sxT s (some (1, 3))) [] z = ([], some (.inr (modSeen [(0, 3, .int .i64 (.lit 0))] [] (seenC [] 0 (sxC s 0))))) := by kernel_rfl
theorem sx_t0 : outL [] (sxC s i) [] (sxN s i J (some (1, 3))) (true :: false :: false :: repN false 5) z = (sfA s i (sfL s i [inI64 ((i : Int) + 1)]), some (.inr (seenC [] 0 (sxC s (i + 1))))) := by kernel_rfl
theorem sx_t1 : outL [] (sxC s i) [] (sxN s i J (some (1, 3))) [true, false, false, true, false] z = (sfA s i (sfU s i [decide (bytN s i ≤ 90) = false, inI64 ((i : Int) + 1)]), some (.inr (seenC [] 0 (sxC s (i + 1))))) := by kernel_rfl
theorem sx_b0 : outL [] (sxC s i) [] (sxN s i J none) (true :: repN true 5) z = (sfI s i (repN (decide (bytN s i < 33) = true) 5), noR) := by kernel_rfl
theorem sx_b1 : outL [] (sxC s i) [] (sxN s i J none) (true :: false :: repN true 7) z = (sfI s i ((decide (bytN s i < 33) = false) :: sfB s i :: repN (decide (bytN s i > 126) = true) 7), noR) := by kernel_rfl
theorem sx_b2 : outL [] (sxC s i) [] (sxN s i J none) [true, false, false, true, true] z = (sfA s i (sfU s i [decide (bytN s i ≤ 90) = true]), noR) := by kernel_rfl
theorem sx_names (j : Nat) : boolC (namesOK 0 [] (sxC s i) (sxC s j)) (allN noLoopE (sxC s j).heap) false = true := by kernel_rfl
theorem sx_tmp : (((sxC s i).frames[0]?).bind fun p => p.tmps[3]?) = some (some (.int .i64 (.sym i))) := by kernel_rfl
theorem sx_end : outL [] (sxC s i) [] (sxN s i J none) [false, true] z = ([decide ((i : Int) < (s.size : Int)) = false, decide ((s.size : Int) ≥ 1) = true], some (.inl (.bool (.sym (decide ((s.size : Int) ≤ 64))), []))) := by kernel_rfl
theorem sx_few : outL [] (sxC s i) [] (sxN s i J none) (repN false 5) z = ((decide ((i : Int) < (s.size : Int)) = false) :: repN (decide ((s.size : Int) ≥ 1) = false) 4, noR) := by kernel_rfl
end
/-- a byte of a suffix -/
def sfC (c : Int) : Prop := 33 ≤ c ∧ c ≤ 126 ∧ ¬ (65 ≤ c ∧ c ≤ 90)
/-- a suffix -/
def sfP (s : ByteArray) : Prop := 1 ≤ s.size ∧ s.size ≤ 64 ∧ ∀ i, i < s.size → sfC (bytN s i)
noncomputable def sfBo (s : ByteArray) : Bool := @decide (sfP s) (Classical.propDecidable _)
theorem sfBo_true {s : ByteArray} (h : sfP s) : sfBo s = true := @decide_eq_true _ (Classical.propDecidable _) h
theorem sfBo_false {s : ByteArray} (h : ¬ sfP s) : sfBo s = false := @decide_eq_false _ (Classical.propDecidable _) h
theorem sfI_all {s : ByteArray} {i : Nat} (h : i < s.size) {q : List Prop} (hq : ∀ p ∈ q, p) : ∀ p ∈ sfI s i q, p := all_cons (decide_eq_true (by omega)) (all_cons ⟨by omega, by omega⟩ hq)
theorem sfA_all {s : ByteArray} {i : Nat} (h : i < s.size) (h1 : 33 ≤ bytN s i) (h2 : bytN s i ≤ 126) {q : List Prop} (hq : ∀ p ∈ q, p) : ∀ p ∈ sfA s i q, p := sfI_all h (all_cons (decide_eq_false (by omega)) (all_cons ⟨by omega, by omega⟩ (all_cons (decide_eq_false (by omega)) (all_cons ⟨by omega, by omega⟩ hq))))
theorem sfU_all {s : ByteArray} {i : Nat} (h : i < s.size) (h1 : 65 ≤ bytN s i) {q : List Prop} (hq : ∀ p ∈ q, p) : ∀ p ∈ sfU s i q, p := all_cons (decide_eq_true (by omega)) (all_cons ⟨by omega, by omega⟩ hq)
theorem sfL_all {s : ByteArray} {i : Nat} (h1 : bytN s i < 65) {q : List Prop} (hq : ∀ p ∈ q, p) : ∀ p ∈ sfL s i q, p := app_all (rep_all (decide_eq_false (by omega)) 5) hq
theorem vs_runs (s : ByteArray) (h1 : 1 ≤ s.size) (h64' : s.size ≤ 64) : Runs cfgX 27 [.str (.sym s)] [] fun v _ => ∃ b, v = .bool b ∧ b.den = sfBo s := by
  have hno : ∀ i, i < s.size → ¬ sfC (bytN s i) → ∃ b, (SV.bool (.lit false)) = .bool b ∧ b.den = sfBo s := fun i hi hc => ⟨_, rfl, (sfBo_false fun h => hc (h.2.2 i hi)).symm⟩
  refine runs_by cfgXOK (vsC s) (fun i => i ≤ s.size ∧ ∀ j, j < i → sfC (bytN s j)) (fun i => s.size - i) (fun g nm hg => by cases hg) ?_ fun i ⟨hi, ho⟩ J => ?_
  · refine to_startM (some (1, 3)) 20000 0 ⟨Nat.zero_le _, fun j hj => by omega⟩ (vs_init s) (vs_names s 0 0) (fun m hm p u hp hu => ?_) (by simp) (all_cons (decide_eq_false (by omega)) (all_cons (decide_eq_false (by omega)) all_nil))
    obtain rfl : m = (0, 14, .int .i64 (.lit 0)) := by simpa using hm
    exact tmp_set (vs_tmp s 0) hp hu (int_impS rfl)
  by_cases hin : i < s.size
  · have h64 : inI64 ((i : Int) + 1) := ⟨by omega, by omega⟩
    have next : sfC (bytN s i) → (i + 1 ≤ s.size ∧ ∀ j, j < i + 1 → sfC (bytN s j)) ∧ s.size - (i + 1) < s.size - i := fun hc => ⟨⟨by omega, fun j hj => by
      by_cases c : j < i
      · exact ho j c
      · obtain rfl : j = i := by omega
        exact hc⟩, by omega⟩
    by_cases a1 : bytN s i < 33
    · exact to_end none 20000 (vs_b0 s i J) (sfI_all hin (rep_all (decide_eq_true a1) 5)) (fun _ _ => hno i hin fun h => by have := h.1; omega)
    by_cases a2 : bytN s i > 126
    · exact to_end none 20000 (vs_b1 s i J) (sfI_all hin (all_cons (decide_eq_false a1) (all_cons ⟨by omega, by omega⟩ (rep_all (decide_eq_true a2) 7)))) (fun _ _ => hno i hin fun h => by have := h.2.1; omega)
    by_cases a3 : bytN s i < 65
    · exact to_turn (some (1, 3)) 20000 (i + 1) (next ⟨by omega, by omega, by omega⟩) (vs_t0 s i J) (vs_names s i (i + 1)) (sfA_all hin (by omega) (by omega) (sfL_all a3 (all_cons h64 all_nil)))
    by_cases a4 : bytN s i ≤ 90
    · exact to_end none 20000 (vs_b2 s i J) (sfA_all hin (by omega) (by omega) (sfU_all hin (by omega) (all_cons (decide_eq_true a4) all_nil))) (fun _ _ => hno i hin fun h => h.2.2 ⟨by omega, a4⟩)
    · exact to_turn (some (1, 3)) 20000 (i + 1) (next ⟨by omega, by omega, by omega⟩) (vs_t1 s i J) (vs_names s i (i + 1)) (sfA_all hin (by omega) (by omega) (sfU_all hin (by omega) (all_cons (decide_eq_false a4) (all_cons h64 all_nil))))
  · exact to_end none 20000 (vs_end s i J) (all_cons (decide_eq_false (by omega)) all_nil) fun H _ => ⟨_, rfl, (sfBo_true ⟨h1, h64', fun j hj => ho j (by omega)⟩).symm⟩
theorem sx_runs (s : ByteArray) (hbig : s.size ≤ 9223372036854775807) : Runs cfgX 43 [.str (.sym s)] [] fun v _ => ∃ b, v = .bool b ∧ b.den = sfBo s := by
  have hno : ∀ i, i < s.size → ¬ sfC (bytN s i) → ∃ b, (SV.bool (.lit false)) = .bool b ∧ b.den = sfBo s := fun i hi hc => ⟨_, rfl, (sfBo_false fun h => hc (h.2.2 i hi)).symm⟩
  refine runs_by cfgXOK (sxC s) (fun i => i ≤ s.size ∧ ∀ j, j < i → sfC (bytN s j)) (fun i => s.size - i) (fun g nm hg => by cases hg) ?_ fun i ⟨hi, ho⟩ J => ?_
  · refine to_startM (some (1, 3)) 20000 0 ⟨Nat.zero_le _, fun j hj => by omega⟩ (sx_init s) (sx_names s 0 0) (fun m hm p u hp hu => ?_) (by simp) all_nil
    obtain rfl : m = (0, 3, .int .i64 (.lit 0)) := by simpa using hm
    exact tmp_set (sx_tmp s 0) hp hu (int_impS rfl)
  by_cases hin : i < s.size
  · have h64 : inI64 ((i : Int) + 1) := ⟨by omega, by omega⟩
    have next : sfC (bytN s i) → (i + 1 ≤ s.size ∧ ∀ j, j < i + 1 → sfC (bytN s j)) ∧ s.size - (i + 1) < s.size - i := fun hc => ⟨⟨by omega, fun j hj => by
      by_cases c : j < i
      · exact ho j c
      · obtain rfl : j = i := by omega
        exact hc⟩, by omega⟩
    by_cases a1 : bytN s i < 33
    · exact to_end none 20000 (sx_b0 s i J) (sfI_all hin (rep_all (decide_eq_true a1) 5)) (fun _ _ => hno i hin fun h => by have := h.1; omega)
    by_cases a2 : bytN s i > 126
    · exact to_end none 20000 (sx_b1 s i J) (sfI_all hin (all_cons (decide_eq_false a1) (all_cons ⟨by omega, by omega⟩ (rep_all (decide_eq_true a2) 7)))) (fun _ _ => hno i hin fun h => by have := h.2.1; omega)
    by_cases a3 : bytN s i < 65
    · exact to_turn (some (1, 3)) 20000 (i + 1) (next ⟨by omega, by omega, by omega⟩) (sx_t0 s i J) (sx_names s i (i + 1)) (sfA_all hin (by omega) (by omega) (sfL_all a3 (all_cons h64 all_nil)))
    by_cases a4 : bytN s i ≤ 90
    · exact to_end none 20000 (sx_b2 s i J) (sfA_all hin (by omega) (by omega) (sfU_all hin (by omega) (all_cons (decide_eq_true a4) all_nil))) (fun _ _ => hno i hin fun h => h.2.2 ⟨by omega, a4⟩)
    · exact to_turn (some (1, 3)) 20000 (i + 1) (next ⟨by omega, by omega, by omega⟩) (sx_t1 s i J) (sx_names s i (i + 1)) (sfA_all hin (by omega) (by omega) (sfU_all hin (by omega) (all_cons (decide_eq_false a4) (all_cons h64 all_nil))))
  · by_cases h1 : 1 ≤ s.size
    · refine to_end none 20000 (sx_end s i J) (all_cons (decide_eq_false (by omega)) (all_cons (decide_eq_true (by omega)) all_nil)) fun H _ => ⟨_, rfl, ?_⟩
      show decide ((s.size : Int) ≤ 64) = _
      by_cases h64' : s.size ≤ 64
      · rw [sfBo_true ⟨h1, h64', fun j hj => ho j (by omega)⟩]
        exact decide_eq_true (by omega)
      · rw [sfBo_false fun h => h64' h.2.1]
        exact decide_eq_false (by omega)
    · exact to_end none 20000 (sx_few s i J) (all_cons (decide_eq_false (by omega)) (rep_all (decide_eq_false (by omega)) 4)) fun H _ => ⟨_, rfl, (sfBo_false fun h => h1 h.1).symm⟩
noncomputable def vsS : Summ := fun args _ _ => args1 args fun v => optC (strV v) (.stuck 7910) fun s => .fork (sfBo s.den) (.ok ⟨.bool (.lit true), [], []⟩) (.ok ⟨.bool (.lit false), [], []⟩)
noncomputable def sxS : Summ := fun args _ _ => args1 args fun v => optC (strV v) (.stuck 7911) fun s => .need (s.den.size ≤ 9223372036854775807) (.fork (sfBo s.den) (.ok ⟨.bool (.lit true), [], []⟩) (.ok ⟨.bool (.lit false), [], []⟩))
theorem bool_fork {P : Program} {H : List SO} {β : Val} {w : World} {base : Nat} {f : FuncId} {vs : List Value} {b : Bool} (h : SumSem P H β w base f vs ⟨.bool (.sym b), [], []⟩) : (R.fork b (.ok (⟨.bool (.lit true), [], []⟩ : SumRes)) (.ok ⟨.bool (.lit false), [], []⟩)).Sat (SumSem P H β w base f vs) :=
  ⟨fun hb => by subst hb; exact h, fun hb => by subst hb; exact h⟩
theorem vsOK : SumOK Tryz.prog 27 vsS := by
  intro glob O w0 β H w base args vs hH hG ha
  refine args1_sat fun v hv => optC_only fun s hs => bool_fork ?_
  rw [hv, strV_spec hs] at ha
  have ha := impL_cons (str_imp (t := .sym s.den) rfl) impL_nil _ _ ha
  generalize s.den = s at ha ⊢
  let I : Ifc := ⟨[], [], [.str (.sym s)]⟩
  by_cases h1 : 1 ≤ s.size
  · by_cases h2 : s.size ≤ 64
    · exact sum_runsQ (c := cfgX) hH I (by intro g j hg; cases hg) ha (fits0 rfl).q [] (by simp) (by simp) (runs_mono (vs_runs s h1 h2) fun v H h => bool_ends rfl h)
    · exact sum_runQ cfgXOK 20000 hH I (by intro g j hg; cases hg) ha (fits0 rfl).q [] (by simp) (by simp) (outO_ob (vs_many s) (all_cons (decide_eq_false (by omega)) (all_cons (decide_eq_true (by omega)) all_nil)) fun H2 _ => bool_ends rfl ⟨_, rfl, (sfBo_false fun h => h2 h.2.1).symm⟩)
  · exact sum_runQ cfgXOK 20000 hH I (by intro g j hg; cases hg) ha (fits0 rfl).q [] (by simp) (by simp) (outO_ob (vs_few s) (rep_all (decide_eq_true (by omega)) 4) fun H2 _ => bool_ends rfl ⟨_, rfl, (sfBo_false fun h => h1 h.1).symm⟩)
theorem sxOK : SumOK Tryz.prog 43 sxS := by
  intro glob O w0 β H w base args vs hH hG ha
  refine args1_sat fun v hv => optC_only fun s hs => fun hb => bool_fork ?_
  rw [hv, strV_spec hs] at ha
  have ha := impL_cons (str_imp (t := .sym s.den) rfl) impL_nil _ _ ha
  generalize s.den = s at ha hb ⊢
  exact sum_runsQ (c := cfgX) hH ⟨[], [], [.str (.sym s)]⟩ (by intro g j hg; cases hg) ha (fits0 rfl).q [] (by simp) (by simp) (runs_mono (sx_runs s hb) fun v H h => bool_ends rfl h)
end Go.Proofs.YtoooohgejkebjaaGreatDoor.Aes


/-
  The reference's rules: Add.
-/
namespace Go.Proofs.YtoooohgejkebjaaGreatDoor.Aes
open Go.Sim
open Go.Proofs
variable {α : Type}

set_option maxRecDepth 1000000
noncomputable def rlH1 : List (FuncId × Summ) := [(43, sxS), (44, rldS), (45, fdSm)]
theorem rlH1OK : ∀ y ∈ rlH1, SumOK Tryz.prog y.1 y.2 := allC sxOK (allC rldOK (all1 fdOK))
noncomputable def cfgH1 : Cfg := cfgOf (sumsOf rlH1)
theorem cfgH1OK : CfgOK cfgH1 := sumsOf_ok rlH1OK
section
variable (V : Nat → Value) (N n : Nat) (b : Bool) (k : Nat) (x y : ByteArray) (i : Nat) (J : Junk) (z : Nat → Nat → Nat)
noncomputable def adT (st : Option (Nat × Nat)) : Tree := callSim (cfgH1.at st) 20000 19 [slQ 0 n b k, .str (.sym x), .str (.sym y)] [rwV V N]
noncomputable def rmvT (st : Option (Nat × Nat)) : Tree := callSim (cfgH1.at st) 20000 20 [slQ 0 n b k, .str (.sym x)] [rwV V N]
noncomputable def tpR (V : Nat → Value) (N n : Nat) : Pw := ⟨V, N * 2 / 2, n⟩
noncomputable def adX (c : Bool) : List Prop := [x.size ≤ 9223372036854775807, sfBo x = c]
noncomputable def adG : List Prop := app (adX x true) [y.size ≤ 9223372036854775807, (!rlmB y) = false, N * 2 = N * 2 / 2 * 2, (tpR V N n).ok]
noncomputable def retQ (m : Int) : Option (SV × List (Option SO)) := some (.tuple [slQ 0 n b k, .int .i64 (.lit m)], [])
noncomputable def hsP (c : Bool) : Prop := cB ((tpR V N n).hasX x) = c
theorem ad_arg : outO [] (adT V N n b k x y none) (repN false 1) = (adX x false, retQ n b k 2) := by cases b <;> kernel_rfl
theorem ad_arg2 : outO [] (adT V N n b k x y none) [true, true] = (app (adX x true) [y.size ≤ 9223372036854775807, (!rlmB y) = true], retQ n b k 2) := by cases b <;> kernel_rfl
theorem ad_busy : outO [] (adT V N n b k x y none) [true, false, true, true] = (app (adG V N n x y) [hsP V N n x true, decide (((tpR V N n).ix x : Int) ≥ 0) = true], retQ n b k 11) := by cases b <;> kernel_rfl
theorem ad_full : outO [] (adT V N n b k x y none) [true, false, false, true] = (app (adG V N n x y) [hsP V N n x false, decide ((n : Int) ≥ 500) = true], retQ n b k 7) := by cases b <;> kernel_rfl
noncomputable def adC : Cut := ⟨bareFs (stopOf (adT V N n b k x y (some (1, 3))) [true, false, false, false]).frames [[(0, slQ 0 n b k), (1, .str (.sym x)), (2, .str (.sym y)), (8, .int .i64 (.sym i))]], [.ent (rwV V N)]⟩
noncomputable def adS (st : Option (Nat × Nat)) : Tree := sim1 (cfgH1.at st) 20000 ((adC V N n b k x y i).fill J)
theorem ad_init : outL [] (adC V N n b k x y 0) [0] (adT V N n b k x y (some (1, 3))) [true, false, false, false] z = (app (adG V N n x y) [hsP V N n x false, decide ((n : Int) ≥ 500) = false], some (.inr (modSeen [(0, 8, .int .i64 (.lit 0))] [] (seenC [0] 1 (adC V N n b k x y 0))))) := by cases b <;> kernel_rfl
noncomputable def lsI (c : Bool) : Prop := Op.bytesLess (vStr (V (0 + i * 2 + 0))).data.toList x.data.toList = c
theorem ad_turn : outL [] (adC V N n b k x y i) [0] (adS V N n b k x y i J (some (1, 3))) [true, true] z = (fdP V N n i [lsI V x i true, inI64 ((i : Int) + 1)], some (.inr (seenC [0] 1 (adC V N n b k x y (i + 1))))) := by cases b <;> kernel_rfl
theorem ad_names (j : Nat) : boolC (namesOK 1 [0] (adC V N n b k x y i) (adC V N n b k x y j)) (allN noLoopE (adC V N n b k x y j).heap) false = true := by cases b <;> kernel_rfl
theorem ad_tmp : (((adC V N n b k x y i).frames[0]?).bind fun p => p.tmps[8]?) = some (some (.int .i64 (.sym i))) := by cases b <;> kernel_rfl
/- The way out: at the end, or ahead of one that is not less; the order in which the parts are made; at the beginning or not. -/
noncomputable def ord3 {β : Type} (o : Nat) (p q r : β) : β := Nat.rec (motive := fun _ => β) p (fun o _ => Nat.rec (motive := fun _ => β) q (fun _ _ => r) o) o
noncomputable def odD (o : Nat) : List Bool := ord3 o [true, true] [true, false] [false]
noncomputable def odC (o : Nat) : List Prop := ord3 o [decide (z 0 0 = 0) = true, decide (z 1 0 = 0) = true] [decide (z 0 0 = 0) = true, decide (z 1 0 = 0) = false] [decide (z 0 0 = 0) = false]
noncomputable def exW (e : Bool) : Nat → Value := boolC e (catV (fun j => atV [.string x, .string y] (0 + j)) (1 * 2) fun j => V (0 + i * 2 + j))
  (catV (fun j => catV (fun j => catV (fun j => atV [] (0 + j)) (0 * 2) (fun j => V (0 + j)) (0 + j)) ((0 + i) * 2) (fun j => atV [.string x, .string y] (0 + j)) (0 + j)) ((0 + i + 1) * 2) fun j => V (0 + i * 2 + j))
noncomputable def exN (e : Bool) : Nat := boolC e (1 + (n - i)) (0 + i + 1 + (n - i))
noncomputable def exM (e : Bool) : Nat := boolC e 4 5
noncomputable def exC (e : Bool) : List Prop := app [(0 : Int) ≤ (i : Int) ∧ (i : Int) ≤ (n : Int), 0 + i * 2 ≤ N * 2, decide (0 + i ≤ 0) = e]
  (boolC e [(0 : Int) ≤ (i : Int) ∧ (i : Int) ≤ (n : Int), 0 + i * 2 + (n - i) * 2 ≤ N * 2, 2 ≤ 2, ((1 + (n - i)) * 32 < 140737488355328 ∧ 1 + (n - i) < 140737488355328) ∧ oneR ((n - i) * 2) fun j => V (0 + i * 2 + j)]
    [0 ≤ 0, (0 + i) * 32 < 140737488355328 ∧ 0 + i < 140737488355328, 2 ≤ 2, 0 + (0 + i) * 2 ≤ (0 + i) * 2, ((0 + i + 1) * 32 < 140737488355328 ∧ 0 + i + 1 < 140737488355328) ∧ oneR 2 (fun j => atV [.string x, .string y] (0 + j)),
      (0 : Int) ≤ (i : Int) ∧ (i : Int) ≤ (n : Int), 0 + i * 2 + (n - i) * 2 ≤ N * 2, 0 + (0 + i + 1) * 2 ≤ (0 + i + 1) * 2, ((0 + i + 1 + (n - i)) * 32 < 140737488355328 ∧ 0 + i + 1 + (n - i) < 140737488355328) ∧ oneR ((n - i) * 2) fun j => V (0 + i * 2 + j)])
noncomputable def exR (e : Bool) : SV × List (Option SO) := (.tuple [.slice ⟨exM e, .lit 0⟩ (.sym (exN n i e)) (.rest (exM e) 0), .int .i64 (.lit 0)], [some (.own (.raw (exW V x y i e) (exN n i e * 2)) false 42)])
noncomputable def exF (f : Bool) : List Bool := boolC f [true, false] (repN false 8)
noncomputable def exP (f : Bool) : List Prop := boolC f (fdP V N n i [lsI V x i false]) (repN (decide ((i : Int) < (n : Int)) = false) 8)
theorem ad_end (f e : Bool) : mapN (fun o => outL [exM e] (adC V N n b k x y i) [0] (adS V N n b k x y i J none) (app (exF f) (app (odD o) [e])) z) (fromN 3 0) = mapN (fun o => (app (exP V N n x i f) (app (odC z o) (exC V N n x y i e)), some (.inl (exR V n x y i e)))) (fromN 3 0) := by cases b <;> cases f <;> cases e <;> kernel_rfl
end
end Go.Proofs.YtoooohgejkebjaaGreatDoor.Aes


/-
  The reference's rules: Add's summary.
-/
namespace Go.Proofs.YtoooohgejkebjaaGreatDoor.Aes
open Go.Sim
open Go.Proofs
variable {α : Type}

set_option maxRecDepth 1000000
theorem out1 {I : Ifc} {base nm : Nat} (h : I.names.length ≤ nm) : I.out base [nm] nm = base := by
  unfold Ifc.out
  have hk : I.known nm = false := by
    unfold Ifc.known
    rw [lenN_eq]
    cases hb : Nat.blt nm I.names.length with
    | false => rfl
    | true => have : nm < I.names.length := Nat.le_of_ble_eq_true hb; omega
  rw [hk]
  show base + boolC (Nat.beq nm nm) 0 _ = base
  rw [Nat.beq_refl]; rfl
theorem memN1 (q : Nat) : memN q [q] = true := by
  show boolC (Nat.beq q q) true _ = true
  rw [Nat.beq_refl]; rfl
theorem seen1 (I : Ifc) (nm : Nat) : I.seen [nm] nm = true := by
  unfold Ifc.seen
  cases I.known nm with
  | true => rfl
  | false => exact memN1 nm
theorem sfBo_iff {s : ByteArray} : sfBo s = true ↔ sfP s := ⟨fun h => @of_decide_eq_true _ (Classical.propDecidable _) h, sfBo_true⟩
theorem rlmB_iff {s : ByteArray} : rlmB s = true ↔ rlmP s := ⟨fun h => @of_decide_eq_true _ (Classical.propDecidable _) h, rlmB_true⟩
noncomputable instance (x y : ByteArray) : Decidable (strLt x y) := Classical.propDecidable _
theorem lsI_of {V : Nat → Value} {x : ByteArray} {i : Nat} {c : Bool} : lsI V x i c ↔ decide (strLt (prAt V i).1 x) = c := by
  unfold lsI prAt strLt
  rw [Nat.zero_add, Nat.add_zero, bytesLess_eq]
  constructor <;> intro h <;> rw [← h] <;> exact decide_eq_decide.2 Iff.rfl
section
variable {V : Nat → Value} {n i : Nat} {x y : ByteArray}
/-- what lies where -/
theorem exW_at {e : Bool} (he : decide (0 + i ≤ 0) = e) : (∀ j, j < i → exW V x y i e (j * 2) = V (j * 2) ∧ exW V x y i e (j * 2 + 1) = V (j * 2 + 1)) ∧ (exW V x y i e (i * 2) = .string x ∧ exW V x y i e (i * 2 + 1) = .string y) ∧
    ∀ j, i < j → exW V x y i e (j * 2) = V ((j - 1) * 2) ∧ exW V x y i e (j * 2 + 1) = V ((j - 1) * 2 + 1) := by
  cases e with
  | true =>
    have h0 : i = 0 := by have := of_decide_eq_true he; omega
    subst h0
    refine ⟨fun j hj => by omega, ⟨rfl, rfl⟩, fun j hj => ?_⟩
    have e1 : exW V x y 0 true (j * 2) = catV (fun j => atV [Value.string x, .string y] (0 + j)) (1 * 2) (fun j => V (0 + 0 * 2 + j)) (j * 2) := rfl
    have e2 : exW V x y 0 true (j * 2 + 1) = catV (fun j => atV [Value.string x, .string y] (0 + j)) (1 * 2) (fun j => V (0 + 0 * 2 + j)) (j * 2 + 1) := rfl
    rw [e1, e2]
    unfold catV
    rw [if_neg (by omega), if_neg (by omega)]
    exact ⟨congrArg V (by omega), congrArg V (by omega)⟩
  | false =>
    have e1 : ∀ m, exW V x y i false m = if m < (0 + i + 1) * 2 then (if 0 + m < (0 + i) * 2 then (if 0 + (0 + m) < 0 * 2 then atV [] (0 + (0 + (0 + m))) else V (0 + (0 + (0 + m) - 0 * 2))) else atV [Value.string x, .string y] (0 + (0 + m - (0 + i) * 2))) else V (0 + i * 2 + (m - (0 + i + 1) * 2)) := fun m => rfl
    refine ⟨fun j hj => ⟨?_, ?_⟩, ⟨?_, ?_⟩, fun j hj => ⟨?_, ?_⟩⟩
    · rw [e1, if_pos (by omega), if_pos (by omega), if_neg (by omega)]; exact congrArg V (by omega)
    · rw [e1, if_pos (by omega), if_pos (by omega), if_neg (by omega)]; exact congrArg V (by omega)
    · rw [e1, if_pos (by omega), if_neg (by omega), show 0 + (0 + i * 2 - (0 + i) * 2) = 0 by omega]; rfl
    · rw [e1, if_pos (by omega), if_neg (by omega), show 0 + (0 + (i * 2 + 1) - (0 + i) * 2) = 1 by omega]; rfl
    · rw [e1, if_neg (by omega)]; exact congrArg V (by omega)
    · rw [e1, if_neg (by omega)]; exact congrArg V (by omega)
theorem exW_list {e : Bool} (he : decide (0 + i ≤ 0) = e) (hi : i ≤ n) (hV : PrV V n) : PrV (exW V x y i e) (n + 1) ∧ prL (exW V x y i e) (n + 1) = (prL V n).take i ++ (x, y) :: (prL V n).drop i := by
  obtain ⟨h1, h2, h3⟩ := exW_at (V := V) (x := x) (y := y) he
  have a1 : ∀ j, j < i → prAt (exW V x y i e) j = prAt V j := fun j hj => by unfold prAt; rw [(h1 j hj).1, (h1 j hj).2]
  have a2 : prAt (exW V x y i e) i = (x, y) := by unfold prAt; rw [h2.1, h2.2]; rfl
  have a3 : ∀ j, i < j → prAt (exW V x y i e) j = prAt V (j - 1) := fun j hj => by unfold prAt; rw [(h3 j hj).1, (h3 j hj).2]
  refine ⟨fun j hj => ?_, ?_⟩
  · rcases Nat.lt_trichotomy j i with c | c | c
    · rw [a1 j c, (h1 j c).1, (h1 j c).2]; exact hV j (by omega)
    · subst c; rw [a2]; exact h2
    · rw [a3 j c, (h3 j c).1, (h3 j c).2]; exact hV (j - 1) (by omega)
  · have hl : (prL V n).length = n := prL_length V n
    refine List.ext_getElem (by rw [prL_length, List.length_append, List.length_cons, List.length_take, List.length_drop, hl]; omega) fun j hj hj' => ?_
    have hj : j < n + 1 := by rwa [prL_length] at hj
    have g : ∀ (W : Nat → Value) (m k : Nat) (h : k < (prL W m).length), (prL W m)[k] = prAt W k := fun W m k h => by simp [prL]
    rw [g]
    rcases Nat.lt_trichotomy j i with c | c | c
    · rw [a1 j c, List.getElem_append_left (by rw [List.length_take, hl]; omega), List.getElem_take, g]
    · subst c
      rw [a2, List.getElem_append_right (by rw [List.length_take, hl]; omega)]
      simp [List.length_take, hl, Nat.min_eq_left hi]
    · rw [a3 j c, List.getElem_append_right (by rw [List.length_take, hl]; omega)]
      have hk : j - (List.take i (prL V n)).length = (j - i - 1) + 1 := by rw [List.length_take, hl, Nat.min_eq_left hi]; omega
      simp only [hk, List.getElem_cons_succ, List.getElem_drop]
      rw [g]
      congr 1; omega
end
/-- what Add comes to, the pair being a new one -/
def adD (t : Pw) (x y : ByteArray) (v : SV) (H : List SO) : Prop := ∃ m W, 1 ≤ m ∧ v = .tuple [.slice ⟨m, .lit 0⟩ (.sym (t.n + 1)) (.rest m 0), .int .i64 (.lit 0)] ∧ H[m]? = some (.own (.raw W ((t.n + 1) * 2)) false 42) ∧ PrV W (t.n + 1) ∧ prL W (t.n + 1) = insH t.list (x, y)
theorem ad_runs {t : Pw} (b : Bool) (k : Nat) {x y : ByteArray} (ht : t.ok) (hx : sfP x) (hy : rlmP y) (hno : ¬ t.hasX x) (hn : t.n < 500) : Runs cfgH1 19 [slQ 0 t.n b k, .str (.sym x), .str (.sym y)] [t.row] (adD t x y) := by
  obtain ⟨V, N, n⟩ := t
  obtain ⟨h1, h2, h3⟩ : n ≤ N ∧ n ≤ 1000000 ∧ PrV V n := ht
  have hn : n < 500 := hn
  have hxs := hx.2.1
  have hys := hy.2.1
  have etp : tpR V N n = ⟨V, N, n⟩ := by unfold tpR; rw [half2]
  have hG : ∀ p ∈ adG V N n x y, p := app_all (all_cons (by omega) (all_cons (sfBo_true hx) all_nil)) (all_cons (by omega) (all_cons (by rw [rlmB_true hy]; rfl) (all_cons (by omega) (all_cons (by rw [etp]; exact ⟨h1, h2, h3⟩) all_nil))))
  have htp : (⟨V, N, n⟩ : Pw).ok := ⟨h1, h2, h3⟩
  show Runs cfgH1 _ [slQ 0 n b k, .str (.sym x), .str (.sym y)] [rwV V N] _
  have hget : ∀ (j : Nat) (h : j < (prL V n).length), (prL V n)[j] = prAt V j := fun j h => by simp [prL]
  refine runs_by cfgH1OK (adC V N n b k x y) (fun i => i ≤ n ∧ ∀ j, j < i → strLt (prAt V j).1 x) (fun i => n - i) (fun g nm hg => by cases hg) ?_ fun i ⟨hi, hlt⟩ J => ?_
  · refine to_startM (some (1, 3)) 20000 0 ⟨Nat.zero_le _, fun j hj => by omega⟩ (fun z => ad_init V N n b k x y z) (ad_names V N n b k x y 0 0) (fun q hq p u hp hu => ?_) (fun e he => by cases he) (app_all hG (all_cons (show hsP V N n x false from cB_false (by rw [etp]; exact hno)) (all_cons (decide_eq_false (by omega)) all_nil)))
    obtain rfl : q = (0, 8, .int .i64 (.lit 0)) := by simpa using hq
    exact tmp_set (ad_tmp V N n b k x y 0) hp hu (int_impS rfl)
  · by_cases hc : i < n ∧ strLt (prAt V i).1 x
    · refine to_turn (some (1, 3)) 20000 (i + 1) ⟨⟨by omega, fun j hj => ?_⟩, by omega⟩ (fun z => ad_turn V N n b k x y i J z) (ad_names V N n b k x y i (i + 1)) (fdP_all htp hc.1 (all_cons (lsI_of.2 (decide_eq_true hc.2)) (all_cons ⟨by omega, by omega⟩ all_nil)))
      by_cases c : j < i
      · exact hlt j c
      · obtain rfl : j = i := by omega
        exact hc.2
    · -- out
      have hf : ∃ f, ∀ p ∈ exP V N n x i f, p := by
        by_cases c : i < n
        · exact ⟨true, fdP_all htp c (all_cons (lsI_of.2 (decide_eq_false fun h => hc ⟨c, h⟩)) all_nil)⟩
        · exact ⟨false, rep_all (decide_eq_false (by omega)) 8⟩
      obtain ⟨f, hf⟩ := hf
      obtain ⟨hW1, hW2⟩ := exW_list (V := V) (n := n) (i := i) (x := x) (y := y) (e := decide (0 + i ≤ 0)) rfl hi h3
      have hEx : ∀ p ∈ exC V N n x y i (decide (0 + i ≤ 0)), p := by
        unfold exC
        refine app_all (all_cons ⟨by omega, by omega⟩ (all_cons (by omega) (all_cons rfl all_nil))) ?_
        have hone := one_of (V := V) (n := n) (i := i) (m := (n - i) * 2) h3 (by omega)
        cases decide (0 + i ≤ 0) with
        | true => exact all_cons ⟨by omega, by omega⟩ (all_cons (by omega) (all_cons (Nat.le_refl 2) (all_cons ⟨⟨by omega, by omega⟩, hone⟩ all_nil)))
        | false => exact all_cons (Nat.le_refl 0) (all_cons ⟨by omega, by omega⟩ (all_cons (Nat.le_refl 2) (all_cons (by omega) (all_cons ⟨⟨by omega, by omega⟩, fun j hj => by
            rcases (show j = 0 ∨ j = 1 by omega) with rfl | rfl <;> rfl⟩ (all_cons ⟨by omega, by omega⟩ (all_cons (by omega) (all_cons (by omega) (all_cons ⟨⟨by omega, by omega⟩, hone⟩ all_nil))))))))
      have hnn : exN n i (decide (0 + i ≤ 0)) = n + 1 := by
        cases h : decide (0 + i ≤ 0) with
        | true => have := of_decide_eq_true h; show 1 + (n - i) = _; omega
        | false => show 0 + i + 1 + (n - i) = _; omega
      have hm : 1 ≤ exM (decide (0 + i ≤ 0)) := by cases decide (0 + i ≤ 0) <;> (show (1 : Nat) ≤ _; decide)
      refine to_turnZ (js := [exM (decide (0 + i ≤ 0))]) (K := fun r => r = exR V n x y i (decide (0 + i ≤ 0))) none 20000 (M := adC V N n b k x y i) (names := [0]) (fun z => ?_) (fun v es hk H hH => ?_)
      · have hz : ∃ o, o < 3 ∧ ∀ p ∈ odC z o, p := by
          by_cases c : z 0 0 = 0
          · by_cases c' : z 1 0 = 0
            · exact ⟨0, by omega, all_cons (decide_eq_true c) (all_cons (decide_eq_true c') all_nil)⟩
            · exact ⟨1, by omega, all_cons (decide_eq_true c) (all_cons (decide_eq_false c') all_nil)⟩
          · exact ⟨2, by omega, all_cons (decide_eq_false c) all_nil⟩
        obtain ⟨o, ho, hz⟩ := hz
        have hrun := ad_end V N n b k x y i J z f (decide (0 + i ≤ 0))
        rw [mapN_eq, mapN_eq] at hrun
        have hrun := List.map_inj_left.1 hrun o (by rw [fromN_eq]; exact List.mem_range'_1.2 ⟨by omega, by omega⟩)
        exact ⟨_, _, _, hrun, app_all hf (app_all hz hEx), rfl⟩
      · obtain ⟨rfl, rfl⟩ := Prod.mk.inj (show (v, es) = exR V n x y i (decide (0 + i ≤ 0)) from hk)
        have hH := (List.cons.inj (show [H[exM (decide (0 + i ≤ 0))]?] = [some (.own (.raw (exW V x y i (decide (0 + i ≤ 0))) (exN n i (decide (0 + i ≤ 0)) * 2)) false 42)] from hH)).1
        rw [hnn] at hH ⊢
        refine ⟨_, _, hm, rfl, hH, hW1, ?_⟩
        rw [hW2]
        exact (insH_at (by show i ≤ (prL V n).length; rw [prL_length]; exact hi) (fun j h hj => by rw [hget]; exact hlt j hj) (fun h hc' => hc ⟨by have : i < (prL V n).length := h; rwa [prL_length] at this, by
          have : strLt ((prL V n)[i]).1 x := hc'
          rwa [hget] at this⟩)).symm
noncomputable def lhE (l : List Pr) (m : Nat) : SO := .own (.raw (rowP l) (m * 2)) false 42
noncomputable def adR (base nm : Nat) (t : Pw) (b : Bool) (k : Nat) (x y : ByteArray) : R SumRes :=
  .need (t.ok ∧ x.size ≤ 9223372036854775807 ∧ y.size ≤ 9223372036854775807) (.fork (sfBo x && rlmB y) (.fork (cB (t.hasX x)) (.ok ⟨tupQ (slQ nm t.n b k) 11, [], []⟩) (.fork (decide ((t.n : Int) ≥ 500)) (.ok ⟨tupQ (slQ nm t.n b k) 7, [], []⟩)
    (.ok ⟨tupQ (.slice ⟨base, .lit 0⟩ (.sym (t.n + 1)) (.rest base 0)) 0, [], [lhE (insH t.list (x, y)) (t.n + 1)]⟩))) (.ok ⟨tupQ (slQ nm t.n b k) 2, [], []⟩))
noncomputable def adSm : Summ := fun args H base => args3 args fun v xv yv => optC (strV xv) (.stuck 7913) fun x => optC (strV yv) (.stuck 7913) fun y => partQ H v fun t nm b k => adR base nm t b k x.den y.den
theorem adOK : SumOK Tryz.prog 19 adSm := by
  intro glob O w0 β H w base args vs hH hG ha
  refine args3_sat fun v xv yv hv => optC_only fun x hx => optC_only fun y hy => ?_
  rw [hv, strV_spec hx, strV_spec hy] at ha
  have ha := impL_cons (.refl v) (impL_cons (str_imp (t := .sym x.den) rfl) (impL_cons (str_imp (t := .sym y.den) rfl) impL_nil)) _ _ ha
  generalize x.den = x at ha ⊢
  generalize y.den = y at ha ⊢
  refine partQ_sat fun t nm b k ht hi => ?_
  have ha := impL_cons hi (SV.ImpL.refl _) _ _ ha
  let I : Ifc := ⟨[nm], [t.row], [slQ 0 t.n b k, .str (.sym x), .str (.sym y)]⟩
  have ha : SV.denL β (SV.renL I.big I.args) = some vs := by
    show SV.denL β [(slQ 0 t.n b k).ren _, _, _] = _
    rw [slQ_ren]; exact ha
  have hF : I.FitsQ H := Ifc.fitsQ (by simp [I]) (by
    show ((slQ 0 t.n b k).uses _ && _) = true
    rw [slQ_uses _ _ _ _ _ rfl]; rfl) ⟨⟨(let ⟨e, h1, h2⟩ := ht _; ⟨e, h1, h2.q⟩), (t.row_uses _).q⟩, trivial⟩
  have hgl : ∀ g j, (cfgH1.at none).glob g = some j → I.known j = true ∧ ∃ l, β (I.big j) = some l ∧ l.blk = g ∧ l.off = 0 := by intro g j hg; cases hg
  have go : ∀ {ds ps m}, outO [] (adT t.V t.N t.n b k x y none) ds = (ps, retQ t.n b k m) → (∀ p ∈ ps, p) → SumSem Tryz.prog H β w base 19 vs ⟨tupQ (slQ nm t.n b k) m, [], []⟩ := fun {ds ps m} hr hp =>
    sum_runQ (cfgH1OK.at none) 20000 hH I hgl ha hF [] (by simp) (by simp) (outO_ob hr hp fun H2 _ => ⟨by
      show SV.Imp (tupQ ((slQ 0 t.n b k).ren (I.out base [])) m) _
      rw [slQ_ren]; exact .refl _, by
      show ((slQ 0 t.n b k).uses _ && _) = true
      rw [slQ_uses _ _ _ _ _ rfl]; rfl, trivial, trivial⟩)
  rintro ⟨hok, hxz, hyz⟩
  have etp : tpR t.V t.N t.n = t := by unfold tpR; rw [half2]
  have hX : ∀ {c}, sfBo x = c → ∀ p ∈ adX x c, p := fun h => all_cons hxz (all_cons h all_nil)
  refine ⟨fun h1 => ?_, fun h1 => ?_⟩
  · obtain ⟨h1, h1'⟩ := (Bool.and_eq_true _ _).mp h1
    have hG : ∀ p ∈ adG t.V t.N t.n x y, p := app_all (hX h1) (all_cons hyz (all_cons (by rw [h1']; rfl) (all_cons (by omega) (all_cons (by rw [etp]; exact hok) all_nil))))
    have hx : sfP x := sfBo_iff.1 h1
    have hy : rlmP y := rlmB_iff.1 h1'
    refine ⟨fun h2 => ?_, fun h2 => ⟨fun h3 => ?_, fun h3 => ?_⟩⟩
    · exact go (ad_busy t.V t.N t.n b k x y) (app_all hG (all_cons (by unfold hsP; rw [etp]; exact h2) (all_cons (decide_eq_true (by omega)) all_nil)))
    · exact go (ad_full t.V t.N t.n b k x y) (app_all hG (all_cons (by unfold hsP; rw [etp]; exact h2) (all_cons h3 all_nil)))
    · have h2 : ¬ t.hasX x := fun h => by rw [cB_true h] at h2; cases h2
      have h3 : t.n < 500 := by have := of_decide_eq_false h3; omega
      refine sum_runsX (c := cfgH1) hH I (by intro g j hg; cases hg) ha hF (runs_mono (ad_runs b k hok hx hy h2 h3) fun v H2 h => ?_)
      obtain ⟨m, W, hm, rfl, hW, hW1, hW2⟩ := h
      have hl : (insH t.list (x, y)).length = t.n + 1 := by rw [insH_length, list_length]
      refine ⟨[m], by simpa [I] using hm, by simp, ?_, ?_, trivial, ⟨.inl ⟨_, _, _, _, hW, trivial, raw_list hl hW1 hW2, rfl⟩, trivial⟩⟩
      · show SV.Imp (tupQ (.slice ⟨I.out base [m] m, .lit 0⟩ (.sym (t.n + 1)) (.rest (I.out base [m] m) 0)) 0) _
        rw [out1 (by simpa [I] using hm)]
        exact .refl _
      · show ((I.seen [m] m && I.seen [m] m) && _) = true
        rw [seen1]; rfl
  · have h1 : (sfBo x && rlmB y) = false := h1
    cases hx : sfBo x with
    | false => exact go (ad_arg t.V t.N t.n b k x y) (hX hx)
    | true =>
      rw [hx, Bool.true_and] at h1
      exact go (ad_arg2 t.V t.N t.n b k x y) (app_all (hX hx) (all_cons hyz (all_cons (by rw [h1]; rfl) all_nil)))
end Go.Proofs.YtoooohgejkebjaaGreatDoor.Aes


/-
  Rules: all rounds.
-/
namespace Go.Proofs.YtoooohgejkebjaaGreatDoor.Aes
open Go.Sim
open Go.Proofs
variable {α : Type}

set_option maxRecDepth 1000000
/-- the keys of a map -/
noncomputable def kyL (es : List MapEntry) : List ByteArray := es.map fun e => vStr e.key
theorem keys_host {es : List MapEntry} {c : Nat} {l : List Pr} (h : HostOK es c l) {K : List ByteArray} (hp : K.Perm (kyL es)) (hs : K.Pairwise fun a b => ¬ strLt b a) : K = l.map Prod.fst := by
  have h1 : (l.map Prod.fst).Perm (kyL es) := by
    have := h.perm.map Prod.fst
    rwa [List.map_map] at this
  refine List.Perm.eq_of_pairwise (le := fun a b => ¬ strLt b a) (fun a b _ _ h1 h2 => ?_) hs ?_ (hp.trans h1.symm)
  · rcases strLt_tri a b with k | k | k
    · exact absurd k h2
    · exact k
    · exact absurd k h1
  · rw [List.pairwise_map]
    exact List.Pairwise.imp (fun {a b} hab k => strLt_irrefl _ (strLt_trans hab k)) h.so
theorem pkA_host {es : List MapEntry} {c : Nat} {l : List Pr} (h : HostOK es c l) : (l.map Prod.fst).map (pkA es) = l := by
  rw [List.map_map]
  conv => rhs; rw [← List.map_id l]
  refine List.map_congr_left fun p hp => ?_
  show (p.1, vStr (getK es (.string p.1))) = p
  rw [h.get hp]; rfl
/- What is added. -/
theorem addS_at {V : Nat → Value} {n : Nat} {s : ByteArray} : (∀ i, i < n → addS n V s i = V i) ∧ addS n V s n = .string s := by
  unfold addS catV
  refine ⟨fun i hi => ?_, ?_⟩
  · rw [if_pos (by omega)]; show V (0 + i) = _; rw [Nat.zero_add]
  · rw [if_neg (by omega), show n - n * 1 = 0 by omega]; rfl
theorem ssV_add {V : Nat → Value} {n : Nat} {s : ByteArray} (h : SsV V n) : SsV (addS n V s) (n + 1) := by
  intro i hi
  by_cases c : i < n
  · rw [addS_at.1 i c]; exact h i c
  · obtain rfl : i = n := by omega
    rw [addS_at.2]; rfl
theorem ssL_add {V : Nat → Value} {n : Nat} {s : ByteArray} : ssL (addS n V s) (n + 1) = ssL V n ++ [s] := by
  unfold ssL
  rw [List.range_succ, List.map_append, List.map_singleton, addS_at.2]
  congr 1
  exact List.map_congr_left fun i hi => by rw [addS_at.1 i (List.mem_range.1 hi)]
theorem addP_at {V : Nat → Value} {n : Nat} {p : Pr} : (∀ i, i < n → addP n V p (i * 2) = V (i * 2) ∧ addP n V p (i * 2 + 1) = V (i * 2 + 1)) ∧ addP n V p (n * 2) = .string p.1 ∧ addP n V p (n * 2 + 1) = .string p.2 := by
  unfold addP catV
  refine ⟨fun i hi => ⟨?_, ?_⟩, ?_, ?_⟩
  · rw [if_pos (by omega)]; show V (0 + i * 2) = _; rw [Nat.zero_add]
  · rw [if_pos (by omega)]; show V (0 + (i * 2 + 1)) = _; rw [Nat.zero_add]
  · rw [if_neg (by omega), Nat.sub_self]; rfl
  · rw [if_neg (by omega), show n * 2 + 1 - n * 2 = 1 by omega]; rfl
theorem prAt_add_old {V : Nat → Value} {n i : Nat} {p : Pr} (h : i < n) : prAt (addP n V p) i = prAt V i := by
  unfold prAt
  rw [(addP_at.1 i h).1, (addP_at.1 i h).2]
theorem prAt_add_new {V : Nat → Value} {n : Nat} {p : Pr} : prAt (addP n V p) n = p := by
  unfold prAt
  rw [addP_at.2.1, addP_at.2.2]
  rfl
theorem prV_add {V : Nat → Value} {n : Nat} {p : Pr} (h : PrV V n) : PrV (addP n V p) (n + 1) := by
  intro i hi
  by_cases c : i < n
  · rw [prAt_add_old c, (addP_at.1 i c).1, (addP_at.1 i c).2]; exact h i c
  · obtain rfl : i = n := by omega
    rw [prAt_add_new]; exact addP_at.2
theorem prL_add {V : Nat → Value} {n : Nat} {p : Pr} : prL (addP n V p) (n + 1) = prL V n ++ [p] := by
  unfold prL
  rw [List.range_succ, List.map_append, List.map_singleton, prAt_add_new]
  congr 1
  exact List.map_congr_left fun i hi => prAt_add_old (List.mem_range.1 hi)
noncomputable def oneS (s : ByteArray) : Nat → Value := atV [.string s]
noncomputable def oneV (p : Pr) : Nat → Value := atV [.string p.1, .string p.2]
theorem one_pr (p : Pr) : PrV (oneV p) 1 ∧ prL (oneV p) 1 = [p] := by
  refine ⟨fun i hi => ?_, rfl⟩
  obtain rfl : i = 0 := by omega
  exact ⟨rfl, rfl⟩
theorem one_ss (s : ByteArray) : SsV (oneS s) 1 ∧ ssL (oneS s) 1 = [s] := by
  refine ⟨fun i hi => ?_, rfl⟩
  obtain rfl : i = 0 := by omega
  rfl
theorem ssV_at {K : List ByteArray} {i : Nat} (h : i < K.length) : ssV K i = .string K[i] := by
  unfold ssV
  rw [List.getElem?_eq_getElem h]; rfl
inductive RuS
  | a0
  | a1 (seen : List Nat) (V : Nat → Value)
  | b0 (K : List ByteArray)
  | b1 (K : List ByteArray) (i : Nat) (U : Nat → Value)
section
variable {es : List MapEntry} {c : Nat} {l : List Pr}
noncomputable def ruK (es : List MapEntry) (c : Nat) : RuS → Cut
  | .a0 => ruC0 es c
  | .a1 seen V => ruC1 es c seen seen.length V
  | .b0 K => rbC0 es c K.length (ssV K)
  | .b1 K i U => rbC1 es c K.length i (ssV K) U
def KeyOK (es : List MapEntry) (K : List ByteArray) : Prop := K.Perm (kyL es) ∧ K.Pairwise (fun a b => ¬ strLt b a)
def ruQ (es : List MapEntry) : RuS → Prop
  | .a0 => True
  | .a1 seen V => VisOK es seen ∧ seen ≠ [] ∧ SsV V seen.length ∧ ssL V seen.length = seen.map fun b => vStr (getB es b).key
  | .b0 K => KeyOK es K ∧ es ≠ []
  | .b1 K i U => KeyOK es K ∧ es ≠ [] ∧ i ≤ K.length ∧ PrV U i ∧ prL U i = (K.take i).map (pkA es)
noncomputable def ruMu (es : List MapEntry) : RuS → Nat
  | .a0 => (leftA es []).length + es.length + 3
  | .a1 seen _ => (leftA es seen).length + es.length + 3
  | .b0 K => K.length + 2
  | .b1 K i _ => K.length + 1 - i
/-- what comes of it -/
def ruD (es : List MapEntry) (c : Nat) (l : List Pr) (v : SV) (H : List SO) : Prop :=
  v = ruV ∧ H[1]? = some (.obj (.amap kSt kSt es c)) ∧ ((es = [] ∧ H[2]? = some (.own (.lst [.nilSlice]) true 79)) ∨
    (es ≠ [] ∧ H[2]? = some (.own (.lst [.slice ⟨4, .lit 0⟩ (.sym es.length) (.rest 4 0)]) true 79) ∧ ∃ U, H[4]? = some (.own (.raw U (es.length * 2)) false 84) ∧ PrV U es.length ∧ prL U es.length = l))
theorem ru_runs (h : HostOK es c l) (hz : es.length ≤ 1000000) : Runs cfgRu 7 [.ptr ⟨0, .lit 0⟩] [.row (.lst [.map 1]), .obj (.amap kSt kSt es c)] (ruD es c l) := by
  have hm := h.ok
  have hG : ∀ seen, nxG es c seen := fun seen => ⟨not_gone hm, hm.lt⟩
  have hE : ∀ (seen : List Nat) {e : MapEntry}, e ∈ leftA es seen → nxE es c seen e.born := fun seen e he => ⟨rfl, by rw [app_eq]; simp, e, (left_mem.1 he).1, (lastB_app _ _).symm⟩
  have hK : ∀ (seen : List Nat) {e : MapEntry}, e ∈ leftA es seen → nxS es seen e.born = vStr e.key := fun seen e he => by unfold nxS; rw [lastB_app, getB_of hm.nd (left_mem.1 he).1]
  have hnd : ∀ seen, VisOK es seen → seen.length ≤ 1000000 := fun seen hv => by
    have h2 : seen.length ≤ es.length := by
      have := List.Nodup.length_le_of_subset (l₁ := seen) (l₂ := es.map fun e => e.born) hv.nd fun b hb => by
        obtain ⟨e, he, rfl⟩ := hv.mem b hb
        exact List.mem_map.2 ⟨e, he, rfl⟩
      simpa using this
    omega
  refine runs_by cfgRuOK (ruK es c) (ruQ es) (ruMu es) (fun g nm hg => by cases hg) ?_ fun a ha J => ?_
  · exact to_start (some (5, 2)) 20000 .a0 trivial (fun z => ru_init es c z) (ru_n0 es c) all_nil
  cases a with
  | a0 =>
    show TurnsTo cfgRu _ (ruK es c) _ _ ((ruC0 es c).fill J)
    cases hl : (leftA es []).isEmpty with
    | true =>
      refine to_end none 20000 (fun z => ru_none es c J z) (all_cons (hG _) (all_cons hl all_nil)) fun H hH => ?_
      obtain ⟨h0, h1⟩ := List.cons.inj (show [H[1]?, H[2]?] = [some (.obj (.amap kSt kSt es c)), some (.own (.lst [.nilSlice]) true 79)] from hH)
      refine ⟨rfl, h0, .inl ⟨?_, (List.cons.inj h1).1⟩⟩
      cases es with
      | nil => rfl
      | cons e es => exact absurd (left_none hl e (by simp)) (by simp)
    | false =>
      have hp : ∀ z, pickA (leftA es []) z ∈ leftA es [] := fun z => pick_mem hl z
      refine to_turnZ (js := []) (K := fun _ => False) (some (5, 2)) 20000 (M := ruM0 es c) (names := n9) (fun z => ?_) (fun v es h => h.elim)
      have hb := hp (z 0 0)
      have hk : nxS es [] (nxB es [] (z 0 0)) = vStr (pickA (leftA es []) (z 0 0)).key := hK [] hb
      refine ⟨_, _, _, ru_first es c (oneS (nxS es [] (nxB es [] (z 0 0)))) J z, all_cons (hG _) (all_cons hl (all_cons (hE _ hb) all_nil)), ?_⟩
      show SeenTurn _ _ _ _ _ _
      refine ⟨.a1 [nxB es [] (z 0 0)] (oneS (nxS es [] (nxB es [] (z 0 0)))), 10, [], fsM (nxS es [] (nxB es [] (z 0 0))), ⟨⟨vis_next (vis_nil es) hb, by simp, (one_ss _).1, ?_⟩, ?_⟩, rfl, ru_n9 es c _ _ _, by simp, fun e he E0 hE0 => ?_⟩
      · show ssL (oneS _) 1 = [vStr (getB es (nxB es [] (z 0 0))).key]
        rw [(one_ss _).2, hk]
        unfold nxB
        rw [getB_of hm.nd (left_mem.1 hb).1]
      · show (leftA es (app [] [nxB es [] (z 0 0)])).length + es.length + 3 < (leftA es []).length + es.length + 3
        have := left_lt hb
        unfold nxB
        omega
      · rcases List.mem_cons.1 he with rfl | he
        · cases hE0
          exact ⟨_, rfl, fun _ _ h => h⟩
        · obtain rfl := List.mem_singleton.1 he
          cases hE0
          refine ⟨_, rfl, fun γ vs h => ?_⟩
          have h : some [Value.string (nxS es [] (nxB es [] (z 0 0)))] = some vs := h
          cases h
          refine ⟨rfl, fun i x hx => ?_⟩
          match i, hx with
          | 0, hx => exact (Option.some.inj hx).symm
  | a1 seen V =>
    obtain ⟨hv, hne, hV, hL⟩ : VisOK es seen ∧ seen ≠ [] ∧ SsV V seen.length ∧ ssL V seen.length = seen.map fun b => vStr (getB es b).key := ha
    show TurnsTo cfgRu _ (ruK es c) _ _ ((ruC1 es c seen seen.length V).fill J)
    have hle := hnd seen hv
    cases hl : (leftA es seen).isEmpty with
    | true =>
      have hp := vis_all hm hv hl
      have hlen : seen.length = es.length := by have := hp.length_eq; simpa using this
      have hkp : (ssL V seen.length).Perm (kyL es) := by
        rw [hL]
        have := hp.map fun e : MapEntry => vStr e.key
        rwa [List.map_map] at this
      have hsl : (srtB (ssL V seen.length)).length = seen.length := by rw [srtB_length, ssL_length]
      have hz : ∀ z, outL [] (rbC0 es c seen.length (ssV [])) n28 (ru1 es c seen seen.length V J (some (1, 3))) [true] z = ([nxG es c seen, (leftA es seen).isEmpty = true, seen.length * 1 = seen.length ∧ SsV V seen.length ∧ seen.length < 4611686018427387904], some (.inr (modSeen [(0, 15, .int .i64 (.lit 0))] [] (seenC n28 9 (ruK es c (.b0 (srtB (ssL V seen.length)))))))) := fun z => by
        show _ = (_, some (Sum.inr (modSeen _ _ (seenC n28 9 (rbC0 es c (srtB (ssL V seen.length)).length (ssV (srtB (ssL V seen.length))))))))
        rw [hsl]
        exact rb_mid es c seen seen.length V (ssV []) J z
      have hn : boolC (namesOK 2 n28 (rbC0 es c seen.length (ssV [])) (ruK es c (.b0 (srtB (ssL V seen.length))))) (allN noLoopE (ruK es c (.b0 (srtB (ssL V seen.length)))).heap) false = true := by
        show boolC (namesOK 2 n28 _ (rbC0 es c (srtB (ssL V seen.length)).length (ssV (srtB (ssL V seen.length))))) (allN noLoopE (rbC0 es c (srtB (ssL V seen.length)).length (ssV (srtB (ssL V seen.length)))).heap) false = true
        rw [hsl]
        exact rb_n28 es c seen.length (ssV (srtB (ssL V seen.length))) (ssV [])
      refine to_turnM (some (1, 3)) 20000 (.b0 (srtB (ssL V seen.length))) ⟨⟨⟨(srtB_perm _).trans hkp, srtB_sorted _⟩, fun he => ?_⟩, ?_⟩ hz hn (fun q hq p u hp hu => ?_) (fun e he => by cases he) (all_cons (hG _) (all_cons hl (all_cons ⟨by omega, hV, by omega⟩ all_nil)))
      · subst he
        exact hne (List.length_eq_zero_iff.1 hlen)
      · show (srtB (ssL V seen.length)).length + 2 < (leftA es seen).length + es.length + 3
        omega
      · obtain rfl : q = (0, 15, .int .i64 (.lit 0)) := by simpa using hq
        exact tmp_set (rb_tmp es c (srtB (ssL V seen.length)).length (ssV (srtB (ssL V seen.length)))) hp hu (int_impS rfl)
    | false =>
      have hp : ∀ z, pickA (leftA es seen) z ∈ leftA es seen := fun z => pick_mem hl z
      refine to_turnZ (js := []) (K := fun _ => False) (some (5, 2)) 20000 (M := ruM0 es c) (names := n10) (fun z => ?_) (fun v es h => h.elim)
      have hb := hp (z 0 0)
      have hk : nxS es seen (nxB es seen (z 0 0)) = vStr (pickA (leftA es seen) (z 0 0)).key := hK seen hb
      have hl1 : (app seen [nxB es seen (z 0 0)]).length = seen.length + 1 := by rw [app_eq]; simp
      refine ⟨_, _, _, ru_turn es c seen seen.length V J z, all_cons (hG _) (all_cons hl (all_cons (hE _ hb) (all_cons (Nat.le_refl 1) (all_cons (by omega) (all_cons ⟨⟨by omega, by omega⟩, fun i hi => ?_⟩ all_nil))))), ?_⟩
      · obtain rfl : i = 0 := by omega
        rfl
      show SeenTurn _ _ _ _ _ _
      rw [← hl1]
      refine SeenTurn.of (C := ruK es c) (RuS.a1 (app seen [nxB es seen (z 0 0)]) (addS seen.length V (nxS es seen (nxB es seen (z 0 0))))) ⟨⟨vis_next hv hb, by rw [app_eq]; simp, ?_, ?_⟩, ?_⟩ (ru_n10 es c _ _ _)
      · rw [hl1]; exact ssV_add hV
      · rw [hl1, ssL_add, hL, hk, app_eq, List.map_append, List.map_singleton]
        unfold nxB
        rw [getB_of hm.nd (left_mem.1 hb).1]
      · show (leftA es (app seen [nxB es seen (z 0 0)])).length + es.length + 3 < (leftA es seen).length + es.length + 3
        have := left_lt hb
        unfold nxB
        omega
  | b0 K =>
    obtain ⟨hk, hne⟩ : KeyOK es K ∧ es ≠ [] := ha
    show TurnsTo cfgRu _ (ruK es c) _ _ ((rbC0 es c K.length (ssV K)).fill J)
    have hkl : K.length = es.length := by have := hk.1.length_eq; simpa [kyL] using this
    have hpos : 0 < K.length := by have := List.length_pos_iff.2 hne; omega
    have hKl := keys_host h hk.1 hk.2
    have hW : ∀ {j : Nat} (hj : j < K.length) {q : List Prop}, (∀ p ∈ q, p) → ∀ p ∈ rbQ es K.length (ssV K) j q, p := fun {j} hj q hq => by
      have e : ssV K (0 + j * 1) = .string K[j] := by rw [Nat.zero_add, Nat.mul_one]; exact ssV_at hj
      have hh : hasK es (.string K[j]) = true := by
        refine h.has.2 ?_
        have : K[j] ∈ l.map Prod.fst := by rw [← hKl]; exact List.getElem_mem hj
        obtain ⟨p, hp, hpe⟩ := List.mem_map.1 this
        exact ⟨p, hp, hpe⟩
      refine all_cons (decide_eq_true (by omega)) (all_cons ⟨by omega, by omega⟩ (all_cons (by omega) (all_cons (by rw [e]; exact fitS _) (all_cons (by rw [e]; exact hh) hq))))
    have e0 : vStr (ssV K 0) = K[0] := by rw [ssV_at hpos]; rfl
    refine to_turnM (ds := [true, true]) (names := n25) (N := 6) (ms := []) (es := fsP (pkA es (vStr (ssV K 0)))) (M := rbC1 es c K.length 1 (ssV K) (oneV (pkA es K[0]))) (some (1, 3)) 20000 (.b1 K 1 (oneV (pkA es K[0]))) ⟨⟨hk, hne, hpos, (one_pr _).1, ?_⟩, ?_⟩ (fun z => rb_first es c K.length (ssV K) (oneV (pkA es K[0])) J z) (rb_n25 es c K.length 1 (ssV K) _ 1 _) (by simp) (fun e he E0 hE0 => ?_) (hW hpos (all_cons ⟨by omega, by omega⟩ all_nil))
    · rw [(one_pr _).2]
      cases K with
      | nil => simp at hpos
      | cons a K => rfl
    · show K.length + 1 - 1 < K.length + 2
      omega
    · rcases List.mem_cons.1 he with rfl | he
      · cases hE0
        exact ⟨_, rfl, fun _ _ h => h⟩
      · obtain rfl := List.mem_singleton.1 he
        cases hE0
        refine ⟨_, rfl, fun γ vs h => ?_⟩
        have h : some [Value.string (pkA es (vStr (ssV K 0))).1, Value.string (pkA es (vStr (ssV K 0))).2] = some vs := h
        rw [e0] at h
        cases h
        refine ⟨rfl, fun i x hx => ?_⟩
        match i, hx with
        | 0, hx => exact (Option.some.inj hx).symm
        | 1, hx => exact (Option.some.inj hx).symm
  | b1 K i U =>
    obtain ⟨hk, hne, hi, hU, hUL⟩ : KeyOK es K ∧ es ≠ [] ∧ i ≤ K.length ∧ PrV U i ∧ prL U i = (K.take i).map (pkA es) := ha
    show TurnsTo cfgRu _ (ruK es c) _ _ ((rbC1 es c K.length i (ssV K) U).fill J)
    have hkl : K.length = es.length := by have := hk.1.length_eq; simpa [kyL] using this
    have hKl := keys_host h hk.1 hk.2
    by_cases hin : i < K.length
    · have e : ssV K (0 + i * 1) = .string K[i] := by rw [Nat.zero_add, Nat.mul_one]; exact ssV_at hin
      have hW : ∀ {q : List Prop}, (∀ p ∈ q, p) → ∀ p ∈ rbQ es K.length (ssV K) i q, p := fun {q} hq => by
        have hh : hasK es (.string K[i]) = true := by
          refine h.has.2 ?_
          have : K[i] ∈ l.map Prod.fst := by rw [← hKl]; exact List.getElem_mem hin
          obtain ⟨p, hp, hpe⟩ := List.mem_map.1 this
          exact ⟨p, hp, hpe⟩
        refine all_cons (decide_eq_true (by omega)) (all_cons ⟨by omega, by omega⟩ (all_cons (by omega) (all_cons (by rw [e]; exact fitS _) (all_cons (by rw [e]; exact hh) hq))))
      refine to_turn (ds := [true, true]) (names := n26) (N := 7) (M := rbC1 es c K.length 1 (ssV K) U) (some (1, 3)) 20000 (.b1 K (i + 1) (addP i U (pkA es (vStr (ssV K (0 + i * 1)))))) ⟨⟨hk, hne, hin, prV_add hU, ?_⟩, ?_⟩ (fun z => rb_turn es c K.length i (ssV K) U J z) (rb_n26 es c K.length 1 (ssV K) U (i + 1) _)
        (hW (all_cons (Nat.le_refl 2) (all_cons (by omega) (all_cons ⟨⟨by omega, by omega⟩, fun j hj => ?_⟩ (all_cons ⟨by omega, by omega⟩ all_nil)))))
      · rw [prL_add, hUL, e, ← List.take_append_getElem hin, List.map_append]
        rfl
      · show K.length + 1 - (i + 1) < K.length + 1 - i
        omega
      · rcases (show j = 0 ∨ j = 1 by omega) with rfl | rfl <;> rfl
    · have hi : i = K.length := by omega
      subst hi
      refine to_end (js := [1, 2, 4]) (names := n25) (M := rbC1 es c K.length K.length (ssV K) U) none 20000 (fun z => rb_end es c K.length K.length (ssV K) U J z) (all_cons (decide_eq_false (by omega)) all_nil) fun H hH => ?_
      obtain ⟨h0, h1⟩ := List.cons.inj (show [H[1]?, H[2]?, H[4]?] = [some (.obj (.amap kSt kSt es c)), some (.own (.lst [.slice ⟨4, .lit 0⟩ (.sym K.length) (.rest 4 0)]) true 79), some (.own (.raw U (K.length * 2)) false 84)] from hH)
      obtain ⟨h1, h2⟩ := List.cons.inj h1
      have h2 := (List.cons.inj h2).1
      rw [hkl] at h1 h2 hU
      refine ⟨rfl, h0, .inr ⟨hne, h1, U, h2, hU, ?_⟩⟩
      rw [← hkl, hUL, List.take_length, hKl]
      exact pkA_host h
end
end Go.Proofs.YtoooohgejkebjaaGreatDoor.Aes


/-
  Rules: the summary.
-/
namespace Go.Proofs.YtoooohgejkebjaaGreatDoor.Aes
open Go.Sim
open Go.Proofs
variable {α : Type}

set_option maxRecDepth 1000000
noncomputable def ruLs (es : List MapEntry) : List Pr := (srtB (kyL es)).map (pkA es)
theorem ruLs_host {es : List MapEntry} {c : Nat} {l : List Pr} (h : HostOK es c l) : ruLs es = l := by
  unfold ruLs
  rw [keys_host h (srtB_perm _) (srtB_sorted _)]
  exact pkA_host h
noncomputable def ruF0 (base : Nat) : SV := .func (.fn (.func 26)) [] [.ptr ⟨base, .lit 0⟩]
noncomputable def ruN (v : SV) : SO := .own (.lst [v]) true 79
noncomputable def ruP (l : List Pr) (n : Nat) : SO := .own (.raw (rowP l) (n * 2)) false 84
noncomputable def nilE (es : List MapEntry) : Bool := es.isEmpty
noncomputable def ruR (base : Nat) (es : List MapEntry) (c : Nat) : R SumRes := .need (HostOK es c (ruLs es) ∧ es.length ≤ 1000000)
  (.fork (nilE es) (.ok ⟨ruF0 base, [], [ruN .nilSlice]⟩) (.ok ⟨ruF0 base, [], [ruN (.slice ⟨base + 1, .lit 0⟩ (.sym es.length) (.rest (base + 1) 0)), ruP (ruLs es) es.length]⟩))
noncomputable def ruSm : Summ := fun args H base => args1 args fun p => optC (ptrNm p) (.stuck 7951) fun m => optC (nth H m) (.stuck 7952) fun e => optC (oneCl e) (.stuck 7953) fun s =>
  boolC (isNilM s) (.ok ⟨ruF0 base, [], [ruN .nilSlice]⟩) (optC (mapNm s) (.stuck 7954) fun mm => optC (nth H mm) (.stuck 7955) fun e => optC (amapOf e) (.stuck 7956) fun r => boolC (isStS r.1.1) (boolC (isStS r.1.2) (boolC (nodupP [m, mm]) (ruR base r.2.1 r.2.2) (.stuck 7957)) (.stuck 7957)) (.stuck 7957))
theorem ruOK : SumOK Tryz.prog 7 ruSm := by
  intro glob O w0 β H w base args vs hH hG ha
  refine args1_sat fun p hv => optC_only fun m hm => optC_only fun e he => optC_only fun s hs => ?_
  rw [hv, ptrNm_spec hm] at ha
  obtain ⟨wh, el, rfl⟩ := oneCl_spec hs
  rw [nth_eq] at he
  refine R.Sat.boolC (fun hnl => ?_) fun _ => optC_only fun mm hmm => optC_only fun e2 he2 => optC_only fun r hr => boolC_only fun hk => boolC_only fun hv => boolC_only fun hd => ?_
  · rw [isNilM_spec hnl] at he
    let I : Ifc := ⟨[m], [.row (.lst [.nilMap])], [.ptr ⟨0, .lit 0⟩]⟩
    have hF : I.FitsQ H := Ifc.fitsQ (by simp [I]) rfl ⟨⟨⟨_, he, ten_lst rfl⟩, rfl⟩, trivial⟩
    exact sum_runQ cfgRuOK 20000 hH I (by intro g j hg; cases hg) ha hF [1] (by simp [I]) (by simp) (outO_ob ru_nil all_nil fun H2 hH2 => ⟨.refl _, rfl, trivial, ⟨.inl ⟨_, _, _, _, (List.cons.inj hH2).1, rfl, .refl _, rfl⟩, trivial⟩⟩)
  · have hd := nodupP_spec hd
    rw [mapNm_spec hmm] at he
    rw [nth_eq, amapOf_spec hr, isStS_spec hk, isStS_spec hv] at he2
    generalize r.2.1 = es at he2 ⊢
    generalize r.2.2 = c at he2 ⊢
    rintro ⟨hok, hz⟩
    have hl := ru_runs hok hz
    let I : Ifc := ⟨[m, mm], [.row (.lst [.map 1]), .obj (.amap kSt kSt es c)], [.ptr ⟨0, .lit 0⟩]⟩
    have hF : I.FitsQ H := Ifc.fitsQ hd rfl ⟨⟨⟨_, he, ten_lst rfl⟩, rfl⟩, ⟨⟨_, he2, _, rfl, fun _ _ h => h⟩, rfl⟩, trivial⟩
    have hS : ∀ (keep : List Nat) {H2 : List SO}, H2[1]? = some (.obj (.amap kSt kSt es c)) → SetsQ I.big (I.seen keep) (I.out base keep) H2 (ownedOf I.ents 0) [(mm, .obj (.amap kSt kSt es c))] := fun keep H2 h0 => ⟨⟨rfl, .inr ⟨_, _, h0, rfl, fun _ _ h => h, rfl⟩⟩, trivial⟩
    refine ⟨fun hn => ?_, fun hn => ?_⟩
    · have hn : es = [] := by unfold nilE at hn; simpa using hn
      refine drop_set (k' := kSt) (v' := kSt) hH he2 ?_
      refine sum_runsQ (c := cfgRu) hH I (by intro g j hg; cases hg) ha hF [2] (by simp [I]) (by simp) (runs_mono hl fun v H2 ⟨h1, h2, h⟩ => ?_)
      subst h1
      rcases h with ⟨_, h⟩ | ⟨h, _⟩
      · exact ⟨.refl _, rfl, hS _ h2, ⟨.inl ⟨_, _, _, _, h, rfl, .refl _, rfl⟩, trivial⟩⟩
      · exact absurd hn h
    · have hn : es ≠ [] := by unfold nilE at hn; simpa using hn
      refine drop_set (k' := kSt) (v' := kSt) hH he2 ?_
      refine sum_runsQ (c := cfgRu) hH I (by intro g j hg; cases hg) ha hF [2, 4] (by simp [I]) (by simp) (runs_mono hl fun v H2 ⟨h1, h2, h⟩ => ?_)
      subst h1
      rcases h with ⟨h, _⟩ | ⟨_, h3, U, h4, h5, h6⟩
      · exact absurd h hn
      · refine ⟨.refl _, rfl, hS _ h2, ⟨.inl ⟨_, _, _, _, h3, rfl, .refl _, rfl⟩, .inl ⟨_, _, _, _, h4, trivial, ?_, rfl⟩, trivial⟩⟩
        have hl : (ruLs es).length = es.length := by rw [← h6, prL_length]
        exact raw_list hl h5 h6
end Go.Proofs.YtoooohgejkebjaaGreatDoor.Aes


/-
  maps.Clone: the kit's contract az a fact on heaps.
-/
namespace Go.Sim
open Go.Proofs Go.Shelf

/-- is it a map? -/
noncomputable def isMapO (e : SO) : Bool := match e with
  | .obj (.map _ _) => true
  | .obj (.amap _ _ _ _) => true
  | _ => false
theorem isMapO_spec {e : SO} (h : isMapO e = true) : ∃ o, e = .obj o ∧ ∀ β x, o.den β = some x → ∃ es c, x = .map es c := by
  unfold isMapO at h
  split at h
  · refine ⟨_, rfl, fun β x hx => ?_⟩
    simp only [SObj.den, Option.map_eq_some_iff] at hx
    obtain ⟨es, _, rfl⟩ := hx
    exact ⟨_, _, rfl⟩
  · refine ⟨_, rfl, fun β x hx => ?_⟩
    exact ⟨_, _, (SObj.amap_den.1 hx).2⟩
  · cases h
noncomputable def clnM : Summ := fun args H base => args1 args fun v => match v with
  | .nilMap => .ok ⟨.nilMap, [], []⟩
  | .map nm => optC (nth H nm) (.stuck 7850) fun e => boolC (isMapO e) (.ok ⟨.map base, [], [e]⟩) (.stuck 7851)
  | _ => .stuck 7852
section
variable {P : Program} {ρ : Ren}
theorem clone_map (L : SlLaysW.n5 P ρ) (hs : ∃ fn, P.funcs[ρ.f 5]? = some fn ∧ fn.body.isSome = true) : SumOK P (ρ.f 5) clnM := by
  intro glob O w0 β H w base args vs hH hG ha
  refine args1_sat fun v hv => ?_
  rw [hv] at ha
  cases v <;> first | exact trivial | skip
  · rename_i nm
    refine optC_only fun e he => boolC_only fun hm => ?_
    obtain ⟨o, rfl, ho⟩ := isMapO_spec hm
    rw [nth_eq] at he
    obtain ⟨x, ys, hx, hys, rfl⟩ := denL_cons.1 ha
    cases hys
    obtain ⟨l, x', hβ, h0, hd, hh⟩ : OwnRel P β w nm (.obj o) := (hH.entries nm _ he).toOwn rfl
    obtain ⟨es, c, rfl⟩ := ho _ _ hd
    have hx : (β nm).map (fun l => Value.map (some l.blk)) = some x := hx
    rw [hβ] at hx
    cases hx
    intro hnew
    have hb : β base = none := hnew 0 (by show (0 : Nat) < 1; omega)
    refine ⟨fun n e hm => (by cases hm), .inl ⟨hs, ?_⟩⟩
    refine (AnyW.maps_Clone L l.blk es c w hh).mono fun e w' ⟨he, hw⟩ => ⟨_, β.upd base ⟨w.heap.size, 0, 0⟩, he, ?_, ?_⟩
    · show ((β.upd base ⟨w.heap.size, 0, 0⟩) base).map (fun l => Value.map (some l.blk)) = _
      rw [Val.upd_same]; rfl
    · subst hw
      exact Eff.allocO hb rfl rfl rfl rfl hd
  · obtain ⟨x, ys, hx, hys, rfl⟩ := denL_cons.1 ha
    cases hys; cases hx
    intro hnew
    refine ⟨fun n e hm => (by cases hm), .inl ⟨hs, ?_⟩⟩
    refine (AnyW.maps_Clone_nil L w).mono fun e w' ⟨he, hw⟩ => ⟨_, β, he, rfl, ?_⟩
    subst hw
    exact ⟨fun n l h => h, rfl, rfl, rfl, Nat.le_refl _, Nat.le_refl _, fun _ _ => rfl, fun _ _ _ => rfl, fun _ _ _ h => (by cases h), fun _ _ h => (by cases h), fun _ _ h => (by simp at h), fun _ _ _ _ _ h => (by simp at h)⟩
end
end Go.Sim


/-
  maps.Clone of strings.
-/
namespace Go.Proofs
open Go.Shelf
def Tryz.clnSt_ren : Go.Shelf.Ren := ⟨fun | 5 => 46 | 7 => 82 | n => n, fun | 23 => 26 | 25 => 9 | 3 => 9 | 4 => 4 | 20 => 20 | n => n, fun | n => n⟩
theorem Tryz.clnSt : Go.Proofs.SlLaysW.n5 Tryz.prog Tryz.clnSt_ren := {
  mixed := by kernel_rfl
  f5 := ⟨Tryz.f46.name, by decide, Tryz.func46.trans (congrArg some (by kernel_rfl))⟩
  f7 := Tryz.func82.trans (congrArg some (by kernel_rfl))
  t4 := Tryz.underlying4
  a4 := Tryz.isAgg4
  z4 := Tryz.sizeOf4
  v4 := Tryz.zeroValue4
  t20 := Tryz.underlying20
  a20 := Tryz.isAgg20
  z20 := Tryz.sizeOf20
  v20 := Tryz.zeroValue20
  t23 := Tryz.underlying26
  a23 := Tryz.isAgg26
  z23 := Tryz.sizeOf26
  v23 := Tryz.zeroValue26 }
end Go.Proofs
namespace Go.Proofs.YtoooohgejkebjaaGreatDoor.Aes
open Go.Sim
open Go.Proofs

set_option maxRecDepth 1000000
theorem clnStOK : SumOK Tryz.prog 46 clnM := clone_map Tryz.clnSt ⟨_, Tryz.func46, by kernel_rfl⟩
end Go.Proofs.YtoooohgejkebjaaGreatDoor.Aes


/-
  The reference's rules: Remove.
-/
namespace Go.Proofs.YtoooohgejkebjaaGreatDoor.Aes
open Go.Sim
open Go.Proofs
variable {α : Type}

set_option maxRecDepth 1000000
section
variable (V : Nat → Value) (N n : Nat) (b : Bool) (k : Nat) (x y : ByteArray) (i : Nat)
noncomputable def rvG (c : Bool) : List Prop := app (adX x true) [N * 2 = N * 2 / 2 * 2, (tpR V N n).ok, hsP V N n x c]
theorem rv_arg : outO [] (rmvT V N n b k x none) [false] = (adX x false, retQ n b k 2) := by cases b <;> kernel_rfl
theorem rv_none : outO [] (rmvT V N n b k x none) [true, false] = (rvG V N n x false, retQ n b k 9) := by cases b <;> kernel_rfl
noncomputable def dlW (e : Bool) : Nat → Value := boolC e (catV (fun j => atV [] (0 + j)) (0 * 2) fun j => V (0 + (i + 1) * 2 + j))
  (catV (fun j => catV (fun j => atV [] (0 + j)) (0 * 2) (fun j => V (0 + j)) (0 + j)) ((0 + i) * 2) fun j => V (0 + (i + 1) * 2 + j))
noncomputable def dlN (e : Bool) : Nat := boolC e (0 + (n - (i + 1))) (0 + i + (n - (i + 1)))
noncomputable def dlM (e : Bool) : Nat := boolC e 2 3
noncomputable def dlB : List Prop := [inI64 ((i : Int) + 1), (0 : Int) ≤ (i : Int) + 1 ∧ (i : Int) + 1 ≤ (n : Int), 0 + (i + 1) * 2 + (n - (i + 1)) * 2 ≤ N * 2]
noncomputable def rvI : Nat := (tpR V N n).ix x
noncomputable def rvA (e : Bool) : List Prop := app (rvG V N n x true) [decide ((rvI V N n x : Int) < 0) = false, (0 : Int) ≤ (rvI V N n x : Int) ∧ (rvI V N n x : Int) ≤ (n : Int), 0 + rvI V N n x * 2 ≤ N * 2, decide (0 + rvI V N n x ≤ 0) = e]
noncomputable def rvC (e : Bool) : List Prop := app (rvA V N n x e)
  (boolC e (app (dlB N n (rvI V N n x)) [decide (0 + (n - (rvI V N n x + 1)) ≤ 0) = false, 0 ≤ 0, (0 + (n - (rvI V N n x + 1))) * 32 < 140737488355328 ∧ 0 + (n - (rvI V N n x + 1)) < 140737488355328])
    (app [0 ≤ 0, (0 + rvI V N n x) * 32 < 140737488355328 ∧ 0 + rvI V N n x < 140737488355328] (app (dlB N n (rvI V N n x)) [0 + (0 + rvI V N n x) * 2 ≤ (0 + rvI V N n x) * 2, ((0 + rvI V N n x + (n - (rvI V N n x + 1))) * 32 < 140737488355328 ∧ 0 + rvI V N n x + (n - (rvI V N n x + 1)) < 140737488355328) ∧ oneR ((n - (rvI V N n x + 1)) * 2) fun j => V (0 + (rvI V N n x + 1) * 2 + j)])))
theorem rv_last : outO [1] (rmvT V N n b k x none) [true, true, false, true, true] = (app (rvA V N n x true) (app (dlB N n (rvI V N n x)) [decide (0 + (n - (rvI V N n x + 1)) ≤ 0) = true]), some (.tuple [.slice ⟨1, .lit 0⟩ (.lit 0) (.lit 0), .int .i64 (.lit 0)], [some (.own (.lst []) true 42)])) := by cases b <;> kernel_rfl
theorem rv_cut (e : Bool) : outO [dlM e] (rmvT V N n b k x none) (true :: true :: false :: e :: boolC e [false] []) = (rvC V N n x e, some (.tuple [.slice ⟨dlM e, .lit 0⟩ (.sym (dlN n (rvI V N n x) e)) (.rest (dlM e) 0), .int .i64 (.lit 0)], [some (.own (.raw (dlW V (rvI V N n x) e) (dlN n (rvI V N n x) e * 2)) false 42)])) := by cases b <;> cases e <;> kernel_rfl
end
section
variable {V : Nat → Value} {n i : Nat}
theorem dlW_at {e : Bool} (he : decide (0 + i ≤ 0) = e) : (∀ j, j < i → dlW V i e (j * 2) = V (j * 2) ∧ dlW V i e (j * 2 + 1) = V (j * 2 + 1)) ∧ ∀ j, i ≤ j → dlW V i e (j * 2) = V ((j + 1) * 2) ∧ dlW V i e (j * 2 + 1) = V ((j + 1) * 2 + 1) := by
  cases e with
  | true =>
    have h0 : i = 0 := by have := of_decide_eq_true he; omega
    subst h0
    have e1 : ∀ m, dlW V 0 true m = if m < 0 * 2 then atV [] (0 + m) else V (0 + (0 + 1) * 2 + (m - 0 * 2)) := fun m => rfl
    refine ⟨fun j hj => by omega, fun j hj => ⟨?_, ?_⟩⟩
    · rw [e1, if_neg (by omega)]; exact congrArg V (by omega)
    · rw [e1, if_neg (by omega)]; exact congrArg V (by omega)
  | false =>
    have e1 : ∀ m, dlW V i false m = if m < (0 + i) * 2 then (if 0 + m < 0 * 2 then atV [] (0 + (0 + m)) else V (0 + (0 + m - 0 * 2))) else V (0 + (i + 1) * 2 + (m - (0 + i) * 2)) := fun m => rfl
    refine ⟨fun j hj => ⟨?_, ?_⟩, fun j hj => ⟨?_, ?_⟩⟩
    · rw [e1, if_pos (by omega), if_neg (by omega)]; exact congrArg V (by omega)
    · rw [e1, if_pos (by omega), if_neg (by omega)]; exact congrArg V (by omega)
    · rw [e1, if_neg (by omega)]; exact congrArg V (by omega)
    · rw [e1, if_neg (by omega)]; exact congrArg V (by omega)
theorem dlW_list {e : Bool} (he : decide (0 + i ≤ 0) = e) (hi : i < n) (hV : PrV V n) : PrV (dlW V i e) (n - 1) ∧ prL (dlW V i e) (n - 1) = (prL V n).take i ++ (prL V n).drop (i + 1) := by
  obtain ⟨h1, h3⟩ := dlW_at (V := V) he
  have a1 : ∀ j, j < i → prAt (dlW V i e) j = prAt V j := fun j hj => by unfold prAt; rw [(h1 j hj).1, (h1 j hj).2]
  have a3 : ∀ j, i ≤ j → prAt (dlW V i e) j = prAt V (j + 1) := fun j hj => by unfold prAt; rw [(h3 j hj).1, (h3 j hj).2]
  refine ⟨fun j hj => ?_, ?_⟩
  · by_cases c : j < i
    · rw [a1 j c, (h1 j c).1, (h1 j c).2]; exact hV j (by omega)
    · rw [a3 j (by omega), (h3 j (by omega)).1, (h3 j (by omega)).2]; exact hV (j + 1) (by omega)
  · have hl : (prL V n).length = n := prL_length V n
    refine List.ext_getElem (by rw [prL_length, List.length_append, List.length_take, List.length_drop, hl]; omega) fun j hj hj' => ?_
    have hj : j < n - 1 := by rwa [prL_length] at hj
    have g : ∀ (W : Nat → Value) (m k : Nat) (h : k < (prL W m).length), (prL W m)[k] = prAt W k := fun W m k h => by simp [prL]
    rw [g]
    by_cases c : j < i
    · rw [a1 j c, List.getElem_append_left (by rw [List.length_take, hl]; omega), List.getElem_take, g]
    · rw [a3 j (by omega), List.getElem_append_right (by rw [List.length_take, hl]; omega)]
      simp only [List.getElem_drop]
      rw [g]
      congr 1
      rw [List.length_take, hl, Nat.min_eq_left (by omega)]; omega
end
noncomputable def emH : SO := .own (.lst []) true 42
noncomputable def rvR (base nm : Nat) (t : Pw) (b : Bool) (k : Nat) (x : ByteArray) : R SumRes :=
  .need (t.ok ∧ x.size ≤ 9223372036854775807) (.fork (sfBo x) (.fork (cB (t.hasX x)) (.fork (decide (t.n = 1)) (.ok ⟨tupQ (.slice ⟨base, .lit 0⟩ (.lit 0) (.lit 0)) 0, [], [emH]⟩)
    (.ok ⟨tupQ (.slice ⟨base, .lit 0⟩ (.sym (t.n - 1)) (.rest base 0)) 0, [], [lhE (delH t.list x) (t.n - 1)]⟩)) (.ok ⟨tupQ (slQ nm t.n b k) 9, [], []⟩)) (.ok ⟨tupQ (slQ nm t.n b k) 2, [], []⟩))
noncomputable def rvSm : Summ := fun args H base => args2 args fun v xv => optC (strV xv) (.stuck 7914) fun x => partQ H v fun t nm b k => rvR base nm t b k x.den
theorem rvOK : SumOK Tryz.prog 20 rvSm := by
  intro glob O w0 β H w base args vs hH hG ha
  refine args2_sat fun v xv hv => optC_only fun x hx => ?_
  rw [hv, strV_spec hx] at ha
  have ha := impL_cons (.refl v) (impL_cons (str_imp (t := .sym x.den) rfl) impL_nil) _ _ ha
  generalize x.den = x at ha ⊢
  refine partQ_sat fun t nm b k ht hi => ?_
  have ha := impL_cons hi (SV.ImpL.refl _) _ _ ha
  let I : Ifc := ⟨[nm], [t.row], [slQ 0 t.n b k, .str (.sym x)]⟩
  have ha : SV.denL β (SV.renL I.big I.args) = some vs := by
    show SV.denL β [(slQ 0 t.n b k).ren _, _] = _
    rw [slQ_ren]; exact ha
  have hF : I.FitsQ H := Ifc.fitsQ (by simp [I]) (by
    show ((slQ 0 t.n b k).uses _ && _) = true
    rw [slQ_uses _ _ _ _ _ rfl]; rfl) ⟨⟨(let ⟨e, h1, h2⟩ := ht _; ⟨e, h1, h2.q⟩), (t.row_uses _).q⟩, trivial⟩
  have hgl : ∀ g j, (cfgH1.at none).glob g = some j → I.known j = true ∧ ∃ l, β (I.big j) = some l ∧ l.blk = g ∧ l.off = 0 := by intro g j hg; cases hg
  have hQ : ∀ (m : Int) (H2 : List SO), I.EndsQ base [] ⟨tupQ (slQ nm t.n b k) m, [], []⟩ (tupQ (slQ 0 t.n b k) m) H2 := fun m H2 => ⟨by
      show SV.Imp (tupQ ((slQ 0 t.n b k).ren (I.out base [])) m) _
      rw [slQ_ren]; exact .refl _, by
      show ((slQ 0 t.n b k).uses _ && _) = true
      rw [slQ_uses _ _ _ _ _ rfl]; rfl, trivial, trivial⟩
  have go : ∀ {ds ps m}, outO [] (rmvT t.V t.N t.n b k x none) ds = (ps, retQ t.n b k m) → (∀ p ∈ ps, p) → SumSem Tryz.prog H β w base 20 vs ⟨tupQ (slQ nm t.n b k) m, [], []⟩ := fun {ds ps m} hr hp =>
    sum_runQ (cfgH1OK.at none) 20000 hH I hgl ha hF [] (by simp) (by simp) (outO_ob hr hp fun H2 _ => hQ m H2)
  rintro ⟨hok, hxz⟩
  have etp : tpR t.V t.N t.n = t := by unfold tpR; rw [half2]
  have hX : ∀ {c}, sfBo x = c → ∀ p ∈ adX x c, p := fun h => all_cons hxz (all_cons h all_nil)
  have hG : ∀ {c}, sfBo x = true → cB (t.hasX x) = c → ∀ p ∈ rvG t.V t.N t.n x c, p := fun h h' => app_all (hX h) (all_cons (by omega) (all_cons (by rw [etp]; exact hok) (all_cons (by unfold hsP; rw [etp]; exact h') all_nil)))
  refine ⟨fun h1 => ⟨fun h2 => ?_, fun h2 => go (rv_none t.V t.N t.n b k x) (hG h1 h2)⟩, fun h1 => go (rv_arg t.V t.N t.n b k x) (hX h1)⟩
  have hh := cBi.1 h2
  obtain ⟨hi1, hi2, hi3⟩ := Pw.ix_spec hh
  have hI : rvI t.V t.N t.n x = t.ix x := by unfold rvI; rw [etp]
  obtain ⟨o1, o2, o3⟩ := hok
  have hA : ∀ e, decide (0 + t.ix x ≤ 0) = e → ∀ p ∈ rvA t.V t.N t.n x e, p := fun e he => by
    unfold rvA
    rw [hI]
    exact app_all (hG h1 h2) (all_cons (decide_eq_false (by omega)) (all_cons ⟨by omega, by omega⟩ (all_cons (by omega) (all_cons he all_nil))))
  have hB : ∀ p ∈ dlB t.N t.n (t.ix x), p := all_cons ⟨by omega, by omega⟩ (all_cons ⟨by omega, by omega⟩ (all_cons (by omega) all_nil))
  refine ⟨fun h3 => ?_, fun h3 => ?_⟩
  · have h3 := of_decide_eq_true h3
    refine sum_runQ (cfgH1OK.at none) 20000 hH I hgl ha hF [1] (by simp [I]) (by simp) (outO_ob (rv_last t.V t.N t.n b k x) (by rw [hI]; exact app_all (hA true (decide_eq_true (by omega))) (app_all hB (all_cons (decide_eq_true (by omega)) all_nil))) fun H2 hH2 => ?_)
    have hW := (List.cons.inj hH2).1
    refine ⟨?_, ?_, trivial, ⟨.inl ⟨_, _, _, _, hW, rfl, .refl _, rfl⟩, trivial⟩⟩
    · show SV.Imp (tupQ (.slice ⟨I.out base [1] 1, .lit 0⟩ (.lit 0) (.lit 0)) 0) _
      rw [out1 (by simp [I])]
      exact .refl _
    · show ((I.seen [1] 1 && true) && _) = true
      rw [seen1]; rfl
  · have h3 := of_decide_eq_false h3
    obtain ⟨hW1, hW2⟩ := dlW_list (V := t.V) (n := t.n) (i := t.ix x) (e := decide (0 + t.ix x ≤ 0)) rfl hi1 o3
    have hone := one_of (V := t.V) (n := t.n) (i := t.ix x + 1) (m := (t.n - (t.ix x + 1)) * 2) o3 (by omega)
    have hC : ∀ p ∈ rvC t.V t.N t.n x (decide (0 + t.ix x ≤ 0)), p := by
      unfold rvC
      rw [hI]
      refine app_all (hA _ rfl) ?_
      cases h : decide (0 + t.ix x ≤ 0) with
      | true =>
        have := of_decide_eq_true h
        exact app_all hB (all_cons (decide_eq_false (by omega)) (all_cons (Nat.le_refl 0) (all_cons ⟨by omega, by omega⟩ all_nil)))
      | false => exact app_all (all_cons (Nat.le_refl 0) (all_cons ⟨by omega, by omega⟩ all_nil)) (app_all hB (all_cons (by omega) (all_cons ⟨⟨by omega, by omega⟩, hone⟩ all_nil)))
    have hnn : dlN t.n (t.ix x) (decide (0 + t.ix x ≤ 0)) = t.n - 1 := by
      cases h : decide (0 + t.ix x ≤ 0) with
      | true => have := of_decide_eq_true h; show 0 + (t.n - (t.ix x + 1)) = _; omega
      | false => show 0 + t.ix x + (t.n - (t.ix x + 1)) = _; omega
    have hm : 1 ≤ dlM (decide (0 + t.ix x ≤ 0)) := by cases decide (0 + t.ix x ≤ 0) <;> (show (1 : Nat) ≤ _; decide)
    have hl : (delH t.list x).length = t.n - 1 := by rw [delH_length hh, list_length]
    have hil : t.ix x < (prL t.V t.n).length := by rw [prL_length]; exact hi1
    have hL : prL (dlW t.V (t.ix x) (decide (0 + t.ix x ≤ 0))) (t.n - 1) = delH t.list x := by
      rw [hW2]
      exact (delH_at hil (fun j h hj => by rw [prL_get]; exact hi3 j hj) (by rw [prL_get]; exact hi2)).symm
    have hrun := rv_cut t.V t.N t.n b k x (decide (0 + t.ix x ≤ 0))
    rw [hI, hnn] at hrun
    refine sum_runQ (cfgH1OK.at none) 20000 hH I hgl ha hF [dlM (decide (0 + t.ix x ≤ 0))] (by simpa [I] using hm) (by simp) (outO_ob hrun hC fun H2 hH2 => ?_)
    have hW := (List.cons.inj hH2).1
    generalize dlM (decide (0 + t.ix x ≤ 0)) = mm at hm hW ⊢
    refine ⟨?_, ?_, trivial, ⟨.inl ⟨_, _, _, _, hW, trivial, raw_list hl hW1 hL, rfl⟩, trivial⟩⟩
    · show SV.Imp (tupQ (.slice ⟨I.out base [mm] mm, .lit 0⟩ (.sym (t.n - 1)) (.rest (I.out base [mm] mm) 0)) 0) _
      rw [out1 (by simpa [I] using hm)]
      exact .refl _
    · show ((I.seen [mm] mm && I.seen [mm] mm) && _) = true
      rw [seen1]; rfl
end Go.Proofs.YtoooohgejkebjaaGreatDoor.Aes


/-
  Calls on a map: the law's short.
-/
namespace Go.Proofs.YtoooohgejkebjaaGreatDoor.Aes
open Go.Sim
open Go.Proofs
variable {α : Type}

set_option maxRecDepth 1000000
noncomputable def rwA (V : Nat → Value) (N : Nat) : SO := .row (.raw V (N * 3))
section
variable (V : Nat → Value) (N n k : Nat) (m : Int) (i : Nat) (J : Junk) (z : Nat → Nat → Nat)
noncomputable def shT (st : Option (Nat × Nat)) : Tree := callSim (cfgP0.at st) 20000 4 [slP 0 n k, .int .i64 (.sym m)] [rwA V N]
noncomputable def shZ : Tree := callSim cfgP0 20000 4 [.nilSlice, .int .i64 (.sym m)] []
noncomputable def shC : Cut := ⟨bareFs (stopOf (shT V N n k m (some (1, 3))) [false]).frames [[(0, slP 0 n k), (5, .int .i64 (.sym i))]], [.ent (rwA V N)]⟩
noncomputable def shS (st : Option (Nat × Nat)) : Tree := sim1 (cfgP0.at st) 20000 ((shC V N n k m i).fill J)
noncomputable def aFr (i : Nat) : ByteArray := vStr (V (0 + i * 3 + 1))
noncomputable def aTo (i : Nat) : ByteArray := vStr (V (0 + i * 3 + 2))
noncomputable def shA (j : Nat) (q : List Prop) : List Prop := ((0 : Int) ≤ (i : Int) ∧ (i : Int) < (n : Int)) :: (0 + i * 3 + j < N * 3) :: fitK .s (V (0 + i * 3 + j)) :: q
theorem sh_many : outO [] (shT V N n k m none) [true] = ([decide ((n : Int) > m) = true], some (.bool (.lit false), [])) := by kernel_rfl
theorem sh_nil0 : outO [] (shZ m) [false] = ([decide ((0 : Int) > m) = false], some (.bool (.lit true), [])) := by kernel_rfl
theorem sh_nil1 : outO [] (shZ m) [true] = ([decide ((0 : Int) > m) = true], some (.bool (.lit false), [])) := by kernel_rfl
theorem sh_init : outL [] (shC V N n k m 0) [0] (shT V N n k m (some (1, 3))) [false] z = ([decide ((n : Int) > m) = false], some (.inr (modSeen [(0, 5, .int .i64 (.lit 0))] [] (seenC [0] 1 (shC V N n k m 0))))) := by kernel_rfl
theorem sh_turn : outL [] (shC V N n k m i) [0] (shS V N n k m i J (some (1, 3))) [true, false, false] z = ((decide ((i : Int) < (n : Int)) = true) :: shA V N n i 1 ((decide (((aFr V i).size : Int) > 100) = false) :: shA V N n i 2 [decide (((aTo V i).size : Int) > 60) = false, inI64 ((i : Int) + 1)]), some (.inr (seenC [0] 1 (shC V N n k m (i + 1))))) := by kernel_rfl
theorem sh_f1 : outL [] (shC V N n k m i) [0] (shS V N n k m i J none) (true :: repN true 8) z = ((decide ((i : Int) < (n : Int)) = true) :: shA V N n i 1 (repN (decide (((aFr V i).size : Int) > 100) = true) 8), noR) := by kernel_rfl
theorem sh_f2 : outL [] (shC V N n k m i) [0] (shS V N n k m i J none) [true, false, true] z = ((decide ((i : Int) < (n : Int)) = true) :: shA V N n i 1 ((decide (((aFr V i).size : Int) > 100) = false) :: shA V N n i 2 [decide (((aTo V i).size : Int) > 60) = true]), noR) := by kernel_rfl
theorem sh_end : outL [] (shC V N n k m i) [0] (shS V N n k m i J none) [false] z = ([decide ((i : Int) < (n : Int)) = false], yesR) := by kernel_rfl
theorem sh_names (j : Nat) : boolC (namesOK 1 [0] (shC V N n k m i) (shC V N n k m j)) (allN noLoopE (shC V N n k m j).heap) false = true := by kernel_rfl
theorem sh_tmp : (((shC V N n k m i).frames[0]?).bind fun p => p.tmps[5]?) = some (some (.int .i64 (.sym i))) := by kernel_rfl
end
/-- a slice of calls -/
def ActV (V : Nat → Value) (n : Nat) : Prop := ∀ i, i < n → (∃ z, V (0 + i * 3) = .int .i64 z) ∧ V (0 + i * 3 + 1) = .string (aFr V i) ∧ V (0 + i * 3 + 2) = .string (aTo V i)
def Pw.okA (t : Pw) : Prop := t.n ≤ t.N ∧ ActV t.V t.n
def shP (t : Pw) (m : Int) : Prop := (t.n : Int) ≤ m ∧ ∀ i, i < t.n → (aFr t.V i).size ≤ 100 ∧ (aTo t.V i).size ≤ 60
theorem sh_runs {t : Pw} (k : Nat) {m : Int} (ht : t.okA) (hm : (t.n : Int) ≤ m) (hz : t.n ≤ 1000000) : Runs cfgP0 4 [slP 0 t.n k, .int .i64 (.sym m)] [rwA t.V t.N] fun v _ => isBool (cB (shP t m)) v := by
  obtain ⟨h1, h2⟩ := ht
  have hA : ∀ {i j : Nat} {q : List Prop}, i < t.n → (j = 1 ∨ j = 2) → (∀ p ∈ q, p) → ∀ p ∈ shA t.V t.N t.n i j q, p := fun {i j q} hi hj hq => by
    obtain ⟨_, h3, h4⟩ := h2 i hi
    refine all_cons ⟨by omega, by omega⟩ (all_cons (by omega) (all_cons ?_ hq))
    rcases hj with rfl | rfl
    · rw [h3]; exact fitS _
    · rw [h4]; exact fitS _
  refine all_loop cfgP0OK (shC t.V t.N t.n k m) (fun i => (aFr t.V i).size ≤ 100 ∧ (aTo t.V i).size ≤ 60) t.n (fun g nm hg => by cases hg) (fun Q hQ => ?_) (fun i hi hp J Q hQ => ?_) (fun i hi hp J Q => ?_) (fun hp J Q => ?_)
  · refine to_startM (some (1, 3)) 20000 0 hQ (sh_init t.V t.N t.n k m) (sh_names t.V t.N t.n k m 0 0) (fun q hq p u hp hu => ?_) (fun e he => by cases he) (all_cons (decide_eq_false (by omega)) all_nil)
    obtain rfl : q = (0, 5, .int .i64 (.lit 0)) := by simpa using hq
    exact tmp_set (sh_tmp t.V t.N t.n k m 0) hp hu (int_impS rfl)
  · exact to_turn (some (1, 3)) 20000 (i + 1) hQ (sh_turn t.V t.N t.n k m i J) (sh_names t.V t.N t.n k m i (i + 1)) (all_cons (decide_eq_true (by omega)) (hA hi (.inl rfl) (all_cons (decide_eq_false (by omega)) (hA hi (.inr rfl) (all_cons (decide_eq_false (by omega)) (all_cons ⟨by omega, by omega⟩ all_nil))))))
  · by_cases c : (aFr t.V i).size ≤ 100
    · have c2 : ¬ (aTo t.V i).size ≤ 60 := fun h => hp ⟨c, h⟩
      exact to_end none 20000 (sh_f2 t.V t.N t.n k m i J) (all_cons (decide_eq_true (by omega)) (hA hi (.inl rfl) (all_cons (decide_eq_false (by omega)) (hA hi (.inr rfl) (all_cons (decide_eq_true (by omega)) all_nil))))) fun H _ => ⟨_, rfl, (cB_false fun h => hp (h.2 i hi)).symm⟩
    · exact to_end none 20000 (sh_f1 t.V t.N t.n k m i J) (all_cons (decide_eq_true (by omega)) (hA hi (.inl rfl) (rep_all (decide_eq_true (by omega)) 8))) fun H _ => ⟨_, rfl, (cB_false fun h => hp (h.2 i hi)).symm⟩
  · exact to_end none 20000 (sh_end t.V t.N t.n k m t.n J) (all_cons (decide_eq_false (by omega)) all_nil) fun H _ => ⟨_, rfl, (cB_true ⟨hm, hp⟩).symm⟩
/- The summary, of a row az it came in. -/
noncomputable def partA (H : List SO) (v : SV) (f : Pw → Nat → R α) : R α := v.asSlice (.stuck 7890) fun a l _ => boolC (is0 a.off) (optC (nth H a.nm) (.stuck 7891) fun e => match e with
  | .row (.raw V m) => .need (m = m / 3 * 3) (f ⟨V, m / 3, l.den⟩ a.nm)
  | _ => .stuck 7892) (.stuck 7893)
theorem partA_sat {H : List SO} {v : SV} {f : Pw → Nat → R α} {φ : α → Prop} (h : ∀ t nm, (∀ g, ∃ e', H[nm]? = some e' ∧ Taken g (rwA t.V t.N) e') → (∀ β x, v.den β = some x → ∃ k, (slP nm t.n k).den β = some x) → (f t nm).Sat φ) : (partA H v f).Sat φ := by
  unfold partA
  rcases asSlice_cases v with ⟨a, l, c, rfl⟩ | hv
  · refine boolC_only fun h0 => optC_only fun e he => ?_
    cases e <;> first | exact trivial | skip
    rename_i cc
    cases cc <;> first | exact trivial | skip
    rename_i V m
    intro hm
    rw [nth_eq] at he
    refine h ⟨V, m / 3, l.den⟩ a.nm (fun g => ⟨_, he, taken_row (c0 := .raw V m) (.inl rfl) ?_⟩) fun β x hx => ?_
    · show (Cells.raw V m).Front (.raw V (m / 3 * 3))
      rw [← hm]
      exact Cells.Imp.front (.refl _)
    · obtain ⟨m, _, hd, _, _⟩ := slice_den hx
      obtain ⟨nm, off⟩ := a
      obtain rfl := is0_spec h0
      exact ⟨m, hd⟩
  · rw [hv]; trivial
noncomputable def shSm : Summ := fun args H _ => args2 args fun v mv => optC (i64V mv) (.stuck 7894) fun m => sliceR v (.ok (bR ((0 : Int) ≤ m.den))) fun _ _ => partA H v fun t _ => .need ((t.n : Int) ≤ m.den → t.okA ∧ t.n ≤ 1000000) (.ok (bR (shP t m.den)))
theorem shOK : SumOK Tryz.prog 4 shSm := by
  intro glob O w0 β H w base args vs hH hG ha
  refine args2_sat fun v mv hv => optC_only fun m hm => ?_
  rw [hv, i64V_spec hm] at ha
  have ha := impL_cons (.refl v) (impL_cons (int_impS (b := .sym m.den) rfl) impL_nil) _ _ ha
  generalize m.den = m at ha ⊢
  refine sliceR_sat (fun hn => ?_) fun _ _ _ _ => partA_sat fun t nm ht hi hok => ?_
  · rw [hn] at ha
    by_cases c : (0 : Int) > m
    · exact i0_sem cfgP0OK hH ha (fun _ => rfl) (fun _ => rfl) (sh_nil1 m) (all_cons (decide_eq_true c) all_nil) (cB_false fun h => by omega).symm
    · exact i0_sem cfgP0OK hH ha (fun _ => rfl) (fun _ => rfl) (sh_nil0 m) (all_cons (decide_eq_false c) all_nil) (cB_true (by omega)).symm
  · obtain ⟨x, ys, hx, hys, rfl⟩ := denL_cons.1 ha
    obtain ⟨k, hx'⟩ := hi _ _ hx
    have hr : Runs cfgP0 4 [slP 0 t.n k, .int .i64 (.sym m)] [rwA t.V t.N] fun v _ => isBool (cB (shP t m)) v := by
      by_cases c : (t.n : Int) ≤ m
      · exact sh_runs k (hok c).1 c (hok c).2
      · exact runs_of (c := cfgP0) cfgP0OK (outO_ob (sh_many t.V t.N t.n k m) (all_cons (decide_eq_true (by omega)) all_nil) fun H2 _ => ⟨_, rfl, (cB_false fun h => c h.1).symm⟩)
    refine sum_runsQ (c := cfgP0) hH ⟨[nm], [rwA t.V t.N], [slP 0 t.n k, .int .i64 (.sym m)]⟩ (by intro g j hg; cases hg) (denL_cons.2 ⟨_, _, hx', hys, rfl⟩) (Ifc.fitsQ (by simp) rfl ⟨⟨(let ⟨e, h1, h2⟩ := ht _; ⟨e, h1, h2.q⟩), (show (rwA t.V t.N).CUses _ from trivial).q⟩, trivial⟩) [] (by simp) (by simp) (runs_mono hr fun v H h => bool_ends rfl h)
end Go.Proofs.YtoooohgejkebjaaGreatDoor.Aes


/-
  ReferralHosts: what the law's runs stand on.
-/


/-
  Routes: the order of pairs of realms.
-/
namespace Go.Proofs.YtoooohgejkebjaaGreatDoor.Aes
open Go.Sim
open Go.Proofs
variable {α : Type}

/-- a pair of strings -/
noncomputable def pairL : List SV → Option (SStr × SStr)
  | [a, b] => optC (strV a) none fun a => optC (strV b) none fun b => some (a, b)
  | _ => none
noncomputable def pairV (v : SV) : Option (SStr × SStr) := v.asAgg none pairL
theorem pairL_spec : ∀ {l : List SV} {p : SStr × SStr}, pairL l = some p → l = [.str p.1, .str p.2]
  | [a, b], p, h => by
    have h : (optC (strV a) none fun a => optC (strV b) none fun b => some (a, b)) = some p := h
    cases ha : strV a with
    | none => rw [ha] at h; cases h
    | some x =>
      cases hb : strV b with
      | none => rw [ha, hb] at h; cases h
      | some y =>
        rw [ha, hb] at h
        cases h
        rw [strV_spec ha, strV_spec hb]
  | [], _, h => by cases h
  | [_], _, h => by cases h
  | _ :: _ :: _ :: _, _, h => by cases h
theorem pairV_spec {v : SV} {p : SStr × SStr} (h : pairV v = some p) : v = .agg [.str p.1, .str p.2] := by
  cases v with
  | agg l => rw [pairL_spec h]
  | _ => cases h
noncomputable def orI (x y : SI) : SI := SI.rec (motive := fun _ => SI) (fun n => boolC (n != 0) (.lit n) y) (fun n => .sym (boolC (n != 0) n y.den)) (fun b => .sym (boolC ((SI.b8 b).den != 0) (SI.b8 b).den y.den)) (fun b => .sym (boolC ((SI.b32 b).den != 0) (SI.b32 b).den y.den)) (fun b => .sym (boolC ((SI.b64 b).den != 0) (SI.b64 b).den y.den)) x
theorem orI_den (x y : SI) : (orI x y).den = boolC (x.den != 0) x.den y.den := by
  cases x with
  | lit n =>
    show (boolC (n != 0) (SI.lit n) y).den = boolC (n != 0) n y.den
    cases n != 0 <;> rfl
  | _ => rfl
noncomputable def c2S : Summ := fun args _ _ => args2 args fun v w => optC (pairV v) (.stuck 682) fun p => optC (pairV w) (.stuck 682) fun q => .ok ⟨SV.int .i64 (orI (cmpI p.1 q.1) (cmpI p.2 q.2)), [], []⟩
noncomputable def c2A (a b c d : ByteArray) : List SV := [.agg [.str (.sym a), .str (.sym b)], .agg [.str (.sym c), .str (.sym d)]]
theorem c2_run1 (a b c d : ByteArray) : outO [] (callSim cfgR0 400 171 (c2A a b c d) []) [true] = ([(cmpZ a c != 0) = true], some (.int .i64 (.sym (cmpZ a c)), [])) := by kernel_rfl
theorem c2_run2 (a b c d : ByteArray) : outO [] (callSim cfgR0 400 171 (c2A a b c d) []) [false, false] = ([(cmpZ a c != 0) = false, (cmpZ b d != 0) = false], some (.int .i64 (.lit 0), [])) := by kernel_rfl
theorem c2_run3 (a b c d : ByteArray) : outO [] (callSim cfgR0 400 171 (c2A a b c d) []) [false, true] = ([(cmpZ a c != 0) = false, (cmpZ b d != 0) = true], some (.int .i64 (.sym (cmpZ b d)), [])) := by kernel_rfl
theorem agg2_imp {a b c d : SStr} (h : a.den = c.den) (h' : b.den = d.den) : (SV.agg [.str a, .str b]).Imp (.agg [.str c, .str d]) := fun β x hx => by
  simp only [SV.den, SV.denL, Option.map_some, Option.bind_some] at hx ⊢
  rw [← h, ← h']; exact hx
theorem c2OK : SumOK Tryz.prog 171 c2S := by
  intro glob O w0 β H w base args vs hH hG ha
  refine args2_sat fun v1 v2 hv => optC_only fun p hp => optC_only fun q hq => ?_
  rw [hv, pairV_spec hp, pairV_spec hq] at ha
  have ha := impL_cons (agg2_imp (c := .sym p.1.den) (d := .sym p.2.den) rfl rfl) (impL_cons (agg2_imp (c := .sym q.1.den) (d := .sym q.2.den) rfl rfl) impL_nil) _ _ ha
  have hE : ∀ (n : SI), boolC (cmpZ p.1.den q.1.den != 0) (cmpZ p.1.den q.1.den) (cmpZ p.2.den q.2.den) = n.den → ∀ H2 : List SO, (⟨[], [], c2A p.1.den p.2.den q.1.den q.2.den⟩ : Ifc).Ends base [] ⟨SV.int .i64 (orI (cmpI p.1 q.1) (cmpI p.2 q.2)), [], []⟩ (SV.int .i64 n) H2 := fun n hn H2 => ⟨int_impS (by rw [orI_den, cmpI_den, cmpI_den, hn]), rfl, trivial, trivial⟩
  cases hb : cmpZ p.1.den q.1.den != 0 with
  | true => exact sum_outO cfgR0OK rfl 400 hH ⟨[], [], c2A p.1.den p.2.den q.1.den q.2.den⟩ ha (fits0 rfl) [] (by simp) (by simp) (c2_run1 _ _ _ _) (all_cons hb all_nil) fun H2 _ => hE _ (by rw [hb]; rfl) H2
  | false =>
    cases he : cmpZ p.2.den q.2.den != 0 with
    | true => exact sum_outO cfgR0OK rfl 400 hH ⟨[], [], c2A p.1.den p.2.den q.1.den q.2.den⟩ ha (fits0 rfl) [] (by simp) (by simp) (c2_run3 _ _ _ _) (all_cons hb (all_cons he all_nil)) fun H2 _ => hE _ (by rw [hb]; rfl) H2
    | false => exact sum_outO cfgR0OK rfl 400 hH ⟨[], [], c2A p.1.den p.2.den q.1.den q.2.den⟩ ha (fits0 rfl) [] (by simp) (by simp) (c2_run2 _ _ _ _) (all_cons hb (all_cons he all_nil)) fun H2 _ => hE (.lit 0) (by
        have h0 : cmpZ p.2.den q.2.den = 0 := by simpa using he
        rw [hb, h0]; rfl) H2
noncomputable def cfgR1 : Cfg := cfgOf (sumsOf [(161, idxS), (173, cmpS), (171, c2S)])
theorem cfgR1OK : CfgOK cfgR1 := sumsOf_ok (allC idxOK (allC cmpOK (all1 c2OK)))
end Go.Proofs.YtoooohgejkebjaaGreatDoor.Aes


/-
  Referrals: what is run az it stands.
-/
namespace Go.Proofs.YtoooohgejkebjaaGreatDoor.Aes
open Go.Sim
open Go.Proofs
variable {α : Type}

set_option maxRecDepth 1000000
def realmR : List (List UInt8 × Bool) := [([82], true), ([83], true), ([84, 46, 88], true), ([85], true)]
theorem realmR_runs : mapN (fun p : List UInt8 × Bool => outO [] (callSim cfgX 20000 28 [.str (.lit (bAs p.1))] []) []) realmR = mapN (fun p : List UInt8 × Bool => (([], some (.bool (.lit p.2), [])) : List Prop × Option (SV × List (Option SO)))) realmR := by kernel_rfl
theorem realmROK : SumOK Tryz.prog 28 (tabS realmR) := tabOK cfgXOK realmR_runs
noncomputable def rfL0 : List (FuncId × Summ) := [(161, idxS), (173, cmpS), (28, tabS realmR)]
theorem rfL0OK : ∀ y ∈ rfL0, SumOK Tryz.prog y.1 y.2 := allC idxOK (allC cmpOK (all1 realmROK))
noncomputable def cfgF0 : Cfg := cfgOf (sumsOf rfL0)
theorem cfgF0OK : CfgOK cfgF0 := sumsOf_ok rfL0OK
end Go.Proofs.YtoooohgejkebjaaGreatDoor.Aes

