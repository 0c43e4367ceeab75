/-
  The symbolic simulator, seventh part: each operation is what the model does.
-/
import Derived.Test.YtdnaaeagllejjaaEng6
namespace Go.Sim
variable {α : Type}

theorem constC_den (β : Val) (v : Value) : (constC v).den β = some v := by
  unfold constC
  split <;> first | rfl | simp [SV.den, SI.den, SB.den, SStr.den]
theorem mapConst_den (β : Val) (l : List Value) : SV.denL β (mapN constC l) = some l := by
  induction l with
  | nil => rfl
  | cons v l ih => exact denL_cons.2 ⟨v, l, constC_den β v, ih, rfl⟩
theorem constV_den (β : Val) (v : Value) : (constV v).den β = some v := by
  unfold constV
  split
  · simp [SV.den, mapConst_den]
  · rfl
  · rfl
  · exact constC_den β v
theorem zeroS_spec {P : Program} {t : TypeId} {l : List SV} (h : zeroS P t = some l) : ∃ i v, P.info? t = some i ∧ i.zero = some v ∧ ∀ β, SV.denL β l = some v.cells.toList := by
  simp only [zeroS, Option.map_eq_some_iff, Option.bind_eq_some_iff] at h
  obtain ⟨v, ⟨i, hi, hv⟩, rfl⟩ := h
  exact ⟨i, v, hi, hv, fun β => mapConst_den β _⟩
theorem run_zeroValue {P : Program} {w : World} {t : TypeId} {i : TypeInfo} {v : Value} (h : P.info? t = some i) (hv : i.zero = some v) : (zeroValue t).run P w = .ok v w := by
  simp [zeroValue, run_typeInfo h, hv]
theorem mapVal_den (β : Val) (l : List Value) : SV.denL β (mapN SV.val l) = some l := by
  induction l with
  | nil => rfl
  | cons v l ih => exact denL_cons.2 ⟨v, l, rfl, ih, rfl⟩
theorem cellsS_den {β : Val} {v : SV} {x : Value} (h : v.den β = some x) : SV.denL β (cellsS v) = some x.cells.toList := by
  cases v
  case agg l =>
    simp only [SV.den, Option.map_eq_some_iff] at h; obtain ⟨l, hl, rfl⟩ := h; exact hl
  case val v =>
    simp only [SV.den, Option.some.injEq] at h; subst h; exact mapVal_den β _
  all_goals
    refine denL_cons.2 ⟨x, [], h, rfl, ?_⟩
    simp only [SV.den, Option.map_eq_some_iff, Option.bind_eq_some_iff, Option.some.injEq] at h
  case int => subst h; rfl
  case bool => subst h; rfl
  case str => subst h; rfl
  case ptr => obtain ⟨_, _, rfl⟩ := h; rfl
  case nilPtr => subst h; rfl
  case slice => obtain ⟨_, _, _, _, h⟩ := h; rw [sliceV_eq] at h; obtain ⟨_, rfl⟩ := h; rfl
  case nilSlice => subst h; rfl
  case tail => obtain ⟨_, _, _, _, h⟩ := h; rw [tailV_eq] at h; obtain ⟨_, rfl⟩ := h; rfl
  case map => obtain ⟨_, _, rfl⟩ := h; rfl
  case nilMap => subst h; rfl
  case func => obtain ⟨_, _, _, _, _, _, rfl⟩ := h; rfl
  case nilFunc => subst h; rfl
  case iface => obtain ⟨_, _, rfl⟩ := h; rfl
  case nilIface => subst h; rfl
  case tuple => obtain ⟨_, _, rfl⟩ := h; rfl

/- The parts of structs and arrays. -/
theorem zipIdx_fold (v : List Value) : ∀ (k off : Nat) (c : Array Value), off + k + v.length ≤ c.size →
    ((v.zipIdx k).foldl (fun (cs : Array Value) (x : Value × Nat) => cs.setIfInBounds (off + x.2) x.1) c).toList = overC c.toList (off + k) v := by
  induction v with
  | nil => intro k off c _; simp [overC_nil]
  | cons x v ih =>
    intro k off c h
    simp only [List.length_cons] at h
    rw [List.zipIdx_cons, List.foldl_cons, ih (k + 1) off _ (by simp; omega)]
    rw [Array.toList_setIfInBounds, show off + (k + 1) = off + k + 1 from by omega, overC_cons (by simp; omega)]
theorem fill_spec {β : Val} (place : Nat → Option (Nat × Nat)) : ∀ (parts : List (Nat × SV)) (parts' : List (Nat × Value)) (cells : List SV) (cs : List Value) (r : List SV),
    SV.denL β (parts.map (·.2)) = some (parts'.map (·.2)) → parts.map (·.1) = parts'.map (·.1) → SV.denL β cells = some cs → fillS place cells parts = some r →
    ∃ rs, Instr.fill place cs.toArray parts' = some rs.toArray ∧ SV.denL β r = some rs ∧ rs.length = cs.length := by
  intro parts
  induction parts with
  | nil =>
    intro parts' cells cs r h1 h2 h3 h4
    cases parts' with
    | cons => simp at h2
    | nil => simp [fillS] at h4; subst h4; exact ⟨cs, rfl, h3, rfl⟩
  | cons p parts ih =>
    intro parts' cells cs r h1 h2 h3 h4
    cases parts' with
    | nil => simp at h2
    | cons p' parts' =>
      obtain ⟨i, v⟩ := p
      obtain ⟨i', v'⟩ := p'
      simp only [List.map_cons, List.cons.injEq] at h2
      obtain ⟨rfl, h2⟩ := h2
      obtain ⟨y, ys, hy, hys, he⟩ := denL_cons.1 h1
      simp only [List.map_cons, List.cons.injEq] at he
      obtain ⟨rfl, rfl⟩ := he
      simp only [fillS] at h4
      simp only [Instr.fill]
      cases hp : place i with
      | none => rw [hp] at h4; cases h4
      | some os =>
        obtain ⟨off, size⟩ := os
        rw [hp] at h4
        simp only at h4 ⊢
        have hcv := cellsS_den hy
        have hl1 : lenN (cellsS v) = v'.cells.size := by rw [lenN_eq]; have := denL_length hcv; simpa using this.symm
        have hl2 : lenN cells = cs.length := by rw [lenN_eq]; exact (denL_length h3).symm
        rw [hl1, hl2] at h4
        by_cases hcond : v'.cells.size ≠ size ∨ off + v'.cells.size > cs.length
        · rw [if_pos hcond] at h4; cases h4
        · rw [if_neg hcond] at h4
          have hle : off + v'.cells.size ≤ cs.length := by
            rcases Nat.lt_or_ge cs.length (off + v'.cells.size) with h | h
            · exact absurd (.inr h) hcond
            · exact h
          have hb : (decide (v'.cells.size ≠ size) || decide (off + v'.cells.size > cs.toArray.size)) = false := by
            simp only [not_or] at hcond
            rw [Bool.or_eq_false_iff]
            exact ⟨decide_eq_false hcond.1, decide_eq_false (by simpa using hcond.2)⟩
          have hov : SV.denL β (overN cells off (cellsS v)) = some (overC cs off v'.cells.toList) := by
            have e1 : (cellsS v).length = v'.cells.size := by rw [← lenN_eq]; exact hl1
            have e2 : cells.length = cs.length := by rw [← lenN_eq]; exact hl2
            rw [overN_eq _ _ _ (by omega)]
            unfold overC
            rw [e1, Array.length_toList]
            exact denL_append (denL_append (denL_take h3 off) hcv) (denL_drop h3 _)
          have hz := zipIdx_fold v'.cells.toList 0 off cs.toArray (by simpa using hle)
          obtain ⟨rs, hrs, hd, hn⟩ := ih parts' _ _ r hys h2 hov h4
          refine ⟨rs, ?_, hd, by rw [hn, overC_length (by simpa using hle)]⟩
          rw [if_neg (by rw [hb]; decide)]
          rw [← hrs]
          congr 1
          have : (v'.cells.zipIdx.foldl (fun cs (x : Value × Nat) => cs.setIfInBounds (off + x.2) x.1) cs.toArray) = (overC cs off v'.cells.toList).toArray := by
            rw [← Array.foldl_toList, Array.toList_zipIdx]
            apply Array.ext'
            simpa using hz
          exact this
theorem placesS_spec {P : Program} {w : World} : ∀ (l : List Field) (r : List (Nat × Nat)), placesS P l = some r →
    (l.mapM (m := Sem) fun f => do pure (f.offset, ← sizeOf f.type)).run P w = .ok r w := by
  intro l
  induction l with
  | nil => intro r h; simp [placesS] at h; subst h; simp
  | cons f l ih =>
    intro r h
    simp only [placesS, Option.bind_eq_some_iff, Option.map_eq_some_iff] at h
    obtain ⟨i, hi, r', hr, rfl⟩ := h
    rw [List.mapM_cons]
    simp only [Sem.run_bind, run_sizeOf hi, Result.andThen_ok, Sem.run_pure, ih r' hr]
theorem parts_spec {β : Val} {ev : Operand → SV} {ρ : Operand → Value} (ps : List (Nat × Operand)) (h : ∀ x ∈ ps.map (·.2), (ev x).den β = some (ρ x)) :
    SV.denL β ((mapN (fun p => (p.1, ev p.2)) ps).map (·.2)) = some ((ps.map fun (i, x) => (i, ρ x)).map (·.2)) ∧ (mapN (fun p => (p.1, ev p.2)) ps).map (·.1) = (ps.map fun (i, x) => (i, ρ x)).map (·.1) := by
  rw [mapN_eq]
  constructor
  · induction ps with
    | nil => rfl
    | cons p ps ih => exact denL_cons.2 ⟨_, _, h p.2 (by simp), ih (fun x hx => h x (by simp at hx ⊢; exact .inr hx)), rfl⟩
  · simp [Function.comp_def]

theorem mapEv_den {β : Val} {ev : Operand → SV} {ρ : Operand → Value} (l : List Operand) (h : ∀ x ∈ l, (ev x).den β = some (ρ x)) : SV.denL β (mapN ev l) = some (l.map ρ) := by
  rw [mapN_eq]
  induction l with
  | nil => rfl
  | cons a l ih => exact denL_cons.2 ⟨_, _, h a (by simp), ih (fun x hx => h x (by simp [hx])), rfl⟩
theorem manyN_den {β : Val} {z : List SV} {zs : List Value} (h : SV.denL β z = some zs) (n : Nat) : SV.denL β (manyN z n) = some (List.replicate n zs).flatten := by
  induction n with
  | zero => rfl
  | succ n ih =>
    show SV.denL β (app z (manyN z n)) = _
    rw [app_eq, List.replicate_succ, List.flatten_cons]
    exact denL_append h ih
/-- the model's way to lay n zero values in a row -/
theorem range_map_zero {z : Array Value} {n s : Nat} (hs : z.size = s) (hpos : n * s ≠ 0) : (Array.range (n * s)).map (fun i => z[i % z.size]!) = (List.replicate n z.toList).flatten.toArray := by
  subst hs
  have hs0 : 0 < z.size := Nat.pos_of_ne_zero fun h => hpos (by rw [h, Nat.mul_zero])
  apply Array.ext'
  simp only [Array.toList_map, Array.toList_range]
  have hl : ((List.replicate n z.toList).flatten).length = n * z.size := by simp
  apply List.ext_getElem?
  intro i
  simp only [List.getElem?_map]
  rcases Nat.lt_or_ge i (n * z.size) with h | h
  · rw [List.getElem?_range h]
    have key : ∀ (n i : Nat), i < n * z.size → ((List.replicate n z.toList).flatten)[i]? = some (z[i % z.size]'(Nat.mod_lt _ hs0)) := by
      intro n
      induction n with
      | zero => intro i hi; omega
      | succ n ih =>
        intro i hi
        rw [List.replicate_succ, List.flatten_cons]
        rcases Nat.lt_or_ge i z.size with h1 | h1
        · rw [List.getElem?_append_left (by simpa using h1)]
          simp [Nat.mod_eq_of_lt h1]
        · rw [List.getElem?_append_right (by simpa using h1), Array.length_toList, ih (i - z.size) (by rw [Nat.succ_mul] at hi; omega)]
          simp only [Nat.mod_eq_sub_mod h1]
    show some (z[i % z.size]!) = _
    rw [key n i h]
    simp only [Option.some.injEq]
    exact getElem!_pos z (i % z.size) (Nat.mod_lt _ hs0)
  · rw [List.getElem?_eq_none (by simpa using h), List.getElem?_eq_none (by omega)]; rfl

end Go.Sim
