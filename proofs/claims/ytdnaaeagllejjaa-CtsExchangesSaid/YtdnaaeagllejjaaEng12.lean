/-
  The symbolic simulator, twelfth part: slices, conversions, making.
-/
import Derived.Test.YtdnaaeagllejjaaEng11
namespace Go.Sim
variable {α : Type}

section
variable {P : Program} {O : Nat → Prop} {w0 : World} {β : Val} {H : List SO} {w : World} {base : Nat}
variable {ev : Operand → SV} {ρ : Operand → Value} {dst : Option Tmp} {t : TypeId} {pos : String} {af : Array Edge} {g : Option (Nat × Bool)}

/-- an optional operand's value -/
def ODen (β : Val) (v : Option SV) (x : Option Value) : Prop :=
  match v, x with
  | none, none => True
  | some v, some x => v.den β = some x
  | _, _ => False
/-- a bound of a slice expression, known to fit: j is its number, or the one that stands for it where there is none -/
def BoundOK (x : Option Value) (y d j : Nat) : Prop :=
  match x with
  | some x => ∃ k i, x = .int k i ∧ 0 ≤ i ∧ i ≤ (y : Int) ∧ j = i.toNat
  | none => j = d
theorem run_sliceBound {k : IntKind} {i : Int} {y : Nat} {c : BoundsCode} (h0 : 0 ≤ i) (h1 : i ≤ (y : Int)) : (Instr.sliceBound (.int k i) y c).run P w = .ok i.toNat w := by
  unfold Instr.sliceBound asIntOf
  simp only [Sem.run_bind, Sem.run_pure, Result.andThen_ok]
  rw [if_pos ⟨h0, h1⟩]; rfl
theorem boundS_sat {v : Option SV} {x : Option Value} (hv : ODen β v x) {y d : SN} {f : SN → R α} {φ : α → Prop}
    (hf : ∀ j : SN, BoundOK x y.den d.den j.den → (f j).Sat φ) : (boundS v y d f).Sat φ := by
  unfold boundS
  split
  · cases x with
    | none => exact hf d rfl
    | some x => exact hv.elim
  · rename_i k i
    cases x with
    | none => exact hv.elim
    | some x =>
      have hx : x = .int k i.den := by
        have : (SV.int k i).den β = some x := hv
        simpa [SV.den, eq_comm] using this
      exact bndS_sat fun j h0 h1 hj => hf j ⟨k, i.den, hx, h0, h1, hj⟩
  · trivial
theorem run_sliceBounds {isSl : Bool} {len cap l h m : Nat} {lo hi mx : Option Value} (hm : BoundOK mx cap cap m) (hhi : mx.isSome = true → hi.isSome = true) (hh : BoundOK hi m len h)
    (hl : BoundOK lo h 0 l) : (Instr.sliceBounds isSl len cap lo hi mx).run P w = .ok (l, h, m) w := by
  unfold Instr.sliceBounds
  cases mx with
  | none =>
    have hm : m = cap := hm
    subst hm
    cases hi with
    | none =>
      have hh : h = len := hh
      subst hh
      cases lo with
      | none => have hl : l = 0 := hl; subst hl; rfl
      | some z =>
        obtain ⟨k, i, rfl, h0, h1, rfl⟩ := hl
        simp [run_sliceBound h0 h1]
    | some y =>
      obtain ⟨k, i, rfl, h0, h1, rfl⟩ := hh
      cases lo with
      | none => have hl : l = 0 := hl; subst hl; simp [run_sliceBound h0 h1]
      | some z =>
        obtain ⟨k', i', rfl, h0', h1', rfl⟩ := hl
        simp [run_sliceBound h0 h1, run_sliceBound h0' h1']
  | some x =>
    obtain ⟨k'', i'', rfl, h0'', h1'', rfl⟩ := hm
    cases hi with
    | none => cases hhi rfl
    | some y =>
      obtain ⟨k, i, rfl, h0, h1, rfl⟩ := hh
      cases lo with
      | none => have hl : l = 0 := hl; subst hl; simp [run_sliceBound h0 h1, run_sliceBound h0'' h1'']
      | some z =>
        obtain ⟨k', i', rfl, h0', h1', rfl⟩ := hl
        simp [run_sliceBound h0 h1, run_sliceBound h0' h1', run_sliceBound h0'' h1'']

/-- the place behind a bound: the model's if -/
theorem plus_if {a : SA} {A : Addr} (ha : a.den β = some A) {m l : Nat} (n : SN) (hn : n.den = l * m) (c : Prop) [Decidable c] :
    (if c then a else a.plus n).den β = some (if c then A else A.add (l * m)) := by
  split
  · exact ha
  · rw [SA.plus_den ha, hn]
theorem add_zero' (A : Addr) : A.add 0 = A := by simp [Addr.add]
theorem slAt_sat {a : SA} {n h : SN} {c : SC} {m l : Nat} {φ : OpRes → Prop} (hk : (vR (.slice (if m = l then a else a.plus n) h c)).Sat φ) : (slAt a n h c (decide (m = l))).Sat φ := by
  refine ⟨fun he => ?_, fun he => ?_⟩
  · have := of_decide_eq_true he
    rw [if_pos this] at hk; exact hk
  · have := of_decide_eq_false he
    rw [if_neg this] at hk; exact hk
theorem toC_den (n : SN) : n.toC.den β = some n.den := by cases n <;> rfl
theorem capOf_spec {c : SC} {n : SN} (h : capOf c = some n) : c.den β = some n.den := by
  cases c <;> simp [capOf] at h <;> subst h <;> rfl
theorem less_spec {c c' : SC} {n : SN} (h : c.less n = some c') {x : Nat} (hc : c.den β = some x) : c'.den β = some (x - n.den) := by
  cases c with
  | lit m => cases n <;> simp [SC.less] at h <;> subst h <;> simp [SC.den] at hc ⊢ <;> subst hc <;> rfl
  | sym m => simp [SC.less] at h; subst h; simp [SC.den] at hc ⊢; subst hc; rfl
  | rest nm k =>
    cases n with
    | byt o x => simp [SC.less] at h
    | sym m =>
      simp [SC.less] at h; subst h
      simp only [SC.den, Option.map_eq_some_iff] at hc ⊢
      obtain ⟨l, hl, rfl⟩ := hc
      exact ⟨l, hl, by simp only [SN.den]; omega⟩
    | lit m =>
      simp [SC.less] at h; subst h
      simp only [SC.den, Option.map_eq_some_iff] at hc ⊢
      obtain ⟨l, hl, rfl⟩ := hc
      exact ⟨l, hl, by simp only [SN.den]; omega⟩
theorem ODen.isSome {v : Option SV} {x : Option Value} (h : ODen β v x) : v.isSome = x.isSome := by
  cases v <;> cases x <;> first | rfl | exact h.elim

theorem oSlice_sat {ty : TypeId} {x : Operand} {lo hi mx : Option Operand} (hx : (ev x).den β = some (ρ x)) (hlo : ODen β (lo.map ev) (lo.map ρ)) (hhi : ODen β (hi.map ev) (hi.map ρ)) (hmx : ODen β (mx.map ev) (mx.map ρ)) :
    (oSlice ty x lo hi mx P ev H base).Sat (OpSem P H β w base ((execOp ρ ⟨dst, .slice ty x lo hi mx, t, pos, af, g⟩).run P w)) := by
  unfold oSlice
  generalize hlo' : lo.map ev = slo at hlo
  generalize hhi' : hi.map ev = shi at hhi
  generalize hmx' : mx.map ev = smx at hmx
  have hrun : (execOp ρ ⟨dst, .slice ty x lo hi mx, t, pos, af, g⟩).run P w = ((Instr.sliceAt ty (ρ x) (lo.map ρ) (hi.map ρ) (mx.map ρ)).run P w).andThen fun v w' => .ok (.value v) w' := by
    simp [execOp]
  rw [hrun]
  generalize lo.map ρ = vlo at hlo
  generalize hi.map ρ = vhi at hhi
  generalize mx.map ρ = vmx at hmx
  clear hrun hlo' hhi' hmx'
  refine R.Sat.opt fun d hd => R.Sat.boolC (fun hok => ?_) fun _ => trivial
  have hu := run_underlying (w := w) hd
  have hhi' : vmx.isSome = true → vhi.isSome = true := by
    intro h
    rw [← hmx.isSome] at h
    rw [← hhi.isSome]
    cases smx with
    | none => cases h
    | some m => cases shi with
      | none => cases hok
      | some h => rfl
  have hsl : ∀ (elem : TypeId) (a : SA) (len : SN) (cap : SC) (A : Addr) (C : Nat) (e : TypeInfo), (underlying ty).run P w = .ok (.slice elem) w → a.den β = some A → cap.den β = some C → len.den ≤ C → .slice (some A) len.den C = ρ x → P.info? elem = some e →
      (optC smx (sl2 a len cap e slo shi) fun _ => sl3 a len cap e slo shi smx).Sat (OpSem P H β w base (((Instr.sliceAt ty (ρ x) vlo vhi vmx).run P w).andThen fun v w' => .ok (.value v) w')) := by
    intro elem a len cap A C e hu hA hC hLC hρ he
    have hfin : ∀ (m h l : Nat), (Instr.sliceBounds true len.den C vlo vhi vmx).run P w = .ok (l, h, m) w →
        ∀ v : SV, v.den β = some (.slice (some (if m = l then A else A.add (l * e.size))) (h - l) (m - l)) → (vR v).Sat (OpSem P H β w base (((Instr.sliceAt ty (ρ x) vlo vhi vmx).run P w).andThen fun v w' => .ok (.value v) w')) := by
      intro m h l hb v hv
      refine sem_val ?_ hv
      simp only [Instr.sliceAt, Instr.slice, Sem.run_bind, hu, Result.andThen_ok, ← hρ, hb, run_sizeOf he, Sem.run_pure]
      congr 2
      split <;> rfl
    cases smx with
    | some sm =>
      have key3 : ∀ c : SN, c.den ≤ C → (sl3c a c e slo shi (some sm)).Sat (OpSem P H β w base (((Instr.sliceAt ty (ρ x) vlo vhi vmx).run P w).andThen fun v w' => .ok (.value v) w')) := by
        intro c hcC
        refine boundS_sat hmx fun m hm => boundS_sat hhi fun h hh => boundS_sat hlo fun l hl => ?_
        have hmx' := hmx.isSome
        cases vmx with
        | none => cases hmx'
        | some xm =>
          obtain ⟨k, i, h1, h2, h3, h4⟩ := hm
          have hb := run_sliceBounds (P := P) (w := w) (isSl := true) (len := len.den) (cap := C) (mx := some xm) ⟨k, i, h1, h2, by omega, h4⟩ hhi' (h := h.den) (by
            cases vhi with
            | none => cases hhi' rfl
            | some y => exact hh) hl
          have hhm : h.den ≤ m.den := by
            cases vhi with
            | none => cases hhi' rfl
            | some x => obtain ⟨k, i, _, _, h1, h2⟩ := hh; omega
          have key : ∀ (n' : SN) (c : SC), n'.den = l.den * e.size → c.den β = some (m.den - l.den) → (vR (.slice (if m.den = l.den then a else a.plus n') (h.sub l) c)).Sat (OpSem P H β w base
              (((Instr.sliceAt ty (ρ x) vlo vhi (some xm)).run P w).andThen fun v w' => .ok (.value v) w')) := by
            intro n' c hn' hc
            refine hfin _ _ _ hb _ ?_
            rw [den_slice]
            exact ⟨_, _, plus_if hA n' hn' _, hc, by rw [SN.sub_den]; omega, by rw [SN.sub_den]⟩
          have key0 : ∀ (c : SC), c.den β = some m.den → l.den = 0 → (vR (.slice a h c)).Sat (OpSem P H β w base
              (((Instr.sliceAt ty (ρ x) vlo vhi (some xm)).run P w).andThen fun v w' => .ok (.value v) w')) := by
            intro c hc h0
            refine hfin _ _ _ hb _ ?_
            rw [den_slice]
            refine ⟨A, _, hA, hc, hhm, ?_⟩
            simp only [h0, Nat.zero_mul, add_zero', Nat.sub_zero]
            congr 2
            split <;> rfl
          split
          · exact key _ _ rfl rfl
          · exact key0 _ (toC_den _) rfl
          · exact slAt_sat (key _ _ (SN.mul_den _ _) rfl)
      show (sl3 a len cap e slo shi (some sm)).Sat _
      unfold sl3
      cases hc : capOf cap with
      | none => exact key3 len hLC
      | some c => exact key3 c (by have := capOf_spec (β := β) hc; rw [hC] at this; exact Nat.le_of_eq (Option.some.inj this).symm)
    | none =>
      have hmx' := hmx.isSome
      cases vmx with
      | some xm => cases hmx'
      | none =>
        show (sl2 a len cap e slo shi).Sat _
        refine boundS_sat hhi fun h hh => boundS_sat hlo fun l hl => ?_
        have hhl : h.den ≤ len.den := by
          cases vhi with
          | none => rw [show h.den = len.den from hh]; exact Nat.le_refl _
          | some x => obtain ⟨k, i, _, _, h1, h2⟩ := hh; omega
        have hb := run_sliceBounds (P := P) (w := w) (isSl := true) (len := len.den) (cap := C) (m := C) (mx := none) rfl hhi' (h := h.den) (by
          cases vhi with
          | none => exact hh
          | some y => obtain ⟨k, i, h0, h1, h2, h3⟩ := hh; exact ⟨k, i, h0, h1, by omega, h3⟩) hl
        have hlh : l.den ≤ h.den := by
          cases vlo with
          | none => rw [show l.den = 0 from hl]; exact Nat.zero_le _
          | some x => obtain ⟨k, i, _, _, h1, h2⟩ := hl; omega
        split
        · refine hfin _ _ _ hb _ ?_
          rw [den_slice]
          refine ⟨A, C, hA, hC, by omega, ?_⟩
          simp only [SN.den, Nat.zero_mul, add_zero', Nat.sub_zero]
          congr 2
          split <;> rfl
        · split
          · rename_i c l' _
            simp only [SC.den, Option.some.injEq] at hC
            subst hC
            refine hfin _ _ _ hb _ ?_
            rw [den_slice]
            exact ⟨_, _, plus_if hA (.lit (l' * e.size)) rfl _, rfl, by rw [SN.sub_den]; simp only [SN.den] at *; omega, by rw [SN.sub_den]; rfl⟩
          · refine R.Sat.opt fun c' hc' => ?_
            have hmoved : l.den < len.den → (vR (.slice (a.plus (l.mul e.size)) (h.sub l) c')).Sat (OpSem P H β w base (((Instr.sliceAt ty (ρ x) vlo vhi none).run P w).andThen fun v w' => .ok (.value v) w')) := by
              intro hlt
              refine hfin _ _ _ hb _ ?_
              rw [den_slice]
              refine ⟨_, _, SA.plus_den hA _, less_spec hc' hC, by rw [SN.sub_den]; omega, ?_⟩
              rw [SN.sub_den, SN.mul_den, if_neg (by omega)]
            have htail : (vR (.tail a (l.mul e.size) (h.sub l) c')).Sat (OpSem P H β w base (((Instr.sliceAt ty (ρ x) vlo vhi none).run P w).andThen fun v w' => .ok (.value v) w')) := by
              refine hfin _ _ _ hb _ ?_
              rw [den_tail]
              refine ⟨A, _, hA, less_spec hc' hC, by rw [SN.sub_den]; omega, ?_⟩
              rw [SN.sub_den, SN.mul_den]
              congr 2
              by_cases hCl : C = l.den
              · rw [if_pos (by omega), if_pos hCl]
              · rw [if_neg (by omega), if_neg hCl]
            have h0 : (slEnd0 a len e.size h l c').Sat (OpSem P H β w base (((Instr.sliceAt ty (ρ x) vlo vhi none).run P w).andThen fun v w' => .ok (.value v) w')) :=
              SN.asLit_sat (fun x hx => SN.asLit_sat (fun y hy => R.Sat.boolC (fun hlt => hmoved (by rw [hx, hy]; exact Nat.le_of_ble_eq_true hlt)) fun _ => htail) fun _ => htail) fun _ => htail
            refine SN.asLit_sat (fun d hd => R.Sat.boolC (fun hpos => ?_) fun _ => h0) fun _ => h0
            have hd' : h.den - l.den = d := by rw [← SN.sub_den, hd]; rfl
            have hp : 0 < d := Nat.le_of_ble_eq_true hpos
            refine hfin _ _ _ hb _ ?_
            rw [den_slice]
            refine ⟨_, _, SA.plus_den hA _, less_spec hc' hC, by rw [SN.sub_den]; omega, ?_⟩
            rw [SN.sub_den, SN.mul_den, if_neg (by omega)]
  split
  · -- an array behind a pointer
    rename_i n elem a h
    rw [h] at hx
    simp only [SV.den, Option.map_eq_some_iff] at hx
    obtain ⟨A, hA, hρ⟩ := hx
    refine R.Sat.opt fun e he => boundS_sat hmx fun m hm => boundS_sat hhi fun h hh => boundS_sat hlo fun l hl => ?_
    have hb := run_sliceBounds (P := P) (w := w) (isSl := false) (len := n) (cap := n) hm hhi' hh hl
    have hmn : m.den ≤ n := by
      cases vmx with
      | none => rw [show m.den = n from hm]; exact Nat.le_refl _
      | some x => obtain ⟨k, i, _, _, h1, h2⟩ := hm; simp only [SN.den] at h1; omega
    have hhm : h.den ≤ m.den := by
      cases vhi with
      | none =>
        cases vmx with
        | none => rw [show h.den = n from hh, show m.den = n from hm]; exact Nat.le_refl _
        | some x => cases hhi' rfl
      | some x => obtain ⟨k, i, _, _, h1, h2⟩ := hh; omega
    have key : ∀ (n' : SN) (c : SC), n'.den = l.den * e.size → c.den β = some (m.den - l.den) → (vR (.slice (if m.den = l.den then a else a.plus n') (h.sub l) c)).Sat (OpSem P H β w base
        (((Instr.sliceAt ty (ρ x) vlo vhi vmx).run P w).andThen fun v w' => .ok (.value v) w')) := by
      intro n' c hn' hc
      refine sem_val (x := .slice (some (if m.den = l.den then A else A.add (l.den * e.size))) (h.den - l.den) (m.den - l.den)) ?_ ?_
      · simp only [Instr.sliceAt, Sem.run_bind, hu, Result.andThen_ok, ← hρ, Instr.sureAddr, Sem.run_pure, hb, run_sizeOf he]
      · rw [den_slice]
        exact ⟨_, _, plus_if hA n' hn' _, hc, by rw [SN.sub_den]; omega, by rw [SN.sub_den]⟩
    have key0 : ∀ (c : SC), c.den β = some m.den → l.den = 0 → (vR (.slice a h c)).Sat (OpSem P H β w base
        (((Instr.sliceAt ty (ρ x) vlo vhi vmx).run P w).andThen fun v w' => .ok (.value v) w')) := by
      intro c hc h0
      refine sem_val (x := .slice (some (if m.den = l.den then A else A.add (l.den * e.size))) (h.den - l.den) (m.den - l.den)) ?_ ?_
      · simp only [Instr.sliceAt, Sem.run_bind, hu, Result.andThen_ok, ← hρ, Instr.sureAddr, Sem.run_pure, hb, run_sizeOf he]
      · rw [den_slice]
        refine ⟨A, _, hA, hc, hhm, ?_⟩
        simp only [h0, Nat.zero_mul, add_zero', Nat.sub_zero]
        congr 2
        split <;> rfl
    unfold slArr at *
    split
    · exact key _ _ rfl rfl
    · exact key0 _ (toC_den _) rfl
    · exact slAt_sat (key _ _ (SN.mul_den _ _) rfl)
  · rename_i elem a len cap h
    rw [h, den_slice] at hx
    obtain ⟨A, C, hA, hC, hLC, hρ⟩ := hx
    exact R.Sat.opt fun e he => hsl elem a len cap A C e hu hA hC hLC hρ he
  · rename_i elem a n len cap h
    rw [h, den_tail] at hx
    obtain ⟨A, C, hA, hC, hLC, hρ⟩ := hx
    intro hpos
    rw [if_neg (by omega)] at hρ
    exact R.Sat.opt fun e he => hsl elem (a.plus n) len cap _ C e hu (SA.plus_den hA n) hC hLC hρ he
  · rename_i elem h
    rw [h] at hx
    simp only [SV.den, Option.some.injEq] at hx
    refine R.Sat.opt fun e he => boundS_sat hmx fun m hm => boundS_sat hhi fun h hh => boundS_sat hlo fun l hl => ?_
    have hb := run_sliceBounds (P := P) (w := w) (isSl := true) (len := 0) (cap := 0) hm hhi' hh hl
    have hm0 : m.den = 0 := by
      cases vmx with
      | none => exact hm
      | some x => obtain ⟨k, i, _, _, h1, h2⟩ := hm; simp only [SN.den] at h1; omega
    have hh0 : h.den = 0 := by
      cases vhi with
      | none => exact hh
      | some x => obtain ⟨k, i, _, _, h1, h2⟩ := hh; omega
    have hl0 : l.den = 0 := by
      cases vlo with
      | none => exact hl
      | some x => obtain ⟨k, i, _, _, h1, h2⟩ := hl; omega
    refine sem_val (x := .slice none 0 0) ?_ rfl
    simp only [Instr.sliceAt, Instr.slice, Sem.run_bind, hu, Result.andThen_ok, ← hx, hb, run_sizeOf he, Sem.run_pure]
    rw [hm0, hl0, hh0]; rfl
  · rename_i s h
    rw [h] at hx
    simp only [SV.den, Option.some.injEq] at hx
    cases smx with
    | some sm => trivial
    | none =>
      have hmx' := hmx.isSome
      cases vmx with
      | some xm => cases hmx'
      | none =>
        show (slStr s slo shi).Sat _
        have key : ∀ (y : SN), y.den = s.den.size → ∀ h l : SN, BoundOK vhi y.den y.den h.den → BoundOK vlo h.den 0 l.den → h.den ≤ s.den.size ∧ l.den ≤ h.den ∧ ∀ v : SStr, v.den = s.den.extract l.den h.den → (vR (.str v)).Sat (OpSem P H β w base (((Instr.sliceAt ty (ρ x) vlo vhi none).run P w).andThen fun v w' => .ok (.value v) w')) := by
          intro y hy h l hh hl
          have hb := run_sliceBounds (P := P) (w := w) (isSl := false) (len := s.den.size) (cap := s.den.size) (m := s.den.size) (mx := none) rfl hhi' (h := h.den) (by rw [hy] at hh; exact hh) hl
          refine ⟨?_, ?_, fun v hv => ?_⟩
          · cases vhi with
            | none => rw [show h.den = y.den from hh, hy]; exact Nat.le_refl _
            | some x => obtain ⟨k, i, _, _, h1, h2⟩ := hh; omega
          · cases vlo with
            | none => rw [show l.den = 0 from hl]; exact Nat.zero_le _
            | some x => obtain ⟨k, i, _, _, h1, h2⟩ := hl; omega
          · refine sem_val (x := .string (s.den.extract l.den h.den)) ?_ (by simp [SV.den, hv])
            simp only [Instr.sliceAt, Instr.slice, Sem.run_bind, hu, Result.andThen_ok, ← hx, Option.isSome_none, Bool.false_eq_true, if_false, hb, Sem.run_pure]
        unfold slStr
        split
        · rename_i s'
          refine boundS_sat hhi fun h hh => boundS_sat hlo fun l hl => ?_
          obtain ⟨_, _, k⟩ := key _ rfl h l hh hl
          split
          · exact k _ rfl
          · exact k _ rfl
        · rename_i b
          have hsz : (SN.lit (lenN b)).den = (SStr.bytes b).den.size := by
            show lenN b = (b.map fun i => UInt8.ofNat i.den.toNat).toArray.size
            rw [lenN_eq]; simp
          refine boundS_sat hhi fun h hh => boundS_sat hlo fun l hl => ?_
          obtain ⟨h1, h2, k⟩ := key _ hsz h l hh hl
          split
          · refine k _ ?_
            rename_i l' h'
            simp only [SStr.den, bytesOf, SN.den] at *
            rw [takeN_eq, dropN_eq]
            apply ByteArray.ext
            apply Array.ext'
            rw [ByteArray.data_extract, Array.toList_extract, List.extract_eq_take_drop]
            simp
          · trivial
        · rename_i s'
          refine boundS_sat hhi fun h hh => boundS_sat hlo fun l hl => ?_
          obtain ⟨_, _, k⟩ := key _ rfl h l hh hl
          exact k _ rfl
  · trivial

end
end Go.Sim
