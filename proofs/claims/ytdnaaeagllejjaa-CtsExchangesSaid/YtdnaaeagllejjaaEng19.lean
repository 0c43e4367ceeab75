/-
  The symbolic simulator, nineteenth part: returning; the operations; loops over functions.
-/
import Derived.Test.YtdnaaeagllejjaaEng18
namespace Go.Sim
variable {α : Type}

section
variable {c : Cfg} {B : Base} {go : SS → Tree} {D : SV → List SO → Prop} {S : SS → Prop}

theorem step_take {P : Program} {fr : Frame} {cs : List Frame} {w w' : World} {b : Nat} {ds calls : List Deferred} (hm : fr.mode = .returning) (hd : fr.defers = { target := .collected b, args := #[] } :: ds) (hr : (Instr.takeDeferred b).run P w = .ok calls w') :
    step P (lone fr cs w) = .next (lone { fr with defers := calls ++ ds } cs w') :=
  step_lone_go (by simp [stepG, unwind, hm, hd, Sem.runT_eq, hr, GStep.bare_after])

theorem resultsR_sat {P : Program} {O : Nat → Prop} {w0 : World} {β : Val} {H : List SO} {w : World} (hr : HeapRel0 P O w0 β H w) {T : List SV} {ts : Array Value} (hT : SV.denL β T = some ts.toList) {φ : α → Prop} : ∀ (l : List ResultVar) (k : List SV → R α),
    (∀ svs vs, SV.denL β svs = some vs → (l.mapM (m := Sem) fun
      | .tmp t => pure (ts.getD t undef)
      | .cell a t => do loadVar t (← asAddr (ts.getD a undef))).run P w = .ok vs w → (k svs).Sat φ) → (resultsR P H T l k).Sat φ := by
  have hget : ∀ t, ((nth T t).getD undefS).den β = some (ts.getD t undef) := by
    intro t
    have := evS_den (glob := fun _ => none) (a := ⟨ts, []⟩) hT (fun _ _ h => by cases h) (.tmp t)
    have e : evS (fun _ => none) T (.tmp t) = (nth T t).getD undefS := by
      show optC (nth T t) undefS (fun v => v) = _
      cases nth T t <;> rfl
    rw [e] at this; exact this
  intro l
  induction l with
  | nil => intro k h; exact h [] [] rfl (by simp)
  | cons x l ih =>
    intro k h
    cases x with
    | tmp t =>
      refine ih _ fun svs vs h1 h2 => h _ _ (denL_cons.2 ⟨_, _, hget t, h1, rfl⟩) ?_
      rw [List.mapM_cons]
      simp only [Sem.run_bind, Sem.run_pure, Result.andThen_ok, h2]
    | cell a t =>
      refine ptrS_sat (hget a) fun a' A _ hA hx => loadT_sat hr hA fun v x hv hrun => ih _ fun svs vs h1 h2 => h _ _ (denL_cons.2 ⟨_, _, hv, h1, rfl⟩) ?_
      have ha : asAddr (ts.getD a undef) = pure A := by rw [hx]; rfl
      rw [List.mapM_cons]
      simp only [ha, Sem.run_bind, Sem.run_pure, Result.andThen_ok, hrun, h2]
theorem tupleS_den {β : Val} {svs : List SV} {vs : List Value} (h : SV.denL β svs = some vs) : (tupleS svs).den β = some (if h : vs.toArray.size = 1 then vs.toArray[0] else .tuple vs.toArray) := by
  cases svs with
  | nil => rw [denL_nil] at h; subst h; rfl
  | cons a l =>
    obtain ⟨x, xs, hx, hxs, rfl⟩ := denL_cons.1 h
    cases l with
    | nil => rw [denL_nil] at hxs; subst hxs; simpa [tupleS] using hx
    | cons b l =>
      obtain ⟨y, ys, hy, hys, rfl⟩ := denL_cons.1 hxs
      have : tupleS (a :: b :: l) = .tuple (a :: b :: l) := rfl
      rw [this, dif_neg (by simp)]
      simp only [SV.den, h]; rfl
theorem results_sat {P : Program} {O : Nat → Prop} {w0 : World} {β : Val} {H : List SO} {w : World} (hr : HeapRel0 P O w0 β H w) {T : List SV} {ts : Array Value} (hT : SV.denL β T = some ts.toList) (fn : Func) :
    (resultsR P H T fn.results.toList fun l => .ok (tupleS l)).Sat fun v => ∃ x, v.den β = some x ∧ (results fn ts).run P w = .ok x w := by
  refine resultsR_sat hr hT _ _ fun svs vs h1 h2 => ⟨_, tupleS_den h1, ?_⟩
  unfold results
  rw [Array.mapM_eq_mapM_toList]
  simp only [Sem.run_bind, Sem.run_map, Sem.run_pure]
  exact congrArg (fun z : Result (List Value) => (z.andThen fun a w' => Result.ok a.toArray w').andThen fun a w' => .ok (if h : a.size = 1 then a[0] else .tuple a) w') h2

theorem undefer_steps {P : Program} {O : Nat → Prop} {w0 : World} {β : Val} {cs : List Frame} : ∀ {ds : List SD} {H H' : List SO} {w : World} {fr : Frame}, fr.mode = .returning → SD.denL β ds = some fr.defers → HeapRel P O w0 β H w → undefer ds H = some H' →
    ∃ w', Steps P (lone fr cs w) (lone { fr with defers := [] } cs w') ∧ HeapRel P O w0 β H' w'
  | [], H, H', w, fr, _, hd, hH, hu => by
    cases hu
    cases hd' : fr.defers with
    | nil =>
      have : { fr with defers := [] } = fr := by cases fr; simp at hd'; subst hd'; rfl
      rw [this]; exact ⟨w, .refl _ _, hH⟩
    | cons => rw [hd'] at hd; cases hd
  | .call _ _ _ :: _, _, _, _, _, _, _, _, hu => by cases hu
  | .coll nm :: r, H, H', w, fr, hm, hd, hH, hu => by
    unfold undefer at hu
    simp only [SD.denL, SD.den, Option.bind_eq_some_iff, Option.map_eq_some_iff] at hd
    obtain ⟨dx, ⟨l, hl1, rfl⟩, ds', hr1, hr2⟩ := hd
    rw [nth_eq] at hu
    split at hu
    · rename_i he
      obtain ⟨l', ds2, hb, hd, hh⟩ := hH.entries _ _ he
      rw [hl1] at hb; cases hb
      have hd' : ds2 = some [] := by
        simp [SD.denO, SD.denL] at hd; exact hd.symm
      subst hd'
      have hlt : l.blk < w.heap.size := (Array.getElem?_eq_some_iff.1 hh).1
      have hH' : HeapRel P O w0 β (setN H nm (.deferred none)) (w.putObj l.blk (.deferred none)) := by
        refine hH.apply (sets := [(nm, .deferred none)]) (news := []) (Eff.turn hl1 ?_) ?_
        · exact ⟨l, none, hl1, rfl, by simp [hlt]⟩
        · intro n e hn; simp at hn; obtain ⟨rfl, rfl⟩ := hn; exact ⟨_, he, rfl⟩
      have hstep := step_take (P := P) (fr := fr) (cs := cs) (b := l.blk) (ds := ds') (calls := []) hm hr2.symm (run_takeDeferred hh)
      obtain ⟨w', hst, hH2⟩ := undefer_steps (ds := r) (fr := { fr with defers := ds' }) (cs := cs) hm hr1 hH' hu
      exact ⟨w', (Steps.one hstep).trans hst, hH2⟩
    · cases hu

theorem returnT_after (hP : B.P = c.P) {s : SF} {rest : List SF} {H : List SO} {β : Val} {fr : Frame} {frs : List Frame} {w : World} (hF : FrameRel β s fr) (hR : FramesRel β rest frs) (hH : HeapRel B.P B.O B.w0 β H w) (hG : BRel B β)
    (hl : ((fr :: frs).getLast?).map (·.fn) = some B.fn0) (htd : s.todo = [] ∨ ∃ k, s.todo = .code .ret :: k) (hob : (returnT c.P s rest H go).Ob D S) : After B go D S (lone fr (frs ++ B.cs) w) := by
  unfold returnT at hob
  have htd' : fr.todo = [] ∨ ∃ k, fr.todo = .code .ret :: k := by
    have := hF.todo
    rcases htd with h | ⟨k, h⟩
    · rw [h] at this
      cases hf : fr.todo with
      | nil => exact .inl rfl
      | cons y k' => rw [hf] at this; exact this.elim
    · rw [h] at this
      cases hf : fr.todo with
      | nil => rw [hf] at this; exact this.elim
      | cons y k' =>
        rw [hf] at this
        obtain ⟨h1, _⟩ := this
        cases y <;> first | exact h1.elim | skip
        exact .inr ⟨k', by rw [show _ = Code.ret from h1]⟩
  cases hro : s.roundOf with
  | some nm =>
    rw [hro] at hob
    simp only at hob
    have hround := hF.round
    rw [hro] at hround
    cases hfr : fr.roundOf with
    | none => rw [hfr] at hround; exact hround.elim
    | some bl =>
      rw [hfr] at hround
      obtain ⟨l0, hl0, rfl⟩ := hround
      refine endRound_after hR hH hG hl hob fun l cc cs w' hb hrun => ?_
      rw [hl0] at hb; cases hb
      rw [frame_eta hF.mode]
      rcases htd with h | ⟨k, h⟩
      · have ht : fr.todo = [] := by
          rcases htd' with h' | ⟨k', h'⟩
          · exact h'
          · have := hF.todo; rw [h, h'] at this; exact this.elim
        rw [h] at hrun ⊢
        rw [ht]
        exact stepR_round_end hfr hF.kind hrun
      · obtain ⟨k', ht⟩ : ∃ k', fr.todo = .code .ret :: k' := by
          rcases htd' with h' | h'
          · have := hF.todo; rw [h, h'] at this; exact this.elim
          · exact h'
        rw [h] at hrun ⊢
        rw [ht]
        exact stepR_round_ret hfr hF.kind hrun
  | none =>
    rw [hro] at hob
    simp only at hob
    have hround := hF.round
    rw [hro] at hround
    have hfr : fr.roundOf = none := by
      cases hfr : fr.roundOf with
      | none => rfl
      | some bl => rw [hfr] at hround; exact hround.elim
    -- to 'returning'
    have hstep : step B.P (lone fr (frs ++ B.cs) w) = .next (lone { fr.atR ⟨fr.tmps, fr.defers⟩ fr.todo with mode := .returning } (frs ++ B.cs) w) := by
      rw [frame_eta hF.mode]
      rcases htd' with h' | ⟨k', h'⟩
      · rw [h']; exact stepR_end hfr
      · rw [h']; exact stepR_ret hfr
    refine .step hstep ?_
    rw [nth_eq] at hob
    have hfn : B.P.funcs.toList[fr.fn]? = B.P.funcs[fr.fn]? := by simp
    rw [← hP, ← hF.fn, hfn] at hob
    cases hfun : B.P.funcs[fr.fn]? with
    | none => rw [hfun] at hob; exact hob.elim
    | some fn =>
      rw [hfun] at hob
      simp only at hob
      have hds := hF.defers
      split at hob
      · rename_i H' hu
        obtain ⟨w', hst, hH'⟩ := undefer_steps (fr := { fr.atR ⟨fr.tmps, fr.defers⟩ fr.todo with mode := .returning }) (cs := frs ++ B.cs) rfl hds hH hu
        refine .of_steps hst ?_
        obtain ⟨v, ⟨x, hv, hrun⟩, hob⟩ := R.tree_ob (results_sat hH'.toHeapRel0 hF.tmps fn) hob
        refine back_after hR hH' hG hv ((last_fn (f := fr) (f' := { ({ fr.atR ⟨fr.tmps, fr.defers⟩ fr.todo with mode := .returning } : Frame) with defers := [] }) rfl).trans hl) ⟨rfl, rfl, hF.kind, fn, hfun, hrun⟩ hob
      · exact hob.elim

end
end Go.Sim
