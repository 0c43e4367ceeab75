/-
  The symbolic simulator, eighteenth part: every step but a region that draws its order.
-/
import Derived.Test.YtdnaaeagllejjaaEng17
namespace Go.Sim
variable {α : Type}

/-- what a call that is not entered comes to -/
def SumSem (P : Program) (H : List SO) (β : Val) (w : World) (base : Nat) (f : FuncId) (vs : List Value) (r : SumRes) : Prop :=
  (∀ i, i < r.news.length → β (base + i) = none) →
  (∀ n e, (n, e) ∈ r.sets → ∃ e0, H[n]? = some e0 ∧ e0.owned = true) ∧
  (((∃ fn, P.funcs[f]? = some fn ∧ fn.body.isSome = true) ∧ Calls P f vs.toArray w fun e w' => ∃ v' β', e = .returned v' ∧ r.v.den β' = some v' ∧ Eff P β w base r.sets r.news β' w') ∨
    ∃ v' w' β', (callFunc f vs.toArray).run P w = .ok (.value v') w' ∧ r.v.den β' = some v' ∧ Eff P β w base r.sets r.news β' w')
/-- A SUMMARY TELLS THE TRUTH, where package-level variables bear these names -/
def SumAt (P : Program) (glob : Nat → Option Nat) (f : FuncId) (s : Summ) : Prop :=
  ∀ (O : Nat → Prop) (w0 : World) (β : Val) (H : List SO) (w : World) (base : Nat) (args : List SV) (vs : List Value), HeapRel0 P O w0 β H w → GlobRel glob β → SV.denL β args = some vs →
    (s args H base).Sat (SumSem P H β w base f vs)
def SumOK (P : Program) (f : FuncId) (s : Summ) : Prop := ∀ glob, SumAt P glob f s
structure ProgOK (P : Program) : Prop where
  noNG : ∀ (f : FuncId) (fn : Func), P.funcs[f]? = some fn → fn.body.isSome = true → (fn.name == "runtime.NumGoroutine") = false
  mixed : P.follows .mixedOrders = true
structure CfgOK (c : Cfg) : Prop where
  prog : ProgOK c.P
  sums : ∀ f s, c.sums f = some s → SumAt c.P c.glob f s

section
variable {c : Cfg} {B : Base} {go : SS → Tree} {D : SV → List SO → Prop} {S : SS → Prop}

theorem run_callFunc {P : Program} (hP : ProgOK P) {f : FuncId} {fn : Func} (h : P.funcs[f]? = some fn) (hb : fn.body.isSome = true) (args : Array Value) (w : World) : (callFunc f args).run P w = .ok (.enter f args) w := by
  have hn : fn.body.isNone = false := by cases hx : fn.body <;> simp [hx] at hb ⊢
  unfold callFunc
  simp only [Sem.run_bind, run_program, Result.andThen_ok, h, hP.noNG f fn h hb, hn]
  rfl

/-- a frame that waits for a value, once it has it -/
theorem finish_rel {β : Val} {s s' : SF} {f : Frame} (h : FrameRel β s f) {v : SV} {x : Value} (hv : v.den β = some x) (hs : s.finish v = some s') : FrameRel β s' (f.finish x) ∧ (f.finish x).fn = f.fn := by
  obtain ⟨fn, T, td, ds, ro⟩ := s
  obtain ⟨hfn, hT, htd, hds, hm, hk, hr⟩ := h
  have h1 : finTodo td ⟨fn, T, td, ds, ro⟩ v = some s' := hs
  cases td with
  | nil => cases h1
  | cons x k =>
    have h2 : finItem x k ⟨fn, T, x :: k, ds, ro⟩ v = some s' := h1
    cases hft : f.todo with
    | nil => rw [hft] at htd; exact htd.elim
    | cons y k' =>
      rw [hft] at htd
      obtain ⟨hxy, hkk⟩ := htd
      cases x <;> first | (cases h2; done) | skip
      case ops os l =>
        cases l with
        | nil => cases h2
        | cons o l =>
          cases y <;> first | exact hxy.elim | skip
          rename_i os' idx
          obtain ⟨rfl, pre, hos, rfl⟩ := hxy
          have h3 : s' = ⟨fn, putT T o.dst v, .ops os' l :: k, ds, ro⟩ := (Option.some.inj h2).symm
          subst h3
          have ho : os'[pre.length]? = some o := by
            rw [← Array.getElem?_toList, hos]; simp
          have hfin : f.finish x = f.atR ((⟨f.tmps, f.defers⟩ : Act).put o.dst x) (.inRegion os' (List.range' (pre.length + 1) l.length) :: k') := by
            have := Frame.finish_atR f ⟨f.tmps, f.defers⟩ os' pre.length (List.range' (pre.length + 1) l.length) k' x
            rw [ho] at this
            rw [← Option.bind_some (f := fun x : Oper => x.dst), ← this, frame_eta hm]
            simp [hft, Frame.atR, List.range'_succ]
          rw [hfin]
          refine ⟨⟨hfn, putT_den (a := ⟨f.tmps, f.defers⟩) hT o.dst hv, ⟨⟨rfl, pre ++ [o], by rw [hos]; simp, by simp⟩, hkk⟩, ?_, rfl, hk, hr⟩, rfl⟩
          show SD.denL β ds = some (Act.put _ _ _).defers
          rw [hds]; cases o.dst <;> rfl
      case inRF nm =>
        cases y <;> first | exact hxy.elim | skip
        rename_i b
        have h3 : s' = ⟨fn, T, .endRF nm :: k, ds, ro⟩ := (Option.some.inj h2).symm
        subst h3
        have hfin : f.finish x = f.atR ⟨f.tmps, f.defers⟩ (.endRangeFunc b :: k') := by
          rw [← finish_atR_inRangeFunc b x]
          congr 1
          rw [frame_eta hm]; simp [hft, Frame.atR]
        rw [hfin]
        exact ⟨⟨hfn, hT, ⟨hxy, hkk⟩, hds, rfl, hk, hr⟩, rfl⟩

/-- a frame that is entered -/
theorem enter_rel {P : Program} {β : Val} {f : FuncId} {args : List SV} {vs : List Value} {s : SF} (h : enterF P f args = some s) (ha : SV.denL β args = some vs) :
    FrameRel β s (Frame.enter P f vs.toArray .normal) ∧ ∃ fn, P.funcs[f]? = some fn ∧ fn.body.isSome = true := by
  unfold enterF at h
  rw [nth_eq] at h
  have hf : P.funcs.toList[f]? = P.funcs[f]? := by simp
  rw [hf] at h
  cases hfn : P.funcs[f]? with
  | none => rw [hfn] at h; cases h
  | some fn =>
    rw [hfn] at h
    simp only [optC_some] at h
    cases hb : fn.body with
    | none => rw [hb] at h; cases h
    | some c =>
      rw [hb] at h
      simp only [optC_some, Option.some.injEq] at h
      subst h
      refine ⟨⟨rfl, ?_, ?_, rfl, rfl, rfl, trivial⟩, fn, rfl, by rw [hb]; rfl⟩
      · have hl := denL_length ha
        simp only [Frame.enter, hfn, Option.map_some, Option.getD_some]
        rw [app_eq, repN_eq, lenN_eq, ← hl]
        simp only [Array.toList_append, Array.toList_replicate, List.size_toArray]
        exact denL_append ha (denL_replicate (by simp [undefS, SV.den, SV.denL, undef]) _)
      · simp only [Frame.enter, hfn, Option.bind_some, hb, Option.getD_some]
        exact ⟨rfl, trivial⟩

theorem getLast_cons {f g : Frame} {frs : List Frame} : ((f :: g :: frs).getLast?).map (·.fn) = ((g :: frs).getLast?).map (·.fn) := by
  rw [List.getLast?_cons_cons]
/-- the value goes back to the caller, or the bottom has returned: the machine's part is given -/
theorem back_after {rest : List SF} {H : List SO} {v : SV} {x : Value} {β : Val} {fr : Frame} {frs : List Frame} {w : World} (hR : FramesRel β rest frs) (hH : HeapRel B.P B.O B.w0 β H w) (hG : BRel B β) (hv : v.den β = some x)
    (hl : ((fr :: frs).getLast?).map (·.fn) = some B.fn0) (hleave : fr.leaving B.P w (.returned x)) (hob : (backT rest H v go).Ob D S) : After B go D S (lone fr (frs ++ B.cs) w) := by
  unfold backT at hob
  cases rest with
  | nil =>
    cases frs with
    | cons => exact hR.elim
    | nil =>
      refine ⟨_, .refl _ _, .inr ⟨v, H, hob, ⟨β, fr, x, w, rfl, by simpa using hl, hleave, hv, hH, hG⟩⟩⟩
  | cons s rest =>
    cases frs with
    | nil => exact hR.elim
    | cons f frs =>
      simp only at hob
      cases hs : s.finish v with
      | none => rw [hs] at hob; exact hob.elim
      | some s' =>
        rw [hs] at hob
        obtain ⟨h1, h2⟩ := finish_rel hR.1 hv hs
        refine ⟨_, .one (step_leave_returned hleave), .inl ⟨_, hob, ⟨β, _, frs, w, rfl, ⟨h1, hR.2⟩, hH, hG, ?_⟩⟩⟩
        rw [last_fn h2, ← getLast_cons (f := fr)]; exact hl

/-- a call, from a frame that waits for its value: 'm0' is the machine ahead of the call -/
theorem callFT_after (hc : CfgOK c) (hP : B.P = c.P) (hgl : B.glob = c.glob) {f : FuncId} {args : List SV} {vs : List Value} {s : SF} {rest : List SF} {H : List SO} {β : Val} {fr : Frame} {frs : List Frame} {w : World} (hF : FrameRel β s fr) (hR : FramesRel β rest frs) (hH : HeapRel B.P B.O B.w0 β H w) (hG : BRel B β)
    (hl : ((fr :: frs).getLast?).map (·.fn) = some B.fn0) (ha : SV.denL β args = some vs) (hob : (callFT c f args s rest H go).Ob D S) {m0 : Machine}
    (henter : (callFunc f vs.toArray).run B.P w = .ok (.enter f vs.toArray) w → Steps B.P m0 (lone (Frame.enter B.P f vs.toArray .normal) (fr :: (frs ++ B.cs)) w))
    (hval : ∀ v w', (callFunc f vs.toArray).run B.P w = .ok (.value v) w' → Steps B.P m0 (lone (fr.finish v) (frs ++ B.cs) w')) : After B go D S m0 := by
  unfold callFT at hob
  cases hs : c.sums f with
  | some sm =>
    rw [hs] at hob
    simp only at hob
    rw [lenN_eq] at hob
    obtain ⟨r, hr, hob⟩ := R.tree_ob (hc.sums f sm hs B.O B.w0 β H w H.length args vs (hP ▸ hH.toHeapRel0) (hgl ▸ hG.glob) ha) hob
    cases hfin : s.finish r.v with
    | none => rw [hfin] at hob; exact hob.elim
    | some s' =>
      rw [hfin] at hob
      obtain ⟨hown, hcall⟩ := hr fun i _ => hH.bound _ (Nat.le_add_right _ _)
      rw [← hP] at hcall
      have hend : ∀ (v' : Value) (β' : Val) (w' : World), r.v.den β' = some v' → Eff B.P β w H.length r.sets r.news β' w' → Steps B.P m0 (lone (fr.finish v') (frs ++ B.cs) w') → After B go D S m0 := by
        intro v' β' w' hv hE hst
        obtain ⟨h1, h2⟩ := finish_rel (hF.mono hE.le) hv hfin
        exact ⟨_, hst, .inl ⟨_, hob, ⟨β', _, frs, w', rfl, ⟨h1, hR.mono hE.le⟩, hH.apply hE hown, hG.mono hE.le, by rw [last_fn h2]; exact hl⟩⟩⟩
      rcases hcall with ⟨⟨fn, hfn, hb⟩, hcall⟩ | ⟨v', w', β', hrun, hv, hE⟩
      · obtain ⟨e, w', fr', ⟨v', β', rfl, hv, hE⟩, hcomes, _, hleave⟩ := hcall (fr :: (frs ++ B.cs))
        refine hend v' β' w' hv hE ((henter (run_callFunc (hP ▸ hc.prog) hfn hb _ _)).trans (Steps.trans hcomes (.one ?_)))
        exact step_leave_returned hleave
      · exact hend v' β' w' hv hE (hval v' w' hrun)
  | none =>
    rw [hs] at hob
    simp only at hob
    rw [← hP] at hob
    cases he : enterF B.P f args with
    | none => rw [he] at hob; exact hob.elim
    | some g =>
      rw [he] at hob
      obtain ⟨h1, fn, hfn, hb⟩ := enter_rel he ha
      refine ⟨_, henter (run_callFunc (hP ▸ hc.prog) hfn hb _ _), .inl ⟨_, hob, ⟨β, _, fr :: frs, w, rfl, ⟨h1, hF, hR⟩, hH, hG, ?_⟩⟩⟩
      rw [getLast_cons]; exact hl

theorem loopOf_spec {H : List SO} {nm : Nat} {s p f T ps a b d} (h : loopOf H nm = some (s, p, f, T, ps, a, b, d)) : H[nm]? = some (.loop s p f T ps a b d) := by
  unfold loopOf at h
  rw [nth_eq] at h
  split at h
  · rename_i he; cases h; exact he
  · cases h
/-- a loop's record turns -/
theorem loop_turn {P : Program} {O : Nat → Prop} {w0 : World} {β : Val} {H : List SO} {w : World} (hH : HeapRel P O w0 β H w) {nm : Nat} {s p f T ps a b d} (h : H[nm]? = some (.loop s p f T ps a b d)) :
    ∃ l r, β nm = some l ∧ w.heap[l.blk]? = some (.loop r) ∧ r.state = s ∧ r.pending = p ∧ r.fn = f ∧ SV.denL β T = some r.tmps.toList ∧ r.params = ps ∧ r.assign = a ∧ r.body = b ∧ (∃ ld, β d = some ld ∧ r.defers = ld.blk) ∧
      ∀ s' p', HeapRel P O w0 β (setN H nm (.loop s' p' f T ps a b d)) (w.putObj l.blk (.loop { r with state := s', pending := p' })) := by
  obtain ⟨l, ld, Ts, hl, hd, hT, hh⟩ := hH.entries _ _ h
  refine ⟨l, _, hl, hh, rfl, rfl, rfl, by simpa using hT, rfl, rfl, rfl, ⟨ld, hd, rfl⟩, fun s' p' => ?_⟩
  have hlt : l.blk < w.heap.size := (Array.getElem?_eq_some_iff.1 hh).1
  refine hH.apply (sets := [(nm, .loop s' p' f T ps a b d)]) (news := []) (Eff.turn hl ?_) ?_
  · exact ⟨l, ld, Ts, hl, hd, hT, by simp [hlt]⟩
  · intro n e hn; simp at hn; obtain ⟨rfl, rfl⟩ := hn; exact ⟨_, h, rfl⟩
theorem setH_one (H : List SO) (n : Nat) (e : SO) : applyH H [(n, e)] [] = setN H n e := rfl

theorem endRound_after {H : List SO} {rest : List SF} {nm : Nat} {jump : Option Code} {β : Val} {fr : Frame} {frs : List Frame} {w : World} (hR : FramesRel β rest frs) (hH : HeapRel B.P B.O B.w0 β H w) (hG : BRel B β)
    (hl : ((fr :: frs).getLast?).map (·.fn) = some B.fn0) (hob : (endRoundT H rest nm jump go).Ob D S)
    (hst : ∀ (l : Loc) (c : Frame) (cs : List Frame) (w' : World), β nm = some l → (Instr.endRound l.blk jump).run B.P w = .ok (.bool jump.isNone) w' → step B.P (lone fr (c :: cs) w) = .next (lone (c.finish (.bool jump.isNone)) cs w')) :
    After B go D S (lone fr (frs ++ B.cs) w) := by
  unfold endRoundT at hob
  split at hob
  · rename_i st p f T ps a b d s rest' hloop
    cases frs with
    | nil => exact hR.elim
    | cons g frs =>
      cases hs : s.finish (.bool (.lit jump.isNone)) with
      | none => rw [hs] at hob; exact hob.elim
      | some s' =>
        rw [hs] at hob
        obtain ⟨l, r, hb, hh, _, _, _, _, _, _, _, _, hturn⟩ := loop_turn hH (loopOf_spec hloop)
        obtain ⟨h1, h2⟩ := finish_rel hR.1 (x := .bool jump.isNone) rfl hs
        refine ⟨_, .one (hst l g _ _ hb (run_endRound jump hh)), .inl ⟨_, hob, ⟨β, _, frs, _, rfl, ⟨h1, hR.2⟩, hturn _ _, hG, ?_⟩⟩⟩
        rw [last_fn h2, ← getLast_cons (f := fr)]; exact hl
  · exact hob.elim

end
end Go.Sim
