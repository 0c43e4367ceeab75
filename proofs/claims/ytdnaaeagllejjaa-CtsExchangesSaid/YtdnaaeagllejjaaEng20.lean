/-
  The symbolic simulator, twentieth part: one operation of a region; loops over functions; the step.
-/
import Derived.Test.YtdnaaeagllejjaaEng19
namespace Go.Sim
variable {α : Type}

section
variable {c : Cfg} {B : Base} {go : SS → Tree} {D : SV → List SO → Prop} {S : SS → Prop}

theorem asBool_cases (v : SV) : (∃ b, v = .bool b) ∨ ∀ {γ : Type} (d : γ) (f : SB → γ), v.asBool d f = d := by
  cases v <;> first | exact .inl ⟨_, rfl⟩ | exact .inr fun _ _ => rfl
theorem asTuple_cases (v : SV) : (∃ b, v = .tuple b) ∨ ∀ {γ : Type} (d : γ) (f : List SV → γ), v.asTuple d f = d := by
  cases v <;> first | exact .inl ⟨_, rfl⟩ | exact .inr fun _ _ => rfl
/-- is the operation carried out? -/
theorem wantT_ob {β : Val} {o : Oper} {os : Array Oper} {T : List SV} {ts : Array Value} (hT : SV.denL β T = some ts.toList) {yes : List SV → Tree} {no : Tree} (hob : (wantT o.guard os T yes no).Ob D S) :
    (Region.wanted o (yielded os ts) = true ∧ ∃ T', SV.denL β T' = some ts.toList ∧ (yes T').Ob D S) ∨ (Region.wanted o (yielded os ts) = false ∧ no.Ob D S) := by
  cases hg : o.guard with
  | none =>
    rw [hg] at hob
    exact .inl ⟨by simp [Region.wanted, hg], T, hT, hob⟩
  | some p =>
    obtain ⟨j, want⟩ := p
    rw [hg] at hob
    replace hob : (optC (dstOf os j) no fun d => optC (nth T d) (.stuck 410) fun v => v.asBool (isUndef v no) fun b => wantB b want T d yes no).Ob D S := hob
    have hdst : dstOf os j = (os[j]?).bind (·.dst) := by
      unfold dstOf
      rw [nth_eq, show os.toList[j]? = os[j]? from by simp]
      cases os[j]? <;> rfl
    rw [hdst] at hob
    have hw : Region.wanted o (yielded os ts) = (yielded os ts j == some want) := by simp [Region.wanted, hg]
    rw [hw]
    cases hd : (os[j]?).bind (·.dst) with
    | none =>
      rw [hd] at hob
      exact .inr ⟨by simp [yielded, hd], hob⟩
    | some d =>
      rw [hd] at hob
      simp only [optC_some] at hob
      rw [nth_eq] at hob
      cases hv : T[d]? with
      | none => rw [hv] at hob; exact hob.elim
      | some v =>
        rw [hv] at hob
        simp only [optC_some] at hob
        obtain ⟨x, hx, hden⟩ := denL_get hT hv
        have hx' : ts[d]? = some x := by rw [← hx]; simp
        rcases asBool_cases v with ⟨b, rfl⟩ | hnb
        · simp only [SV.den, Option.some.injEq] at hden
          subst hden
          have hy : yielded os ts j = some b.den := by simp [yielded, hd, hx']
          rw [hy]
          replace hob : (wantB b want T d yes no).Ob D S := hob
          cases b with
          | lit b =>
            cases b <;> cases want <;> first
              | exact .inl ⟨rfl, T, hT, hob⟩
              | exact .inr ⟨rfl, hob⟩
          | sym b =>
            have hset : ∀ q : Bool, b = q → SV.denL β (setN T d (.bool (.lit q))) = some ts.toList := by
              intro q hq
              rw [setN_eq]
              have h1 := denL_set hT (n := d) (v := .bool (.lit q)) (x := .bool b) (by simp [SV.den, SB.den, hq])
              rw [h1]
              congr 1
              apply List.ext_getElem?
              intro i
              rw [List.getElem?_set]
              split
              · rename_i hi; subst hi
                split
                · rw [hx]; rfl
                · rename_i hlt; rw [List.getElem?_eq_none (by omega)]
              · rfl
            cases b with
            | true =>
              have := hob.1 rfl
              cases want
              · exact .inr ⟨rfl, this⟩
              · exact .inl ⟨rfl, _, hset true rfl, this⟩
            | false =>
              have := hob.2 rfl
              cases want
              · exact .inl ⟨rfl, _, hset false rfl, this⟩
              · exact .inr ⟨rfl, this⟩
        · rw [hnb] at hob
          rcases asTuple_cases v with ⟨l, rfl⟩ | hnt
          · cases l with
            | cons => exact hob.elim
            | nil =>
              simp only [SV.den, SV.denL, Option.map_some, Option.some.injEq] at hden
              subst hden
              exact .inr ⟨by simp [yielded, hd, hx'], hob⟩
          · unfold isUndef at hob
            rw [hnt] at hob
            exact hob.elim

/-- a step at an operation that is carried out -/
theorem step_op {P : Program} {f : Frame} (hm : f.mode = .run) {os : Array Oper} {i : Nat} {rest : List Nat} {k : List Item} (htd : f.todo = .inRegion os (i :: rest) :: k) {o : Oper} (ho : os[i]? = some o) (hw : Region.wanted o (yielded os f.tmps) = true)
    (hnd : ∀ c, o.op ≠ .defer c) {cs : List Frame} {w : World} :
    stepG P true { frame := f, callers := cs, status := .running, dying := none } w = stepG.apply P true f cs none (execOp (Act.eval ⟨f.tmps, f.defers⟩) o) w := by
  have h := stepGR_op (P := P) (b := f) (a := ⟨f.tmps, f.defers⟩) (k := k) (cs := cs) (w := w) (rest := rest) ho hw
  rw [Oper.semAt_eq _ _ _ hnd, ← htd, ← frame_eta hm] at h
  exact h
theorem step_val {P : Program} {f : Frame} {s : Sem Next} {cs : List Frame} {w w' : World} {nx : Next} {v : Value}
    (h : stepG P true { frame := f, callers := cs, status := .running, dying := none } w = stepG.apply P true f cs none s w) (hr : s.run P w = .ok nx w') (hv : nextVal nx = some v) :
    step P (lone f cs w) = .next (lone (f.finish v) cs w') := by
  refine step_lone_go ?_
  rw [h]
  cases nx <;> simp [nextVal] at hv <;> subst hv <;> simp [stepG.apply, Sem.runT_eq, hr, GStep.bare_after]
theorem step_enter {P : Program} {f : Frame} {s : Sem Next} {cs : List Frame} {w w' : World} {g : FuncId} {args : Array Value} (hk : ∀ d a b c r, f.todo ≠ .call d a b c :: r)
    (h : stepG P true { frame := f, callers := cs, status := .running, dying := none } w = stepG.apply P true f cs none s w) (hr : s.run P w = .ok (.enter g args) w') :
    step P (lone f cs w) = .next (lone (Frame.enter P g args .normal) (f :: cs) w') := by
  refine step_lone_go ?_
  rw [h]
  have : (match f.todo with | .call _ true _ _ :: _ => CallKind.wrapped | _ => CallKind.normal) = .normal := by
    split
    · rename_i h'; exact absurd h' (hk _ _ _ _ _)
    · rfl
  simp [stepG.apply, Sem.runT_eq, hr, GStep.bare_after]
  exact congrArg (Frame.enter P g args) this
theorem step_round {P : Program} {f : Frame} {s : Sem Next} {cs : List Frame} {w w' : World} {l : Nat} {g : FuncId} {ts : Array Value} {a b : Code}
    (h : stepG P true { frame := f, callers := cs, status := .running, dying := none } w = stepG.apply P true f cs none s w) (hr : s.run P w = .ok (.round l g ts a b) w') :
    step P (lone f cs w) = .next (lone (Frame.round l g ts a b .normal) (f :: cs) w') := by
  refine step_lone_go ?_
  rw [h]
  simp [stepG.apply, Sem.runT_eq, hr, GStep.bare_after]
theorem setsP_den {β : Val} : ∀ (ps : List Tmp) (T args : List SV) (ts : Array Value) (vs : List Value), SV.denL β T = some ts.toList → SV.denL β args = some vs →
    SV.denL β (setsP T ps args) = some ((ps.zip vs).foldl (fun (ts : Array Value) (x : Tmp × Value) => ts.setIfInBounds x.1 x.2) ts).toList := by
  intro ps
  induction ps with
  | nil => intro T args ts vs hT _; simpa [setsP] using hT
  | cons p ps ih =>
    intro T args ts vs hT ha
    cases args with
    | nil => rw [denL_nil] at ha; subst ha; simpa [setsP] using hT
    | cons a args =>
      obtain ⟨x, xs, hx, hxs, rfl⟩ := denL_cons.1 ha
      simp only [setsP, List.zip_cons_cons, List.foldl_cons]
      refine ih _ _ _ _ ?_ hxs
      rw [setN_eq, Array.toList_setIfInBounds]
      exact denL_set hT hx

theorem opT_after (hc : CfgOK c) (hP : B.P = c.P) (hgl : B.glob = c.glob) {o : Oper} {l : List Oper} {os : Array Oper} {k : List SItem} {s : SF} {rest : List SF} {H : List SO} {β : Val} {fr : Frame} {frs : List Frame} {w : World} (hF : FrameRel β s fr) (hR : FramesRel β rest frs) (hH : HeapRel B.P B.O B.w0 β H w) (hG : BRel B β)
    (hl : ((fr :: frs).getLast?).map (·.fn) = some B.fn0) (htd : s.todo = .ops os (o :: l) :: k) (hob : (opT o l os k s rest c H go).Ob D S) : After B go D S (lone fr (frs ++ B.cs) w) := by
  have htd' := hF.todo
  rw [htd] at htd'
  cases hft : fr.todo with
  | nil => rw [hft] at htd'; exact htd'.elim
  | cons y k' =>
    rw [hft] at htd'
    obtain ⟨hxy, hkk⟩ := htd'
    cases y <;> first | exact hxy.elim | skip
    rename_i os' idx
    obtain ⟨rfl, pre, hos, hidx⟩ := hxy
    rw [List.length_cons, List.range'_succ] at hidx
    subst hidx
    have ho : os'[pre.length]? = some o := by rw [← Array.getElem?_toList, hos]; simp
    -- the frame behind the operation
    have hbehind : ∀ (β' : Val) (T' : List SV) (v : SV) (x : Value), β.le β' → SV.denL β' T' = some fr.tmps.toList → v.den β' = some x → FrameRel β' ⟨s.fn, putT T' o.dst v, .ops os' l :: k, s.defers, s.roundOf⟩ (fr.finish x) ∧ (fr.finish x).fn = fr.fn := by
      intro β' T' v x hle hT' hv
      have h1 : FrameRel β' ⟨s.fn, T', s.todo, s.defers, s.roundOf⟩ fr := by
        have := hF.mono hle
        exact ⟨this.fn, hT', this.todo, this.defers, this.mode, this.kind, this.round⟩
      refine finish_rel h1 hv ?_
      show finTodo s.todo _ v = _
      rw [htd]; rfl
    unfold opT at hob
    rcases wantT_ob hF.tmps hob with ⟨hw, T', hT', hob⟩ | ⟨hw, hob⟩
    · by_cases hd : ∃ cc, o.op = .defer cc
      · obtain ⟨cc, hd⟩ := hd
        rw [show opS c.P (evS c.glob T') H (lenN H) o = .stuck 342 from by unfold opS; rw [hd]; rfl] at hob
        exact hob.elim
      · have hnd : ∀ cc, o.op ≠ .defer cc := fun cc h => hd ⟨cc, h⟩
        have hsg := step_op (P := B.P) hF.mode hft ho hw hnd (cs := frs ++ B.cs) (w := w)
        rw [lenN_eq] at hob
        have hev : ∀ x ∈ o.op.operands, (evS c.glob T' x).den β = some (Act.eval ⟨fr.tmps, fr.defers⟩ x) := fun x _ => evS_den (a := ⟨fr.tmps, fr.defers⟩) hT' (hgl ▸ hG.glob) x
        obtain ⟨r, hr, hob⟩ := R.tree_ob (opS_sat (hP ▸ hH.toHeapRel0) o hev) hob
        rw [← hP] at hr
        cases r with
        | val v sets news =>
          obtain ⟨nx, x, w', β', hrun, hnx, hv, hE, hown⟩ := hr fun i _ => hH.bound _ (Nat.le_add_right _ _)
          obtain ⟨h1, h2⟩ := hbehind β' T' v x hE.le (SV.denL_mono hE.le _ hT') hv
          exact ⟨_, .one (step_val hsg hrun hnx), .inl ⟨_, hob, ⟨β', _, frs, w', rfl, ⟨h1, hR.mono hE.le⟩, hH.apply hE hown, hG.mono hE.le, by rw [last_fn h2]; exact hl⟩⟩⟩
        | enter f args =>
          obtain ⟨vs, ha, hrun⟩ := hr
          have hF' : FrameRel β ⟨s.fn, T', s.todo, s.defers, s.roundOf⟩ fr := ⟨hF.fn, hT', hF.todo, hF.defers, hF.mode, hF.kind, hF.round⟩
          refine callFT_after hc hP hgl hF' hR hH hG hl ha hob (fun he => ?_) fun v w' he => ?_
          · exact .one (step_enter (by rw [hft]; intros; simp) hsg (hrun.trans he))
          · exact .one (step_val hsg (hrun.trans he) rfl)
        | round nm args =>
          obtain ⟨ll, vs, hb, ha, hrun⟩ := hr
          replace hob : (roundT nm args ⟨s.fn, T', s.todo, s.defers, s.roundOf⟩ rest H go).Ob D S := hob
          unfold roundT at hob
          split at hob
          · rename_i st p f T ps a b d hloop
            split at hob
            · rename_i hlen
              obtain ⟨l', r', hb', hh, _, _, hfn, hTT, hps, hass, hbod, _, _⟩ := loop_turn hH (loopOf_spec hloop)
              rw [hb] at hb'; cases hb'
              have hsz : vs.toArray.size = r'.params.size := by
                rw [lenN_eq, lenN_eq] at hlen
                rw [hps]; have := denL_length ha; simp at hlen ⊢; omega
              have hy := run_yield (P := B.P) (args := vs.toArray) hh hsz
              have hF' : FrameRel β ⟨s.fn, T', s.todo, s.defers, s.roundOf⟩ fr := ⟨hF.fn, hT', hF.todo, hF.defers, hF.mode, hF.kind, hF.round⟩
              refine ⟨_, .one (step_round hsg (hrun.trans hy)), .inl ⟨_, hob, ⟨β, _, fr :: frs, w, rfl, ⟨⟨hfn, ?_, ?_, rfl, rfl, rfl, ⟨ll, hb, rfl⟩⟩, hF', hR⟩, hH, hG, by rw [getLast_cons]; exact hl⟩⟩⟩
              · have e : ((r'.params.zip vs.toArray).foldl (fun (ts : Array Value) (x : Tmp × Value) => ts.setIfInBounds x.1 x.2) r'.tmps) = (ps.toList.zip vs).foldl (fun (ts : Array Value) (x : Tmp × Value) => ts.setIfInBounds x.1 x.2) r'.tmps := by
                  rw [← Array.foldl_toList, Array.toList_zip, hps]
                exact (setsP_den ps.toList T args r'.tmps vs hTT ha).trans (congrArg (fun z : Array Value => some z.toList) e.symm)
              · show TodoRel β [.code a, .beginRound, .code b] [.code r'.assign, .beginRound, .code r'.body]
                rw [hass, hbod]; exact ⟨rfl, trivial, rfl, trivial⟩
            · exact hob.elim
          · exact hob.elim
        | defer d => exact hob.elim
        | panic v => exact hob.elim
        | touch v nm =>
          obtain ⟨nx, x, w', e, hrun, hnx, hv, he, heo, hE⟩ := hr
          obtain ⟨h1, h2⟩ := hbehind β T' v x (Val.le_refl β) hT' hv
          have hH' : HeapRel B.P B.O B.w0 β H w' := by
            have := hH.apply (hE.rebase (b := H.length)) (by intro n e' hn; simp at hn; obtain ⟨rfl, rfl⟩ := hn; exact ⟨e', he, heo⟩)
            rwa [applyH_eq, List.append_nil, setsH_same he] at this
          exact ⟨_, .one (step_val hsg hrun hnx), .inl ⟨_, hob, ⟨β, _, frs, w', rfl, ⟨h1, hR⟩, hH', hG, by rw [last_fn h2]; exact hl⟩⟩⟩
    · -- passed over
      obtain ⟨h1, h2⟩ := hbehind β s.tmps undefS undef (Val.le_refl β) hF.tmps (by simp [undefS, SV.den, SV.denL, undef])
      refine ⟨_, .one (step_lone_go ?_), .inl ⟨_, hob, ⟨β, fr.finish undef, frs, w, rfl, ⟨h1, hR⟩, hH, hG, by rw [last_fn h2]; exact hl⟩⟩⟩
      have hg : ((os'[pre.length]?).map (Region.wanted · (yielded os' fr.tmps))).getD false = false := by rw [ho]; exact hw
      simp [stepG, stepG.exec, hft, hF.mode, hg]

end
end Go.Sim
