/-
  The symbolic simulator, twenty-fifth part: one step, and a run of steps.
-/
import Derived.Test.YtdnaaeagllejjaaEng24
namespace Go.Sim
variable {α : Type}

section
variable {c : Cfg} {B : Base} {go : SS → Tree} {D : SV → List SO → Prop} {S : SS → Prop}

theorem alloc_get (w : World) (o : Obj) : (w.alloc o).heap[w.heap.size]? = some o := by
  show (w.heap.push o)[w.heap.size]? = _
  simp
/-- a range over a function: entered, or answered at once -/
theorem step_range_enter {P : Program} {b : Frame} {a : Act} {k : List Item} {cs : List Frame} {w : World} {g : Operand} {ps : Array Tmp} {assign body : Code} {l : Nat} {mark : List Deferred} {w₁ w₂ : World} {f : FuncId} {args : Array Value}
    (he : (Instr.enterLoop b.fn a.tmps ps assign body b.roundOf).run P w = .ok (l, mark) w₁) {d : Deferred}
    (hres : (resolve a.eval (rangeCall g l) 0).run P w₁ = .ok d w₁) (hinv : (invoke d.target d.args).run P w₁ = .ok (.enter f args) w₂) :
    step P (lone (b.atR a (.code (.rangeFunc g ps assign body) :: k)) cs w) = .next (lone (Frame.enter P f args .normal) (b.atR { a with defers := mark ++ a.defers } (.inRangeFunc l :: k) :: cs) w₂) :=
  stepR_rangeFunc he hres hinv
theorem step_range_value {P : Program} {b : Frame} {a : Act} {k : List Item} {cs : List Frame} {w : World} {g : Operand} {ps : Array Tmp} {assign body : Code} {l : Nat} {mark : List Deferred} {w₁ w₂ : World} {v : Value}
    (he : (Instr.enterLoop b.fn a.tmps ps assign body b.roundOf).run P w = .ok (l, mark) w₁) {d : Deferred}
    (hres : (resolve a.eval (rangeCall g l) 0).run P w₁ = .ok d w₁) (hinv : (invoke d.target d.args).run P w₁ = .ok (.value v) w₂) :
    step P (lone (b.atR a (.code (.rangeFunc g ps assign body) :: k)) cs w) = .next (lone ((b.atR { a with defers := mark ++ a.defers } (.inRangeFunc l :: k)).finish v) cs w₂) :=
  step_lone_go (by
    have hev := Frame.eval_atR b { a with defers := mark ++ a.defers } (.inRangeFunc l :: k)
    simp only [Frame.atR] at hev
    have hres' : Sem.run P (resolve ({ tmps := a.tmps, defers := mark ++ a.defers } : Act).eval { callee := .value g, args := #[.const (.func (.yield l) #[] #[])], argTypes := #[] } 0) w₁ = .ok d w₁ := hres
    simp [stepG, stepG.exec, Frame.atR, Sem.runT_eq, he, GStep.bare_after, stepG.apply, hev, Sem.run_bind, hres', hinv, Result.andThen])

theorem callT_enter {P : Program} {β : Val} {w : World} {f : SV} {fv : Value} {as args : List SV} {vs : List Value} {g : FuncId} (h : callT f as = .ok (.enter g args)) (hf : f.den β = some fv) (has : SV.denL β as = some vs) :
    ∃ d us, (Deferred.ofValue fv vs.toArray).run P w = .ok d w ∧ SV.denL β args = some us ∧ (invoke d.target d.args).run P w = (callFunc g us.toArray).run P w := by
  unfold callT at h
  rcases asFunc_cases f with ⟨fn, xs, ys, h'⟩ | h'
  · rw [h'] at hf h
    simp only [SV.den, Option.bind_eq_some_iff, Option.map_eq_some_iff] at hf
    obtain ⟨F, hF, x, hx, y, hy, rfl⟩ := hf
    cases fn with
    | yield nm => cases h
    | fn fn =>
      simp only [SFn.den, Option.some.injEq] at hF
      subst hF
      cases fn with
      | func g' =>
        cases h
        exact ⟨_, x ++ (vs ++ y), rfl, app_den hx (app_den has hy), by simp [invoke]⟩
      | method => cases h
      | methodOf => cases h
      | via => cases h
      | yield => cases h
  · rw [h'] at h; cases h

theorem rangeT_after (hc : CfgOK c) (hP : B.P = c.P) (hgl : B.glob = c.glob) {f : Operand} {ps : Array Tmp} {as bd : Code} {k : List SItem} {s : SF} {rest : List SF} {H : List SO} {β : Val} {fr : Frame} {frs : List Frame} {w : World} (hF : FrameRel β s fr) (hR : FramesRel β rest frs) (hH : HeapRel B.P B.O B.w0 β H w) (hG : BRel B β)
    (hl : ((fr :: frs).getLast?).map (·.fn) = some B.fn0) (htd : s.todo = .code (.rangeFunc f ps as bd) :: k) (hob : (rangeT c f ps as bd s k rest H go).Ob D S) : After B go D S (lone fr (frs ++ B.cs) w) := by
  have htd' := hF.todo
  rw [htd] at htd'
  cases hft : fr.todo with
  | nil => rw [hft] at htd'; exact htd'.elim
  | cons y k' =>
    rw [hft] at htd'
    obtain ⟨hxy, hkk⟩ := htd'
    cases y <;> first | exact hxy.elim | skip
    rename_i cd
    have hcd : cd = .rangeFunc f ps as bd := hxy
    subst hcd
    have hfv := evS_den (glob := c.glob) (a := ⟨fr.tmps, fr.defers⟩) hF.tmps (hgl ▸ hG.glob) f
    unfold rangeT at hob
    have hround := hF.round
    rw [lenN_eq] at hob
    -- the call, from the world with the record in it
    have key : ∀ (β1 : Val) (H1 : List SO) (w1 : World) (nm : Nat) (ll : Loc) (sd : List SD) (mark : List Deferred), β.le β1 → β1 nm = some ll → HeapRel B.P B.O B.w0 β1 H1 w1 → SD.denL β1 sd = some (mark ++ fr.defers) →
        (Instr.enterLoop fr.fn fr.tmps ps as bd fr.roundOf).run B.P w = .ok (ll.blk, mark) w1 →
        (match callT (evS c.glob s.tmps f) [.func (.yield nm) [] []] with
          | .ok (.enter g args) => callFT c g args ⟨s.fn, s.tmps, .inRF nm :: k, sd, s.roundOf⟩ rest H1 go
          | _ => .stuck 414).Ob D S → After B go D S (lone fr (frs ++ B.cs) w) := by
      intro β1 H1 w1 nm ll sd mark hle hnm hH1 hsd hent hob
      split at hob
      · rename_i g args hcall
        have hyd : SV.denL β1 [.func (.yield nm) [] []] = some [.func (.yield ll.blk) #[] #[]] := by
          simp [SV.denL, SV.den, SFn.den, hnm]
        obtain ⟨d, us, hd, hus, hinv⟩ := callT_enter (P := B.P) (w := w1) hcall (SV.den_mono hle _ hfv) hyd
        have hF1 : FrameRel β1 ⟨s.fn, s.tmps, .inRF nm :: k, sd, s.roundOf⟩ (fr.atR ⟨fr.tmps, mark ++ fr.defers⟩ (.inRangeFunc ll.blk :: k')) :=
          ⟨hF.fn, SV.denL_mono hle _ hF.tmps, ⟨⟨ll, hnm, rfl⟩, hkk.mono hle⟩, hsd, rfl, hF.kind, hF.round.mono hle⟩
        have hres : (resolve (Act.eval ⟨fr.tmps, fr.defers⟩) (rangeCall f ll.blk) 0).run B.P w1 = .ok d w1 := by
          have e : resolve (Act.eval ⟨fr.tmps, fr.defers⟩) (rangeCall f ll.blk) 0 = Deferred.ofValue (Act.eval ⟨fr.tmps, fr.defers⟩ f) #[.func (.yield ll.blk) #[] #[]] := by simp [resolve, Act.eval]
          rw [e]; exact hd
        refine callFT_after hc hP hgl hF1 (hR.mono hle) hH1 (hG.mono hle) ((last_fn (f := fr) (f' := fr.atR ⟨fr.tmps, mark ++ fr.defers⟩ (.inRangeFunc ll.blk :: k')) rfl).trans hl) hus hob (fun he => .one ?_) fun v w' he => .one ?_
        · conv => lhs; rw [frame_eta hF.mode, hft]
          exact step_range_enter (a := ⟨fr.tmps, fr.defers⟩) hent hres (hinv.trans he)
        · conv => lhs; rw [frame_eta hF.mode, hft]
          exact step_range_value (a := ⟨fr.tmps, fr.defers⟩) hent hres (hinv.trans he)
      · exact hob.elim
    cases hro : s.roundOf with
    | none =>
      rw [hro] at hob hround
      have hfr : fr.roundOf = none := by
        cases hx : fr.roundOf with
        | none => rfl
        | some b => rw [hx] at hround; exact hround.elim
      have hb0 := hH.bound _ (Nat.le_refl H.length)
      have hE1 : Eff B.P β w H.length [] [.deferred (some [])] (β.upd H.length ⟨w.heap.size, 0, 0⟩) (w.alloc (.deferred (some []))) :=
        Eff.lay1 hb0 rfl ⟨_, some [], Val.upd_same _ _ _, rfl, alloc_get _ _⟩
      have hH1 := hH.apply hE1 (by simp)
      rw [applyH_eq] at hH1
      replace hH1 : HeapRel B.P B.O B.w0 _ (H ++ [.deferred (some [])]) _ := hH1
      have hlen : (H ++ [SO.deferred (some [])]).length = H.length + 1 := by simp
      have hb1 := hH1.bound _ (Nat.le_refl _)
      have hE2 : Eff B.P (β.upd H.length ⟨w.heap.size, 0, 0⟩) (w.alloc (.deferred (some []))) (H ++ [SO.deferred (some [])]).length [] [.loop .ready none s.fn s.tmps ps as bd H.length] ((β.upd H.length ⟨w.heap.size, 0, 0⟩).upd (H ++ [SO.deferred (some [])]).length ⟨(w.alloc (.deferred (some []))).heap.size, 0, 0⟩)
          ((w.alloc (.deferred (some []))).alloc (.loop { state := .ready, pending := none, fn := fr.fn, tmps := fr.tmps, params := ps, assign := as, body := bd, defers := w.heap.size })) := by
        refine Eff.lay1 hb1 rfl ⟨_, ⟨w.heap.size, 0, 0⟩, fr.tmps.toList, Val.upd_same _ _ _, Val.upd_le hb1 _ _ (Val.upd_same _ _ _), SV.denL_mono (Val.le_trans hE1.le (Val.upd_le hb1)) _ hF.tmps, ?_⟩
        rw [hF.fn]; exact alloc_get _ _
      have hH2 := hH1.apply hE2 (by simp)
      rw [applyH_eq] at hH2
      have hle := Val.le_trans hE1.le hE2.le
      refine key _ _ _ (H.length + 1) ⟨(w.alloc (.deferred (some []))).heap.size, 0, 0⟩ (.coll H.length :: s.defers) [{ target := .collected w.heap.size, args := #[] }] hle ?_ hH2 ?_ ?_ ?_
      · rw [← hlen]; exact Val.upd_same _ _ _
      · have h1 := hE2.le _ _ (Val.upd_same β H.length ⟨w.heap.size, 0, 0⟩)
        have h2 := SD.denL_mono (Val.le_trans hE1.le hE2.le) hF.defers
        show (SD.den _ (.coll H.length)).bind _ = _
        simp only [SD.den, h1, Option.map_some, Option.bind_some, h2]
        rfl
      · rw [hfr, run_enterLoop_outer, World.size_alloc]
      · have e : setsH (H ++ [SO.deferred (some [])]) [] ++ [SO.loop .ready none s.fn s.tmps ps as bd H.length] = app H [.deferred (some []), .loop .ready none s.fn s.tmps ps as bd H.length] := by
          rw [app_eq]; show (H ++ _) ++ _ = _; simp
        rw [e, hro]
        exact hob
    | some nm0 =>
      rw [hro] at hob hround
      simp only at hob
      cases hx : fr.roundOf with
      | none => rw [hx] at hround; exact hround.elim
      | some b =>
        rw [hx] at hround
        obtain ⟨l0, hl0, rfl⟩ := hround
        split at hob
        · rename_i st p f0 T0 ps0 a0 b0 d hloop
          obtain ⟨l1, r, hl1, hh, _, _, _, _, _, _, _, ⟨ld, hd, hrd⟩, _⟩ := loop_turn hH (loopOf_spec hloop)
          rw [hl0] at hl1; cases hl1
          have hb0 := hH.bound _ (Nat.le_refl H.length)
          have hE1 : Eff B.P β w H.length [] [.loop .ready none s.fn s.tmps ps as bd d] (β.upd H.length ⟨w.heap.size, 0, 0⟩)
              (w.alloc (.loop { state := .ready, pending := none, fn := fr.fn, tmps := fr.tmps, params := ps, assign := as, body := bd, defers := r.defers })) := by
            refine Eff.lay1 hb0 rfl ⟨_, ld, fr.tmps.toList, Val.upd_same _ _ _, Val.upd_le hb0 _ _ hd, SV.denL_mono (Val.upd_le hb0) _ hF.tmps, ?_⟩
            rw [hF.fn, hrd]; exact alloc_get _ _
          have hH1 := hH.apply hE1 (by simp)
          rw [applyH_eq] at hH1
          refine key _ _ _ H.length _ s.defers [] hE1.le (Val.upd_same _ _ _) hH1 ?_ ?_ ?_
          · rw [List.nil_append]; exact SD.denL_mono hE1.le hF.defers
          · rw [hx]; exact run_enterLoop_inner hh _ _ _ _ _
          · have e : setsH H [] ++ [SO.loop .ready none s.fn s.tmps ps as bd d] = app H [.loop .ready none s.fn s.tmps ps as bd d] := by
              rw [app_eq]; rfl
            rw [e, hro]
            split at hob
            · rename_i g args hcall
              rw [hcall]; exact hob
            · exact hob.elim
        · exact hob.elim

/-- ONE STEP -/
theorem step_sound (hc : CfgOK c) (hP : B.P = c.P) (hgl : B.glob = c.glob) {s : SS} {m : Machine} (hM : MRel B s m) (hob : (stepT c s go).Ob D S) : After B go D S m := by
  obtain ⟨β, fr, frs, w, rfl, hFs, hH, hG, hl⟩ := hM.ex
  obtain ⟨frames, H⟩ := s
  cases frames with
  | nil => exact hFs.elim
  | cons s rest =>
    obtain ⟨hF, hR⟩ := hFs
    replace hob : (todoT s.todo s rest c H go).Ob D S := hob
    cases htd : s.todo with
    | nil => rw [htd] at hob; exact returnT_after hP hF hR hH hG hl (.inl htd) hob
    | cons x k =>
      rw [htd] at hob
      replace hob : (itemT x k s rest c H go).Ob D S := hob
      have htd' := hF.todo
      rw [htd] at htd'
      cases hft : fr.todo with
      | nil => rw [hft] at htd'; exact htd'.elim
      | cons y k' =>
        rw [hft] at htd'
        obtain ⟨hxy, hkk⟩ := htd'
        cases x with
        | inBlock id =>
          cases y <;> first | exact hxy.elim | skip
          refine after_to hF hR hH hG hl hkk hob ?_
          rw [hft]; exact stepR_inBlock
        | inScope cd =>
          cases y <;> first | exact hxy.elim | skip
          refine after_to hF hR hH hG hl hkk hob ?_
          rw [hft]; exact step_lone_go (by simp [stepG, stepG.exec, Frame.atR])
        | inLoop cd =>
          cases y <;> first | exact hxy.elim | skip
          rename_i cd'
          have : cd' = cd := hxy
          subst this
          refine after_to hF hR hH hG hl (k := .code cd' :: .inLoop cd' :: k) (k' := .code cd' :: .inLoop cd' :: k') ⟨rfl, rfl, hkk⟩ hob ?_
          rw [hft]; exact stepR_inLoop
        | inRF nm => exact hob.elim
        | endRF nm =>
          cases y <;> first | exact hxy.elim | skip
          rename_i b
          obtain ⟨l0, hl0, rfl⟩ := hxy
          replace hob : (endRFT nm k s rest c H go).Ob D S := hob
          unfold endRFT at hob
          split at hob
          · rename_i st p f T ps a b d hloop
            obtain ⟨l1, r, hl1, hh, hst, hpe, _, _, _, _, _, _, hturn⟩ := loop_turn hH (loopOf_spec hloop)
            rw [hl0] at hl1; cases hl1
            obtain ⟨hnb, td, htd2, hob⟩ : st ≠ .busy ∧ ∃ td, TodoRel β td ((p.map Item.code).toList ++ k') ∧ (go ⟨⟨s.fn, s.tmps, td, s.defers, s.roundOf⟩ :: rest, setN H nm (.loop .exhausted p f T ps a b d)⟩).Ob D S := by
              cases st <;> first
                | exact hob.elim
                | (cases p with
                  | none => exact ⟨by simp, k, hkk, hob⟩
                  | some j => exact ⟨by simp, .code j :: k, ⟨rfl, hkk⟩, hob⟩)
            subst hpe
            have hrun := run_endLoop (P := B.P) hh (by rw [hst]; exact hnb)
            have hstep := stepR_endRangeFunc (P := B.P) (b := fr) (a := ⟨fr.tmps, fr.defers⟩) (k := k') (cs := frs ++ B.cs) hrun
            rw [← hft, ← frame_eta hF.mode] at hstep
            have hH' := hturn .exhausted r.pending
            exact ⟨_, .one hstep, .inl ⟨_, hob, ⟨β, _, frs, _, rfl, ⟨⟨hF.fn, hF.tmps, htd2, hF.defers, rfl, hF.kind, hF.round⟩, hR⟩, hH', hG, Eq.trans (last_fn (f := fr) (f' := fr.atR ⟨fr.tmps, fr.defers⟩ _) rfl) hl⟩⟩⟩
          · exact hob.elim
        | beginRound =>
          cases y <;> first | exact hxy.elim | skip
          replace hob : (beginT k s rest c H go).Ob D S := hob
          unfold beginT at hob
          split at hob
          · rename_i nm hro
            have hround := hF.round
            rw [hro] at hround
            cases hx : fr.roundOf with
            | none => rw [hx] at hround; exact hround.elim
            | some b =>
              rw [hx] at hround
              obtain ⟨l0, hl0, rfl⟩ := hround
              split at hob
              · rename_i p f T ps a b d hloop
                obtain ⟨l1, r, hl1, hh, hst, hpe, _, _, _, _, _, _, hturn⟩ := loop_turn hH (loopOf_spec hloop)
                rw [hl0] at hl1; cases hl1
                subst hpe
                have hstep := stepR_beginRound (P := B.P) (b := fr) (a := ⟨fr.tmps, fr.defers⟩) (k := k') (cs := frs ++ B.cs) hx (run_beginRound hh hst)
                rw [← hft, ← frame_eta hF.mode] at hstep
                have hH' := hturn .busy r.pending
                exact ⟨_, .one hstep, .inl ⟨_, hob, ⟨β, _, frs, _, rfl, ⟨⟨hF.fn, hF.tmps, hkk, hF.defers, rfl, hF.kind, hF.round⟩, hR⟩, hH', hG, Eq.trans (last_fn (f := fr) (f' := fr.atR ⟨fr.tmps, fr.defers⟩ _) rfl) hl⟩⟩⟩
              · exact hob.elim
          · exact hob.elim
        | ops os l =>
          cases l with
          | nil =>
            cases y <;> first | exact hxy.elim | skip
            rename_i os' idx
            obtain ⟨rfl, pre, hos, rfl⟩ := hxy
            refine after_to hF hR hH hG hl hkk hob ?_
            rw [hft]; exact stepR_region_end
          | cons o l => exact opT_after hc hP hgl hF hR hH hG hl htd hob
        | code cd =>
          cases y <;> first | exact hxy.elim | skip
          rename_i cd'
          have hcd : cd' = cd := hxy
          subst hcd
          replace hob : (codeT cd' k s rest c H go).Ob D S := hob
          cases cd' with
          | skip => refine after_to hF hR hH hG hl hkk hob ?_; rw [hft]; exact stepR_skip
          | label n => refine after_to hF hR hH hG hl hkk hob ?_; rw [hft]; exact stepR_label
          | seq a b => refine after_to hF hR hH hG hl (k := .code a :: .code b :: k) (k' := .code a :: .code b :: k') ⟨rfl, rfl, hkk⟩ hob ?_; rw [hft]; exact stepR_seq
          | block id body => refine after_to hF hR hH hG hl (k := .code body :: .inBlock id :: k) (k' := .code body :: .inBlock id :: k') ⟨rfl, rfl, hkk⟩ hob ?_; rw [hft]; exact stepR_block
          | loop body => refine after_to hF hR hH hG hl (k := .code body :: .inLoop body :: k) (k' := .code body :: .inLoop body :: k') ⟨rfl, rfl, hkk⟩ hob ?_; rw [hft]; exact stepR_loop
          | scope body =>
            refine after_to hF hR hH hG hl (k := .code body :: .inScope body :: k) (k' := .code body :: .inScope body :: k') ⟨rfl, rfl, hkk⟩ hob ?_
            rw [hft]; exact step_lone_go (by simp [stepG, stepG.exec, Frame.atR])
          | goto n => exact hob.elim
          | refuse w => exact hob.elim
          | ret => exact returnT_after hP hF hR hH hG hl (.inr ⟨k, htd⟩) hob
          | exit id =>
            replace hob : (exitT id k s rest c H go).Ob D S := hob
            unfold exitT at hob
            have hsp := exitS_spec (β := β) id k k' hkk
            cases hex : exitS id k with
            | some r =>
              rw [hex] at hob hsp
              obtain ⟨r', hr', hrr⟩ := hsp
              refine after_to hF hR hH hG hl hrr hob ?_
              rw [hft]; exact stepR_exit hr'
            | none =>
              rw [hex] at hob hsp
              simp only at hob hsp
              split at hob
              · rename_i nm hro
                have hround := hF.round
                rw [hro] at hround
                cases hx : fr.roundOf with
                | none => rw [hx] at hround; exact hround.elim
                | some b =>
                  rw [hx] at hround
                  obtain ⟨l0, hl0, rfl⟩ := hround
                  refine endRound_after hR hH hG hl hob fun l cc cs w' hb hrun => ?_
                  rw [hl0] at hb; cases hb
                  rw [frame_eta hF.mode, hft]
                  exact stepR_round_exit hx hF.kind hsp hrun
              · exact hob.elim
          | cond x a b =>
            replace hob : (condT x a b k s rest c H go).Ob D S := hob
            unfold condT at hob
            have hx := evS_den (glob := c.glob) (a := ⟨fr.tmps, fr.defers⟩) hF.tmps (hgl ▸ hG.glob) x
            rcases asBool_cases (evS c.glob s.tmps x) with ⟨v, hv⟩ | hno
            · rw [hv] at hob hx
              have hval : Act.eval ⟨fr.tmps, fr.defers⟩ x = .bool v.den := (Option.some.inj hx).symm
              have key : ∀ t : Bool, v.den = t → (go ⟨s.to (.code (if t then a else b) :: k) :: rest, H⟩).Ob D S → After B go D S (lone fr (frs ++ B.cs) w) := by
                intro t ht hob
                refine after_to hF hR hH hG hl (k := .code (if t then a else b) :: k) (k' := .code (if t then a else b) :: k') ⟨rfl, hkk⟩ hob ?_
                rw [hft]
                exact stepR_cond (by rw [hval, ht])
              cases v with
              | lit v => cases v with
                | true => exact key true rfl hob
                | false => exact key false rfl hob
              | sym v => cases v with
                | true => exact key true rfl (hob.1 rfl)
                | false => exact key false rfl (hob.2 rfl)
            · rw [hno] at hob; exact hob.elim
          | region id os draw =>
            cases draw with
            | true => exact drawT_after hc hP hgl hF hR hH hG hl htd hob
            | false =>
              refine after_to hF hR hH hG hl (k := .ops os os.toList :: k) (k' := .inRegion os (List.range os.size) :: k') ⟨⟨rfl, [], rfl, ?_⟩, hkk⟩ hob ?_
              · rw [List.range_eq_range']; simp
              · rw [hft]; exact stepR_region
          | rangeFunc f ps a b => exact rangeT_after hc hP hgl hF hR hH hG hl htd hob

/-- what a run comes to -/
def Ends (B : Base) (D : SV → List SO → Prop) (S : SS → Prop) (m : Machine) : Prop :=
  ∃ m', Steps B.P m m' ∧ ((∃ v H, D v H ∧ DoneRel B v H m') ∨ (∃ s, S s ∧ MRel B s m'))
theorem sim_sound (hc : CfgOK c) (hP : B.P = c.P) (hgl : B.glob = c.glob) : ∀ (n : Nat) (s : SS) (m : Machine), MRel B s m → (sim c n s).Ob D S → Ends B D S m := by
  intro n
  induction n with
  | zero => intro s m hM h; exact ⟨m, .refl _ _, .inr ⟨s, h, hM⟩⟩
  | succ n ih =>
    intro s m hM h
    replace h : (boolC (stopS c s) (.stop s) (stepT c s (sim c n))).Ob D S := h
    cases hst : stopS c s with
    | true => rw [hst] at h; exact ⟨m, .refl _ _, .inr ⟨s, h, hM⟩⟩
    | false =>
      rw [hst] at h
      obtain ⟨m1, hs, ⟨s', h', hM'⟩ | ⟨v, H, hD, hM'⟩⟩ := step_sound hc hP hgl hM h
      · obtain ⟨m2, hs2, hr⟩ := ih s' m1 hM' h'
        exact ⟨m2, hs.trans hs2, hr⟩
      · exact ⟨m1, hs, .inl ⟨v, H, hD, hM'⟩⟩
theorem sim1_sound (hc : CfgOK c) (hP : B.P = c.P) (hgl : B.glob = c.glob) {n : Nat} {s : SS} {m : Machine} (hM : MRel B s m) (h : (sim1 c n s).Ob D S) : Ends B D S m := by
  obtain ⟨m1, hs, ⟨s', h', hM'⟩ | ⟨v, H, hD, hM'⟩⟩ := step_sound hc hP hgl hM h
  · obtain ⟨m2, hs2, hr⟩ := sim_sound hc hP hgl n s' m1 hM' h'
    exact ⟨m2, hs.trans hs2, hr⟩
  · exact ⟨m1, hs, .inl ⟨v, H, hD, hM'⟩⟩

end
end Go.Sim
