/-
  The symbolic simulator, twenty-fourth part: the other steps.
-/
import Derived.Test.YtdnaaeagllejjaaEng23
namespace Go.Sim
variable {α : Type}

/-- one new block, of whatever kind -/
theorem Eff.lay1 {P : Program} {β : Val} {w : World} {base : Nat} {o : Obj} {e : SO} (hb : β base = Option.none) (ho : e.owned = true)
    (hown : OwnRel P (β.upd base ⟨w.heap.size, 0, 0⟩) (w.alloc o) base e) : Eff P β w base [] [e] (β.upd base ⟨w.heap.size, 0, 0⟩) (w.alloc o) where
  le := Val.upd_le hb
  os := rfl
  tape := rfl
  output := rfl
  size := by show w.heap.size ≤ (w.heap.push o).size; simp
  dom := fun n hn => by
    unfold Val.upd
    rw [if_neg]; simp at hn; omega
  frame := fun b hb _ => by show (w.heap.push o)[b]? = _; rw [Array.getElem?_push, if_neg (by omega)]
  one := by simp
  turned := by simp
  made := fun i e' he => by
    cases i with
    | zero =>
      simp at he; subst he
      exact ⟨ho, hown, _, Val.upd_same _ _ _, .inl (Nat.le_refl _)⟩
    | succ i => simp at he
  apart := fun i j l l' hij hi hj => by simp at hi hj; omega

section
variable {c : Cfg} {B : Base} {go : SS → Tree} {D : SV → List SO → Prop} {S : SS → Prop}

theorem HeapRel.sameHeap {P : Program} {O : Nat → Prop} {w0 : World} {β : Val} {H : List SO} {w w' : World} (h : HeapRel P O w0 β H w) (hh : w'.heap = w.heap) (ho : w'.os = w.os) (ht : w'.tape = w.tape) (hu : w'.output = w.output) : HeapRel P O w0 β H w' := by
  have := h.apply (Eff.none (P := P) (β := β) (base := H.length) hh ho ht hu) (by simp)
  rw [applyH_eq, List.append_nil] at this
  exact this

/-- a region that draws its order -/
theorem drawS_after (hc : CfgOK c) (hP : B.P = c.P) (hgl : B.glob = c.glob) {id : Nat} {os : Array Oper} {k : List SItem} {s : SF} {rest : List SF} {H : List SO} {β : Val} {fr : Frame} {frs : List Frame} {w : World} (hF : FrameRel β s fr) (hR : FramesRel β rest frs) (hH : HeapRel B.P B.O B.w0 β H w) (hG : BRel B β)
    (hl : ((fr :: frs).getLast?).map (·.fn) = some B.fn0) (htd : s.todo = .code (.region id os true) :: k) {sh : Nat} (hob : (drawS os sh (masks os.toList []) k s rest c H go).Ob D S) : After B go D S (lone fr (frs ++ B.cs) w) := by
  have htd' := hF.todo
  rw [htd] at htd'
  cases hft : fr.todo with
  | nil => rw [hft] at htd'; exact htd'.elim
  | cons y k' =>
    rw [hft] at htd'
    obtain ⟨hxy, hkk⟩ := htd'
    cases y <;> first | exact hxy.elim | skip
    rename_i cd
    have hcd : cd = .region id os true := hxy
    subst hcd
    unfold drawS at hob
    cases hok : drawOK os os.toList (masks os.toList []) sh with
    | false => rw [hok] at hob; exact hob.elim
    | true =>
      rw [hok, boolC_true] at hob
      obtain ⟨he, hok'⟩ := boolC_and (show boolC (edgesAll os.toList 0) (boolC (headOK os (takeN os.toList sh) (takeN os.toList sh) (masks os.toList []) 0) (tailOK (dropN (masks os.toList []) sh) sh) false) false = true from hok)
      obtain ⟨hh, ht⟩ := boolC_and hok'
      obtain ⟨TF, Fs, slots, sets, hFa, hfin⟩ := drawP_facts (x := ⟨c, os, H, fun T N sets => go ⟨⟨s.fn, T, .ops os (dropN os.toList sh) :: k, s.defers, s.roundOf⟩ :: rest, applyH H sets N⟩, lastM os.toList (masks os.toList []) sh⟩) hc _ _ _ _ 0 hob
      replace hfin : (go ⟨⟨s.fn, TF, .ops os (dropN os.toList sh) :: k, s.defers, s.roundOf⟩ :: rest, applyH H sets (([] ++ slots : List (Nat × SO)).map (·.2))⟩).Ob D S := hfin
      simp only [List.nil_append] at hfin
      rw [takeN_eq] at hFa
      rw [applyH_eq, dropN_eq] at hfin
      -- the order is drawn
      have hstep : step B.P (lone fr (frs ++ B.cs) w) = .next (lone (fr.atR ⟨fr.tmps, fr.defers⟩ (.inRegion os (Region.linearise.go .any os os.size (w.tape w.drawn (.order fr.fn id)) (Array.replicate os.size false) []) :: k')) (frs ++ B.cs) { w with drawn := w.drawn + 1 }) := by
        conv => lhs; rw [frame_eta hF.mode, hft]
        rw [stepR_region_draw]
        simp only [Region.schedule, hP, hc.prog.mixed, Bool.true_or, if_true, Region.linearise]
      refine .step hstep ?_
      have hH' : HeapRel B.P B.O B.w0 β H { w with drawn := w.drawn + 1 } := hH.sameHeap rfl rfl rfl rfl
      generalize ({ w with drawn := w.drawn + 1 } : World) = w1 at hH'
      have hlist : ∀ j, (Array.replicate os.size false).getD j false = false := by
        intro j
        rw [Array.getD_eq_getD_getElem?, Array.getElem?_replicate]
        split <;> rfl
      have hI : DInv ⟨c, os, H, fun T N sets => go ⟨⟨s.fn, T, .ops os (dropN os.toList sh) :: k, s.defers, s.roundOf⟩ :: rest, applyH H sets N⟩, lastM os.toList (masks os.toList []) sh⟩ sh TF slots sets B.O B.w0 (Array.replicate os.size false) β fr.tmps w1 := by
        have hTlen : fr.tmps.size = s.tmps.length := by have := denL_length hF.tmps; simpa using this
        refine ⟨by simp, by rw [hTlen, hFa.lenT], fun t ht => ?_, ?_, fun n hn _ => hH'.bound n hn, fun i m hi => ?_, fun i _ => hlist i, hgl ▸ hG.glob⟩
        · rw [hFa.same t (fun o ho hd => ?_) β]
          · have := evS_den (glob := fun _ => none) (a := ⟨fr.tmps, fr.defers⟩) hF.tmps (fun _ _ h => by cases h) (.tmp t)
            have e : evS (fun _ => none) s.tmps (.tmp t) = getT s.tmps t := by
              show optC (nth s.tmps t) undefS (fun v => v) = _
              unfold getT; cases nth s.tmps t <;> rfl
            rw [e] at this; exact this
          · obtain ⟨j, hj⟩ := List.mem_iff_getElem?.1 ho
            have := ht j o hj hd
            rw [hlist] at this; cases this
        · have hgone : mslots (Array.replicate os.size false) slots = slots.map fun _ => SO.gone := by
            unfold mslots
            apply List.map_congr_left
            intro p _
            rw [hlist]; rfl
          have hcu : hcur ⟨c, os, H, fun T N sets => go ⟨⟨s.fn, T, .ops os (dropN os.toList sh) :: k, s.defers, s.roundOf⟩ :: rest, applyH H sets N⟩, lastM os.toList (masks os.toList []) sh⟩ sh sets (Array.replicate os.size false) = H := by
            unfold hcur; rw [hlist]; rfl
          rw [hcu, hgone, ← hP]
          have hbase := hH'.toHeapRel0
          have hin : ∀ (n : Nat) (e : SO), (H ++ slots.map fun _ => SO.gone)[n]? = some e → H[n]? = some e ∨ e = SO.gone := by
            intro n e hn
            rcases Nat.lt_or_ge n H.length with h | h
            · rw [List.getElem?_append_left h] at hn; exact .inl hn
            · rw [List.getElem?_append_right h, List.getElem?_map] at hn
              right
              cases hx : slots[n - H.length]? with
              | none => rw [hx] at hn; cases hn
              | some p => rw [hx] at hn; exact (Option.some.inj hn).symm
          refine ⟨fun n e hn => ?_, fun n m e e' l l' hn hm ho ho' => ?_, fun n e l hn ho => ?_, hbase.keep⟩
          · rcases hin n e hn with h | rfl
            · exact hbase.entries n e h
            · trivial
          · rcases hin n e hn with h | rfl
            · rcases hin m e' hm with h' | rfl
              · exact hbase.sep n m e e' l l' h h' ho ho'
              · cases ho'
            · cases ho
          · rcases hin n e hn with h | rfl
            · exact hbase.fresh n e l h ho
            · cases ho
        · rw [hlist] at hi; cases hi
      have hun : ∀ k, unl (Array.replicate os.size false) k ≤ k := by
        intro k
        induction k with
        | zero => exact Nat.le_refl _
        | succ k ih =>
          show unl _ k + _ ≤ k + 1
          split <;> omega
      obtain ⟨β2, ts2, w2, l2, hle, hI2, hall, hst⟩ := order_steps he hh ht hFa fr fr.defers k' (frs ++ B.cs) os.size _ _ β fr.tmps w1 hI (hun _)
      replace hst : Steps c.P _ _ := hst
      rw [← hP] at hst
      have hslots : mslots l2 slots = slots.map (·.2) := by
        unfold mslots
        apply List.map_congr_left
        intro p hp
        -- each slot is an operation's
        obtain ⟨j, e⟩ := p
        by_cases hj : j < sh ∧ j < os.size
        · rw [hall j hj.1 hj.2]; rfl
        · exfalso
          have h1 := hFa.ge j e hp
          rw [List.length_take, Array.length_toList] at h1
          exact hj (by omega)
      refine .of_steps hst ⟨_, .refl _ _, .inl ⟨_, hfin, ⟨β2, _, frs, w2, rfl, ⟨⟨hF.fn, ?_, ?_, SD.denL_mono hle hF.defers, rfl, hF.kind, hF.round.mono hle⟩, hR.mono hle⟩, ?_, ⟨hgl ▸ hI2.glob, Val.le_trans hG.fix hle⟩, Eq.trans (last_fn (f := fr) (f' := fr.atR ⟨ts2, fr.defers⟩ _) rfl) hl⟩⟩⟩
      · -- the temporaries
        refine denL_mk (show ts2.toList.length = _ by rw [Array.length_toList]; exact hI2.tsz) fun i v hv => ?_
        have hi := hI2.tmps i fun j o ho _ => by
          have hj := (List.getElem?_eq_some_iff.1 ho).1
          rw [List.length_take, Array.length_toList] at hj
          exact hall j (Nat.lt_of_lt_of_le hj (Nat.min_le_left _ _)) (Nat.lt_of_lt_of_le hj (Nat.min_le_right _ _))
        have hg : getT TF i = v := by unfold getT; rw [nth_eq, hv]; rfl
        have hil : i < ts2.size := by rw [hI2.tsz]; exact (List.getElem?_eq_some_iff.1 hv).1
        rw [hg] at hi
        refine ⟨_, ?_, hi⟩
        show ts2.toList[i]? = some (ts2.getD i undef)
        rw [Array.getElem?_toList]
        exact size_getD hil rfl
      · refine ⟨⟨rfl, os.toList.take sh, (List.take_append_drop _ _).symm, ?_⟩, hkk.mono hle⟩
        rcases Nat.lt_or_ge os.size sh with h | h
        · rw [show os.size - sh = 0 from by omega, List.drop_eq_nil_of_le (by simp; omega)]; rfl
        · rw [List.length_take, List.length_drop, Array.length_toList, Nat.min_eq_left h]
      · refine ⟨?_, fun n hn => ?_⟩
        · have := hI2.heap
          have hcu : hcur ⟨c, os, H, fun T N sets => go ⟨⟨s.fn, T, .ops os (dropN os.toList sh) :: k, s.defers, s.roundOf⟩ :: rest, applyH H sets N⟩, lastM os.toList (masks os.toList []) sh⟩ sh sets l2 = setsH H sets := by
            by_cases h0 : os.toList.take sh = []
            · rw [hFa.none h0, hcur_nil]; rfl
            · have hpos := List.length_pos_iff.2 h0
              have h1 : (os.toList.take sh).length - 1 < sh ∧ (os.toList.take sh).length - 1 < os.size := by
                rw [List.length_take, Array.length_toList] at hpos ⊢
                omega
              unfold hcur
              rw [show l2.getD ((os.toList.take sh).length - 1) false = true from hall _ h1.1 h1.2]; rfl
          rw [hcu, hslots, ← hP] at this; exact this
        · rw [List.length_append, List.length_map, setsH_length] at hn
          have hn' : H.length ≤ n := by omega
          refine hI2.free n hn' fun j e hj => ?_
          have := (List.getElem?_eq_some_iff.1 hj).1
          have h2 : n - H.length < slots.length := this
          omega

/-- a region whose head holds appends -/
theorem chainS_after (hc : CfgOK c) (hP : B.P = c.P) (hgl : B.glob = c.glob) {id : Nat} {os : Array Oper} {k : List SItem} {s : SF} {rest : List SF} {H : List SO} {β : Val} {fr : Frame} {frs : List Frame} {w : World} (hF : FrameRel β s fr) (hR : FramesRel β rest frs) (hH : HeapRel B.P B.O B.w0 β H w) (hG : BRel B β)
    (hl : ((fr :: frs).getLast?).map (·.fn) = some B.fn0) (htd : s.todo = .code (.region id os true) :: k) {sh : Nat} (hob : (chainS os sh (masks os.toList []) k s rest c H go).Ob D S) : After B go D S (lone fr (frs ++ B.cs) w) := by
  have htd' := hF.todo
  rw [htd] at htd'
  cases hft : fr.todo with
  | nil => rw [hft] at htd'; exact htd'.elim
  | cons y k' =>
    rw [hft] at htd'
    obtain ⟨hxy, hkk⟩ := htd'
    cases y <;> first | exact hxy.elim | skip
    rename_i cd
    have hcd : cd = .region id os true := hxy
    subst hcd
    unfold chainS at hob
    cases hok : drawOK os os.toList (masks os.toList []) sh with
    | false => rw [hok] at hob; exact hob.elim
    | true =>
      rw [hok, boolC_true] at hob
      obtain ⟨he, hok'⟩ := boolC_and (show boolC (edgesAll os.toList 0) (boolC (headOK os (takeN os.toList sh) (takeN os.toList sh) (masks os.toList []) 0) (tailOK (dropN (masks os.toList []) sh) sh) false) false = true from hok)
      obtain ⟨hh, ht⟩ := boolC_and hok'
      generalize hxe : (⟨c, os, H, takeN os.toList sh, masks os.toList [], fun T H' => go ⟨⟨s.fn, T, .ops os (dropN os.toList sh) :: k, s.defers, s.roundOf⟩ :: rest, H'⟩⟩ : CCtx) = x at hob
      have hxc : x.c = c := by rw [← hxe]
      have hxo : x.os = os := by rw [← hxe]
      have hxH : x.H = H := by rw [← hxe]
      have hxh : x.hd = takeN os.toList sh := by rw [← hxe]
      have hxm : x.ms = masks os.toList [] := by rw [← hxe]
      have hxf : x.fin = fun T H' => go ⟨⟨s.fn, T, .ops os (dropN os.toList sh) :: k, s.defers, s.roundOf⟩ :: rest, H'⟩ := by rw [← hxe]
      obtain ⟨TF, Fs, hs, hFa, hfin⟩ := chP_facts (x := x) (hxc ▸ hc) _ _ _ _ _ (by rw [hxH]; exact fun n e h _ => h) hob
      rw [hxf] at hfin
      replace hfin : (go ⟨⟨s.fn, TF, .ops os (dropN os.toList sh) :: k, s.defers, s.roundOf⟩ :: rest, hs (takeN os.toList sh).length⟩).Ob D S := hfin
      rw [takeN_eq] at hFa hfin hxh
      rw [dropN_eq] at hfin
      -- the order is drawn
      have hstep : step B.P (lone fr (frs ++ B.cs) w) = .next (lone (fr.atR ⟨fr.tmps, fr.defers⟩ (.inRegion os (Region.linearise.go .any os os.size (w.tape w.drawn (.order fr.fn id)) (Array.replicate os.size false) []) :: k')) (frs ++ B.cs) { w with drawn := w.drawn + 1 }) := by
        conv => lhs; rw [frame_eta hF.mode, hft]
        rw [stepR_region_draw]
        simp only [Region.schedule, hP, hc.prog.mixed, Bool.true_or, if_true, Region.linearise]
      refine .step hstep ?_
      have hH' : HeapRel B.P B.O B.w0 β H { w with drawn := w.drawn + 1 } := hH.sameHeap rfl rfl rfl rfl
      generalize ({ w with drawn := w.drawn + 1 } : World) = w1 at hH'
      have hlist : ∀ j, (Array.replicate os.size false).getD j false = false := by
        intro j
        rw [Array.getD_eq_getD_getElem?, Array.getElem?_replicate]
        split <;> rfl
      have hI : CInv x sh TF hs B.O B.w0 (Array.replicate os.size false) β fr.tmps w1 := by
        have hTlen : fr.tmps.size = s.tmps.length := by have := denL_length hF.tmps; simpa using this
        refine ⟨by simp [hxo], by rw [hTlen, hFa.lenT], fun t ht => ?_, ⟨0, Nat.zero_le _, fun j o _ _ => ?_, ?_⟩, fun i m hi => ?_, fun i _ => hlist i, hxc ▸ hgl ▸ hG.glob⟩
        · rw [hFa.same t (fun o ho hd => ?_) β]
          · have := evS_den (glob := fun _ => none) (a := ⟨fr.tmps, fr.defers⟩) hF.tmps (fun _ _ h => by cases h) (.tmp t)
            have e : evS (fun _ => none) s.tmps (.tmp t) = getT s.tmps t := by
              show optC (nth s.tmps t) undefS (fun v => v) = _
              unfold getT; cases nth s.tmps t <;> rfl
            rw [e] at this; exact this
          · obtain ⟨j, hj⟩ := List.mem_iff_getElem?.1 ho
            have := ht j o (by rw [hxo]; exact hj) hd
            rw [hlist] at this; cases this
        · rw [hlist]; simp
        · rw [hFa.zero, hxc, ← hP]; exact hH'
        · rw [hlist] at hi; cases hi
      have hun : ∀ k, unl (Array.replicate os.size false) k ≤ k := by
        intro k
        induction k with
        | zero => exact Nat.le_refl _
        | succ k ih =>
          show unl _ k + _ ≤ k + 1
          split <;> omega
      have hsteps := order_steps_gen (os := os) (s := sh) (P := c.P) (Inv := fun l β ts w => CInv x sh TF hs B.O B.w0 l β ts w) he ht fr fr.defers k' (frs ++ B.cs)
        (fun h => by rw [← hxo]; exact h.size) (fun h => h.tail) (fun h => by rw [← hxo]; exact h.closed)
        (fun {l β ts w i} h hi his rest => by
          have := chain_step (x := x) (s := sh) (by rw [hxo]; exact he) (by rw [hxo]; exact hh) (by rw [hxo]; exact hFa) (by rw [hxo]; exact hxh) (by rw [hxo]; exact hxm) h (by rw [hxo]; exact hi) his fr fr.defers rest k' (frs ++ B.cs)
          rw [hxo, hxc] at this; exact this)
      obtain ⟨β2, ts2, w2, l2, hle, hI2, hall, hst⟩ := hsteps os.size _ _ β fr.tmps w1 hI (hun _)
      rw [← hP] at hst
      obtain ⟨cc, hcl, hcm, hH2⟩ := hI2.heap
      rw [hxo] at hcl
      have hend : hs cc = hs (os.toList.take sh).length := by
        have := hs_const hFa (a := cc) ((os.toList.take sh).length - cc) (by omega) fun j o h1 h2 ho => by
          cases hmo : moves x.c.P o with
          | false => rfl
          | true =>
            exfalso
            have hj := (List.getElem?_eq_some_iff.1 ho).1
            rw [List.length_take, Array.length_toList] at hj
            have := (hcm j o (by rw [hxo]; exact ho) hmo).1 (hall j (Nat.lt_of_lt_of_le hj (Nat.min_le_left _ _)) (Nat.lt_of_lt_of_le hj (Nat.min_le_right _ _)))
            omega
        rw [show cc + ((os.toList.take sh).length - cc) = (os.toList.take sh).length from by omega] at this
        exact this
      rw [hend, hxc, ← hP] at hH2
      refine .of_steps hst ⟨_, .refl _ _, .inl ⟨_, hfin, ⟨β2, _, frs, w2, rfl, ⟨⟨hF.fn, ?_, ?_, SD.denL_mono hle hF.defers, rfl, hF.kind, hF.round.mono hle⟩, hR.mono hle⟩, hH2, ⟨by rw [hgl, ← hxc]; exact hI2.glob, Val.le_trans hG.fix hle⟩, Eq.trans (last_fn (f := fr) (f' := fr.atR ⟨ts2, fr.defers⟩ _) rfl) hl⟩⟩⟩
      · -- the temporaries
        refine denL_mk (show ts2.toList.length = _ by rw [Array.length_toList]; exact hI2.tsz) fun i v hv => ?_
        have hi := hI2.tmps i fun j o ho _ => by
          have hj := (List.getElem?_eq_some_iff.1 ho).1
          rw [hxo, List.length_take, Array.length_toList] at hj
          exact hall j (Nat.lt_of_lt_of_le hj (Nat.min_le_left _ _)) (Nat.lt_of_lt_of_le hj (Nat.min_le_right _ _))
        have hg : getT TF i = v := by unfold getT; rw [nth_eq, hv]; rfl
        have hil : i < ts2.size := by rw [hI2.tsz]; exact (List.getElem?_eq_some_iff.1 hv).1
        rw [hg] at hi
        refine ⟨_, ?_, hi⟩
        show ts2.toList[i]? = some (ts2.getD i undef)
        rw [Array.getElem?_toList]
        exact size_getD hil rfl
      · refine ⟨⟨rfl, os.toList.take sh, (List.take_append_drop _ _).symm, ?_⟩, hkk.mono hle⟩
        rcases Nat.lt_or_ge os.size sh with h | h
        · rw [show os.size - sh = 0 from by omega, List.drop_eq_nil_of_le (by simp; omega)]; rfl
        · rw [List.length_take, List.length_drop, Array.length_toList, Nat.min_eq_left h]
/-- a region that draws its order -/
theorem drawT_after (hc : CfgOK c) (hP : B.P = c.P) (hgl : B.glob = c.glob) {id : Nat} {os : Array Oper} {k : List SItem} {s : SF} {rest : List SF} {H : List SO} {β : Val} {fr : Frame} {frs : List Frame} {w : World} (hF : FrameRel β s fr) (hR : FramesRel β rest frs) (hH : HeapRel B.P B.O B.w0 β H w) (hG : BRel B β)
    (hl : ((fr :: frs).getLast?).map (·.fn) = some B.fn0) (htd : s.todo = .code (.region id os true) :: k) (hob : (drawT os k s rest c H go).Ob D S) : After B go D S (lone fr (frs ++ B.cs) w) := by
  unfold drawT drawB at hob
  cases ha : anyApp (takeN os.toList (headLen (masks os.toList []) 0)) with
  | true => rw [ha] at hob; exact chainS_after hc hP hgl hF hR hH hG hl htd hob
  | false => rw [ha] at hob; exact drawS_after hc hP hgl hF hR hH hG hl htd hob

end
end Go.Sim
