/-
  Texts behind one another: the symbolic simulator and what it is told of the program.
-/
import Derived.Test.YtbhhagnpgkjmgaaDoorPk4
import Derived.Below
import Derived.Test.YtbhhagnpgkjmgaaDoorProg
import Derived.Laws.Externs

/-
  The symbolic simulator, twenty-fourth part: the other steps.
-/
namespace Go.Sim
variable {α : Type}

/-- one new block, of whatever kind -/
theorem Eff.lay1 {P : Program} {β : Val} {w : World} {base : Nat} {o : Obj} {e : SO} (hb : β base = Option.none) (ho : e.owned = true)
    (hown : OwnRel P (β.upd base ⟨w.heap.size, 0, 0⟩) (w.alloc o) base e) : Eff P β w base [] [e] (β.upd base ⟨w.heap.size, 0, 0⟩) (w.alloc o) where
  le := Val.upd_le hb
  os := rfl
  tape := rfl
  output := rfl
  drawn := Nat.le_refl _
  size := by show w.heap.size ≤ (w.heap.push o).size; simp
  dom := fun n hn => by
    unfold Val.upd
    rw [if_neg]; simp at hn; omega
  frame := fun b hb _ => by show (w.heap.push o)[b]? = _; rw [Array.getElem?_push, if_neg (by omega)]
  one := by simp
  turned := by simp
  made := fun i e' he => by
    cases i with
    | zero =>
      simp at he; subst he
      exact ⟨ho, hown, _, Val.upd_same _ _ _, .inl (Nat.le_refl _)⟩
    | succ i => simp at he
  apart := fun i j l l' hij hi hj => by simp at hi hj; omega

section
variable {c : Cfg} {B : Base} {go : SS → Tree} {D : SV → List SO → Prop} {S : SS → Prop}

theorem HeapRel.sameHeap {P : Program} {O : Nat → Prop} {w0 : World} {β : Val} {H : List SO} {w w' : World} (h : HeapRel P O w0 β H w) (hh : w'.heap = w.heap) (ho : w'.os = w.os) (ht : w'.tape = w.tape) (hu : w'.output = w.output) (hdr : w.drawn ≤ w'.drawn := by first | exact Nat.le_refl _ | exact Nat.le_succ _ | exact Nat.le_succ_of_le (Nat.le_succ _)) : HeapRel P O w0 β H w' := by
  have := h.apply (Eff.none (P := P) (β := β) (base := H.length) hh ho ht hu hdr) (by simp)
  rw [applyH_eq, List.append_nil] at this
  exact this

/-- a region that draws its order -/
theorem drawS_after (hc : CfgOK c) (hP : B.P = c.P) (hgl : B.glob = c.glob) {id : Nat} {os : Array Oper} {k : List SItem} {s : SF} {rest : List SF} {H : List SO} {β : Val} {fr : Frame} {frs : List Frame} {w : World} (hF : FrameRel β s fr) (hR : FramesRel β rest frs) (hH : HeapRel B.P B.O B.w0 β H w) (hG : BRel B β)
    (hl : ((fr :: frs).getLast?).map (·.fn) = some B.fn0) (htd : s.todo = .code (.region id os true) :: k) {sh : Nat} (hob : (drawS os sh (masks os.toList []) k s rest c H go).Ob D S) : After B go D S (lone fr (frs ++ B.cs) w) := by
  have htd' := hF.todo
  rw [htd] at htd'
  cases hft : fr.todo with
  | nil => rw [hft] at htd'; exact htd'.elim
  | cons y k' =>
    rw [hft] at htd'
    obtain ⟨hxy, hkk⟩ := htd'
    cases y <;> first | exact hxy.elim | skip
    rename_i cd
    have hcd : cd = .region id os true := hxy
    subst hcd
    unfold drawS at hob
    cases hok : drawOK os os.toList (masks os.toList []) sh with
    | false => rw [hok] at hob; exact hob.elim
    | true =>
      rw [hok, boolC_true] at hob
      obtain ⟨he, hok'⟩ := boolC_and (show boolC (edgesAll os.toList 0) (boolC (headOK os (takeN os.toList sh) (takeN os.toList sh) (masks os.toList []) 0) (tailOK (dropN (masks os.toList []) sh) sh) false) false = true from hok)
      obtain ⟨hh, ht⟩ := boolC_and hok'
      obtain ⟨TF, Fs, slots, sets, hFa, hfin⟩ := drawP_facts (x := ⟨c, os, H, fun T N sets => go ⟨⟨s.fn, T, .ops os (dropN os.toList sh) :: k, s.defers, s.roundOf⟩ :: rest, applyH (app H N) sets []⟩, lastM os.toList (masks os.toList []) sh⟩) hc _ _ _ _ 0 hob
      replace hfin : (go ⟨⟨s.fn, TF, .ops os (dropN os.toList sh) :: k, s.defers, s.roundOf⟩ :: rest, applyH (app H (([] ++ slots : List (Nat × SO)).map (·.2))) sets []⟩).Ob D S := hfin
      simp only [List.nil_append] at hfin
      rw [takeN_eq] at hFa
      rw [applyH_eq, List.append_nil, app_eq, dropN_eq] at hfin
      -- the order is drawn
      have hstep : step B.P (lone fr (frs ++ B.cs) w) = .next (lone (fr.atR ⟨fr.tmps, fr.defers⟩ (.inRegion os (Region.linearise.go .any os os.size (w.tape w.drawn (.order fr.fn id)) (Array.replicate os.size false) []) :: k')) (frs ++ B.cs) { w with drawn := w.drawn + 1 }) := by
        conv => lhs; rw [frame_eta hF.mode, hft]
        rw [stepR_region_draw]
        simp only [Region.schedule, hP, hc.prog.mixed, Bool.true_or, if_true, Region.linearise]
      refine .step hstep ?_
      have hH' : HeapRel B.P B.O B.w0 β H { w with drawn := w.drawn + 1 } := hH.sameHeap rfl rfl rfl rfl
      generalize ({ w with drawn := w.drawn + 1 } : World) = w1 at hH'
      have hlist : ∀ j, (Array.replicate os.size false).getD j false = false := by
        intro j
        rw [Array.getD_eq_getD_getElem?, Array.getElem?_replicate]
        split <;> rfl
      have hI : DInv ⟨c, os, H, fun T N sets => go ⟨⟨s.fn, T, .ops os (dropN os.toList sh) :: k, s.defers, s.roundOf⟩ :: rest, applyH (app H N) sets []⟩, lastM os.toList (masks os.toList []) sh⟩ sh TF slots sets B.O B.w0 (Array.replicate os.size false) β fr.tmps w1 := by
        have hTlen : fr.tmps.size = s.tmps.length := by have := denL_length hF.tmps; simpa using this
        refine ⟨by simp, by rw [hTlen, hFa.lenT], fun t ht => ?_, ?_, fun n hn _ => hH'.bound n hn, fun i m hi => ?_, fun i _ => hlist i, hgl ▸ hG.glob⟩
        · rw [hFa.same t (fun o ho hd => ?_) β]
          · have := evS_den (glob := fun _ => none) (a := ⟨fr.tmps, fr.defers⟩) hF.tmps (fun _ _ h => by cases h) (.tmp t)
            have e : evS (fun _ => none) s.tmps (.tmp t) = getT s.tmps t := by
              show optC (nth s.tmps t) undefS (fun v => v) = _
              unfold getT; cases nth s.tmps t <;> rfl
            rw [e] at this; exact this
          · obtain ⟨j, hj⟩ := List.mem_iff_getElem?.1 ho
            have := ht j o hj hd
            rw [hlist] at this; cases this
        · have hgone : mslots (Array.replicate os.size false) slots = slots.map fun _ => SO.gone := by
            unfold mslots
            apply List.map_congr_left
            intro p _
            rw [hlist]; rfl
          have hcu : wholeH ⟨c, os, H, fun T N sets => go ⟨⟨s.fn, T, .ops os (dropN os.toList sh) :: k, s.defers, s.roundOf⟩ :: rest, applyH (app H N) sets []⟩, lastM os.toList (masks os.toList []) sh⟩ sh slots sets (Array.replicate os.size false) = H ++ mslots (Array.replicate os.size false) slots := by
            unfold wholeH; rw [hlist]; rfl
          rw [hcu, hgone, ← hP]
          have hbase := hH'.toHeapRel0
          have hin : ∀ (n : Nat) (e : SO), (H ++ slots.map fun _ => SO.gone)[n]? = some e → H[n]? = some e ∨ e = SO.gone := by
            intro n e hn
            rcases Nat.lt_or_ge n H.length with h | h
            · rw [List.getElem?_append_left h] at hn; exact .inl hn
            · rw [List.getElem?_append_right h, List.getElem?_map] at hn
              right
              cases hx : slots[n - H.length]? with
              | none => rw [hx] at hn; cases hn
              | some p => rw [hx] at hn; exact (Option.some.inj hn).symm
          refine ⟨fun n e hn => ?_, fun n m e e' l l' hn hm ho ho' => ?_, fun n e l hn ho => ?_, hbase.keep⟩
          · rcases hin n e hn with h | rfl
            · exact hbase.entries n e h
            · trivial
          · rcases hin n e hn with h | rfl
            · rcases hin m e' hm with h' | rfl
              · exact hbase.sep n m e e' l l' h h' ho ho'
              · cases ho'
            · cases ho
          · rcases hin n e hn with h | rfl
            · exact hbase.fresh n e l h ho
            · cases ho
        · rw [hlist] at hi; cases hi
      have hun : ∀ k, unl (Array.replicate os.size false) k ≤ k := by
        intro k
        induction k with
        | zero => exact Nat.le_refl _
        | succ k ih =>
          show unl _ k + _ ≤ k + 1
          split <;> omega
      obtain ⟨β2, ts2, w2, l2, hle, hI2, hall, hst⟩ := order_steps he hh ht hFa fr fr.defers k' (frs ++ B.cs) os.size _ _ β fr.tmps w1 hI (hun _)
      replace hst : Steps c.P _ _ := hst
      rw [← hP] at hst
      have hslots : mslots l2 slots = slots.map (·.2) := by
        unfold mslots
        apply List.map_congr_left
        intro p hp
        -- each slot is an operation's
        obtain ⟨j, e⟩ := p
        by_cases hj : j < sh ∧ j < os.size
        · rw [hall j hj.1 hj.2]; rfl
        · exfalso
          have h1 := hFa.ge j e hp
          rw [List.length_take, Array.length_toList] at h1
          exact hj (by omega)
      refine .of_steps hst ⟨_, .refl _ _, .inl ⟨_, hfin, ⟨β2, _, frs, w2, rfl, ⟨⟨hF.fn, ?_, ?_, SD.denL_mono hle hF.defers, rfl, hF.kind, hF.round.mono hle⟩, hR.mono hle⟩, ?_, ⟨hgl ▸ hI2.glob, Val.le_trans hG.fix hle⟩, Eq.trans (last_fn (f := fr) (f' := fr.atR ⟨ts2, fr.defers⟩ _) rfl) hl⟩⟩⟩
      · -- the temporaries
        refine denL_mk (show ts2.toList.length = _ by rw [Array.length_toList]; exact hI2.tsz) fun i v hv => ?_
        have hi := hI2.tmps i fun j o ho _ => by
          have hj := (List.getElem?_eq_some_iff.1 ho).1
          rw [List.length_take, Array.length_toList] at hj
          exact hall j (Nat.lt_of_lt_of_le hj (Nat.min_le_left _ _)) (Nat.lt_of_lt_of_le hj (Nat.min_le_right _ _))
        have hg : getT TF i = v := by unfold getT; rw [nth_eq, hv]; rfl
        have hil : i < ts2.size := by rw [hI2.tsz]; exact (List.getElem?_eq_some_iff.1 hv).1
        rw [hg] at hi
        refine ⟨_, ?_, hi⟩
        show ts2.toList[i]? = some (ts2.getD i undef)
        rw [Array.getElem?_toList]
        exact size_getD hil rfl
      · exact ⟨⟨rfl, OpsAt.drop os sh⟩, hkk.mono hle⟩
      · refine ⟨?_, fun n hn => ?_⟩
        · have := hI2.heap
          have hcu : wholeH ⟨c, os, H, fun T N sets => go ⟨⟨s.fn, T, .ops os (dropN os.toList sh) :: k, s.defers, s.roundOf⟩ :: rest, applyH (app H N) sets []⟩, lastM os.toList (masks os.toList []) sh⟩ sh slots sets l2 = setsH (H ++ mslots l2 slots) sets := by
            by_cases h0 : os.toList.take sh = []
            · rw [hFa.none h0, wholeH_nil]; rfl
            · have hpos := List.length_pos_iff.2 h0
              have h1 : (os.toList.take sh).length - 1 < sh ∧ (os.toList.take sh).length - 1 < os.size := by
                rw [List.length_take, Array.length_toList] at hpos ⊢
                omega
              unfold wholeH
              rw [show l2.getD ((os.toList.take sh).length - 1) false = true from hall _ h1.1 h1.2]; rfl
          rw [hcu, hslots, ← hP] at this; exact this
        · rw [setsH_length, List.length_append, List.length_map] at hn
          have hn' : H.length ≤ n := by omega
          refine hI2.free n hn' fun j e hj => ?_
          have := (List.getElem?_eq_some_iff.1 hj).1
          have h2 : n - H.length < slots.length := this
          omega

/-- a region whose head holds appends -/
theorem chainS_after (hc : CfgOK c) (hP : B.P = c.P) (hgl : B.glob = c.glob) {id : Nat} {os : Array Oper} {k : List SItem} {s : SF} {rest : List SF} {H : List SO} {β : Val} {fr : Frame} {frs : List Frame} {w : World} (hF : FrameRel β s fr) (hR : FramesRel β rest frs) (hH : HeapRel B.P B.O B.w0 β H w) (hG : BRel B β)
    (hl : ((fr :: frs).getLast?).map (·.fn) = some B.fn0) (htd : s.todo = .code (.region id os true) :: k) {sh : Nat} {hid : SO → Bool} (hob : (chainS hid os sh (masks os.toList []) k s rest c H go).Ob D S) : After B go D S (lone fr (frs ++ B.cs) w) := by
  have htd' := hF.todo
  rw [htd] at htd'
  cases hft : fr.todo with
  | nil => rw [hft] at htd'; exact htd'.elim
  | cons y k' =>
    rw [hft] at htd'
    obtain ⟨hxy, hkk⟩ := htd'
    cases y <;> first | exact hxy.elim | skip
    rename_i cd
    have hcd : cd = .region id os true := hxy
    subst hcd
    unfold chainS at hob
    cases hok : drawOK os os.toList (masks os.toList []) sh with
    | false => rw [hok] at hob; exact hob.elim
    | true =>
      rw [hok, boolC_true] at hob
      obtain ⟨he, hok'⟩ := boolC_and (show boolC (edgesAll os.toList 0) (boolC (headOK os (takeN os.toList sh) (takeN os.toList sh) (masks os.toList []) 0) (tailOK (dropN (masks os.toList []) sh) sh) false) false = true from hok)
      obtain ⟨hh, ht⟩ := boolC_and hok'
      generalize hxe : (⟨hid, c, os, H, takeN os.toList sh, masks os.toList [], fun T H' => go ⟨⟨s.fn, T, .ops os (dropN os.toList sh) :: k, s.defers, s.roundOf⟩ :: rest, H'⟩⟩ : CCtx) = x at hob
      have hxc : x.c = c := by rw [← hxe]
      have hxhid : x.hid = hid := by rw [← hxe]
      have hxo : x.os = os := by rw [← hxe]
      have hxH : x.H = H := by rw [← hxe]
      have hxh : x.hd = takeN os.toList sh := by rw [← hxe]
      have hxm : x.ms = masks os.toList [] := by rw [← hxe]
      have hxf : x.fin = fun T H' => go ⟨⟨s.fn, T, .ops os (dropN os.toList sh) :: k, s.defers, s.roundOf⟩ :: rest, H'⟩ := by rw [← hxe]
      obtain ⟨TF, Fs, hs, hFa, hfin⟩ := chP_facts (x := x) (hxc ▸ hc) _ _ _ _ _ (by rw [hxH]; exact fun n e h _ => h) hob
      rw [hxf] at hfin
      replace hfin : (go ⟨⟨s.fn, TF, .ops os (dropN os.toList sh) :: k, s.defers, s.roundOf⟩ :: rest, hs (takeN os.toList sh).length⟩).Ob D S := hfin
      rw [takeN_eq] at hFa hfin hxh
      rw [dropN_eq] at hfin
      -- the order is drawn
      have hstep : step B.P (lone fr (frs ++ B.cs) w) = .next (lone (fr.atR ⟨fr.tmps, fr.defers⟩ (.inRegion os (Region.linearise.go .any os os.size (w.tape w.drawn (.order fr.fn id)) (Array.replicate os.size false) []) :: k')) (frs ++ B.cs) { w with drawn := w.drawn + 1 }) := by
        conv => lhs; rw [frame_eta hF.mode, hft]
        rw [stepR_region_draw]
        simp only [Region.schedule, hP, hc.prog.mixed, Bool.true_or, if_true, Region.linearise]
      refine .step hstep ?_
      have hH' : HeapRel B.P B.O B.w0 β H { w with drawn := w.drawn + 1 } := hH.sameHeap rfl rfl rfl rfl
      generalize ({ w with drawn := w.drawn + 1 } : World) = w1 at hH'
      have hlist : ∀ j, (Array.replicate os.size false).getD j false = false := by
        intro j
        rw [Array.getD_eq_getD_getElem?, Array.getElem?_replicate]
        split <;> rfl
      have hI : CInv x sh sh none TF hs (fun _ => B.O) (fun _ => B.w0) (Array.replicate os.size false) β fr.tmps w1 := by
        have hTlen : fr.tmps.size = s.tmps.length := by have := denL_length hF.tmps; simpa using this
        refine ⟨by simp [hxo], by rw [hTlen, hFa.lenT], fun t _ ht => ?_, ⟨0, Nat.zero_le _, fun j o _ _ => ?_, ?_⟩, fun i m hi => ?_, fun i _ => hlist i, hxc ▸ hgl ▸ hG.glob⟩
        · rw [hFa.same t (fun o ho hd => ?_) β]
          · have := evS_den (glob := fun _ => none) (a := ⟨fr.tmps, fr.defers⟩) hF.tmps (fun _ _ h => by cases h) (.tmp t)
            have e : evS (fun _ => none) s.tmps (.tmp t) = getT s.tmps t := by
              show optC (nth s.tmps t) undefS (fun v => v) = _
              unfold getT; cases nth s.tmps t <;> rfl
            rw [e] at this; exact this
          · obtain ⟨j, hj⟩ := List.mem_iff_getElem?.1 ho
            have := ht j o (by rw [hxo]; exact hj) hd
            rw [hlist] at this; cases this
        · rw [hlist]; simp
        · rw [hFa.zero, hxc, ← hP]; exact fun _ => hH'
        · rw [hlist] at hi; cases hi
      have hun : ∀ k, unl (Array.replicate os.size false) k ≤ k := by
        intro k
        induction k with
        | zero => exact Nat.le_refl _
        | succ k ih =>
          show unl _ k + _ ≤ k + 1
          split <;> omega
      have hsteps := order_steps_gen (os := os) (s := sh) (P := c.P) (Inv := fun l β ts w => CInv x sh sh none TF hs (fun _ => B.O) (fun _ => B.w0) l β ts w) he ht fr fr.defers k' (frs ++ B.cs)
        (fun h => by rw [← hxo]; exact h.size) (fun h => h.tail) (fun h => by rw [← hxo]; exact h.closed)
        (fun {l β ts w i} h hi his rest => by
          have := chain_step (x := x) (s := sh) (Nat.le_refl _) (ex := none) (fun _ h => by cases h) (by rw [hxo]; exact he) (by rw [hxo]; exact hh) (by rw [hxo]; exact hFa) (by rw [hxo]; exact hxh) (by rw [hxo]; exact hxm) h (by rw [hxo]; exact hi) his fr fr.defers rest k' (frs ++ B.cs)
          rw [hxo, hxc] at this
          obtain ⟨β', ts', w', h1, h2, _, h3⟩ := this
          exact ⟨β', ts', w', h1, h2, h3⟩)
      obtain ⟨β2, ts2, w2, l2, hle, hI2, hall, hst⟩ := hsteps os.size _ _ β fr.tmps w1 hI (hun _)
      rw [← hP] at hst
      obtain ⟨cc, hcl, hcm, hH2⟩ := hI2.heap
      replace hH2 := hH2 true
      rw [hxo] at hcl
      have hend : hs cc = hs (os.toList.take sh).length := by
        have := hs_const hFa (a := cc) ((os.toList.take sh).length - cc) (by omega) fun j o h1 h2 ho => by
          cases hmo : moves x.c.P o with
          | false => rfl
          | true =>
            exfalso
            have hj := (List.getElem?_eq_some_iff.1 ho).1
            rw [List.length_take, Array.length_toList] at hj
            have := (hcm j o (by rw [hxo]; exact ho) hmo).1 (hall j (Nat.lt_of_lt_of_le hj (Nat.min_le_left _ _)) (Nat.lt_of_lt_of_le hj (Nat.min_le_right _ _)))
            omega
        rw [show cc + ((os.toList.take sh).length - cc) = (os.toList.take sh).length from by omega] at this
        exact this
      rw [hend, hxc, ← hP] at hH2
      refine .of_steps hst ⟨_, .refl _ _, .inl ⟨_, hfin, ⟨β2, _, frs, w2, rfl, ⟨⟨hF.fn, ?_, ?_, SD.denL_mono hle hF.defers, rfl, hF.kind, hF.round.mono hle⟩, hR.mono hle⟩, hH2, ⟨by rw [hgl, ← hxc]; exact hI2.glob, Val.le_trans hG.fix hle⟩, Eq.trans (last_fn (f := fr) (f' := fr.atR ⟨ts2, fr.defers⟩ _) rfl) hl⟩⟩⟩
      · -- the temporaries
        refine denL_mk (show ts2.toList.length = _ by rw [Array.length_toList]; exact hI2.tsz) fun i v hv => ?_
        have hi := hI2.tmps i (fun h => by cases h) fun j o ho _ => by
          have hj := (List.getElem?_eq_some_iff.1 ho).1
          rw [hxo, List.length_take, Array.length_toList] at hj
          exact hall j (Nat.lt_of_lt_of_le hj (Nat.min_le_left _ _)) (Nat.lt_of_lt_of_le hj (Nat.min_le_right _ _))
        have hg : getT TF i = v := by unfold getT; rw [nth_eq, hv]; rfl
        have hil : i < ts2.size := by rw [hI2.tsz]; exact (List.getElem?_eq_some_iff.1 hv).1
        rw [hg] at hi
        refine ⟨_, ?_, hi⟩
        show ts2.toList[i]? = some (ts2.getD i undef)
        rw [Array.getElem?_toList]
        exact size_getD hil rfl
      · exact ⟨⟨rfl, OpsAt.drop os sh⟩, hkk.mono hle⟩
theorem getElem?_snoc {l : List α} {a : α} {n : Nat} {e : α} (h : (l ++ [a])[n]? = some e) : l[n]? = some e ∨ (n = l.length ∧ e = a) := by
  rcases Nat.lt_or_ge n l.length with hn | hn
  · rw [List.getElem?_append_left hn] at h; exact .inl h
  · rw [List.getElem?_append_right hn] at h
    right
    cases hx : n - l.length with
    | zero => rw [hx] at h; exact ⟨by omega, (Option.some.inj h).symm⟩
    | succ k => rw [hx] at h; simp at h
/-- a name more: something that is read alone, or a block of one's own -/
theorem HeapRel.snoc {P : Program} {O : Nat → Prop} {w0 : World} {β : Val} {H : List SO} {w : World} (h : HeapRel P O w0 β H w) (l : Loc) (e : SO)
    (he : EntryRel P O w0 (β.upd H.length l) w H.length e) (hf : e.owned = true → (w0.heap.size ≤ l.blk ∨ O l.blk) ∧ ∀ n e' l', H[n]? = some e' → e'.owned = true → β n = some l' → l'.blk ≠ l.blk) :
    HeapRel P O w0 (β.upd H.length l) (H ++ [e]) w ∧ β.le (β.upd H.length l) := by
  have hb := h.bound _ (Nat.le_refl _)
  have hle := Val.upd_le (l := l) hb
  have hold : ∀ n, n < H.length → (β.upd H.length l) n = β n := fun n hn => by unfold Val.upd; rw [if_neg (by omega)]
  have hlen : ∀ (n : Nat) (e : SO), H[n]? = some e → n < H.length := fun n e h => (List.getElem?_eq_some_iff.1 h).1
  refine ⟨⟨⟨fun n e' hn => ?_, fun n m e1 e2 l1 l2 h1 h2 o1 o2 hnm b1 b2 => ?_, fun n e' l' hn ho hl => ?_, h.keep⟩, fun n hn => ?_⟩, hle⟩
  · rcases getElem?_snoc hn with h' | ⟨rfl, rfl⟩
    · have h0 := h.entries n e' h'
      cases e' with
      | row c =>
        obtain ⟨l, vs, hl, hc, hx⟩ := h0
        exact ⟨l, vs, hle _ _ hl, hc.mono hle, hx⟩
      | own c wh el => exact OwnRel.kept (P := P) (e := .own c wh el) h0 hle fun _ _ _ => rfl
      | loop s p f T ps a b d => exact OwnRel.kept (P := P) (e := .loop s p f T ps a b d) h0 hle fun _ _ _ => rfl
      | deferred ds => exact OwnRel.kept (P := P) (e := .deferred ds) h0 hle fun _ _ _ => rfl
      | gone => trivial
      | obj o => exact OwnRel.kept (P := P) (e := .obj o) h0 hle fun _ _ _ => rfl
    · exact he
  · rcases getElem?_snoc h1 with h1' | ⟨rfl, rfl⟩ <;> rcases getElem?_snoc h2 with h2' | ⟨rfl, rfl⟩
    · rw [hold _ (hlen _ _ h1')] at b1
      rw [hold _ (hlen _ _ h2')] at b2
      exact h.sep n m e1 e2 l1 l2 h1' h2' o1 o2 hnm b1 b2
    · rw [hold _ (hlen _ _ h1')] at b1
      rw [Val.upd_same] at b2; cases b2
      exact (hf o2).2 n e1 l1 h1' o1 b1
    · rw [hold _ (hlen _ _ h2')] at b2
      rw [Val.upd_same] at b1; cases b1
      exact ((hf o1).2 m e2 l2 h2' o2 b2).symm
    · exact absurd rfl hnm
  · rcases getElem?_snoc hn with h' | ⟨rfl, rfl⟩
    · rw [hold _ (hlen _ _ h')] at hl
      exact h.fresh n e' l' h' ho hl
    · rw [Val.upd_same] at hl; cases hl
      exact (hf ho).1
  · rw [List.length_append] at hn
    simp at hn
    unfold Val.upd
    rw [if_neg (by omega)]
    exact h.bound n (by omega)


/-- the blocks that have names -/
def Owns (β : Val) (H : List SO) (b : Nat) : Prop := ∃ n e l, H[n]? = some e ∧ e.owned = true ∧ β n = some l ∧ l.blk = b
/-- the same heap, from now on -/
theorem HeapRel.rebase {P : Program} {O : Nat → Prop} {w0 : World} {β : Val} {H : List SO} {w : World} (h : HeapRel P O w0 β H w) : HeapRel P (Owns β H) w β H w := by
  refine ⟨⟨fun n e hn => ?_, h.sep, fun n e l hn ho hl => .inr ⟨n, e, l, hn, ho, hl, rfl⟩, ⟨rfl, rfl, rfl, Nat.le_refl _, Nat.le_refl _, fun _ _ _ => rfl⟩⟩, h.bound⟩
  have h0 := h.entries n e hn
  cases e with
  | row c =>
    obtain ⟨l, vs, hl, hc, hx⟩ := h0
    refine ⟨l, vs, hl, hc, fun i x hi => ?_⟩
    obtain ⟨h1, h2, h3⟩ := hx i x hi
    refine ⟨Nat.lt_of_lt_of_le h1 h.keep.size, ?_, ?_⟩
    · rintro ⟨m, e', l', hm, ho, hl', hb⟩
      rcases h.fresh m e' l' hm ho hl' with h4 | h4
      · omega
      · exact h2 (hb ▸ h4)
    · have : w.cell? ⟨l.blk, l.off + i, none⟩ = w0.cell? ⟨l.blk, l.off + i, none⟩ := by
        unfold World.cell?
        rw [h.keep.block l.blk h1 h2]
      exact this.trans h3
  | own => exact h0
  | loop => exact h0
  | deferred => exact h0
  | gone => trivial
  | obj => exact h0
/-- a block more, that has no name yet -/
theorem HeapRel.unnamed {P : Program} {O : Nat → Prop} {w0 : World} {β β' : Val} {H : List SO} {w w' : World} {base : Nat} {news : List SO} (h : HeapRel P O w0 β H w) (hE : Eff P β w base [] news β' w') : HeapRel P O w0 β H w' := by
  have hE' : Eff P β w H.length [] [] β w' := ⟨Val.le_refl β, hE.os, hE.tape, hE.output, hE.drawn, hE.size, fun _ _ => rfl, hE.frame, hE.one, by simp, by simp, by simp⟩
  have := h.apply hE' (by simp)
  rw [applyH_eq, List.append_nil] at this
  exact this

theorem lyOp_ob {x : CCtx} {o : Oper} {T : List SV} {H : List SO} (h : (lyOp o x T H).Ob D S) :
    o.guard = none ∧ ∃ v e, OpGood x.c.P x.c.glob (mapN (hideW x.hid) x.H) x.os o T (.run v [e] H.length []) ∧ (x.fin (putT T o.dst v) (H ++ [e])).Ob D S := by
  unfold lyOp at h
  cases hg : o.guard with
  | some g => rw [hg] at h; exact h.elim
  | none =>
    rw [hg] at h
    replace h : ((opS x.c.P (evS x.c.glob T) (mapN (hideW x.hid) x.H) (lenN H) o).treeD fun r => lyRes r x o.dst T H).Ob D S := h
    obtain ⟨r, hleaf, h⟩ := R.leaf_of_ob h
    have hnd : ∀ cc, o.op ≠ .defer cc := by
      intro cc hd
      rw [show opS x.c.P (evS x.c.glob T) (mapN (hideW x.hid) x.H) (lenN H) o = .stuck 342 from by unfold opS; rw [hd]; rfl] at hleaf
      exact hleaf
    rw [lenN_eq] at hleaf
    have hev : ∀ (β : Val) (ts : Array Value) (ds : List Deferred), AgreeOn β T ts (readsOp x.os o) → GlobRel x.c.glob β → ∀ y ∈ o.op.operands, (evS x.c.glob T y).den β = some (Act.eval ⟨ts, ds⟩ y) := by
      intro β ts ds ha hG y hy
      cases y with
      | tmp t =>
        have h1 := ha.at_ t (reads_operand hy)
        have e : evS x.c.glob T (.tmp t) = getT T t := by
          show optC (nth T t) undefS (fun v => v) = _
          unfold getT; cases nth T t <;> rfl
        rw [e]; exact h1
      | const v => exact constV_den β v
      | global g =>
        show (evGlob g x.c.glob T).den β = _
        unfold evGlob
        split
        · rename_i nm h
          obtain ⟨l, h1, h2, h3⟩ := hG g nm h
          simp [SV.den, SA.den, h1, h2, h3, SN.den, Act.eval]
        · rfl
      | func f => rfl
    have hwant : ∀ ts : Array Value, Region.wanted o (yielded x.os ts) = true := fun ts => by simp [Region.wanted, hg]
    cases r with
    | val v sets news =>
      replace h : (lyVal v sets news x o.dst T H).Ob D S := h
      unfold lyVal at h
      split at h
      · rename_i e
        refine ⟨rfl, v, e, fun β ts ha => ⟨hwant ts, fun O w0 w hH hG hfree f cs i rest k hm htd ho hts => ?_⟩, by rw [app_eq] at h; exact h⟩
        subst hts
        have hsg := step_op (P := x.c.P) hm htd ho (hwant f.tmps) hnd (cs := cs) (w := w)
        obtain ⟨nx, y, w', β', hrun, hnx, hv, hE, hso⟩ := R.sat_leaf (opS_sat hH o (hev β f.tmps f.defers ha hG)) hleaf hfree
        exact ⟨y, w', β', hv, hE, hso, .one (step_val hsg hrun hnx)⟩
      · exact h.elim
    | enter => exact h.elim
    | round => exact h.elim
    | defer => exact h.elim
    | panic => exact h.elim
    | touch => exact h.elim

/-- what is kept where the last operation comes anywhere -/
structure LInv (x : CCtx) (s : Nat) (o0 : Oper) (v0 : SV) (e0 : SO) (TF : List SV) (hs : Nat → List SO) (O : Nat → Prop) (w0 : World) (listed : Array Bool) (β : Val) (ts : Array Value) (w : World) : Prop where
  not : listed.getD s false = false → CInv x s (s + 1) none TF hs (fun _ => O) (fun _ => w0) listed β ts w
  yes : listed.getD s false = true → ∃ (O1 : Nat → Prop) (w1 : World) (l : Loc) (β1 : Val), CInv x s (s + 1) o0.dst TF hs (fun q => if q then O else O1) (fun q => if q then w0 else w1) listed β ts w ∧ l.blk < w1.heap.size ∧ ¬ O1 l.blk ∧ w0.heap.size ≤ l.blk ∧ β1.le β ∧
    OwnRel x.c.P (β1.upd (hs s).length l) w1 (hs s).length e0 ∧ e0.owned = true ∧ ∀ d, o0.dst = some d → d < ts.size → v0.den (β1.upd (hs s).length l) = some (ts.getD d undef)
theorem LInv.any {x : CCtx} {s : Nat} {o0 : Oper} {v0 : SV} {e0 : SO} {TF : List SV} {hs : Nat → List SO} {O : Nat → Prop} {w0 : World} {listed : Array Bool} {β : Val} {ts : Array Value} {w : World} (h : LInv x s o0 v0 e0 TF hs O w0 listed β ts w) : ∃ ex O1 w1, CInv x s (s + 1) ex TF hs (fun q => if q then O else O1) (fun q => if q then w0 else w1) listed β ts w := by
  cases hl : listed.getD s false with
  | false =>
    refine ⟨none, O, w0, ?_⟩
    have := h.not hl
    simpa using this
  | true =>
    obtain ⟨O1, w1, l, β1, h1, _⟩ := h.yes hl
    exact ⟨_, O1, w1, h1⟩
theorem Val.upd_mono {β β' : Val} (h : β.le β') (n : Nat) (l : Loc) : (β.upd n l).le (β'.upd n l) := by
  intro m a hm
  unfold Val.upd at hm ⊢
  split
  · rename_i he; rw [if_pos he] at hm; exact hm
  · rename_i he; rw [if_neg he] at hm; exact h _ _ hm
theorem chainL_after (hc : CfgOK c) (hP : B.P = c.P) (hgl : B.glob = c.glob) {id : Nat} {os : Array Oper} {k : List SItem} {s : SF} {rest : List SF} {H : List SO} {β : Val} {fr : Frame} {frs : List Frame} {w : World} (hF : FrameRel β s fr) (hR : FramesRel β rest frs) (hH : HeapRel B.P B.O B.w0 β H w) (hG : BRel B β)
    (hl : ((fr :: frs).getLast?).map (·.fn) = some B.fn0) (htd : s.todo = .code (.region id os true) :: k) {sh : Nat} {hid : SO → Bool} (hob : (chainL hid os sh (masks os.toList []) k s rest c H go).Ob D S) : After B go D S (lone fr (frs ++ B.cs) w) := by
  have htd' := hF.todo
  rw [htd] at htd'
  cases hft : fr.todo with
  | nil => rw [hft] at htd'; exact htd'.elim
  | cons y k' =>
    rw [hft] at htd'
    obtain ⟨hxy, hkk⟩ := htd'
    cases y <;> first | exact hxy.elim | skip
    rename_i cd
    have hcd : cd = .region id os true := hxy
    subst hcd
    unfold chainL at hob
    cases hok : drawOK os os.toList (masks os.toList []) (Nat.succ sh) with
    | false => rw [hok] at hob; exact hob.elim
    | true =>
      rw [hok, boolC_true] at hob
      obtain ⟨he, hok'⟩ := boolC_and (show boolC (edgesAll os.toList 0) (boolC (headOK os (takeN os.toList (sh + 1)) (takeN os.toList (sh + 1)) (masks os.toList []) 0) (tailOK (dropN (masks os.toList []) (sh + 1)) (sh + 1)) false) false = true from hok)
      obtain ⟨hh, ht⟩ := boolC_and hok'
      rw [nth_eq] at hob
      cases ho0 : os.toList[sh]? with
      | none => rw [ho0] at hob; exact hob.elim
      | some o0 =>
      rw [ho0, optC_some] at hob
      have hoA : os[sh]? = some o0 := by rw [← Array.getElem?_toList]; exact ho0
      have hsz0 := (Array.getElem?_eq_some_iff.1 hoA).1
      have hlast : (os.toList.take (sh + 1))[sh]? = some o0 := by rw [List.getElem?_take, if_pos (by omega)]; exact ho0
      generalize hxe : (⟨hid, c, os, H, takeN os.toList sh, masks os.toList [], fun T H' => lyOp o0 ⟨hid, c, os, H, [], [], fun T H' => go ⟨⟨s.fn, T, .ops os (dropN os.toList (Nat.succ sh)) :: k, s.defers, s.roundOf⟩ :: rest, H'⟩⟩ T H'⟩ : CCtx) = x at hob
      have hxc : x.c = c := by rw [← hxe]
      have hxhid : x.hid = hid := by rw [← hxe]
      have hxo : x.os = os := by rw [← hxe]
      have hxH : x.H = H := by rw [← hxe]
      have hxh : x.hd = takeN os.toList sh := by rw [← hxe]
      have hxm : x.ms = masks os.toList [] := by rw [← hxe]
      have hxf : x.fin = fun T H' => lyOp o0 ⟨hid, c, os, H, [], [], fun T H' => go ⟨⟨s.fn, T, .ops os (dropN os.toList (Nat.succ sh)) :: k, s.defers, s.roundOf⟩ :: rest, H'⟩⟩ T H' := by rw [← hxe]
      obtain ⟨TF, Fs, hs, hFa, hfin⟩ := chP_facts (x := x) (hxc ▸ hc) _ _ _ _ _ (by rw [hxH]; exact fun n e h _ => h) hob
      rw [hxf] at hfin
      obtain ⟨hgu, v0, e0, hgood, hfin⟩ := lyOp_ob (x := ⟨hid, c, os, H, [], [], fun T H' => go ⟨⟨s.fn, T, .ops os (dropN os.toList (Nat.succ sh)) :: k, s.defers, s.roundOf⟩ :: rest, H'⟩⟩) hfin
      replace hfin : (go ⟨⟨s.fn, putT TF o0.dst v0, .ops os (dropN os.toList (sh + 1)) :: k, s.defers, s.roundOf⟩ :: rest, hs (takeN os.toList sh).length ++ [e0]⟩).Ob D S := hfin
      replace hgood : OpGood c.P c.glob (mapN (hideW hid) H) os o0 TF (.run v0 [e0] (hs (takeN os.toList sh).length).length []) := hgood
      rw [takeN_eq] at hFa hfin hxh hgood
      have hlsh : (os.toList.take sh).length = sh := by rw [List.length_take, Array.length_toList, Nat.min_eq_left (by omega)]
      rw [dropN_eq, hlsh] at hfin
      rw [hlsh] at hgood
      obtain ⟨hreadL, hdstL⟩ := headOK_spec _ _ _ _ _ (by rw [takeN_eq] at hh; exact hh) sh o0 hlast
      -- the order is drawn
      have hstep : step B.P (lone fr (frs ++ B.cs) w) = .next (lone (fr.atR ⟨fr.tmps, fr.defers⟩ (.inRegion os (Region.linearise.go .any os os.size (w.tape w.drawn (.order fr.fn id)) (Array.replicate os.size false) []) :: k')) (frs ++ B.cs) { w with drawn := w.drawn + 1 }) := by
        conv => lhs; rw [frame_eta hF.mode, hft]
        rw [stepR_region_draw]
        simp only [Region.schedule, hP, hc.prog.mixed, Bool.true_or, if_true, Region.linearise]
      refine .step hstep ?_
      have hH' : HeapRel B.P B.O B.w0 β H { w with drawn := w.drawn + 1 } := hH.sameHeap rfl rfl rfl rfl
      generalize ({ w with drawn := w.drawn + 1 } : World) = w1 at hH'
      have hlist : ∀ j, (Array.replicate os.size false).getD j false = false := by
        intro j
        rw [Array.getD_eq_getD_getElem?, Array.getElem?_replicate]
        split <;> rfl
      have hI : LInv x sh o0 v0 e0 TF hs B.O B.w0 (Array.replicate os.size false) β fr.tmps w1 := by
        refine ⟨fun _ => ?_, fun h => by rw [hlist] at h; cases h⟩
        have hTlen : fr.tmps.size = s.tmps.length := by have := denL_length hF.tmps; simpa using this
        refine ⟨by simp [hxo], by rw [hTlen, hFa.lenT], fun t _ ht => ?_, ⟨0, Nat.zero_le _, fun j o _ _ => ?_, ?_⟩, fun i m hi => ?_, fun i _ => hlist i, hxc ▸ hgl ▸ hG.glob⟩
        · rw [hFa.same t (fun o ho hd => ?_) β]
          · have := evS_den (glob := fun _ => none) (a := ⟨fr.tmps, fr.defers⟩) hF.tmps (fun _ _ h => by cases h) (.tmp t)
            have e : evS (fun _ => none) s.tmps (.tmp t) = getT s.tmps t := by
              show optC (nth s.tmps t) undefS (fun v => v) = _
              unfold getT; cases nth s.tmps t <;> rfl
            rw [e] at this; exact this
          · obtain ⟨j, hj⟩ := List.mem_iff_getElem?.1 ho
            have := ht j o (by rw [hxo]; exact hj) hd
            rw [hlist] at this; cases this
        · rw [hlist]; simp
        · rw [hFa.zero, hxc, ← hP]; exact fun _ => hH'
        · rw [hlist] at hi; cases hi
      have hun : ∀ k, unl (Array.replicate os.size false) k ≤ k := by
        intro k
        induction k with
        | zero => exact Nat.le_refl _
        | succ k ih =>
          show unl _ k + _ ≤ k + 1
          split <;> omega
      have hset0 : ∀ {l : Array Bool} {i j : Nat}, l.size = os.size → i < os.size → (l.setIfInBounds i true).getD j false = if i = j then true else l.getD j false := by
        intro l i j hsz hi
        by_cases hij : i = j
        · subst hij; rw [if_pos rfl]; simp [Array.getD_eq_getD_getElem?, hsz, hi]
        · rw [if_neg hij, getD_set_ne false hij]
      have hsteps := order_steps_gen (os := os) (s := sh + 1) (P := c.P) (Inv := fun l β ts w => LInv x sh o0 v0 e0 TF hs B.O B.w0 l β ts w) he ht fr fr.defers k' (frs ++ B.cs)
        (fun h => by obtain ⟨_, _, _, h⟩ := h.any; rw [← hxo]; exact h.size) (fun h => by obtain ⟨_, _, _, h⟩ := h.any; exact h.tail) (fun h => by obtain ⟨_, _, _, h⟩ := h.any; rw [← hxo]; exact h.closed)
        (fun {l β ts w i} h hi his rest => by
          obtain ⟨ex', O', w', hCC⟩ := h.any
          have hlsz : l.size = os.size := by rw [← hxo]; exact hCC.size
          obtain ⟨hunl, o, ho, hready⟩ := mem_ready.1 hi
          have hio := (Array.getElem?_eq_some_iff.1 ho).1
          have hunf : l.getD i false = false := by rw [getD_true_false (by rw [hlsz]; exact hio)]; exact hunl
          rcases Nat.lt_or_ge i sh with hlt | hge
          · -- one of the chain
            cases hls : l.getD sh false with
            | false =>
              have := chain_step (x := x) (s := sh) (tl := sh + 1) (Nat.le_succ _) (ex := none) (fun _ h => by cases h) (by rw [hxo]; exact he) (by rw [hxo]; exact hh) (by rw [hxo]; exact hFa) (by rw [hxo]; exact hxh) (by rw [hxo]; exact hxm) (h.not hls) (by rw [hxo]; exact hi) hlt fr fr.defers rest k' (frs ++ B.cs)
              rw [hxo, hxc] at this
              obtain ⟨β', ts', w', h1, h2, _, h3⟩ := this
              refine ⟨β', ts', w', h1, ⟨fun _ => h2, fun h4 => ?_⟩, h3⟩
              rw [hset0 hlsz hio, if_neg (by omega), hls] at h4; cases h4
            | true =>
              obtain ⟨O1, w1, ll, β1, hC, h5, h6, h7, h8, h9, h10, h11⟩ := h.yes hls
              have := chain_step (x := x) (s := sh) (tl := sh + 1) (Nat.le_succ _) (ex := o0.dst) (fun t ht => ⟨sh, o0, Nat.le_refl _, by rw [hxo]; exact hlast, ht⟩) (by rw [hxo]; exact he) (by rw [hxo]; exact hh) (by rw [hxo]; exact hFa) (by rw [hxo]; exact hxh) (by rw [hxo]; exact hxm) hC (by rw [hxo]; exact hi) hlt fr fr.defers rest k' (frs ++ B.cs)
              rw [hxo, hxc] at this
              obtain ⟨β', ts', w', h1, h2, h12, h3⟩ := this
              refine ⟨β', ts', w', h1, ⟨fun h4 => ?_, fun _ => ⟨O1, w1, ll, β1, h2, h5, h6, h7, Val.le_trans h8 h1, h9, h10, fun d hd hdl => ?_⟩⟩, h3⟩
              · rw [hset0 hlsz hio, if_neg (by omega), hls] at h4; cases h4
              · rw [h12 d hd]
                exact h11 d hd (by rw [hC.tsz, ← h2.tsz]; exact hdl)
          · -- the last one
            have hish : i = sh := by omega
            subst hish
            rw [hoA] at ho; cases ho
            have hC := h.not hunf
            obtain ⟨cc, hcl, hcm, hHc⟩ := hC.heap
            replace hHc := hHc true
            rw [hxc] at hHc
            rw [hxo] at hcl
            have hagree : AgreeOn β TF ts (readsOp os o0) := by
              refine ⟨by rw [hC.tsz], fun t ht => ?_⟩
              refine hC.tmps t (fun h => by cases h) fun j o' ho' hd => ?_
              rw [hxo, List.getElem?_take] at ho'
              split at ho'
              · obtain ⟨m, hm, hb⟩ := hreadL j o' t (by rw [List.getElem?_take, if_pos (by omega)]; exact ho') hd ht
                rw [← hxo] at hm
                exact mask_ready hC.closed (by rw [hxo]; exact hi) hm hb
              · cases ho'
            obtain ⟨hw, hrun⟩ := hgood β ts hagree
            have hG0 : HeapRel0 c.P B.O B.w0 β (mapN (hideW hid) H) w := hHc.toHeapRel0.less fun n e hn => by
              rw [mapN_eq, List.getElem?_map] at hn
              cases hx : H[n]? with
              | none => rw [hx] at hn; cases hn
              | some e1 =>
                rw [hx] at hn
                have hn : hideW hid e1 = e := Option.some.inj hn
                unfold hideW at hn
                cases hhe : hid e1 with
                | true => rw [hhe] at hn; exact .inr hn.symm
                | false =>
                  rw [hhe] at hn
                  have hn : e1 = e := hn
                  subst hn
                  exact .inl (hFa.stable cc hcl n e1 (by rw [hxH]; exact hx) (by rw [hxhid]; exact hhe))
            have hlen : (hs cc).length ≤ (hs i).length := by
              rw [hlsh] at hcl
              have := hs_len hFa (a := cc) (i - cc) (by rw [hlsh]; omega)
              rwa [show cc + (i - cc) = i from by omega] at this
            have hfree : Free β (hs i).length [e0] := fun j hj => hHc.bound _ (by omega)
            obtain ⟨y, w', β', hv, hE, _, hst⟩ := hrun B.O B.w0 w hG0 (by have := hC.glob; rw [hxc] at this; exact this) hfree (fr.atR ⟨ts, fr.defers⟩ (.inRegion os (i :: rest) :: k')) (frs ++ B.cs) i rest k' rfl rfl hoA rfl
            rw [Frame.finish_atR, hoA] at hst
            obtain ⟨hown, hrel, ll, hll, hblk⟩ := hE.made 0 e0 rfl
            rw [Nat.add_zero] at hrel hll
            replace hblk : w.heap.size ≤ ll.blk := by
              rcases hblk with h | ⟨_, _, h, _⟩
              · exact h
              · simp at h
            have hβ' : β' = β.upd (hs i).length ll := by
              funext n
              unfold Val.upd
              split
              · rename_i hn; subst hn; exact hll
              · rename_i hn; exact hE.dom n (by simp; omega)
            rw [hβ'] at hv hrel
            have hHc' := hHc.unnamed hE
            have hlw : ll.blk < w'.heap.size := OwnRel.lt (β := β.upd (hs i).length ll) hrel hown (Val.upd_same _ _ _)
            have hst' : Steps c.P (lone (fr.atR ⟨ts, fr.defers⟩ (.inRegion os (i :: rest) :: k')) (frs ++ B.cs) w) (lone (fr.atR (Act.put ⟨ts, fr.defers⟩ o0.dst y) (.inRegion os rest :: k')) (frs ++ B.cs) w') := hst
            rw [put_mk] at hst'
            refine ⟨β, _, w', Val.le_refl β, ⟨fun h4 => ?_, fun _ => ⟨Owns β (hs cc), w', ll, β, ⟨by simp [hC.size], by rw [put_size]; exact hC.tsz, fun t hext ht => ?_, ⟨cc, by rw [hxo]; exact hcl, fun j o' ho' hm => ?_, fun q => ?_⟩, ?_, fun j hj => ?_, hC.glob⟩, hlw, ?_, Nat.le_trans hHc.keep.size hblk, Val.le_refl β, hxc ▸ hrel, hown, fun d hd hdl => ?_⟩⟩, hst'⟩
            · rw [hset0 hlsz hio, if_pos rfl] at h4; cases h4
            · rw [getD_put, if_neg (fun h => hext h.1)]
              refine hC.tmps t (fun h => by cases h) fun j o' ho' hd => ?_
              have := ht j o' ho' hd
              rw [hset0 hlsz hio] at this
              have hj := (List.getElem?_eq_some_iff.1 ho').1
              rw [hxo, hlsh] at hj
              rwa [if_neg (by omega)] at this
            · rw [hset0 hlsz hio]
              have hj := (List.getElem?_eq_some_iff.1 ho').1
              rw [hxo, hlsh] at hj
              rw [if_neg (by omega)]
              exact hcm j o' ho' hm
            · rw [hxc]
              cases q with
              | true => exact hHc'
              | false => exact hHc'.rebase
            · intro j m hj hm b hb
              rw [hset0 hlsz hio] at hj ⊢
              split
              · rfl
              · by_cases hij : i = j
                · subst hij; exact mask_ready hC.closed (by rw [hxo]; exact hi) hm hb
                · rw [if_neg hij] at hj; exact hC.closed j m hj hm b hb
            · rw [hset0 hlsz hio, if_neg (by omega)]; exact hC.tail j hj
            · rintro ⟨n, e, l', hn, ho', hl', hb⟩
              have := ((hHc.entries n e hn).toOwn ho').lt ho' hl'
              omega
            · rw [getD_put, if_pos ⟨hd, by rw [put_size] at hdl; exact hdl⟩]
              exact hv)
      obtain ⟨β2, ts2, w2, l2, hle, hI2, hall, hst⟩ := hsteps os.size _ _ β fr.tmps w1 hI (hun _)
      rw [← hP] at hst
      obtain ⟨O1, w3, ll, β1, hC, h5, h6, h7, h8, h9, h10, h11⟩ := hI2.yes (hall sh (by omega) hsz0)
      obtain ⟨cc, hcl, hcm, hH2⟩ := hC.heap
      rw [hxo] at hcl
      have hend : hs cc = hs sh := by
        rw [hlsh] at hcl
        have := hs_const hFa (a := cc) (sh - cc) (by rw [hlsh]; omega) fun j o h1 h2 ho => by
          cases hmo : moves x.c.P o with
          | false => rfl
          | true =>
            exfalso
            have hj := (List.getElem?_eq_some_iff.1 ho).1
            rw [hlsh] at hj
            have := (hcm j o (by rw [hxo]; exact ho) hmo).1 (hall j (by omega) (by omega))
            omega
        rw [show cc + (sh - cc) = sh from by omega] at this
        exact this
      rw [hend, hxc] at hH2
      have hHt : HeapRel c.P B.O B.w0 β2 (hs sh) w2 := hH2 true
      have hHf : HeapRel c.P O1 w3 β2 (hs sh) w2 := hH2 false
      have hmono := Val.upd_mono h8 (hs sh).length ll
      have hrel : OwnRel c.P (β2.upd (hs sh).length ll) w2 (hs sh).length e0 := by
        rw [hxc] at h9
        refine OwnRel.kept h9 hmono fun _ l' hl' => ?_
        rw [Val.upd_same] at hl'; cases hl'
        exact hHf.keep.block _ h5 h6
      obtain ⟨hfinH, hleB⟩ := hHt.snoc ll e0 (by
        cases e0 with
        | row => cases h10
        | own => exact hrel
        | loop => exact hrel
        | deferred => exact hrel
        | gone => trivial
        | obj => exact hrel) fun _ => ⟨.inl h7, fun n e' l' hn ho' hl' hb => by
          rcases hHf.fresh n e' l' hn ho' hl' with h | h
          · omega
          · exact h6 (hb ▸ h)⟩
      rw [← hP] at hfinH
      have hle2 := Val.le_trans hle hleB
      refine .of_steps hst ⟨_, .refl _ _, .inl ⟨_, hfin, ⟨β2.upd (hs sh).length ll, _, frs, w2, rfl, ⟨⟨hF.fn, ?_, ?_, SD.denL_mono hle2 hF.defers, rfl, hF.kind, hF.round.mono hle2⟩, hR.mono hle2⟩, hfinH, ⟨by rw [hgl, ← hxc]; exact hC.glob.mono hleB, Val.le_trans hG.fix hle2⟩, Eq.trans (last_fn (f := fr) (f' := fr.atR ⟨ts2, fr.defers⟩ _) rfl) hl⟩⟩⟩
      · -- the temporaries
        refine denL_mk (show ts2.toList.length = _ by rw [Array.length_toList, putT_length]; exact hC.tsz) fun i v hv => ?_
        have hil : i < ts2.size := by
          have := (List.getElem?_eq_some_iff.1 hv).1
          rw [putT_length] at this
          rw [hC.tsz]; exact this
        have hg : getT (putT TF o0.dst v0) i = v := by unfold getT; rw [nth_eq, hv]; rfl
        refine ⟨ts2.getD i undef, ?_, ?_⟩
        · show ts2.toList[i]? = some (ts2.getD i undef)
          rw [Array.getElem?_toList]
          exact size_getD hil rfl
        · by_cases hd : o0.dst = some i
          · rw [hd, getT_put_eq (by rw [← hC.tsz]; exact hil)] at hg
            rw [← hg]
            exact SV.den_mono hmono _ (h11 i hd hil)
          · rw [getT_put_ne hd] at hg
            rw [← hg]
            refine SV.den_mono hleB _ (hC.tmps i hd fun j o ho _ => ?_)
            have hj := (List.getElem?_eq_some_iff.1 ho).1
            rw [hxo, hlsh] at hj
            exact hall j (by omega) (by omega)
      · exact ⟨⟨rfl, OpsAt.drop os (sh + 1)⟩, hkk.mono hle2⟩
/- Every order, one by one. -/
theorem gather_mem {f : Nat → Oper → List (List Nat)} {e : List Nat} : ∀ (ops : List Oper) (i0 : Nat) (j : Nat) (o : Oper), ops[j]? = some o → e ∈ f (i0 + j) o → e ∈ gatherE f ops i0
  | [], _, _, _, h, _ => by simp at h
  | o' :: ops, i0, 0, o, h, he => by
    simp at h; subst h
    show e ∈ app (f i0 o') (gatherE f ops (Nat.succ i0))
    rw [app_eq, List.mem_append]
    exact .inl he
  | o' :: ops, i0, j + 1, o, h, he => by
    show e ∈ app (f i0 o') (gatherE f ops (Nat.succ i0))
    rw [app_eq, List.mem_append]
    exact .inr (gather_mem ops (i0 + 1) j o (by simpa using h) (by rw [show i0 + 1 + j = i0 + (j + 1) from by omega]; exact he))
theorem orNil_mem {e : List Nat} {l : List (List Nat)} (h : e ∈ l) : e ∈ orNil l := by
  cases l with
  | nil => cases h
  | cons => exact h
theorem orNil_nil {l : List (List Nat)} (h : l = []) : [] ∈ orNil l := by subst h; exact List.mem_cons_self
theorem gather_nil {f : Nat → Oper → List (List Nat)} : ∀ (ops : List Oper) (i0 : Nat), (∀ (j : Nat) (o : Oper), ops[j]? = some o → f (i0 + j) o = []) → gatherE f ops i0 = []
  | [], _, _ => rfl
  | o' :: ops, i0, h => by
    show app (f i0 o') (gatherE f ops (Nat.succ i0)) = []
    rw [app_eq, show f i0 o' = [] from h 0 o' (by simp), gather_nil ops (i0 + 1) (fun j o ho => by rw [show i0 + 1 + j = i0 + (j + 1) from by omega]; exact h (j + 1) o (by simpa using ho))]; rfl
theorem allN_iff {α : Type} {p : α → Bool} {l : List α} : allN p l = true ↔ ∀ x ∈ l, p x = true := by
  induction l with
  | nil => exact ⟨fun _ _ h => by simp at h, fun _ => rfl⟩
  | cons a r ih =>
    constructor
    · intro h
      obtain ⟨h1, h2⟩ := boolC_and (show boolC (p a) (allN p r) false = true from h)
      intro x hx
      rcases List.mem_cons.1 hx with rfl | hx
      · exact h1
      · exact ih.1 h2 x hx
    · intro h
      show boolC (p a) (allN p r) false = true
      rw [h a List.mem_cons_self, boolC_true]
      exact ih.2 fun x hx => h x (List.mem_cons_of_mem _ hx)
theorem exts_mem {os : Array Oper} : ∀ (fuel t : Nat) (listed : Array Bool) (b : Nat), listed.size = os.size → (∀ j, j < os.size → bitN b j = listed.getD j false) → (∀ j, os.size ≤ j → bitN b j = false) → Region.linearise.go .any os fuel t listed [] ∈ extsE os.toList fuel b := by
  intro fuel
  induction fuel with
  | zero => intro t listed b _ _ _; exact List.mem_cons_self
  | succ fuel ih =>
    intro t listed b hsz hb hb2
    have hrd : ∀ (i : Nat) (o : Oper), os[i]? = some o → (i ∈ Region.ready .any os listed ↔ bitN b i = false ∧ rdyE b o = true) := by
      intro i o ho
      have hio := (Array.getElem?_eq_some_iff.1 ho).1
      rw [mem_ready, hb i hio, getD_true_false (by rw [hsz]; exact hio)]
      constructor
      · rintro ⟨h1, o', ho', hall⟩
        rw [ho] at ho'; cases ho'
        refine ⟨h1, allN_iff.2 fun e he => ?_⟩
        cases hbi : Region.binds .any e with
        | false => rfl
        | true =>
          rw [boolC_true]
          have hl := hall e (by simpa using he) hbi
          rcases Nat.lt_or_ge e.on os.size with h | h
          · rw [hb _ h]; exact hl
          · rw [Array.getD_eq_getD_getElem?, Array.getElem?_eq_none (by omega)] at hl; cases hl
      · rintro ⟨h1, h2⟩
        refine ⟨h1, o, ho, fun e he hbi => ?_⟩
        have := allN_iff.1 h2 e (by simpa using he)
        rw [hbi, boolC_true] at this
        rcases Nat.lt_or_ge e.on os.size with h | h
        · rw [← hb _ h]; exact this
        · rw [hb2 _ h] at this; cases this
    show _ ∈ orNil (gatherE (fun i o => boolC (bitN b i) [] (boolC (rdyE b o) (mapN (fun l => i :: l) (extsE os.toList fuel (Nat.lor b (Nat.pow 2 i)))) [])) os.toList 0)
    by_cases hne : Region.ready .any os listed = []
    · rw [go_nil hne]
      refine orNil_nil (gather_nil _ _ fun j o ho => ?_)
      rw [Nat.zero_add]
      rw [Array.getElem?_toList] at ho
      have hn : ¬ (j ∈ Region.ready .any os listed) := by rw [hne]; simp
      rw [hrd j o ho] at hn
      cases h1 : bitN b j with
      | true => rfl
      | false =>
        cases h2 : rdyE b o with
        | false => rfl
        | true => exact absurd ⟨h1, h2⟩ hn
    · obtain ⟨i, hi, t', heq⟩ := go_cons hne fuel t
      obtain ⟨_, o, ho, _⟩ := mem_ready.1 hi
      have hio := (Array.getElem?_eq_some_iff.1 ho).1
      obtain ⟨h1, h2⟩ := (hrd i o ho).1 hi
      rw [heq]
      refine orNil_mem (gather_mem _ 0 i o (by rw [Array.getElem?_toList]; exact ho) ?_)
      rw [Nat.zero_add, h1, h2, boolC_false, boolC_true, mapN_eq, List.mem_map]
      have hbit : ∀ j, bitN (Nat.lor b (Nat.pow 2 i)) j = (bitN b j || decide (i = j)) := by
        intro j
        show Nat.testBit (b ||| 2 ^ i) j = _
        rw [Nat.testBit_or, Nat.testBit_two_pow]; rfl
      refine ⟨_, ih t' _ _ (by simp [hsz]) (fun j hj => ?_) (fun j hj => ?_), rfl⟩
      · rw [hbit]
        by_cases hij : i = j
        · subst hij
          simp [Array.getD_eq_getD_getElem?, hsz, hio]
        · rw [getD_set_ne false hij, hb j hj]; simp [hij]
      · rw [hbit, hb2 j hj]
        have : i ≠ j := by omega
        simp [this]
theorem pickE_ob {f : List Nat → Tree} {e : List Nat} : ∀ (l : List (List Nat)) (i : Nat), e ∈ l → ∃ z, ∀ (D : SV → List SO → Prop) (S : SS → Prop), (pickE f l z i).Ob D S → (f e).Ob D S := by
  intro l
  have key : ∀ (l : List (List Nat)) (i : Nat), e ∈ l → ∃ z, i ≤ z ∧ ∀ (D : SV → List SO → Prop) (S : SS → Prop), (pickE f l z i).Ob D S → (f e).Ob D S := by
    intro l
    induction l with
    | nil => intro i h; cases h
    | cons a r ih =>
      intro i h
      cases r with
      | nil =>
        have : e = a := by simpa using h
        subst this
        exact ⟨i, Nat.le_refl _, fun D S h => h⟩
      | cons a2 r =>
        by_cases he : e = a
        · subst he
          exact ⟨i, Nat.le_refl _, fun D S h => h.1 (decide_eq_true rfl)⟩
        · obtain ⟨z, hz, hf⟩ := ih (i + 1) ((List.mem_cons.1 h).resolve_left he)
          exact ⟨z, by omega, fun D S h => hf D S (h.2 (decide_eq_false (by omega)))⟩
  intro i h
  obtain ⟨z, _, hz⟩ := key l i h
  exact ⟨z, hz⟩
theorem opsAt_of {os : Array Oper} : ∀ {idx : List Nat}, (∀ i ∈ idx, ∃ o, os[i]? = some o) → OpsAt os idx (opsE os.toList idx)
  | [], _ => trivial
  | i :: is, h => by
    obtain ⟨o, ho⟩ := h i List.mem_cons_self
    show OpsAt os (i :: is) (optC (nth os.toList i) (opsE os.toList is) fun o => o :: opsE os.toList is)
    rw [nth_eq, Array.getElem?_toList, ho]
    exact ⟨ho, opsAt_of fun j hj => h j (List.mem_cons_of_mem _ hj)⟩
theorem go_in {os : Array Oper} : ∀ (fuel t : Nat) (listed : Array Bool), ∀ i ∈ Region.linearise.go .any os fuel t listed [], ∃ o, os[i]? = some o := by
  intro fuel
  induction fuel with
  | zero => intro t listed i hi; simp [Region.linearise.go] at hi
  | succ fuel ih =>
    intro t listed i hi
    by_cases hne : Region.ready .any os listed = []
    · rw [go_nil hne] at hi; cases hi
    · obtain ⟨i0, hi0, t', heq⟩ := go_cons hne fuel t
      rw [heq] at hi
      rcases List.mem_cons.1 hi with rfl | hi
      · obtain ⟨_, o, ho, _⟩ := mem_ready.1 hi0
        exact ⟨o, ho⟩
      · exact ih _ _ i hi
theorem drawE_after (hc : CfgOK c) (hP : B.P = c.P) {id : Nat} {os : Array Oper} {k : List SItem} {s : SF} {rest : List SF} {H : List SO} {β : Val} {fr : Frame} {frs : List Frame} {w : World} (hF : FrameRel β s fr) (hR : FramesRel β rest frs) (hH : HeapRel B.P B.O B.w0 β H w) (hG : BRel B β)
    (hl : ((fr :: frs).getLast?).map (·.fn) = some B.fn0) (htd : s.todo = .code (.region id os true) :: k) (hob : (drawE os k s rest c H go).Ob D S) : After B go D S (lone fr (frs ++ B.cs) w) := by
  have htd' := hF.todo
  rw [htd] at htd'
  cases hft : fr.todo with
  | nil => rw [hft] at htd'; exact htd'.elim
  | cons y k' =>
    rw [hft] at htd'
    obtain ⟨hxy, hkk⟩ := htd'
    cases y <;> first | exact hxy.elim | skip
    rename_i cd
    have hcd : cd = .region id os true := hxy
    subst hcd
    have hstep : step B.P (lone fr (frs ++ B.cs) w) = .next (lone (fr.atR ⟨fr.tmps, fr.defers⟩ (.inRegion os (Region.linearise.go .any os os.size (w.tape w.drawn (.order fr.fn id)) (Array.replicate os.size false) []) :: k')) (frs ++ B.cs) { w with drawn := w.drawn + 1 }) := by
      conv => lhs; rw [frame_eta hF.mode, hft]
      rw [stepR_region_draw]
      simp only [Region.schedule, hP, hc.prog.mixed, Bool.true_or, if_true, Region.linearise]
    refine .step hstep ?_
    have hH' : HeapRel B.P B.O B.w0 β H { w with drawn := w.drawn + 1 } := hH.sameHeap rfl rfl rfl rfl
    have hlist : ∀ j, (Array.replicate os.size false).getD j false = false := by
      intro j
      rw [Array.getD_eq_getD_getElem?, Array.getElem?_replicate]
      split <;> rfl
    have hmem := exts_mem (os := os) os.size (w.tape w.drawn (.order fr.fn id)) (Array.replicate os.size false) 0 (by simp) (fun j _ => by rw [hlist]; exact Nat.zero_testBit j) (fun j _ => Nat.zero_testBit j)
    have hin := go_in (os := os) os.size (w.tape w.drawn (.order fr.fn id)) (Array.replicate os.size false)
    generalize Region.linearise.go .any os os.size (w.tape w.drawn (.order fr.fn id)) (Array.replicate os.size false) [] = idx at hmem hin
    generalize ({ w with drawn := w.drawn + 1 } : World) = w1 at hH'
    have hmem : idx ∈ extsE os.toList (lenN os.toList) 0 := by rw [lenN_eq, Array.length_toList]; exact hmem
    obtain ⟨z, hz⟩ := pickE_ob (f := fun idx => go ⟨s.to (.ops os (opsE os.toList idx) :: k) :: rest, H⟩) _ 0 hmem
    have hgo := hz D S (hob fun _ => z)
    refine ⟨_, .refl _ _, .inl ⟨_, hgo, ⟨β, _, frs, w1, rfl, ⟨hF.to ⟨⟨rfl, opsAt_of hin⟩, hkk⟩, hR⟩, hH', hG, ?_⟩⟩⟩
    have := last_fn (f := fr) (f' := fr.atR ⟨fr.tmps, fr.defers⟩ (.inRegion os idx :: k')) (frs := frs) rfl
    rw [this]; exact hl

/-- a region that draws its order -/
theorem drawT_after (hc : CfgOK c) (hP : B.P = c.P) (hgl : B.glob = c.glob) {id : Nat} {os : Array Oper} {k : List SItem} {s : SF} {rest : List SF} {H : List SO} {β : Val} {fr : Frame} {frs : List Frame} {w : World} (hF : FrameRel β s fr) (hR : FramesRel β rest frs) (hH : HeapRel B.P B.O B.w0 β H w) (hG : BRel B β)
    (hl : ((fr :: frs).getLast?).map (·.fn) = some B.fn0) (htd : s.todo = .code (.region id os true) :: k) (hob : (drawT os k s rest c H go).Ob D S) : After B go D S (lone fr (frs ++ B.cs) w) := by
  unfold drawT drawB at hob
  cases ha : anyApp (takeN os.toList (headLen (masks os.toList []) 0)) with
  | true =>
    rw [ha] at hob
    unfold drawA at hob
    simp only [boolC_true] at hob
    cases hf : lastFree c.P os (headLen (masks os.toList []) 0) (masks os.toList []) with
    | false =>
      rw [hf, boolC_false] at hob
      cases hb : chainB c.P (takeN os.toList (headLen (masks os.toList []) 0)) (masks os.toList []) (takeN os.toList (headLen (masks os.toList []) 0)) (masks os.toList []) 0 with
      | true => rw [hb] at hob; exact chainS_after hc hP hgl hF hR hH hG hl htd hob
      | false => rw [hb] at hob; exact drawE_after hc hP hF hR hH hG hl htd hob
    | true =>
      rw [hf, boolC_true] at hob
      cases hb : chainB c.P (takeN os.toList (Nat.pred (headLen (masks os.toList []) 0))) (masks os.toList []) (takeN os.toList (Nat.pred (headLen (masks os.toList []) 0))) (masks os.toList []) 0 with
      | true => rw [hb] at hob; exact chainL_after hc hP hgl hF hR hH hG hl htd hob
      | false => rw [hb] at hob; exact drawE_after hc hP hF hR hH hG hl htd hob
  | false =>
    rw [ha] at hob
    unfold drawR at hob
    simp only [boolC_false] at hob
    cases hr : anyRun c (takeN os.toList (headLen (masks os.toList []) 0)) with
    | false => rw [hr] at hob; exact drawS_after hc hP hgl hF hR hH hG hl htd hob
    | true =>
      rw [hr, boolC_true] at hob
      cases hf : lastFree c.P os (headLen (masks os.toList []) 0) (masks os.toList []) with
      | false => rw [hf] at hob; exact chainS_after hc hP hgl hF hR hH hG hl htd hob
      | true => rw [hf] at hob; exact chainL_after hc hP hgl hF hR hH hG hl htd hob

end
end Go.Sim


/-
  The symbolic simulator, twenty-fifth part: one step, and a run of steps.
-/
namespace Go.Sim
variable {α : Type}

section
variable {c : Cfg} {B : Base} {go : SS → Tree} {D : SV → List SO → Prop} {S : SS → Prop}

theorem alloc_get (w : World) (o : Obj) : (w.alloc o).heap[w.heap.size]? = some o := by
  show (w.heap.push o)[w.heap.size]? = _
  simp
/-- a range over a function: entered, or answered at once -/
theorem step_range_enter {P : Program} {b : Frame} {a : Act} {k : List Item} {cs : List Frame} {w : World} {g : Operand} {ps : Array Tmp} {assign body : Code} {l : Nat} {mark : List Deferred} {w₁ w₂ : World} {f : FuncId} {args : Array Value}
    (he : (Instr.enterLoop b.fn a.tmps ps assign body b.roundOf).run P w = .ok (l, mark) w₁) {d : Deferred}
    (hres : (resolve a.eval (rangeCall g l) 0).run P w₁ = .ok d w₁) (hinv : (invoke d.target d.args).run P w₁ = .ok (.enter f args) w₂) :
    step P (lone (b.atR a (.code (.rangeFunc g ps assign body) :: k)) cs w) = .next (lone (Frame.enter P f args .normal) (b.atR { a with defers := mark ++ a.defers } (.inRangeFunc l :: k) :: cs) w₂) :=
  stepR_rangeFunc he hres hinv
theorem step_range_value {P : Program} {b : Frame} {a : Act} {k : List Item} {cs : List Frame} {w : World} {g : Operand} {ps : Array Tmp} {assign body : Code} {l : Nat} {mark : List Deferred} {w₁ w₂ : World} {v : Value}
    (he : (Instr.enterLoop b.fn a.tmps ps assign body b.roundOf).run P w = .ok (l, mark) w₁) {d : Deferred}
    (hres : (resolve a.eval (rangeCall g l) 0).run P w₁ = .ok d w₁) (hinv : (invoke d.target d.args).run P w₁ = .ok (.value v) w₂) :
    step P (lone (b.atR a (.code (.rangeFunc g ps assign body) :: k)) cs w) = .next (lone ((b.atR { a with defers := mark ++ a.defers } (.inRangeFunc l :: k)).finish v) cs w₂) :=
  step_lone_go (by
    have hev := Frame.eval_atR b { a with defers := mark ++ a.defers } (.inRangeFunc l :: k)
    simp only [Frame.atR] at hev
    have hres' : Sem.run P (resolve ({ tmps := a.tmps, defers := mark ++ a.defers } : Act).eval { callee := .value g, args := #[.const (.func (.yield l) #[] #[])], argTypes := #[] } 0) w₁ = .ok d w₁ := hres
    simp [stepG, stepG.exec, Frame.atR, Sem.runT_eq, he, GStep.bare_after, stepG.apply, hev, Sem.run_bind, hres', hinv, Result.andThen])

theorem callT_enter {P : Program} {β : Val} {w : World} {f : SV} {fv : Value} {az args : List SV} {vs : List Value} {g : FuncId} (h : callT f az = .ok (.enter g args)) (hf : f.den β = some fv) (has : SV.denL β az = some vs) :
    ∃ d us, (Deferred.ofValue fv vs.toArray).run P w = .ok d w ∧ SV.denL β args = some us ∧ (invoke d.target d.args).run P w = (callFunc g us.toArray).run P w := by
  unfold callT at h
  rcases asFunc_cases f with ⟨fn, xs, ys, h'⟩ | h'
  · rw [h'] at hf h
    simp only [SV.den, Option.bind_eq_some_iff, Option.map_eq_some_iff] at hf
    obtain ⟨F, hF, x, hx, y, hy, rfl⟩ := hf
    cases fn with
    | yield nm => cases h
    | fn fn =>
      simp only [SFn.den, Option.some.injEq] at hF
      subst hF
      cases fn with
      | func g' =>
        cases h
        exact ⟨_, x ++ (vs ++ y), rfl, app_den hx (app_den has hy), by simp [invoke]⟩
      | method => cases h
      | methodOf => cases h
      | via => cases h
      | yield => cases h
  · rw [h'] at h; cases h

theorem rangeT_after (hc : CfgOK c) (hP : B.P = c.P) (hgl : B.glob = c.glob) {f : Operand} {ps : Array Tmp} {az bd : Code} {k : List SItem} {s : SF} {rest : List SF} {H : List SO} {β : Val} {fr : Frame} {frs : List Frame} {w : World} (hF : FrameRel β s fr) (hR : FramesRel β rest frs) (hH : HeapRel B.P B.O B.w0 β H w) (hG : BRel B β)
    (hl : ((fr :: frs).getLast?).map (·.fn) = some B.fn0) (htd : s.todo = .code (.rangeFunc f ps az bd) :: k) (hob : (rangeT c f ps az bd s k rest H go).Ob D S) : After B go D S (lone fr (frs ++ B.cs) w) := by
  have htd' := hF.todo
  rw [htd] at htd'
  cases hft : fr.todo with
  | nil => rw [hft] at htd'; exact htd'.elim
  | cons y k' =>
    rw [hft] at htd'
    obtain ⟨hxy, hkk⟩ := htd'
    cases y <;> first | exact hxy.elim | skip
    rename_i cd
    have hcd : cd = .rangeFunc f ps az bd := hxy
    subst hcd
    have hfv := evS_den (glob := c.glob) (a := ⟨fr.tmps, fr.defers⟩) hF.tmps (hgl ▸ hG.glob) f
    unfold rangeT at hob
    have hround := hF.round
    rw [lenN_eq] at hob
    -- the call, from the world with the record in it
    have key : ∀ (β1 : Val) (H1 : List SO) (w1 : World) (nm : Nat) (ll : Loc) (sd : List SD) (mark : List Deferred), β.le β1 → β1 nm = some ll → HeapRel B.P B.O B.w0 β1 H1 w1 → SD.denL β1 sd = some (mark ++ fr.defers) →
        (Instr.enterLoop fr.fn fr.tmps ps az bd fr.roundOf).run B.P w = .ok (ll.blk, mark) w1 →
        (match callT (evS c.glob s.tmps f) [.func (.yield nm) [] []] with
          | .ok (.enter g args) => callFT c g args ⟨s.fn, s.tmps, .inRF nm :: k, sd, s.roundOf⟩ rest H1 go
          | _ => .stuck 414).Ob D S → After B go D S (lone fr (frs ++ B.cs) w) := by
      intro β1 H1 w1 nm ll sd mark hle hnm hH1 hsd hent hob
      split at hob
      · rename_i g args hcall
        have hyd : SV.denL β1 [.func (.yield nm) [] []] = some [.func (.yield ll.blk) #[] #[]] := by
          simp [SV.denL, SV.den, SFn.den, hnm]
        obtain ⟨d, us, hd, hus, hinv⟩ := callT_enter (P := B.P) (w := w1) hcall (SV.den_mono hle _ hfv) hyd
        have hF1 : FrameRel β1 ⟨s.fn, s.tmps, .inRF nm :: k, sd, s.roundOf⟩ (fr.atR ⟨fr.tmps, mark ++ fr.defers⟩ (.inRangeFunc ll.blk :: k')) :=
          ⟨hF.fn, SV.denL_mono hle _ hF.tmps, ⟨⟨ll, hnm, rfl⟩, hkk.mono hle⟩, hsd, rfl, hF.kind, hF.round.mono hle⟩
        have hres : (resolve (Act.eval ⟨fr.tmps, fr.defers⟩) (rangeCall f ll.blk) 0).run B.P w1 = .ok d w1 := by
          have e : resolve (Act.eval ⟨fr.tmps, fr.defers⟩) (rangeCall f ll.blk) 0 = Deferred.ofValue (Act.eval ⟨fr.tmps, fr.defers⟩ f) #[.func (.yield ll.blk) #[] #[]] := by simp [resolve, Act.eval]
          rw [e]; exact hd
        refine callFT_after hc hP hgl hF1 (hR.mono hle) hH1 (hG.mono hle) ((last_fn (f := fr) (f' := fr.atR ⟨fr.tmps, mark ++ fr.defers⟩ (.inRangeFunc ll.blk :: k')) rfl).trans hl) hus hob (fun he => .one ?_) fun v w' he => .one ?_
        · conv => lhs; rw [frame_eta hF.mode, hft]
          exact step_range_enter (a := ⟨fr.tmps, fr.defers⟩) hent hres (hinv.trans he)
        · conv => lhs; rw [frame_eta hF.mode, hft]
          exact step_range_value (a := ⟨fr.tmps, fr.defers⟩) hent hres (hinv.trans he)
      · exact hob.elim
    cases hro : s.roundOf with
    | none =>
      rw [hro] at hob hround
      have hfr : fr.roundOf = none := by
        cases hx : fr.roundOf with
        | none => rfl
        | some b => rw [hx] at hround; exact hround.elim
      have hb0 := hH.bound _ (Nat.le_refl H.length)
      have hE1 : Eff B.P β w H.length [] [.deferred (some [])] (β.upd H.length ⟨w.heap.size, 0, 0⟩) (w.alloc (.deferred (some []))) :=
        Eff.lay1 hb0 rfl ⟨_, some [], Val.upd_same _ _ _, rfl, alloc_get _ _⟩
      have hH1 := hH.apply hE1 (by simp)
      rw [applyH_eq] at hH1
      replace hH1 : HeapRel B.P B.O B.w0 _ (H ++ [.deferred (some [])]) _ := hH1
      have hlen : (H ++ [SO.deferred (some [])]).length = H.length + 1 := by simp
      have hb1 := hH1.bound _ (Nat.le_refl _)
      have hE2 : Eff B.P (β.upd H.length ⟨w.heap.size, 0, 0⟩) (w.alloc (.deferred (some []))) (H ++ [SO.deferred (some [])]).length [] [.loop .ready none s.fn s.tmps ps az bd H.length] ((β.upd H.length ⟨w.heap.size, 0, 0⟩).upd (H ++ [SO.deferred (some [])]).length ⟨(w.alloc (.deferred (some []))).heap.size, 0, 0⟩)
          ((w.alloc (.deferred (some []))).alloc (.loop { state := .ready, pending := none, fn := fr.fn, tmps := fr.tmps, params := ps, assign := az, body := bd, defers := w.heap.size })) := by
        refine Eff.lay1 hb1 rfl ⟨_, ⟨w.heap.size, 0, 0⟩, fr.tmps.toList, Val.upd_same _ _ _, Val.upd_le hb1 _ _ (Val.upd_same _ _ _), SV.denL_mono (Val.le_trans hE1.le (Val.upd_le hb1)) _ hF.tmps, ?_⟩
        rw [hF.fn]; exact alloc_get _ _
      have hH2 := hH1.apply hE2 (by simp)
      rw [applyH_eq] at hH2
      have hle := Val.le_trans hE1.le hE2.le
      refine key _ _ _ (H.length + 1) ⟨(w.alloc (.deferred (some []))).heap.size, 0, 0⟩ (.coll H.length :: s.defers) [{ target := .collected w.heap.size, args := #[] }] hle ?_ hH2 ?_ ?_ ?_
      · rw [← hlen]; exact Val.upd_same _ _ _
      · have h1 := hE2.le _ _ (Val.upd_same β H.length ⟨w.heap.size, 0, 0⟩)
        have h2 := SD.denL_mono (Val.le_trans hE1.le hE2.le) hF.defers
        show (SD.den _ (.coll H.length)).bind _ = _
        simp only [SD.den, h1, Option.map_some, Option.bind_some, h2]
        rfl
      · rw [hfr, run_enterLoop_outer, World.size_alloc]
      · have e : setsH (H ++ [SO.deferred (some [])]) [] ++ [SO.loop .ready none s.fn s.tmps ps az bd H.length] = app H [.deferred (some []), .loop .ready none s.fn s.tmps ps az bd H.length] := by
          rw [app_eq]; show (H ++ _) ++ _ = _; simp
        rw [e, hro]
        exact hob
    | some nm0 =>
      rw [hro] at hob hround
      simp only at hob
      cases hx : fr.roundOf with
      | none => rw [hx] at hround; exact hround.elim
      | some b =>
        rw [hx] at hround
        obtain ⟨l0, hl0, rfl⟩ := hround
        split at hob
        · rename_i st p f0 T0 ps0 a0 b0 d hloop
          obtain ⟨l1, r, hl1, hh, _, _, _, _, _, _, _, ⟨ld, hd, hrd⟩, _⟩ := loop_turn hH (loopOf_spec hloop)
          rw [hl0] at hl1; cases hl1
          have hb0 := hH.bound _ (Nat.le_refl H.length)
          have hE1 : Eff B.P β w H.length [] [.loop .ready none s.fn s.tmps ps az bd d] (β.upd H.length ⟨w.heap.size, 0, 0⟩)
              (w.alloc (.loop { state := .ready, pending := none, fn := fr.fn, tmps := fr.tmps, params := ps, assign := az, body := bd, defers := r.defers })) := by
            refine Eff.lay1 hb0 rfl ⟨_, ld, fr.tmps.toList, Val.upd_same _ _ _, Val.upd_le hb0 _ _ hd, SV.denL_mono (Val.upd_le hb0) _ hF.tmps, ?_⟩
            rw [hF.fn, hrd]; exact alloc_get _ _
          have hH1 := hH.apply hE1 (by simp)
          rw [applyH_eq] at hH1
          refine key _ _ _ H.length _ s.defers [] hE1.le (Val.upd_same _ _ _) hH1 ?_ ?_ ?_
          · rw [List.nil_append]; exact SD.denL_mono hE1.le hF.defers
          · rw [hx]; exact run_enterLoop_inner hh _ _ _ _ _
          · have e : setsH H [] ++ [SO.loop .ready none s.fn s.tmps ps az bd d] = app H [.loop .ready none s.fn s.tmps ps az bd d] := by
              rw [app_eq]; rfl
            rw [e, hro]
            split at hob
            · rename_i g args hcall
              rw [hcall]; exact hob
            · exact hob.elim
        · exact hob.elim

/-- ONE STEP -/
theorem step_sound (hc : CfgOK c) (hP : B.P = c.P) (hgl : B.glob = c.glob) {s : SS} {m : Machine} (hM : MRel B s m) (hob : (stepT c s go).Ob D S) : After B go D S m := by
  obtain ⟨β, fr, frs, w, rfl, hFs, hH, hG, hl⟩ := hM.ex
  obtain ⟨frames, H⟩ := s
  cases frames with
  | nil => exact hFs.elim
  | cons s rest =>
    obtain ⟨hF, hR⟩ := hFs
    replace hob : (todoT s.todo s rest c H go).Ob D S := hob
    cases htd : s.todo with
    | nil => rw [htd] at hob; exact returnT_after hP hF hR hH hG hl (.inl htd) hob
    | cons x k =>
      rw [htd] at hob
      replace hob : (itemT x k s rest c H go).Ob D S := hob
      have htd' := hF.todo
      rw [htd] at htd'
      cases hft : fr.todo with
      | nil => rw [hft] at htd'; exact htd'.elim
      | cons y k' =>
        rw [hft] at htd'
        obtain ⟨hxy, hkk⟩ := htd'
        cases x with
        | inBlock id =>
          cases y <;> first | exact hxy.elim | skip
          refine after_to hF hR hH hG hl hkk hob ?_
          rw [hft]; exact stepR_inBlock
        | inScope cd =>
          cases y <;> first | exact hxy.elim | skip
          refine after_to hF hR hH hG hl hkk hob ?_
          rw [hft]; exact step_lone_go (by simp [stepG, stepG.exec, Frame.atR])
        | inLoop cd =>
          cases y <;> first | exact hxy.elim | skip
          · rename_i cd'
            have : cd' = .loop cd := hxy
            subst this
            refine after_to hF hR hH hG hl (k := .code cd :: .inLoop cd :: k) (k' := .code cd :: .inLoop cd :: k') ⟨rfl, rfl, hkk⟩ hob ?_
            rw [hft]; exact stepR_loop
          · rename_i cd'
            have : cd' = cd := hxy
            subst this
            refine after_to hF hR hH hG hl (k := .code cd' :: .inLoop cd' :: k) (k' := .code cd' :: .inLoop cd' :: k') ⟨rfl, rfl, hkk⟩ hob ?_
            rw [hft]; exact stepR_inLoop
        | inRF nm => exact hob.elim
        | endRF nm =>
          cases y <;> first | exact hxy.elim | skip
          rename_i b
          obtain ⟨l0, hl0, rfl⟩ := hxy
          replace hob : (endRFT nm k s rest c H go).Ob D S := hob
          unfold endRFT at hob
          split at hob
          · rename_i st p f T ps a b d hloop
            obtain ⟨l1, r, hl1, hh, hst, hpe, _, _, _, _, _, _, hturn⟩ := loop_turn hH (loopOf_spec hloop)
            rw [hl0] at hl1; cases hl1
            obtain ⟨hnb, td, htd2, hob⟩ : st ≠ .busy ∧ ∃ td, TodoRel β td ((p.map Item.code).toList ++ k') ∧ (go ⟨⟨s.fn, s.tmps, td, s.defers, s.roundOf⟩ :: rest, setN H nm (.loop .exhausted p f T ps a b d)⟩).Ob D S := by
              cases st <;> first
                | exact hob.elim
                | (cases p with
                  | none => exact ⟨by simp, k, hkk, hob⟩
                  | some j => exact ⟨by simp, .code j :: k, ⟨rfl, hkk⟩, hob⟩)
            subst hpe
            have hrun := run_endLoop (P := B.P) hh (by rw [hst]; exact hnb)
            have hstep := stepR_endRangeFunc (P := B.P) (b := fr) (a := ⟨fr.tmps, fr.defers⟩) (k := k') (cs := frs ++ B.cs) hrun
            rw [← hft, ← frame_eta hF.mode] at hstep
            have hH' := hturn .exhausted r.pending
            exact ⟨_, .one hstep, .inl ⟨_, hob, ⟨β, _, frs, _, rfl, ⟨⟨hF.fn, hF.tmps, htd2, hF.defers, rfl, hF.kind, hF.round⟩, hR⟩, hH', hG, Eq.trans (last_fn (f := fr) (f' := fr.atR ⟨fr.tmps, fr.defers⟩ _) rfl) hl⟩⟩⟩
          · exact hob.elim
        | beginRound =>
          cases y <;> first | exact hxy.elim | skip
          replace hob : (beginT k s rest c H go).Ob D S := hob
          unfold beginT at hob
          split at hob
          · rename_i nm hro
            have hround := hF.round
            rw [hro] at hround
            cases hx : fr.roundOf with
            | none => rw [hx] at hround; exact hround.elim
            | some b =>
              rw [hx] at hround
              obtain ⟨l0, hl0, rfl⟩ := hround
              split at hob
              · rename_i p f T ps a b d hloop
                obtain ⟨l1, r, hl1, hh, hst, hpe, _, _, _, _, _, _, hturn⟩ := loop_turn hH (loopOf_spec hloop)
                rw [hl0] at hl1; cases hl1
                subst hpe
                have hstep := stepR_beginRound (P := B.P) (b := fr) (a := ⟨fr.tmps, fr.defers⟩) (k := k') (cs := frs ++ B.cs) hx (run_beginRound hh hst)
                rw [← hft, ← frame_eta hF.mode] at hstep
                have hH' := hturn .busy r.pending
                exact ⟨_, .one hstep, .inl ⟨_, hob, ⟨β, _, frs, _, rfl, ⟨⟨hF.fn, hF.tmps, hkk, hF.defers, rfl, hF.kind, hF.round⟩, hR⟩, hH', hG, Eq.trans (last_fn (f := fr) (f' := fr.atR ⟨fr.tmps, fr.defers⟩ _) rfl) hl⟩⟩⟩
              · exact hob.elim
          · exact hob.elim
        | ops os l =>
          cases l with
          | nil =>
            cases y <;> first | exact hxy.elim | skip
            rename_i os' idx
            obtain ⟨rfl, hat⟩ := hxy
            cases idx with
            | cons => exact hat.elim
            | nil =>
            refine after_to hF hR hH hG hl hkk hob ?_
            rw [hft]; exact stepR_region_end
          | cons o l => exact opT_after hc hP hgl hF hR hH hG hl htd hob
        | code cd =>
          cases y <;> first | exact hxy.elim | skip
          rename_i cd'
          have hcd : cd' = cd := hxy
          subst hcd
          replace hob : (codeT cd' k s rest c H go).Ob D S := hob
          cases cd' with
          | skip => refine after_to hF hR hH hG hl hkk hob ?_; rw [hft]; exact stepR_skip
          | label n => refine after_to hF hR hH hG hl hkk hob ?_; rw [hft]; exact stepR_label
          | seq a b => refine after_to hF hR hH hG hl (k := .code a :: .code b :: k) (k' := .code a :: .code b :: k') ⟨rfl, rfl, hkk⟩ hob ?_; rw [hft]; exact stepR_seq
          | block id body => refine after_to hF hR hH hG hl (k := .code body :: .inBlock id :: k) (k' := .code body :: .inBlock id :: k') ⟨rfl, rfl, hkk⟩ hob ?_; rw [hft]; exact stepR_block
          | loop body =>
            replace hob : (go ⟨s.to (.inLoop body :: k) :: rest, H⟩).Ob D S := hob
            exact ⟨_, .refl _ _, .inl ⟨_, hob, ⟨β, fr, frs, w, rfl, ⟨⟨hF.fn, hF.tmps, by rw [hft]; exact ⟨rfl, hkk⟩, hF.defers, hF.mode, hF.kind, hF.round⟩, hR⟩, hH, hG, hl⟩⟩⟩
          | scope body =>
            refine after_to hF hR hH hG hl (k := .code body :: .inScope body :: k) (k' := .code body :: .inScope body :: k') ⟨rfl, rfl, hkk⟩ hob ?_
            rw [hft]; exact step_lone_go (by simp [stepG, stepG.exec, Frame.atR])
          | goto n => exact hob.elim
          | refuse w => exact hob.elim
          | ret => exact returnT_after hP hF hR hH hG hl (.inr ⟨k, htd⟩) hob
          | exit id =>
            replace hob : (exitT id k s rest c H go).Ob D S := hob
            unfold exitT at hob
            have hsp := exitS_spec (β := β) id k k' hkk
            cases hex : exitS id k with
            | some r =>
              rw [hex] at hob hsp
              obtain ⟨r', hr', hrr⟩ := hsp
              refine after_to hF hR hH hG hl hrr hob ?_
              rw [hft]; exact stepR_exit hr'
            | none =>
              rw [hex] at hob hsp
              simp only at hob hsp
              split at hob
              · rename_i nm hro
                have hround := hF.round
                rw [hro] at hround
                cases hx : fr.roundOf with
                | none => rw [hx] at hround; exact hround.elim
                | some b =>
                  rw [hx] at hround
                  obtain ⟨l0, hl0, rfl⟩ := hround
                  refine endRound_after hR hH hG hl hob fun l cc cs w' hb hrun => ?_
                  rw [hl0] at hb; cases hb
                  rw [frame_eta hF.mode, hft]
                  exact stepR_round_exit hx hF.kind hsp hrun
              · exact hob.elim
          | cond x a b =>
            replace hob : (condT x a b k s rest c H go).Ob D S := hob
            unfold condT at hob
            have hx := evS_den (glob := c.glob) (a := ⟨fr.tmps, fr.defers⟩) hF.tmps (hgl ▸ hG.glob) x
            rcases asBool_cases (evS c.glob s.tmps x) with ⟨v, hv⟩ | hno
            · rw [hv] at hob hx
              have hval : Act.eval ⟨fr.tmps, fr.defers⟩ x = .bool v.den := (Option.some.inj hx).symm
              have key : ∀ t : Bool, v.den = t → (go ⟨s.to (.code (if t then a else b) :: k) :: rest, H⟩).Ob D S → After B go D S (lone fr (frs ++ B.cs) w) := by
                intro t ht hob
                refine after_to hF hR hH hG hl (k := .code (if t then a else b) :: k) (k' := .code (if t then a else b) :: k') ⟨rfl, hkk⟩ hob ?_
                rw [hft]
                exact stepR_cond (by rw [hval, ht])
              cases v with
              | lit v => cases v with
                | true => exact key true rfl hob
                | false => exact key false rfl hob
              | sym v => cases v with
                | true => exact key true rfl (hob.1 rfl)
                | false => exact key false rfl (hob.2 rfl)
            · rw [hno] at hob; exact hob.elim
          | region id os draw =>
            cases draw with
            | true => exact drawT_after hc hP hgl hF hR hH hG hl htd hob
            | false =>
              refine after_to hF hR hH hG hl (k := .ops os os.toList :: k) (k' := .inRegion os (List.range os.size) :: k') ⟨⟨rfl, OpsAt.all os⟩, hkk⟩ hob ?_
              rw [hft]; exact stepR_region
          | rangeFunc f ps a b => exact rangeT_after hc hP hgl hF hR hH hG hl htd hob

/-- what a run comes to -/
def Ends (B : Base) (D : SV → List SO → Prop) (S : SS → Prop) (m : Machine) : Prop :=
  ∃ m', Steps B.P m m' ∧ ((∃ v H, D v H ∧ DoneRel B v H m') ∨ (∃ s, S s ∧ MRel B s m'))
theorem sim_sound (hc : CfgOK c) (hP : B.P = c.P) (hgl : B.glob = c.glob) : ∀ (n : Nat) (s : SS) (m : Machine), MRel B s m → (sim c n s).Ob D S → Ends B D S m := by
  intro n
  induction n with
  | zero => intro s m hM h; exact ⟨m, .refl _ _, .inr ⟨s, h, hM⟩⟩
  | succ n ih =>
    intro s m hM h
    replace h : (boolC (stopS c s) (.stop s) (stepT c s (sim c n))).Ob D S := h
    cases hst : stopS c s with
    | true => rw [hst] at h; exact ⟨m, .refl _ _, .inr ⟨s, h, hM⟩⟩
    | false =>
      rw [hst] at h
      obtain ⟨m1, hs, ⟨s', h', hM'⟩ | ⟨v, H, hD, hM'⟩⟩ := step_sound hc hP hgl hM h
      · obtain ⟨m2, hs2, hr⟩ := ih s' m1 hM' h'
        exact ⟨m2, hs.trans hs2, hr⟩
      · exact ⟨m1, hs, .inl ⟨v, H, hD, hM'⟩⟩
theorem sim1_sound (hc : CfgOK c) (hP : B.P = c.P) (hgl : B.glob = c.glob) {n : Nat} {s : SS} {m : Machine} (hM : MRel B s m) (h : (sim1 c n s).Ob D S) : Ends B D S m := by
  obtain ⟨m1, hs, ⟨s', h', hM'⟩ | ⟨v, H, hD, hM'⟩⟩ := step_sound hc hP hgl hM h
  · obtain ⟨m2, hs2, hr⟩ := sim_sound hc hP hgl n s' m1 hM' h'
    exact ⟨m2, hs.trans hs2, hr⟩
  · exact ⟨m1, hs, .inl ⟨v, H, hD, hM'⟩⟩

end
end Go.Sim


/-
  The symbolic simulator, twenty-sixth part: calls.
-/
namespace Go.Sim
variable {α : Type}

/-- a call, run to its end -/
noncomputable def callSim (c : Cfg) (n : Nat) (f : FuncId) (args : List SV) (H : List SO) : Tree := optC (enterF c.P f args) (.stuck 500) fun g => sim c n ⟨[g], H⟩

/-- the outcome of a call that comes to its end -/
def Came (P : Program) (O : Nat → Prop) (w0 : World) (β : Val) (D : SV → List SO → Prop) (e : Ending) (w' : World) : Prop :=
  ∃ v H x β', e = .returned x ∧ D v H ∧ β.le β' ∧ v.den β' = some x ∧ HeapRel P O w0 β' H w'

theorem enter_mrel {c : Cfg} {O : Nat → Prop} {w0 w : World} {β : Val} {H : List SO} {f : FuncId} {args : List SV} {vs : List Value} {g : SF} (hH : HeapRel c.P O w0 β H w) (hG : GlobRel c.glob β) (ha : SV.denL β args = some vs) (hg : enterF c.P f args = some g) (cs : List Frame) :
    MRel ⟨c.P, c.glob, O, w0, cs, f, β⟩ ⟨[g], H⟩ (lone (Frame.enter c.P f vs.toArray .normal) cs w) := by
  obtain ⟨h1, _⟩ := enter_rel hg ha
  exact ⟨β, _, [], w, rfl, ⟨h1, trivial⟩, hH, ⟨hG, Val.le_refl β⟩, rfl⟩

/-- CALLS FROM A RUN OF THE SIMULATOR -/
theorem calls_of {c : Cfg} (hc : CfgOK c) {n : Nat} {O : Nat → Prop} {w0 w : World} {β : Val} {H : List SO} {f : FuncId} {args : List SV} {vs : List Value} (hH : HeapRel c.P O w0 β H w) (hG : GlobRel c.glob β) (ha : SV.denL β args = some vs) {D : SV → List SO → Prop}
    (hob : (callSim c n f args H).Ob D fun _ => False) : Calls c.P f vs.toArray w (Came c.P O w0 β D) := by
  intro cs
  unfold callSim at hob
  cases hg : enterF c.P f args with
  | none => rw [hg] at hob; exact hob.elim
  | some g =>
    rw [hg] at hob
    obtain ⟨m', hs, ⟨v, H', hD, hdone⟩ | ⟨s, hS, _⟩⟩ := sim_sound (B := ⟨c.P, c.glob, O, w0, cs, f, β⟩) hc rfl rfl n _ _ (enter_mrel hH hG ha hg cs) hob
    · obtain ⟨β', fr, x, w', rfl, hfn, hleave, hv, hH', hG'⟩ := hdone.ex
      exact ⟨.returned x, w', fr, ⟨v, H', x, β', rfl, hD, hG'.fix, hv, hH'⟩, hs, hfn, hleave⟩
    · exact hS.elim

/-- nothing that was there has turned -/
theorem Keep.below {w w' : World} (h : Keep (fun _ => False) w w') : Go.RowKit.Below w.heap.size w w' :=
  ⟨h.os, h.tape, h.output, h.size, fun k hk => h.block k hk fun f => f⟩

/- A world in which nothing has a name. -/
def noNames : Val := fun _ => none
theorem HeapRel.start (P : Program) (O : Nat → Prop) (w : World) : HeapRel P O w noNames [] w :=
  ⟨⟨by simp, by simp, by simp, ⟨rfl, rfl, rfl, Nat.le_refl _, Nat.le_refl _, fun _ _ _ => rfl⟩⟩, fun _ _ => rfl⟩
theorem GlobRel.none (β : Val) : GlobRel (fun _ => Option.none) β := fun _ _ h => by cases h
end Go.Sim


/-
  The symbolic simulator, twenty-seventh part: a summary of a function from its run on a small heap, in which nothing but what it is given has a name.
-/
namespace Go.Sim
variable {α : Type}

/- Names turned. -/
def SA.ren (f : Nat → Nat) (a : SA) : SA := ⟨f a.nm, a.off⟩
def SC.ren (f : Nat → Nat) : SC → SC
  | .lit n => .lit n
  | .sym n => .sym n
  | .rest nm k => .rest (f nm) k
def SFn.ren (f : Nat → Nat) : SFn → SFn
  | .fn g => .fn g
  | .yield nm => .yield (f nm)
mutual
def SV.ren (f : Nat → Nat) : SV → SV
  | .int k n => .int k n
  | .bool b => .bool b
  | .str s => .str s
  | .ptr a => .ptr (a.ren f)
  | .nilPtr => .nilPtr
  | .slice a l c => .slice (a.ren f) l (c.ren f)
  | .nilSlice => .nilSlice
  | .map nm => .map (f nm)
  | .nilMap => .nilMap
  | .func g xs ys => .func (g.ren f) (SV.renL f xs) (SV.renL f ys)
  | .nilFunc => .nilFunc
  | .iface t v => .iface t (v.ren f)
  | .nilIface => .nilIface
  | .agg l => .agg (SV.renL f l)
  | .tuple l => .tuple (SV.renL f l)
  | .val v => .val v
  | .tail a n l c => .tail (a.ren f) n l (c.ren f)
def SV.renL (f : Nat → Nat) : List SV → List SV
  | [] => []
  | v :: l => v.ren f :: SV.renL f l
end
theorem SC.den_ren (f : Nat → Nat) (β : Val) (c : SC) : (c.ren f).den β = c.den (fun n => β (f n)) := by cases c <;> rfl
theorem SFn.den_ren (f : Nat → Nat) (β : Val) (c : SFn) : (c.ren f).den β = c.den (fun n => β (f n)) := by cases c <;> rfl
mutual
theorem SV.den_ren (f : Nat → Nat) (β : Val) : (v : SV) → (v.ren f).den β = v.den (fun n => β (f n))
  | .int _ _ => rfl
  | .bool _ => rfl
  | .str _ => rfl
  | .ptr _ => rfl
  | .nilPtr => rfl
  | .slice a l c => by simp only [SV.ren, SV.den, SC.den_ren]; rfl
  | .nilSlice => rfl
  | .map _ => rfl
  | .nilMap => rfl
  | .func g xs ys => by simp only [SV.ren, SV.den, SFn.den_ren, SV.denL_ren f β xs, SV.denL_ren f β ys]
  | .nilFunc => rfl
  | .iface t v => by simp only [SV.ren, SV.den, SV.den_ren f β v]
  | .nilIface => rfl
  | .agg l => by simp only [SV.ren, SV.den, SV.denL_ren f β l]
  | .tuple l => by simp only [SV.ren, SV.den, SV.denL_ren f β l]
  | .val _ => rfl
  | .tail a n l c => by simp only [SV.ren, SV.den, SC.den_ren]; rfl
theorem SV.denL_ren (f : Nat → Nat) (β : Val) : (l : List SV) → SV.denL β (SV.renL f l) = SV.denL (fun n => β (f n)) l
  | [] => rfl
  | v :: l => by simp only [SV.renL, SV.denL, SV.den_ren f β v, SV.denL_ren f β l]
end
/- What is named. -/
def SC.uses (p : Nat → Bool) : SC → Bool
  | .rest nm _ => p nm
  | _ => true
def SFn.uses (p : Nat → Bool) : SFn → Bool
  | .yield nm => p nm
  | _ => true
mutual
def SV.uses (p : Nat → Bool) : SV → Bool
  | .ptr a => p a.nm
  | .slice a _ c => p a.nm && c.uses p
  | .tail a _ _ c => p a.nm && c.uses p
  | .map nm => p nm
  | .func g xs ys => g.uses p && (SV.usesL p xs && SV.usesL p ys)
  | .iface _ v => v.uses p
  | .agg l => SV.usesL p l
  | .tuple l => SV.usesL p l
  | _ => true
def SV.usesL (p : Nat → Bool) : List SV → Bool
  | [] => true
  | v :: l => v.uses p && SV.usesL p l
end
theorem SC.den_uses {p : Nat → Bool} {β β' : Val} (hp : ∀ n, p n = true → β n = β' n) {c : SC} (h : c.uses p = true) : c.den β = c.den β' := by
  cases c with
  | rest nm k => simp only [SC.den, hp nm h]
  | _ => rfl
theorem SFn.den_uses {p : Nat → Bool} {β β' : Val} (hp : ∀ n, p n = true → β n = β' n) {c : SFn} (h : c.uses p = true) : c.den β = c.den β' := by
  cases c with
  | yield nm => simp only [SFn.den, hp nm h]
  | _ => rfl
mutual
theorem SV.den_uses {p : Nat → Bool} {β β' : Val} (hp : ∀ n, p n = true → β n = β' n) : (v : SV) → v.uses p = true → v.den β = v.den β'
  | .int _ _, _ => rfl
  | .bool _, _ => rfl
  | .str _, _ => rfl
  | .ptr a, h => by simp only [SV.den, SA.den, hp a.nm h]
  | .nilPtr, _ => rfl
  | .slice a l c, h => by
    simp only [SV.uses, Bool.and_eq_true] at h
    simp only [SV.den, SA.den, hp a.nm h.1, SC.den_uses hp h.2]
  | .nilSlice, _ => rfl
  | .map nm, h => by simp only [SV.den, hp nm h]
  | .nilMap, _ => rfl
  | .func g xs ys, h => by
    simp only [SV.uses, Bool.and_eq_true] at h
    simp only [SV.den, SFn.den_uses hp h.1, SV.denL_uses hp xs h.2.1, SV.denL_uses hp ys h.2.2]
  | .nilFunc, _ => rfl
  | .iface t v, h => by simp only [SV.den, SV.den_uses hp v h]
  | .nilIface, _ => rfl
  | .agg l, h => by simp only [SV.den, SV.denL_uses hp l h]
  | .tuple l, h => by simp only [SV.den, SV.denL_uses hp l h]
  | .val _, _ => rfl
  | .tail a n l c, h => by
    simp only [SV.uses, Bool.and_eq_true] at h
    simp only [SV.den, SA.den, hp a.nm h.1, SC.den_uses hp h.2]
theorem SV.denL_uses {p : Nat → Bool} {β β' : Val} (hp : ∀ n, p n = true → β n = β' n) : (l : List SV) → SV.usesL p l = true → SV.denL β l = SV.denL β' l
  | [], _ => rfl
  | v :: l, h => by
    simp only [SV.usesL, Bool.and_eq_true] at h
    simp only [SV.denL, SV.den_uses hp v h.1, SV.denL_uses hp l h.2]
end
def Cells.ren (f : Nat → Nat) : Cells → Cells
  | .lst l => .lst (SV.renL f l)
  | .fn g n => .fn (fun i => (g i).ren f) n
  | .raw V n => .raw V n
def Cells.Uses (p : Nat → Bool) : Cells → Prop
  | .lst l => SV.usesL p l = true
  | .fn g _ => ∀ i, (g i).uses p = true
  | .raw _ _ => True
theorem CellsRel.ren {f : Nat → Nat} {β β' : Val} {p : Nat → Bool} {c : Cells} (hu : c.Uses p) (hp : ∀ n, p n = true → β (f n) = β' n) {vs : List Value} : CellsRel β (c.ren f) vs ↔ CellsRel β' c vs := by
  cases c with
  | lst l =>
    show SV.denL β (SV.renL f l) = some vs ↔ SV.denL β' l = some vs
    rw [SV.denL_ren, SV.denL_uses hp l hu]
  | fn g n =>
    show (vs.length = n ∧ ∀ i x, vs[i]? = some x → ((g i).ren f).den β = some x) ↔ (vs.length = n ∧ ∀ i x, vs[i]? = some x → (g i).den β' = some x)
    have : ∀ i, ((g i).ren f).den β = (g i).den β' := fun i => by rw [SV.den_ren, SV.den_uses hp _ (hu i)]
    simp only [this]
  | raw V n => exact Iff.rfl

noncomputable def renEs (f : Nat → Nat) (es : List (SV × SV × Nat)) : List (SV × SV × Nat) := mapN (fun e => (e.1.ren f, e.2.1.ren f, e.2.2)) es
noncomputable def SObj.ren (f : Nat → Nat) (o : SObj) : SObj := SObj.rec (motive := fun _ => SObj) (fun es clock => .map (renEs f es) clock) (fun m since seen last => .iter (optC m none fun n => some (f n)) since seen last) (fun s pos => .str s pos) (fun ks vs es c => .amap ks vs es c) o
theorem entsDen_ren (f : Nat → Nat) (β : Val) : ∀ es : List (SV × SV × Nat), entsDen β (renEs f es) = entsDen (fun n => β (f n)) es
  | [] => rfl
  | e :: r => by
    show entsDen β ((e.1.ren f, e.2.1.ren f, e.2.2) :: renEs f r) = _
    simp only [entsDen, SV.den_ren, entsDen_ren f β r]
theorem SObj.den_ren (f : Nat → Nat) (β : Val) (o : SObj) : (o.ren f).den β = o.den (fun n => β (f n)) := by
  cases o with
  | map es clock =>
    show (entsDen β (renEs f es)).map _ = (entsDen _ es).map _
    rw [entsDen_ren]
  | iter m since seen last => cases m <;> rfl
  | str s pos => rfl
  | amap => rfl
def SObj.Imp (a b : SObj) : Prop := ∀ β x, a.den β = some x → b.den β = some x
noncomputable def usesEs (p : Nat → Bool) (es : List (SV × SV × Nat)) : Bool := List.rec (motive := fun _ => Bool) true (fun e _ ih => boolC (e.1.uses p) (boolC (e.2.1.uses p) ih false) false) es
noncomputable def SObj.uses (p : Nat → Bool) (o : SObj) : Bool := SObj.rec (motive := fun _ => Bool) (fun es _ => usesEs p es) (fun m _ _ _ => optC m true p) (fun _ _ => true) (fun _ _ _ _ => true) o
theorem boolC_and' {a b : Bool} (h : boolC a b false = true) : a = true ∧ b = true := by cases a <;> first | (cases h; done) | exact ⟨rfl, h⟩
theorem entsDen_uses {p : Nat → Bool} {β β' : Val} (hp : ∀ n, p n = true → β n = β' n) : (es : List (SV × SV × Nat)) → usesEs p es = true → entsDen β es = entsDen β' es
  | [], _ => rfl
  | e :: r, h => by
    obtain ⟨h1, h2⟩ := boolC_and' (show boolC (e.1.uses p) (boolC (e.2.1.uses p) (usesEs p r) false) false = true from h)
    obtain ⟨h2, h3⟩ := boolC_and' h2
    simp only [entsDen, SV.den_uses hp _ h1, SV.den_uses hp _ h2, entsDen_uses hp r h3]
theorem SObj.den_uses {p : Nat → Bool} {β β' : Val} (hp : ∀ n, p n = true → β n = β' n) {o : SObj} (h : o.uses p = true) : o.den β = o.den β' := by
  cases o with
  | map es c =>
    show (entsDen β es).map _ = (entsDen β' es).map _
    rw [entsDen_uses hp es h]
  | iter m since seen last =>
    cases m with
    | none => rfl
    | some m =>
      have h : p m = true := h
      show (β m).map _ = (β' m).map _
      rw [hp m h]
  | str s pos => rfl
  | amap => rfl
/-- what a function is given -/
structure Ifc where
  names : List Nat
  ents : List SO
  args : List SV
noncomputable def Ifc.big (I : Ifc) (j : Nat) : Nat := (nth I.names j).getD 0
noncomputable def Ifc.known (I : Ifc) (j : Nat) : Bool := Nat.blt j (lenN I.names)
def SO.placed : SO → Bool
  | .own _ _ _ => true
  | .row _ => true
  | _ => false
/-- whoever has the one has the other -/
def SV.Imp (v u : SV) : Prop := ∀ β x, v.den β = some x → u.den β = some x
def SV.ImpL (l m : List SV) : Prop := ∀ β vs, SV.denL β l = some vs → SV.denL β m = some vs
theorem SV.ImpL.refl (l : List SV) : SV.ImpL l l := fun _ _ h => h
def Cells.Imp (c d : Cells) : Prop := ∀ β vs, CellsRel β c vs → CellsRel β d vs
def Cells.Front (c d : Cells) : Prop := ∀ β vs, CellsRel β c vs → ∃ k, CellsRel β d (vs.take k)
theorem SV.Imp.refl (v : SV) : v.Imp v := fun _ _ h => h
theorem Cells.Imp.refl (c : Cells) : c.Imp c := fun _ _ h => h
theorem Cells.Imp.front {c d : Cells} (h : c.Imp d) : c.Front d := fun β vs x => ⟨vs.length, by rw [List.take_length]; exact h β vs x⟩
/-- the small entry is the great one's; or a name alone -/
def Taken (f : Nat → Nat) (E e : SO) : Prop :=
  match E with
  | .own c w el => ∃ c0, e = .own c0 w el ∧ c0.Imp (c.ren f)
  | .row c => ∃ c0, (e = .row c0 ∨ ∃ w el, e = .own c0 w el) ∧ c0.Front (c.ren f)
  | .gone => e.placed = true
  | _ => False
def SO.CUses (p : Nat → Bool) : SO → Prop
  | .own c _ _ => c.Uses p
  | .row c => c.Uses p
  | .gone => True
  | _ => False
structure Ifc.Fits (I : Ifc) (H : List SO) : Prop where
  len : I.ents.length = I.names.length
  nodup : ∀ (i j nm : Nat), I.names[i]? = some nm → I.names[j]? = some nm → i = j
  uargs : SV.usesL I.known I.args = true
  ent : ∀ (j : Nat) (E : SO), I.ents[j]? = some E → ∃ e, H[I.big j]? = some e ∧ Taken I.big E e
  uent : ∀ (j : Nat) (E : SO), I.ents[j]? = some E → E.CUses I.known
/-- the small valuation -/
noncomputable def Ifc.val (I : Ifc) (β : Val) : Val := fun j => if I.known j then β (I.big j) else none
def Ifc.owns (I : Ifc) (β : Val) (b : Nat) : Prop := ∃ (j : Nat) (c : Cells) (w : Bool) (el : TypeId) (l : Loc), I.ents[j]? = some (.own c w el) ∧ β (I.big j) = some l ∧ l.blk = b
theorem Ifc.known_iff (I : Ifc) (j : Nat) : I.known j = true ↔ j < I.names.length := by
  unfold Ifc.known
  rw [lenN_eq]
  constructor
  · intro h; have := Nat.le_of_ble_eq_true h; omega
  · intro h; exact Nat.ble_eq_true_of_le h
theorem Ifc.val_known {I : Ifc} {β : Val} : ∀ n, I.known n = true → β (I.big n) = I.val β n := fun n h => by unfold Ifc.val; rw [if_pos h]
theorem Ifc.big_get {I : Ifc} {j : Nat} (h : j < I.names.length) : I.names[j]? = some (I.big j) := by
  unfold Ifc.big
  rw [nth_eq, List.getElem?_eq_getElem h]; rfl

theorem World.cell_of_block {w w' : World} {a : Addr} (h : w'.heap[a.block]? = w.heap[a.block]?) : w'.cell? a = w.cell? a := by
  unfold World.cell?
  rw [h]

theorem Ifc.heap {P : Program} {O : Nat → Prop} {w0 w : World} {β : Val} {H : List SO} {I : Ifc} (h : HeapRel0 P O w0 β H w) (hI : I.Fits H) : HeapRel P (I.owns β) w (I.val β) I.ents w := by
  have hj : ∀ (j : Nat) (E : SO), I.ents[j]? = some E → j < I.names.length := fun j E he => by
    rw [← hI.len]; exact (List.getElem?_eq_some_iff.1 he).1
  have hval : ∀ (j : Nat) (E : SO), I.ents[j]? = some E → I.val β j = β (I.big j) := fun j E he => by
    exact (Ifc.val_known j ((I.known_iff j).2 (hj j E he))).symm
  have hne : ∀ (i j : Nat) (E E' : SO), I.ents[i]? = some E → I.ents[j]? = some E' → i ≠ j → I.big i ≠ I.big j := fun i j E E' h1 h2 hij heq =>
    hij (hI.nodup i j (I.big i) (Ifc.big_get (hj i E h1)) (by rw [heq]; exact Ifc.big_get (hj j E' h2)))
  refine ⟨⟨fun n E hn => ?_, fun n m E E' l l' hn hm ho ho' hnm hl hl' => ?_, fun n E l hn ho hl => ?_, ⟨rfl, rfl, rfl, Nat.le_refl _, Nat.le_refl _, fun _ _ _ => rfl⟩⟩, fun n hn => ?_⟩
  · obtain ⟨e, he, ht⟩ := hI.ent n E hn
    have hu := hI.uent n E hn
    have hv := hval n E hn
    have h0 := h.entries _ e he
    cases E with
    | own c wh el =>
      obtain ⟨c0, rfl, himp⟩ := ht
      obtain ⟨l, vs, rest, lo, hi, hl, h0', hc, hh, hfz, hw, hcap⟩ := h0
      exact ⟨l, vs, rest, lo, hi, hv.trans hl, h0', (CellsRel.ren hu Ifc.val_known).1 (himp _ _ hc), hh, hfz, hw, hcap⟩
    | row c =>
      have htake : ∀ (vs : List Value) (k i : Nat) (x : Value), (vs.take k)[i]? = some x → vs[i]? = some x := by
        intro vs k i x h
        rw [List.getElem?_take] at h
        split at h
        · exact h
        · cases h
      obtain ⟨c0, ht, himp⟩ := ht
      rcases ht with rfl | ⟨wh, el, rfl⟩
      · obtain ⟨l, vs, hl, hc, hx⟩ := h0
        obtain ⟨kk, hc⟩ := himp _ _ hc
        refine ⟨l, vs.take kk, hv.trans hl, (CellsRel.ren hu Ifc.val_known).1 hc, fun i x hi => ?_⟩
        obtain ⟨h1, h2, h3⟩ := hx i x (htake _ _ _ _ hi)
        refine ⟨Nat.lt_of_lt_of_le h1 h.keep.size, ?_, ?_⟩
        · rintro ⟨j, c', w', el', l', hj', hl', hb⟩
          obtain ⟨e', he', ht'⟩ := hI.ent j _ hj'
          obtain ⟨c1, rfl, _⟩ := ht'
          rcases h.fresh _ _ l' he' rfl hl' with h4 | h4
          · omega
          · exact h2 (hb ▸ h4)
        · rw [World.cell_of_block (h.keep.block _ h1 h2)]; exact h3
      · obtain ⟨l, vs, rest, lo, hi, hl, h0', hc, hh, hfz, hw, hcap⟩ := h0
        obtain ⟨kk, hc⟩ := himp _ _ hc
        refine ⟨l, vs.take kk, hv.trans hl, (CellsRel.ren hu Ifc.val_known).1 hc, fun i x hi0 => ⟨(Array.getElem?_eq_some_iff.1 hh).1, ?_, ?_⟩⟩
        · rintro ⟨j, c', w', el', l', hj', hl', hb⟩
          obtain ⟨e', he', ht'⟩ := hI.ent j _ hj'
          obtain ⟨c1, rfl, _⟩ := ht'
          by_cases hnj : n = j
          · subst hnj; rw [hn] at hj'; cases hj'
          · exact h.sep _ _ _ _ l l' he he' rfl rfl (hne n j _ _ hn hj' hnj) hl hl' hb.symm
        · unfold World.cell?
          rw [hh, h0', Nat.zero_add]
          have hi' := htake _ _ _ _ hi0
          have hlt := (List.getElem?_eq_some_iff.1 hi').1
          simp only [List.getElem?_toArray, List.getElem?_append_left hlt, hi']
          rfl
    | loop => exact hu.elim
    | deferred => exact hu.elim
    | gone => trivial
    | obj => exact hu.elim
  · obtain ⟨e, he, ht⟩ := hI.ent n E hn
    obtain ⟨e', he', ht'⟩ := hI.ent m E' hm
    rw [hval n E hn] at hl
    rw [hval m E' hm] at hl'
    cases E with
    | own c wh el =>
      cases E' with
      | own c' wh' el' =>
        obtain ⟨c1, rfl, _⟩ := ht
        obtain ⟨c2, rfl, _⟩ := ht'
        exact h.sep _ _ _ _ l l' he he' rfl rfl (hne n m _ _ hn hm hnm) hl hl'
      | row => cases ho'
      | loop => exact (hI.uent m _ hm).elim
      | deferred => exact (hI.uent m _ hm).elim
      | gone => cases ho'
      | obj => exact (hI.uent m _ hm).elim
    | row => cases ho
    | loop => exact (hI.uent n _ hn).elim
    | deferred => exact (hI.uent n _ hn).elim
    | gone => cases ho
    | obj => exact (hI.uent n _ hn).elim
  · rw [hval n E hn] at hl
    cases E with
    | own c wh el => exact .inr ⟨n, c, wh, el, l, hn, hl, rfl⟩
    | row => cases ho
    | loop => exact (hI.uent n _ hn).elim
    | deferred => exact (hI.uent n _ hn).elim
    | gone => cases ho
    | obj => exact (hI.uent n _ hn).elim
  · unfold Ifc.val
    rw [if_neg]
    rw [I.known_iff, ← hI.len]; omega

/-- the great names of the small ones behind the run: those that were given, and those of what is kept -/
noncomputable def idxN (k : Nat) (l : List Nat) : Nat := List.rec (motive := fun _ => Nat) 0 (fun a _ ih => boolC (Nat.beq a k) 0 (Nat.succ ih)) l
noncomputable def Ifc.out (I : Ifc) (base : Nat) (keep : List Nat) (j : Nat) : Nat := boolC (I.known j) (I.big j) (base + idxN j keep)
noncomputable def Ifc.seen (I : Ifc) (keep : List Nat) (j : Nat) : Bool := boolC (I.known j) true (memN j keep)
/-- the small entry is the great one's, at last -/
def Given (p : Nat → Bool) (g : Nat → Nat) (E : Option SO) (e : SO) : Prop := ∃ c w el c', E = some (.own c w el) ∧ c.Uses p ∧ (c.ren g).Imp c' ∧ e = .own c' w el
/-- the small outcome is the great one's -/
structure Ifc.Out (I : Ifc) (base : Nat) (turn keep : List Nat) (r : SumRes) (v : SV) (H : List SO) : Prop where
  val : (v.ren (I.out base keep)).Imp r.v
  uv : v.uses (I.seen keep) = true
  setsLen : r.sets.length = turn.length
  sets : ∀ (i j : Nat), turn[i]? = some j → ∃ e, r.sets[i]? = some (I.big j, e) ∧ Given (I.seen keep) (I.out base keep) H[j]? e
  newsLen : r.news.length = keep.length
  news : ∀ (i j : Nat), keep[i]? = some j → ∃ e, r.news[i]? = some e ∧ Given (I.seen keep) (I.out base keep) H[j]? e
theorem idxN_spec {k : Nat} {l : List Nat} (h : k ∈ l) : l[idxN k l]? = some k := by
  induction l with
  | nil => cases h
  | cons a l ih =>
    show (a :: l)[boolC (Nat.beq a k) 0 (Nat.succ (idxN k l))]? = _
    by_cases ha : a = k
    · subst ha; rw [show Nat.beq a a = true from Nat.beq_refl a]; rfl
    · rw [show Nat.beq a k = false from Bool.eq_false_iff.2 fun h => ha (Nat.eq_of_beq_eq_true h)]
      simpa using ih ((List.mem_cons.1 h).resolve_left fun e => ha e.symm)
theorem memN_iff {n : Nat} {l : List Nat} : memN n l = true ↔ n ∈ l := by
  constructor
  · intro h
    induction l with
    | nil => cases h
    | cons a l ih =>
      have h' : boolC (Nat.beq a n) true (memN n l) = true := h
      by_cases ha : a = n
      · subst ha; exact List.mem_cons_self
      · rw [show Nat.beq a n = false from Bool.eq_false_iff.2 fun h => ha (Nat.eq_of_beq_eq_true h)] at h'
        exact List.mem_cons_of_mem _ (ih h')
  · exact memN_spec

/-- A SUMMARY FROM A SMALL RUN -/
theorem sum_smallC {c : Cfg} {O : Nat → Prop} {w0 w : World} {β : Val} {H : List SO} {base : Nat} {f : FuncId} {vs : List Value} (hH : HeapRel0 c.P O w0 β H w)
    (I : Ifc) (hgl : ∀ g j, c.glob g = some j → I.known j = true ∧ ∃ l, β (I.big j) = some l ∧ l.blk = g ∧ l.off = 0) (ha : SV.denL β (SV.renL I.big I.args) = some vs) (hI : I.Fits H) {r : SumRes} (turn keep : List Nat) (ht1 : ∀ (j : Nat) c w el, I.ents[j]? = some (.own c w el) → j ∈ turn) (ht2 : ∀ j ∈ turn, ∃ c w el, I.ents[j]? = some (.own c w el)) (hk : ∀ j ∈ keep, I.names.length ≤ j) (hkn : keep.Nodup) (htn : turn.Nodup := by simp)
    (hbody : ∃ fn, c.P.funcs[f]? = some fn ∧ fn.body.isSome = true)
    (hrun : HeapRel c.P (I.owns β) w (I.val β) I.ents w → GlobRel c.glob (I.val β) → SV.denL (I.val β) I.args = some vs → Calls c.P f vs.toArray w (Came c.P (I.owns β) w (I.val β) (I.Out base turn keep r))) : SumSem c.P H β w base f vs r := by
  intro hfree
  have hH' := Ifc.heap hH hI
  have ha' : SV.denL (I.val β) I.args = some vs := by
    rw [SV.denL_ren, SV.denL_uses Ifc.val_known _ hI.uargs] at ha; exact ha
  have hcalls := hrun hH' (fun g j hg => let ⟨hk, l, h1, h2⟩ := hgl g j hg; ⟨l, by rw [← Ifc.val_known j hk]; exact h1, h2⟩) ha'
  have hown : ∀ j ∈ turn, ∃ cb wb el l vs rest lo hi, H[I.big j]? = some (.own cb wb el) ∧ β (I.big j) = some l ∧ I.val β j = some l ∧ j < I.names.length ∧ w.heap[l.blk]? = some (.cells (vs ++ rest : List Value).toArray el (lo, hi)) := by
    intro j hj
    obtain ⟨cc, ww, el, he⟩ := ht2 j hj
    obtain ⟨e, he', ht⟩ := hI.ent j _ he
    obtain ⟨c1, rfl, _⟩ := ht
    obtain ⟨l, vs, rest, lo, hi, hl, _, _, hh, _⟩ := hH.entries _ _ he'
    have hjl : j < I.names.length := by rw [← hI.len]; exact (List.getElem?_eq_some_iff.1 he).1
    exact ⟨_, _, _, l, vs, rest, lo, hi, he', hl, by rw [← Ifc.val_known j ((I.known_iff j).2 hjl)]; exact hl, hjl, hh⟩
  -- what is turned
  have hsets : ∀ (v : SV) (H'' : List SO), I.Out base turn keep r v H'' → ∀ m e, (m, e) ∈ r.sets → ∃ j ∈ turn, m = I.big j ∧ Given (I.seen keep) (I.out base keep) H''[j]? e ∧ ∃ i : Nat, turn[i]? = some j ∧ r.sets[i]? = some (m, e) := by
    intro v H'' hout m e hm
    obtain ⟨i, hi⟩ := List.mem_iff_getElem?.1 hm
    have hil := (List.getElem?_eq_some_iff.1 hi).1
    rw [hout.setsLen] at hil
    obtain ⟨e', h1, h2⟩ := hout.sets i _ (List.getElem?_eq_getElem hil)
    rw [hi] at h1
    cases h1
    exact ⟨_, List.getElem_mem hil, rfl, h2, i, List.getElem?_eq_getElem hil, hi⟩
  refine ⟨?_, .inl ⟨hbody, ?_⟩⟩
  · intro m e hm
    -- what is turned was a block of one's own
    obtain ⟨e', w', fr, hcame, _⟩ := hcalls []
    obtain ⟨v, H'', x, β'', _, hout, _⟩ := hcame
    obtain ⟨j, hj, rfl, _⟩ := hsets v H'' hout m e hm
    obtain ⟨cb, wb, el, l, vs, rest, lo, hi, h1, _⟩ := hown j hj
    exact ⟨_, h1, rfl⟩
  · intro cs
    obtain ⟨e', w', fr, hcame, hst⟩ := hcalls cs
    refine ⟨e', w', fr, ?_, hst⟩
    obtain ⟨v, H'', x, β'', rfl, hout, hle, hv, hH2⟩ := hcame
    -- the great valuation behind the call
    let βb : Val := fun n => if base ≤ n ∧ n < base + keep.length then (keep[n - base]?).bind β'' else β n
    have hlenn : r.news.length = keep.length := hout.newsLen
    have hfree' : ∀ i, i < keep.length → β (base + i) = none := fun i hi => hfree i (by rw [hlenn]; exact hi)
    have hβle : β.le βb := by
      intro n l hn
      show (if _ then _ else _) = _
      rw [if_neg]
      · exact hn
      · rintro ⟨h1, h2⟩
        have := hfree' (n - base) (by omega)
        rw [show base + (n - base) = n from by omega, hn] at this; cases this
    have hseen : ∀ j, I.seen keep j = true → βb (I.out base keep j) = β'' j := by
      intro j hj
      unfold Ifc.seen at hj
      unfold Ifc.out
      cases hkn' : I.known j with
      | true =>
        rw [boolC_true]
        have hjl := (I.known_iff j).1 hkn'
        obtain ⟨E, hE⟩ : ∃ E, I.ents[j]? = some E := ⟨_, List.getElem?_eq_getElem (by rw [hI.len]; exact hjl)⟩
        obtain ⟨e, he, htk⟩ := hI.ent j E hE
        -- it stands for something
        have hsome : ∃ l, β (I.big j) = some l := by
          have h0 := hH.entries _ e he
          have hu := hI.uent j E hE
          have hplaced : e.placed = true := by
            cases E with
            | own cc ww el => obtain ⟨c1, rfl, _⟩ := htk; rfl
            | row cc => obtain ⟨c1, rfl | ⟨ww, el, rfl⟩, _⟩ := htk <;> rfl
            | loop => exact hu.elim
            | deferred => exact hu.elim
            | gone => exact htk
            | obj => exact hu.elim
          cases e with
          | own cc ww el => obtain ⟨l, _, _, _, _, hl, _⟩ := h0; exact ⟨l, hl⟩
          | row cc => obtain ⟨l, _, hl, _⟩ := h0; exact ⟨l, hl⟩
          | loop => cases hplaced
          | deferred => cases hplaced
          | gone => cases hplaced
          | obj => cases hplaced
        obtain ⟨l, hl⟩ := hsome
        rw [hβle _ _ hl]
        have : I.val β j = some l := by rw [← Ifc.val_known j hkn']; exact hl
        rw [hle _ _ this]
      | false =>
        rw [hkn', boolC_false, memN_iff] at hj
        rw [boolC_false]
        have h1 := idxN_spec hj
        have h2 := (List.getElem?_eq_some_iff.1 h1).1
        show (if _ then _ else _) = _
        rw [if_pos (by omega), show base + idxN j keep - base = idxN j keep from by omega, h1]; rfl
    have hrenOwn : ∀ (j : Nat) (e : SO), Given (I.seen keep) (I.out base keep) H''[j]? e → I.seen keep j = true → e.owned = true ∧ OwnRel c.P βb w' (I.out base keep j) e := by
      intro j e hg hs
      obtain ⟨cc, ww, el, c', he, hu, himp, rfl⟩ := hg
      obtain ⟨l, vs, rest, lo, hi, hl, h0, hcl, hh, hfz, hw, hcap⟩ := hH2.entries j _ he
      exact ⟨rfl, l, vs, rest, lo, hi, (hseen j hs).trans hl, h0, himp _ _ ((CellsRel.ren hu hseen).2 hcl), hh, hfz, hw, hcap⟩
    have hseenT : ∀ j ∈ turn, I.seen keep j = true ∧ I.out base keep j = I.big j := by
      intro j hj
      obtain ⟨_, _, _, _, _, _, _, _, _, _, _, hjl, _⟩ := hown j hj
      have := (I.known_iff j).2 hjl
      unfold Ifc.seen Ifc.out
      rw [this]; exact ⟨rfl, rfl⟩
    have hseenK : ∀ j ∈ keep, I.seen keep j = true ∧ I.known j = false := by
      intro j hj
      have hnk : I.known j = false := by
        cases hx : I.known j with
        | false => rfl
        | true => have := (I.known_iff j).1 hx; have := hk j hj; omega
      unfold Ifc.seen
      rw [hnk]; exact ⟨memN_spec hj, rfl⟩
    have hnewsAt : ∀ (i : Nat) (e : SO), r.news[i]? = some e → ∃ j, keep[i]? = some j ∧ Given (I.seen keep) (I.out base keep) H''[j]? e := by
      intro i e hi
      have hil := (List.getElem?_eq_some_iff.1 hi).1
      rw [hlenn] at hil
      obtain ⟨e', h1, h2⟩ := hout.news i _ (List.getElem?_eq_getElem hil)
      rw [hi] at h1; cases h1
      exact ⟨_, List.getElem?_eq_getElem hil, h2⟩
    refine ⟨x, βb, rfl, ?_, ⟨hβle, hH2.keep.os, hH2.keep.tape, hH2.keep.output, hH2.keep.drawn, hH2.keep.size, ?_, ?_, ?_, ?_, ?_, ?_⟩⟩
    · refine hout.val _ _ ?_
      rw [SV.den_ren, SV.den_uses hseen _ hout.uv]; exact hv
    · intro n hn
      rw [hlenn] at hn
      show (if _ then _ else _) = _
      rw [if_neg (by omega)]
    · intro b hb hno
      refine hH2.keep.block b hb ?_
      rintro ⟨j, cc, ww, el, l, hj, hl, rfl⟩
      have hjt := ht1 j cc ww el hj
      obtain ⟨i, hi⟩ := List.mem_iff_getElem?.1 hjt
      obtain ⟨e, he, _⟩ := hout.sets i j hi
      exact hno (I.big j) e l (List.mem_of_getElem? he) hl rfl
    · intro m e e' h1 h2
      obtain ⟨j, hj, hm1, hg1, i1, ht1', hs1⟩ := hsets v H'' hout m e h1
      obtain ⟨k, hk', hm2, hg2, i2, ht2', hs2⟩ := hsets v H'' hout m e' h2
      obtain ⟨_, _, _, _, _, _, _, _, _, _, _, hjl, _⟩ := hown j hj
      obtain ⟨_, _, _, _, _, _, _, _, _, _, _, hkl, _⟩ := hown k hk'
      have hjk : k = j := hI.nodup k j (I.big k) (Ifc.big_get hkl) (by rw [← hm2, hm1]; exact Ifc.big_get hjl)
      subst hjk
      have : i1 = i2 := (List.getElem?_inj (List.getElem?_eq_some_iff.1 ht1').1 htn).1 (ht1'.trans ht2'.symm)
      subst this
      rw [hs1] at hs2
      exact (Prod.mk.inj (Option.some.inj hs2)).2
    · intro m e hm
      obtain ⟨j, hj, rfl, hg, _⟩ := hsets v H'' hout m e hm
      obtain ⟨hs, hb⟩ := hseenT j hj
      rw [← hb]
      exact (hrenOwn j e hg hs).2
    · intro i e hi
      obtain ⟨j, hj, hg⟩ := hnewsAt i e hi
      have hjm := List.mem_of_getElem? hj
      obtain ⟨hs, hnk⟩ := hseenK j hjm
      have hout' : I.out base keep j = base + i := by
        unfold Ifc.out
        rw [hnk, boolC_false]
        have h1 := idxN_spec hjm
        have : idxN j keep = i := (List.getElem?_inj (List.getElem?_eq_some_iff.1 h1).1 hkn).1 (h1.trans hj.symm)
        rw [this]
      obtain ⟨ho, hor⟩ := hrenOwn j e hg hs
      refine ⟨ho, hout' ▸ hor, ?_⟩
      obtain ⟨cc, ww, el, c', he, _⟩ := hg
      obtain ⟨l, vs2, rest, lo, hi2, hl, _⟩ := hH2.entries j _ he
      refine ⟨l, by rw [← hout', hseen j hs]; exact hl, .inl ?_⟩
      rcases hH2.fresh j _ l he rfl hl with h1 | ⟨k, ck, wk, ek, lk, hk1, hk2, hk3⟩
      · exact h1
      · exfalso
        -- a block that was given is still its own
        have hkt := ht1 k ck wk ek hk1
        obtain ⟨i3, hi3⟩ := List.mem_iff_getElem?.1 hkt
        obtain ⟨_, _, c2, w2, e2, _, he2, _⟩ := hout.sets i3 k hi3
        obtain ⟨_, _, _, l2, _, _, _, _, _, hb2, hv2, hkl, _⟩ := hown k hkt
        rw [hb2] at hk2; cases hk2
        refine hH2.sep k j _ _ lk l he2 he rfl rfl ?_ (hle _ _ hv2) hl hk3
        have := hk j hjm; omega
    · intro i j l l' hij hi hj hl hl'
      rw [hlenn] at hi hj
      have hone : ∀ i, i < keep.length → ∀ l, βb (base + i) = some l → ∃ k, keep[i]? = some k ∧ β'' k = some l := by
        intro i hi l hl
        have hl : (if base ≤ base + i ∧ base + i < base + keep.length then (keep[base + i - base]?).bind β'' else β (base + i)) = some l := hl
        rw [if_pos (by omega), show base + i - base = i from by omega, List.getElem?_eq_getElem hi] at hl
        exact ⟨_, List.getElem?_eq_getElem hi, hl⟩
      obtain ⟨k1, hk1, hb1⟩ := hone i hi l hl
      obtain ⟨k2, hk2, hb2⟩ := hone j hj l' hl'
      obtain ⟨_, _, c1, w1, e1, _, he1, _⟩ := hout.news i k1 hk1
      obtain ⟨_, _, c2, w2, e2, _, he2, _⟩ := hout.news j k2 hk2
      refine hH2.sep k1 k2 _ _ l l' he1 he2 rfl rfl (fun h => ?_) hb1 hb2
      subst h
      exact hij ((List.getElem?_inj (List.getElem?_eq_some_iff.1 hk1).1 hkn).1 (hk1.trans hk2.symm))

theorem enterF_body {P : Program} {f : FuncId} {args : List SV} {g : SF} (h : enterF P f args = some g) : ∃ fn, P.funcs[f]? = some fn ∧ fn.body.isSome = true := by
  unfold enterF at h
  rw [nth_eq, Array.getElem?_toList] at h
  cases hf : P.funcs[f]? with
  | none => rw [hf] at h; cases h
  | some fn =>
    refine ⟨fn, rfl, ?_⟩
    rw [hf] at h
    cases hb : fn.body with
    | none => simp only [optC_some, hb, optC_none] at h; cases h
    | some b => rfl
theorem sum_small {c : Cfg} (hc : CfgOK c) {n : Nat} {O : Nat → Prop} {w0 w : World} {β : Val} {H : List SO} {base : Nat} {f : FuncId} {vs : List Value} (hH : HeapRel0 c.P O w0 β H w)
    (I : Ifc) (hgl : ∀ g j, c.glob g = some j → I.known j = true ∧ ∃ l, β (I.big j) = some l ∧ l.blk = g ∧ l.off = 0) (ha : SV.denL β (SV.renL I.big I.args) = some vs) (hI : I.Fits H) {r : SumRes} (turn keep : List Nat) (ht1 : ∀ (j : Nat) c w el, I.ents[j]? = some (.own c w el) → j ∈ turn) (ht2 : ∀ j ∈ turn, ∃ c w el, I.ents[j]? = some (.own c w el)) (hk : ∀ j ∈ keep, I.names.length ≤ j) (hkn : keep.Nodup) (htn : turn.Nodup := by simp)
    (hob : (callSim c n f I.args I.ents).Ob (I.Out base turn keep r) fun _ => False) : SumSem c.P H β w base f vs r := by
  refine sum_smallC hH I hgl ha hI turn keep ht1 ht2 hk hkn htn ?_ fun hH' hG ha' => calls_of hc hH' hG ha' hob
  unfold callSim at hob
  cases hg : enterF c.P f I.args with
  | none => rw [hg] at hob; exact hob.elim
  | some g => exact enterF_body hg

/- The plain case: nothing is turned, nothing is new. -/
theorem Cells.imp_of_eq {c d : Cells} (h : c = d) : c.Imp d := h ▸ .refl c
theorem SV.imp_of_eq {c d : SV} (h : c = d) : c.Imp d := h ▸ .refl c

end Go.Sim


/-
  The symbolic simulator, twenty-eighth part: summaries from small runs, in short words.
-/
namespace Go.Sim
variable {α : Type}

/-- what each name is to be -/
def EntsOK (f : Nat → Nat) (p : Nat → Bool) (H : List SO) : List Nat → List SO → Prop
  | n :: ns, E :: Es => ((∃ e, H[n]? = some e ∧ Taken f E e) ∧ E.CUses p) ∧ EntsOK f p H ns Es
  | [], [] => True
  | _, _ => False
theorem EntsOK.length {f : Nat → Nat} {p : Nat → Bool} {H : List SO} : ∀ {ns : List Nat} {Es : List SO}, EntsOK f p H ns Es → Es.length = ns.length
  | [], [], _ => rfl
  | _ :: _, _ :: _, h => by simp only [List.length_cons]; rw [EntsOK.length h.2]
  | [], _ :: _, h => h.elim
  | _ :: _, [], h => h.elim
theorem EntsOK.get {f : Nat → Nat} {p : Nat → Bool} {H : List SO} : ∀ {ns : List Nat} {Es : List SO}, EntsOK f p H ns Es → ∀ (j : Nat) (E : SO), Es[j]? = some E → (∃ e, H[(nth ns j).getD 0]? = some e ∧ Taken f E e) ∧ E.CUses p
  | [], [], _, j, E, h => by simp at h
  | n :: ns, E' :: Es, h, 0, E, hE => by simp at hE; subst hE; exact h.1
  | n :: ns, E' :: Es, h, j + 1, E, hE => by
    have := EntsOK.get h.2 j E (by simpa using hE)
    rw [nth_eq] at this ⊢
    simpa using this
  | [], _ :: _, h, _, _, _ => h.elim
  | _ :: _, [], h, _, _, _ => h.elim
theorem Ifc.fits {I : Ifc} {H : List SO} (hn : I.names.Nodup) (hu : SV.usesL I.known I.args = true) (he : EntsOK I.big I.known H I.names I.ents) : I.Fits H :=
  ⟨he.length, fun _ _ _ hi hj => (List.getElem?_inj (List.getElem?_eq_some_iff.1 hi).1 hn).1 (hi.trans hj.symm), hu, fun j E hE => (he.get j E hE).1, fun j E hE => (he.get j E hE).2⟩
def SO.isOwn : SO → Bool
  | .own _ _ _ => true
  | _ => false
/-- the places of the blocks that may be written -/
def ownsOf : List SO → Nat → List Nat
  | [], _ => []
  | E :: Es, k => if E.isOwn then k :: ownsOf Es (k + 1) else ownsOf Es (k + 1)
theorem ownsOf_spec : ∀ (Es : List SO) (k j : Nat), j ∈ ownsOf Es k ↔ ∃ i c w el, j = k + i ∧ Es[i]? = some (.own c w el)
  | [], k, j => by simp [ownsOf]
  | E :: Es, k, j => by
    have ih := ownsOf_spec Es (k + 1) j
    have hstep : (∃ i c w el, j = k + 1 + i ∧ Es[i]? = some (SO.own c w el)) → ∃ i c w el, j = k + i ∧ (E :: Es)[i]? = some (SO.own c w el) := fun ⟨i, c, w, el, h, h'⟩ => ⟨i + 1, c, w, el, by omega, by simpa using h'⟩
    unfold ownsOf
    split
    · rename_i ho
      rw [List.mem_cons, ih]
      constructor
      · rintro (rfl | h)
        · cases E <;> first | (cases ho; done) | exact ⟨0, _, _, _, rfl, rfl⟩
        · exact hstep h
      · rintro ⟨i, c, w, el, h, h'⟩
        cases i with
        | zero => exact .inl h
        | succ i => exact .inr ⟨i, c, w, el, by omega, by simpa using h'⟩
    · rename_i ho
      rw [ih]
      constructor
      · exact hstep
      · rintro ⟨i, c, w, el, h, h'⟩
        cases i with
        | zero => simp at h'; subst h'; exact absurd rfl ho
        | succ i => exact ⟨i, c, w, el, by omega, by simpa using h'⟩
theorem ownsOf_nodup : ∀ (Es : List SO) (k : Nat), (ownsOf Es k).Nodup
  | [], k => by simp [ownsOf]
  | E :: Es, k => by
    unfold ownsOf
    split
    · refine List.nodup_cons.2 ⟨fun h => ?_, ownsOf_nodup Es (k + 1)⟩
      obtain ⟨i, _, _, _, h, _⟩ := (ownsOf_spec Es (k + 1) k).1 h
      omega
    · exact ownsOf_nodup Es (k + 1)
def SetsOK (big : Nat → Nat) (p : Nat → Bool) (g : Nat → Nat) (H : List SO) : List Nat → List (Nat × SO) → Prop
  | j :: js, x :: rs => (x.1 = big j ∧ Given p g H[j]? x.2) ∧ SetsOK big p g H js rs
  | [], [] => True
  | _, _ => False
def NewsOK (p : Nat → Bool) (g : Nat → Nat) (H : List SO) : List Nat → List SO → Prop
  | j :: js, e :: rs => Given p g H[j]? e ∧ NewsOK p g H js rs
  | [], [] => True
  | _, _ => False
theorem SetsOK.length {big p g H} : ∀ {js : List Nat} {rs : List (Nat × SO)}, SetsOK big p g H js rs → rs.length = js.length
  | [], [], _ => rfl
  | _ :: _, _ :: _, h => by simp only [List.length_cons]; rw [SetsOK.length h.2]
  | [], _ :: _, h => h.elim
  | _ :: _, [], h => h.elim
theorem SetsOK.get {big p g H} : ∀ {js : List Nat} {rs : List (Nat × SO)}, SetsOK big p g H js rs → ∀ (i j : Nat), js[i]? = some j → ∃ e, rs[i]? = some (big j, e) ∧ Given p g H[j]? e
  | [], [], _, i, j, h => by simp at h
  | j' :: js, x :: rs, h, 0, j, hE => by simp at hE; subst hE; exact ⟨x.2, by simp [← h.1.1], h.1.2⟩
  | j' :: js, x :: rs, h, i + 1, j, hE => by
    obtain ⟨e, a, b⟩ := SetsOK.get h.2 i j (by simpa using hE)
    exact ⟨e, by simpa using a, b⟩
  | [], _ :: _, h, _, _, _ => h.elim
  | _ :: _, [], h, _, _, _ => h.elim
theorem NewsOK.length {p g H} : ∀ {js : List Nat} {rs : List SO}, NewsOK p g H js rs → rs.length = js.length
  | [], [], _ => rfl
  | _ :: _, _ :: _, h => by simp only [List.length_cons]; rw [NewsOK.length h.2]
  | [], _ :: _, h => h.elim
  | _ :: _, [], h => h.elim
theorem NewsOK.get {p g H} : ∀ {js : List Nat} {rs : List SO}, NewsOK p g H js rs → ∀ (i j : Nat), js[i]? = some j → ∃ e, rs[i]? = some e ∧ Given p g H[j]? e
  | [], [], _, i, j, h => by simp at h
  | j' :: js, x :: rs, h, 0, j, hE => by simp at hE; subst hE; exact ⟨x, by simp, h.1⟩
  | j' :: js, x :: rs, h, i + 1, j, hE => by
    obtain ⟨e, a, b⟩ := NewsOK.get h.2 i j (by simpa using hE)
    exact ⟨e, by simpa using a, b⟩
  | [], _ :: _, h, _, _, _ => h.elim
  | _ :: _, [], h, _, _, _ => h.elim
/-- what a small run comes to -/
structure Ifc.Ends (I : Ifc) (base : Nat) (keep : List Nat) (r : SumRes) (v : SV) (H : List SO) : Prop where
  val : (v.ren (I.out base keep)).Imp r.v
  uv : v.uses (I.seen keep) = true
  sets : SetsOK I.big (I.seen keep) (I.out base keep) H (ownsOf I.ents 0) r.sets
  news : NewsOK (I.seen keep) (I.out base keep) H keep r.news
theorem Tree.Ob.mono {t : Tree} {D D' : SV → List SO → Prop} {S : SS → Prop} (h : t.Ob D S) (hd : ∀ v H, D v H → D' v H) : t.Ob D' S := by
  induction t with
  | done v H => exact hd v H h
  | stop s => exact h
  | need p t ih => exact ⟨h.1, ih h.2⟩
  | fork b t f iht ihf => exact ⟨fun hb => iht (h.1 hb), fun hb => ihf (h.2 hb)⟩
  | stuck n => exact h
  | any k ih => exact fun z => ih z (h z)
/-- A SUMMARY FROM A SMALL RUN -/
theorem sum_runG {c : Cfg} (hc : CfgOK c) (n : Nat) {O : Nat → Prop} {w0 w : World} {β : Val} {H : List SO} {base : Nat} {f : FuncId} {vs : List Value} (hH : HeapRel0 c.P O w0 β H w)
    (I : Ifc) (hgl : ∀ g j, c.glob g = some j → I.known j = true ∧ ∃ l, β (I.big j) = some l ∧ l.blk = g ∧ l.off = 0) (ha : SV.denL β (SV.renL I.big I.args) = some vs) (hI : I.Fits H) {r : SumRes} (keep : List Nat) (hk : ∀ j ∈ keep, I.names.length ≤ j) (hkn : keep.Nodup)
    (hob : (callSim c n f I.args I.ents).Ob (I.Ends base keep r) fun _ => False) : SumSem c.P H β w base f vs r := by
  refine sum_small hc (n := n) hH I hgl ha hI (ownsOf I.ents 0) keep (fun j c w el h => (ownsOf_spec _ _ _).2 ⟨j, c, w, el, by omega, h⟩) (fun j hj => ?_) hk hkn (ownsOf_nodup _ _) ?_
  · obtain ⟨i, c, w, el, h, h'⟩ := (ownsOf_spec _ _ _).1 hj
    exact ⟨c, w, el, by rw [h, Nat.zero_add]; exact h'⟩
  · refine hob.mono fun v H' h => ⟨h.val, h.uv, h.sets.length, h.sets.get, h.news.length, h.news.get⟩
/-- the same, where no package-level variable is read -/
theorem sum_run {c : Cfg} (hc : CfgOK c) (hgl : c.glob = fun _ => none) (n : Nat) {O : Nat → Prop} {w0 w : World} {β : Val} {H : List SO} {base : Nat} {f : FuncId} {vs : List Value} (hH : HeapRel0 c.P O w0 β H w)
    (I : Ifc) (ha : SV.denL β (SV.renL I.big I.args) = some vs) (hI : I.Fits H) {r : SumRes} (keep : List Nat) (hk : ∀ j ∈ keep, I.names.length ≤ j) (hkn : keep.Nodup)
    (hob : (callSim c n f I.args I.ents).Ob (I.Ends base keep r) fun _ => False) : SumSem c.P H β w base f vs r :=
  sum_runG hc n hH I (fun g j h => by rw [hgl] at h; cases h) ha hI keep hk hkn hob
/-- what is read alone: a row, or a block of one's own, whole or its front -/
theorem taken_row {f : Nat → Nat} {c c0 : Cells} {e : SO} (h : e = .row c0 ∨ ∃ w el, e = .own c0 w el) (hi : c0.Front (c.ren f)) : Taken f (.row c) e := ⟨c0, h, hi⟩

end Go.Sim


/-
  The symbolic simulator, twenty-ninth part: lists of bytes az cells; the looks of summaries.
-/
namespace Go.Sim
variable {α β : Type}

theorem boolC_sat {b : Bool} {f g : R α} {φ : α → Prop} (h : b = true → f.Sat φ) (h' : b = false → g.Sat φ) : (boolC b f g).Sat φ := by cases b <;> first | exact h rfl | exact h' rfl
theorem boolC_only {b : Bool} {f : R α} {n : Nat} {φ : α → Prop} (h : b = true → f.Sat φ) : (boolC b f (.stuck n)).Sat φ := boolC_sat h fun _ => trivial
theorem optC_only {o : Option β} {f : β → R α} {n : Nat} {φ : α → Prop} (h : ∀ a, o = some a → (f a).Sat φ) : (optC o (.stuck n) f).Sat φ := by
  cases o with
  | none => trivial
  | some a => exact h a rfl
theorem boolC_opt {b : Bool} {f : Option α} {s : α} (h : boolC b f none = some s) : b = true ∧ f = some s := by
  cases b with
  | true => exact ⟨rfl, h⟩
  | false => cases h
theorem optC_opt {o : Option β} {f : β → Option α} {s : α} (h : optC o none f = some s) : ∃ a, o = some a ∧ f a = some s := by
  cases o with
  | none => cases h
  | some a => exact ⟨a, rfl, h⟩
theorem boolC_some {b : Bool} {f g : Option α} {s : α} (h : boolC b f g = some s) : (b = true ∧ f = some s) ∨ g = some s := by
  cases b with
  | true => exact .inl ⟨rfl, h⟩
  | false => exact .inr h
theorem eqI_spec {x y : Int} (h : eqI x y = true) : x = y := by rw [eqI_eq] at h; simpa using h
theorem beq_spec {x y : Nat} (h : Nat.beq x y = true) : x = y := Nat.eq_of_beq_eq_true h
theorem eqK_spec {k k' : IntKind} (h : eqK k k' = true) : k = k' := by cases k <;> cases k' <;> first | rfl | cases h

/- Bytes. -/
noncomputable def bx (l : List (BitVec 8)) : List SV := mapN (fun x => .int .u8 (.b8 x)) l
noncomputable def lx (l : List Int) : List SV := mapN (fun x => .int .u8 (.lit x)) l
theorem unb1_int {v : SV} {x : BitVec 8} (h : unb1 v = some x) : ∃ n, v = .int .u8 n ∧ si8 n = some x := by
  unfold unb1 at h
  rcases asInt_cases v with ⟨k, n, rfl⟩ | hv
  · obtain ⟨hk, h⟩ := boolC_opt (show boolC (eqK k .u8) (si8 n) none = some x from h)
    rw [eqK_spec hk]; exact ⟨n, rfl, h⟩
  · rw [hv] at h; cases h
theorem unb1_imp {v : SV} {x : BitVec 8} (h : unb1 v = some x) : v.Imp (.int .u8 (.b8 x)) := by
  obtain ⟨n, rfl, hn⟩ := unb1_int h
  intro γ y hy
  have hy : some (Value.int .u8 n.den) = some y := hy
  rw [si8_spec hn] at hy; exact hy
theorem impL_cons {v u : SV} {l m : List SV} (h : v.Imp u) (h' : SV.ImpL l m) : SV.ImpL (v :: l) (u :: m) := by
  intro γ vs hv
  obtain ⟨x, ys, a, b, rfl⟩ := denL_cons.1 hv
  exact denL_cons.2 ⟨x, ys, h _ _ a, h' _ _ b, rfl⟩
theorem impL_nil : SV.ImpL [] [] := .refl _

/- Known cells. -/
noncomputable def unl1 (v : SV) : Option Int := v.asInt none fun k n => boolC (eqK k .u8) (n.asLit none some) none
theorem unl1_spec {v : SV} {x : Int} (h : unl1 v = some x) : v = .int .u8 (.lit x) := by
  unfold unl1 at h
  rcases asInt_cases v with ⟨k, n, rfl⟩ | hv
  · obtain ⟨hk, h⟩ := boolC_opt (show boolC (eqK k .u8) (n.asLit none some) none = some x from h)
    rw [eqK_spec hk]
    cases n <;> first | (cases h; rfl) | cases h
  · rw [hv] at h; cases h
/-- the known bytes T at the head of cells -/
noncomputable def preLit (T : List Int) : List SV → Bool :=
  List.rec (motive := fun _ => List SV → Bool) (fun _ => true) (fun t _ ih l => List.rec (motive := fun _ => Bool) false (fun v r _ => optC (unl1 v) false fun x => boolC (eqI x t) (ih r) false) l) T

/- What an entry bears. -/

/- Arguments. -/
noncomputable def args1 (args : List SV) (f : SV → R α) : R α := List.rec (motive := fun _ => R α) (.stuck 700) (fun v r _ => List.rec (motive := fun _ => R α) (f v) (fun _ _ _ => .stuck 700) r) args
noncomputable def args2 (args : List SV) (f : SV → SV → R α) : R α := List.rec (motive := fun _ => R α) (.stuck 700) (fun v r _ => args1 r (f v)) args
noncomputable def args3 (args : List SV) (f : SV → SV → SV → R α) : R α := List.rec (motive := fun _ => R α) (.stuck 700) (fun v r _ => args2 r (f v)) args
noncomputable def args4 (args : List SV) (f : SV → SV → SV → SV → R α) : R α := List.rec (motive := fun _ => R α) (.stuck 700) (fun v r _ => args3 r (f v)) args
theorem args1_sat {args : List SV} {f : SV → R α} {φ : α → Prop} (h : ∀ v, args = [v] → (f v).Sat φ) : (args1 args f).Sat φ := by
  match args, h with
  | [], _ => trivial
  | [v], h => exact h v rfl
  | _ :: _ :: _, _ => trivial
theorem args2_sat {args : List SV} {f : SV → SV → R α} {φ : α → Prop} (h : ∀ v u, args = [v, u] → (f v u).Sat φ) : (args2 args f).Sat φ := by
  cases args with
  | nil => trivial
  | cons v r => exact args1_sat fun u hu => h v u (by rw [hu])
theorem args3_sat {args : List SV} {f : SV → SV → SV → R α} {φ : α → Prop} (h : ∀ v u x, args = [v, u, x] → (f v u x).Sat φ) : (args3 args f).Sat φ := by
  cases args with
  | nil => trivial
  | cons v r => exact args2_sat fun u x hu => h v u x (by rw [hu])
theorem args4_sat {args : List SV} {f : SV → SV → SV → SV → R α} {φ : α → Prop} (h : ∀ v u x y, args = [v, u, x, y] → (f v u x y).Sat φ) : (args4 args f).Sat φ := by
  cases args with
  | nil => trivial
  | cons v r => exact args3_sat fun u x y hu => h v u x y (by rw [hu])

/- A run's outcome: its conditions, its value, some of its entries. -/
theorem fits0 {H : List SO} {args : List SV} (hu : SV.usesL (Ifc.known ⟨[], [], args⟩) args = true) : Ifc.Fits ⟨[], [], args⟩ H := Ifc.fits (by simp) hu trivial
theorem ends0 {I : Ifc} {base : Nat} {v : SV} {H : List SO} (ho : ownsOf I.ents 0 = []) (h : v = v.ren (I.out base [])) (hu : v.uses (I.seen []) = true) : I.Ends base [] ⟨v, [], []⟩ v H :=
  ⟨SV.imp_of_eq h.symm, hu, by rw [ho]; trivial, trivial⟩

end Go.Sim


/-
  The symbolic simulator, thirtieth part: rows of bytes az functions of the place; slices among arguments.
-/
namespace Go.Sim
variable {α : Type}


/- A slice among the arguments. -/
noncomputable def sliceR (v : SV) (nil : R α) (f : SA → SN → R α) : R α :=
  SV.rec (motive_1 := fun _ => R α) (motive_2 := fun _ => Unit) (fun _ _ => .stuck 713) (fun _ => .stuck 713) (fun _ => .stuck 713) (fun _ => .stuck 713) (.stuck 713) (fun a l _ => f a l) nil (fun _ => .stuck 713) (.stuck 713) (fun _ _ _ _ _ => .stuck 713) (.stuck 713) (fun _ _ _ => .stuck 713) (.stuck 713) (fun _ _ => .stuck 713) (fun _ _ => .stuck 713) (fun _ => .stuck 713) (fun _ _ _ _ => .stuck 713) () (fun _ _ _ _ => ()) v
/-- the slice of one name for another with the place, the length and the capacity az they are -/
theorem slice_den {γ : Val} {a : SA} {l : SN} {c : SC} {x : Value} (h : (SV.slice a l c).den γ = some x) : ∃ m, l.den ≤ m ∧ (SV.slice ⟨a.nm, .sym a.off.den⟩ (.sym l.den) (.sym m)).den γ = some x ∧ (SV.slice ⟨a.nm, .sym a.off.den⟩ l (.sym m)).den γ = some x ∧ (SV.slice a l (.sym m)).den γ = some x := by
  simp only [SV.den, Option.bind_eq_some_iff] at h
  obtain ⟨y, hy, m, hm, hs⟩ := h
  unfold sliceV at hs
  have hl : l.den ≤ m := by
    by_cases h : l.den ≤ m
    · exact h
    · rw [if_neg h] at hs; cases hs
  have hy' : (⟨a.nm, .sym a.off.den⟩ : SA).den γ = some y := hy
  refine ⟨m, hl, ?_, ?_, ?_⟩
  · simp only [SV.den, Option.bind_eq_some_iff]
    exact ⟨y, hy', m, rfl, hs⟩
  · simp only [SV.den, Option.bind_eq_some_iff]
    exact ⟨y, hy', m, rfl, hs⟩
  · simp only [SV.den, Option.bind_eq_some_iff]
    exact ⟨y, hy, m, rfl, hs⟩
theorem sliceR_sat {v : SV} {nil : R α} {f : SA → SN → R α} {φ : α → Prop} (h0 : v = .nilSlice → nil.Sat φ) (h : ∀ a l c, v = .slice a l c → (f a l).Sat φ) : (sliceR v nil f).Sat φ := by
  cases v <;> first | trivial | exact h0 rfl | exact h _ _ _ rfl





end Go.Sim


/-
  The program, az the simulator takes it: configurations with summaries.
-/
namespace Go.Proofs.YtbhhagnpgkjmgaaDoor.Aes
open Go.Sim
open Go.Proofs
variable {α : Type}

theorem progOK : ProgOK Tryd.prog := by
  refine ⟨?_, by kernel_rfl⟩
  have h : (Tryd.prog.funcs.all fun fn => !(fn.body.isSome && fn.name == "runtime.NumGoroutine")) = true := by kernel_rfl
  intro f fn hf hb
  have := Array.all_eq_true'.1 h fn (Array.mem_of_getElem? hf)
  rw [hb] at this
  simpa using this
/-- a simulator that takes these summaries -/
noncomputable def cfgG (glob : Nat → Option Nat) (s : FuncId → Option Summ) : Cfg := { P := Tryd.prog, glob := glob, sums := s, stopAt := none }
noncomputable def cfgOf (s : FuncId → Option Summ) : Cfg := cfgG (fun _ => none) s
noncomputable def sumsOf (l : List (FuncId × Summ)) : FuncId → Option Summ := List.rec (motive := fun _ => FuncId → Option Summ) (fun _ => none) (fun a _ ih f => boolC (Nat.beq f a.1) (some a.2) (ih f)) l
theorem sumsG_ok {glob : Nat → Option Nat} : ∀ {l : List (FuncId × Summ)}, (∀ x ∈ l, SumAt Tryd.prog glob x.1 x.2) → CfgOK (cfgG glob (sumsOf l))
  | [], _ => ⟨progOK, fun _ _ h => by cases h⟩
  | a :: l, hl => ⟨progOK, fun f s h => by
      rcases boolC_some (show boolC (Nat.beq f a.1) (some a.2) (sumsOf l f) = some s from h) with ⟨hf, h⟩ | h
      · cases h; rw [beq_spec hf]; exact hl a List.mem_cons_self
      · exact (sumsG_ok (l := l) fun x hx => hl x (List.mem_cons_of_mem _ hx)).sums f s h⟩
theorem sumsOf_ok {l : List (FuncId × Summ)} (h : ∀ x ∈ l, SumOK Tryd.prog x.1 x.2) : CfgOK (cfgOf (sumsOf l)) := sumsG_ok fun x hx => h x hx _
theorem all1 {x : FuncId × Summ} (h : SumOK Tryd.prog x.1 x.2) : ∀ y ∈ [x], SumOK Tryd.prog y.1 y.2 := by simpa using h
theorem allC {x : FuncId × Summ} {l : List (FuncId × Summ)} (h : SumOK Tryd.prog x.1 x.2) (h' : ∀ y ∈ l, SumOK Tryd.prog y.1 y.2) : ∀ y ∈ x :: l, SumOK Tryd.prog y.1 y.2 := by
  intro y hy
  rcases List.mem_cons.1 hy with rfl | hy
  · exact h
  · exact h' y hy
noncomputable def cfg0 : Cfg := cfgOf (sumsOf [])
theorem cfg0OK : CfgOK cfg0 := sumsOf_ok (by simp)
end Go.Proofs.YtbhhagnpgkjmgaaDoor.Aes


/-
  A byte's place in a string.
-/
namespace Go.Proofs.YtbhhagnpgkjmgaaDoor.Aes
open Go.Sim
open Go.Proofs
variable {α : Type}

noncomputable def strV (v : SV) : Option SStr :=
  SV.rec (motive_1 := fun _ => Option SStr) (motive_2 := fun _ => Unit) (fun _ _ => none) (fun _ => none) (fun s => some s) (fun _ => none) none (fun _ _ _ => none) none (fun _ => none) none (fun _ _ _ _ _ => none) none (fun _ _ _ => none) none (fun _ _ => none) (fun _ _ => none) (fun _ => none) (fun _ _ _ _ => none) () (fun _ _ _ _ => ()) v
theorem strV_spec {v : SV} {s : SStr} (h : strV v = some s) : v = .str s := by
  cases v <;> first | (cases h; done) | (cases h; rfl)
/-- the place of a byte in a string -/
noncomputable def idxI (s : SStr) (v : SV) (n : Int) : SI := SStr.rec (motive := fun _ => SI) (fun _ => optC (unl1 v) (.sym n) fun _ => .lit n) (fun _ => .sym n) (fun _ => .sym n) s
theorem idxI_den (s : SStr) (v : SV) (n : Int) : (idxI s v n).den = n := by
  unfold idxI
  cases s with
  | lit s =>
    show (optC (unl1 v) (SI.sym n) fun _ => .lit n).den = n
    cases unl1 v <;> rfl
  | sym => rfl
  | bytes => rfl
noncomputable def idxS : Summ := fun args _ _ => args2 args fun s v => optC (strV s) (.stuck 680) fun s => optC (unb1 v) (.stuck 680) fun x => .ok ⟨.int .i64 (idxI s v (firstIdx s.den x.toNat.toUInt8)), [], []⟩
set_option maxRecDepth 1000000
theorem find_idx : ∃ fn, Tryd.prog.funcs[69]? = some fn ∧ (fn.name == "runtime.NumGoroutine") = false ∧ fn.body.isNone = true ∧ Extern.findNext fn = none ∧ Extern.find fn = some Extern.BytealgIndexByte.indexByte := ⟨_, rfl, by kernel_rfl, by kernel_rfl, by kernel_rfl, by kernel_rfl⟩
theorem idxOK : SumOK Tryd.prog 69 idxS := by
  intro glob O w0 β H w base args vs hH hG ha
  refine args2_sat fun v1 v2 hv => optC_only fun s hs => optC_only fun x hx => ?_
  rw [hv, strV_spec hs] at ha
  have ha := impL_cons (.refl _) (impL_cons (unb1_imp hx) impL_nil) _ _ ha
  cases ha
  intro hfree
  refine ⟨by simp, .inr ?_⟩
  obtain ⟨fn, h1, h2, h3, h4, h5⟩ := find_idx
  refine ⟨.int .i64 (firstIdx s.den x.toNat.toUInt8), w, β, ?_, by show some (Value.int .i64 (idxI s v2 _).den) = _; rw [idxI_den], Eff.refl _ _ _ _⟩
  rw [run_callFunc_extern h1 h2 h3 h4 h5]
  show ((Extern.BytealgIndexByte.indexByte #[.string s.den, .int .u8 (x.toNat : Int)]).run Tryd.prog w).andThen _ = _
  rw [run_indexByte_string]
  rfl

noncomputable def cfgX : Cfg := cfgOf (sumsOf [(69, idxS)])
theorem cfgXOK : CfgOK cfgX := sumsOf_ok (all1 idxOK)
end Go.Proofs.YtbhhagnpgkjmgaaDoor.Aes


/-
  The symbolic simulator, thirty-first part: the start of a law: slices of bytes that came in; its end.
-/
namespace Go.Sim
open Go.RowKit
variable {α : Type}

/-- where a slice that came in leads is no spot -/
theorem spot_of {P : Program} {w : World} {r : Reach} {base t e : Nat} {a : Option Addr} {len cap : Nat} (ht : P.underlying t = some (.slice e)) (h : Value.okWide P w r base t (.slice a len cap)) : ∀ x, a = some x → x.spot = none := by
  rintro x rfl
  simp only [Value.okWide, ht, Cell.okWide, Cell.ok] at h
  exact h.2.2.2.1
/-- A LAW THAT RETURNS TRUE, FROM A RUN -/
theorem calls_true {c : Cfg} (hc : CfgOK c) (n : Nat) {w : World} {β : Val} {H : List SO} {f : FuncId} {args : List SV} {vs : List Value} (hH : HeapRel c.P (fun _ => False) w β H w) (hG : GlobRel c.glob β) (ha : SV.denL β args = some vs)
    (hob : (callSim c n f args H).Ob (fun v _ => v = .bool (.lit true)) fun _ => False) : Calls c.P f vs.toArray w fun e w' => e = .returned (.bool true) ∧ Below w.heap.size w w' := by
  refine (calls_of hc hH hG ha hob).mono fun e w' hcame => ?_
  obtain ⟨v, H', x, β', rfl, rfl, _, hv, hH'⟩ := hcame
  cases hv
  exact ⟨rfl, hH'.keep.below⟩
/-- a path's conditions, at each fork the way that is told; its value, some of its entries -/
noncomputable def outO (js : List Nat) (t : Tree) : List Bool → List Prop × Option (SV × List (Option SO)) :=
  Tree.rec (motive := fun _ => List Bool → List Prop × Option (SV × List (Option SO))) (fun v H _ => ([], some (v, mapN (fun j => nth H j) js))) (fun _ _ => ([], none)) (fun p _ ih ds => (p :: (ih ds).1, (ih ds).2))
    (fun b _ _ iht ihf ds => List.rec (motive := fun _ => List Prop × Option (SV × List (Option SO))) ([], none) (fun d r _ => ((b = d) :: (boolC d (iht r) (ihf r)).1, (boolC d (iht r) (ihf r)).2)) ds) (fun _ _ => ([], none)) (fun _ _ _ => ([], none)) t
theorem outO_ob {js : List Nat} {t : Tree} {ds : List Bool} {ps : List Prop} {v : SV} {es : List (Option SO)} (h : outO js t ds = (ps, some (v, es))) (hp : ∀ p ∈ ps, p) {D : SV → List SO → Prop} {S : SS → Prop} (hD : ∀ H : List SO, js.map (fun j => H[j]?) = es → D v H) : t.Ob D S := by
  induction t generalizing ps ds with
  | done v' H =>
    have h' : ([], some (v', mapN (fun j => nth H j) js)) = (ps, some (v, es)) := h
    have h1 := Option.some.inj (Prod.mk.inj h').2
    obtain ⟨h2, h3⟩ := Prod.mk.inj h1
    subst h2
    refine hD H ?_
    rw [mapN_eq] at h3
    rw [← h3]
    exact List.map_congr_left fun j _ => (nth_eq H j).symm
  | stop => cases (Prod.mk.inj (show ([], none) = (ps, some (v, es)) from h)).2
  | need p t ih =>
    have h' : (p :: (outO js t ds).1, (outO js t ds).2) = (ps, some (v, es)) := h
    obtain ⟨h1, h2⟩ := Prod.mk.inj h'
    subst h1
    exact ⟨hp p List.mem_cons_self, ih (ds := ds) (ps := (outO js t ds).1) (by rw [← h2]) fun q hq => hp q (List.mem_cons_of_mem _ hq)⟩
  | fork b t f iht ihf =>
    cases ds with
    | nil => cases (Prod.mk.inj (show ([], none) = (ps, some (v, es)) from h)).2
    | cons d r =>
      have h' : ((b = d) :: (boolC d (outO js t r) (outO js f r)).1, (boolC d (outO js t r) (outO js f r)).2) = (ps, some (v, es)) := h
      obtain ⟨h1, h2⟩ := Prod.mk.inj h'
      subst h1
      have hb := hp _ List.mem_cons_self
      cases d with
      | true => exact ⟨fun _ => iht (ds := r) (ps := (outO js t r).1) (by rw [← h2]; rfl) fun q hq => hp q (List.mem_cons_of_mem _ hq), fun hf => by rw [hf] at hb; cases hb⟩
      | false => exact ⟨fun ht => (by rw [ht] at hb; cases hb), fun _ => ihf (ds := r) (ps := (outO js f r).1) (by rw [← h2]; rfl) fun q hq => hp q (List.mem_cons_of_mem _ hq)⟩
  | stuck => cases (Prod.mk.inj (show ([], none) = (ps, some (v, es)) from h)).2
  | any => cases (Prod.mk.inj (show ([], none) = (ps, some (v, es)) from h)).2
/-- the same, where numbers come that nobody knows -/
noncomputable def outZ (js : List Nat) (t : Tree) : List Bool → (Nat → Nat → Nat) → List Prop × Option (SV × List (Option SO)) :=
  Tree.rec (motive := fun _ => List Bool → (Nat → Nat → Nat) → List Prop × Option (SV × List (Option SO))) (fun v H _ _ => ([], some (v, mapN (fun j => nth H j) js))) (fun _ _ _ => ([], none)) (fun p _ ih ds z => (p :: (ih ds z).1, (ih ds z).2))
    (fun b _ _ iht ihf ds z => List.rec (motive := fun _ => List Prop × Option (SV × List (Option SO))) ([], none) (fun d r _ => ((b = d) :: (boolC d (iht r z) (ihf r z)).1, (boolC d (iht r z) (ihf r z)).2)) ds) (fun _ _ _ => ([], none)) (fun _ ih ds z => ih (z 0) ds fun i => z (i + 1)) t
theorem sum_outO {c : Cfg} (hc : CfgOK c) (hgl : c.glob = fun _ => none) (n : Nat) {O : Nat → Prop} {w0 w : World} {β : Val} {H : List SO} {base : Nat} {f : FuncId} {vs : List Value} (hH : HeapRel0 c.P O w0 β H w)
    (I : Ifc) (ha : SV.denL β (SV.renL I.big I.args) = some vs) (hI : I.Fits H) {r : SumRes} (keep : List Nat) (hk : ∀ j ∈ keep, I.names.length ≤ j) (hkn : keep.Nodup)
    {js : List Nat} {ds : List Bool} {ps : List Prop} {v : SV} {es : List (Option SO)} (h : outO js (callSim c n f I.args I.ents) ds = (ps, some (v, es))) (hp : ∀ p ∈ ps, p) (hD : ∀ H2 : List SO, js.map (fun j => H2[j]?) = es → I.Ends base keep r v H2) : SumSem c.P H β w base f vs r :=
  sum_run hc hgl n hH I ha hI keep hk hkn (outO_ob h hp hD)
/-- conditions, one by one -/
theorem all_nil : ∀ p ∈ ([] : List Prop), p := by simp
theorem all_cons {p : Prop} {ps : List Prop} (h : p) (hs : ∀ q ∈ ps, q) : ∀ q ∈ p :: ps, q := by
  intro q hq
  rcases List.mem_cons.1 hq with rfl | hq
  · exact h
  · exact hs q hq
theorem law_by {c : Cfg} (hc : CfgOK c) (n : Nat) {w : World} {β : Val} {H : List SO} {f : FuncId} {args : List SV} {vs : List Value} (hH : HeapRel c.P (fun _ => False) w β H w) (hG : GlobRel c.glob β) (ha : SV.denL β args = some vs) (ds : List Bool)
    {ps : List Prop} (h : outO [] (callSim c n f args H) ds = (ps, some (.bool (.lit true), []))) (hp : ∀ p ∈ ps, p) : Calls c.P f vs.toArray w fun e w' => e = .returned (.bool true) ∧ Below w.heap.size w w' :=
  calls_true hc n hH hG ha (by generalize callSim c n f args H = t at h ⊢; exact outO_ob h hp fun _ _ => rfl)

theorem fromN_eqr : ∀ n k : Nat, fromN n k = List.range' k n := by
  intro n
  induction n with
  | zero => intro k; rfl
  | succ n ih => intro k; show k :: fromN n (k + 1) = _; rw [ih]; rfl

end Go.Sim


/-
  The symbolic simulator, thirty-second part: loops of any number of rounds.
-/
namespace Go.Sim
variable {α : Type}

/- A state of which some temporaries are known: where a loop's round begins. -/
structure SP where
  fn : FuncId
  tmps : List (Option SV)
  todo : List SItem
  defers : List SD
  roundOf : Option Nat
/-- an entry; a loop's record of which some temporaries are known -/
inductive HP where
  | ent (e : SO)
  | loop (state : LoopState) (pending : Option Code) (fn : FuncId) (tmps : List (Option SV)) (params : Array Tmp) (assign body : Code) (defers : Nat)
structure Cut where
  frames : List SP
  heap : List HP
/-- what nobody looks at -/
structure Junk where
  fr : Nat → Nat → Value
  hp : Nat → Nat → Value
noncomputable def fillT (js : Nat → Value) (T : List (Option SV)) : Nat → List SV :=
  List.rec (motive := fun _ => Nat → List SV) (fun _ => []) (fun o _ ih k => optC o (.val (js k)) (fun v => v) :: ih (Nat.succ k)) T
noncomputable def SP.fill (js : Nat → Value) (p : SP) : SF := ⟨p.fn, fillT js p.tmps 0, p.todo, p.defers, p.roundOf⟩
noncomputable def fillFs (J : Nat → Nat → Value) (l : List SP) : Nat → List SF := List.rec (motive := fun _ => Nat → List SF) (fun _ => []) (fun p _ ih i => p.fill (J i) :: ih (Nat.succ i)) l
noncomputable def HP.fill (js : Nat → Value) (E : HP) : SO := HP.rec (motive := fun _ => SO) (fun e => e) (fun s p f T ps a b d => .loop s p f (fillT js T 0) ps a b d) E
noncomputable def fillHs (J : Nat → Nat → Value) (l : List HP) : Nat → List SO := List.rec (motive := fun _ => Nat → List SO) (fun _ => []) (fun p _ ih i => p.fill (J i) :: ih (Nat.succ i)) l
noncomputable def Cut.fill (J : Junk) (C : Cut) : SS := ⟨fillFs J.fr C.frames 0, fillHs J.hp C.heap 0⟩

/- Names turned. -/
def SItem.ren (f : Nat → Nat) : SItem → SItem
  | .inRF n => .inRF (f n)
  | .endRF n => .endRF (f n)
  | x => x
def SD.ren (f : Nat → Nat) : SD → SD
  | .coll n => .coll (f n)
  | .call g xs ys => .call (g.ren f) (SV.renL f xs) (SV.renL f ys)
theorem ItemRel.ren {β : Val} (f : Nat → Nat) {x : SItem} {y : Item} (h : ItemRel β (x.ren f) y) : ItemRel (fun n => β (f n)) x y := by
  cases x <;> cases y <;> exact h
theorem TodoRel.ren {β : Val} (f : Nat → Nat) : ∀ {x : List SItem} {y : List Item}, TodoRel β (x.map (SItem.ren f)) y → TodoRel (fun n => β (f n)) x y
  | [], [], _ => trivial
  | _ :: _, _ :: _, h => ⟨ItemRel.ren f h.1, TodoRel.ren f h.2⟩
  | [], _ :: _, h => h.elim
  | _ :: _, [], h => h.elim
theorem SD.den_ren (f : Nat → Nat) (β : Val) (d : SD) : (d.ren f).den β = d.den (fun n => β (f n)) := by
  cases d with
  | coll n => rfl
  | call g xs ys => simp only [SD.ren, SD.den, SFn.den_ren, SV.denL_ren]
theorem SD.denL_ren (f : Nat → Nat) (β : Val) : ∀ l : List SD, SD.denL β (l.map (SD.ren f)) = SD.denL (fun n => β (f n)) l
  | [] => rfl
  | d :: l => by simp only [List.map_cons, SD.denL, SD.den_ren, SD.denL_ren f β l]

/- What a state comes to, az a cut with other names. -/
def GenT (f : Nat → Nat) : List SV → List (Option SV) → Prop
  | v :: vs, some u :: us => v.Imp (u.ren f) ∧ GenT f vs us
  | _ :: vs, none :: us => GenT f vs us
  | [], [] => True
  | _, _ => False
structure GenF (f : Nat → Nat) (s : SF) (p : SP) : Prop where
  fn : s.fn = p.fn
  tmps : GenT f s.tmps p.tmps
  todo : s.todo = p.todo.map (SItem.ren f)
  defers : s.defers = p.defers.map (SD.ren f)
  roundOf : s.roundOf = p.roundOf.map f
def GenFs (f : Nat → Nat) : List SF → List SP → Prop
  | s :: ss, p :: ps => GenF f s p ∧ GenFs f ss ps
  | [], [] => True
  | _, _ => False
def GenE (f : Nat → Nat) (e : Option SO) (E : HP) : Prop :=
  match E with
  | .ent (.own c w el) => ∃ c0, e = some (.own c0 w el) ∧ c0.Imp (c.ren f)
  | .ent (.row c) => ∃ c0, e = some (.row c0) ∧ c0.Imp (c.ren f)
  | .ent (.deferred ds) => e = some (.deferred (ds.map (List.map (SD.ren f))))
  | .ent (.obj o) => ∃ o0, e = some (.obj o0) ∧ o0.Imp (o.ren f)
  | .ent .gone => True
  | .ent (.loop ..) => False
  | .loop s p g T ps a b d => ∃ T0, e = some (.loop s p g T0 ps a b (f d)) ∧ GenT f T0 T
/-- the names, and what is beyond -/
noncomputable def nameOf (names : List Nat) (N j : Nat) : Nat := optC (nth names j) (Nat.add N j) fun n => n
structure Gen (k0 : Nat) (s : SS) (C : Cut) (names : List Nat) : Prop where
  keep : ∀ j, j < k0 → names[j]? = some j
  nodup : names.Nodup
  len : names.length = C.heap.length
  frames : GenFs (nameOf names s.heap.length) s.frames C.frames
  heap : ∀ j E, C.heap[j]? = some E → GenE (nameOf names s.heap.length) s.heap[nameOf names s.heap.length j]? E
/-- names that a run has had from its start lie ahead of k0 -/
structure BaseOK (k0 : Nat) (B : Base) : Prop where
  fix : ∀ n, k0 ≤ n → B.fix n = none
  glob : ∀ g nm, B.glob g = some nm → nm < k0

theorem fillT_den {β β' : Val} {f : Nat → Nat} (hβ : β' = fun n => β (f n)) {js : Nat → Value} : ∀ {vs : List SV} {T : List (Option SV)} {xs : List Value} {o : Nat}, SV.denL β vs = some xs → GenT f vs T → (∀ k x, xs[k]? = some x → js (o + k) = x) → SV.denL β' (fillT js T o) = some xs
  | [], [], xs, o, h, _, _ => h
  | v :: vs, u :: us, xs, o, h, hg, hj => by
    obtain ⟨y, ys, hy, hys, rfl⟩ := denL_cons.1 h
    have hj' : ∀ k x, ys[k]? = some x → js (o + 1 + k) = x := fun k x hk => by
      rw [show o + 1 + k = o + (k + 1) from by omega]; exact hj (k + 1) x (by simpa using hk)
    cases u with
    | some u =>
      refine denL_cons.2 ⟨y, ys, ?_, fillT_den hβ hys hg.2 hj', rfl⟩
      show u.den β' = _
      rw [hβ, ← SV.den_ren]; exact hg.1 _ _ hy
    | none =>
      refine denL_cons.2 ⟨y, ys, ?_, fillT_den hβ hys hg hj', rfl⟩
      show some (js o) = _
      rw [show o = o + 0 from rfl, hj 0 y rfl]
  | [], _ :: _, _, _, _, h, _ => h.elim
  | _ :: _, [], _, _, _, h, _ => h.elim

theorem nameOf_lt {names : List Nat} {N j : Nat} (h : j < names.length) : names[j]? = some (nameOf names N j) := by
  unfold nameOf
  rw [nth_eq, List.getElem?_eq_getElem h]; rfl
theorem nameOf_ge {names : List Nat} {N j : Nat} (h : names.length ≤ j) : nameOf names N j = N + j := by
  unfold nameOf
  rw [nth_eq, List.getElem?_eq_none h]; rfl
theorem fillHs_get (J : Nat → Nat → Value) : ∀ (l : List HP) (o i : Nat), (fillHs J l o)[i]? = l[i]?.map (HP.fill (J (o + i)))
  | [], _, _ => by simp [fillHs]
  | _ :: _, _, 0 => rfl
  | _ :: l, o, i + 1 => by
    show (fillHs J l (o + 1))[i]? = _
    rw [fillHs_get J l (o + 1) i, show o + 1 + i = o + (i + 1) from by omega]; simp
theorem fillHs_length (J : Nat → Nat → Value) : ∀ (l : List HP) (o : Nat), (fillHs J l o).length = l.length
  | [], _ => rfl
  | _ :: l, o => congrArg (· + 1) (fillHs_length J l (o + 1))
theorem HP.owned_fill {f : Nat → Nat} {js : Nat → Value} {e : Option SO} {E : HP} (h : GenE f e E) (ho : (E.fill js).owned = true) : ∃ e0, e = some e0 ∧ e0.owned = true := by
  cases E with
  | ent E =>
    cases E with
    | own c w el => obtain ⟨c0, rfl, _⟩ := h; exact ⟨_, rfl, rfl⟩
    | row c => cases ho
    | loop => exact h.elim
    | deferred ds => have h : e = _ := h; subst h; exact ⟨_, rfl, rfl⟩
    | gone => cases ho
    | obj o => obtain ⟨o0, rfl, _⟩ := h; exact ⟨_, rfl, rfl⟩
  | loop s p g T ps a b d => obtain ⟨T0, rfl, _⟩ := h; exact ⟨_, rfl, rfl⟩

theorem framesRel_fill {β β' : Val} {f : Nat → Nat} (hβ : β' = fun n => β (f n)) {J : Nat → Nat → Value} : ∀ {ss : List SF} {ps : List SP} {fs : List Frame} {o : Nat}, FramesRel β ss fs → GenFs f ss ps → (∀ i fr, fs[i]? = some fr → ∀ k x, fr.tmps.toList[k]? = some x → J (o + i) k = x) → FramesRel β' (fillFs J ps o) fs
  | [], [], [], o, _, _, _ => trivial
  | s :: ss, p :: ps, fr :: fs, o, h, hg, hj => by
    have h0 := hj 0 fr rfl
    refine ⟨?_, framesRel_fill hβ h.2 hg.2 fun i fr' hi k x hk => ?_⟩
    · obtain ⟨h1, h2, h3, h4, h5, h6, h7⟩ := h.1
      obtain ⟨g1, g2, g3, g4, g5⟩ := hg.1
      refine ⟨h1.trans g1, ?_, ?_, ?_, h5, h6, ?_⟩
      · exact fillT_den hβ h2 g2 fun k x hk => by rw [Nat.zero_add]; exact h0 k x hk
      · rw [hβ]; rw [g3] at h3; exact TodoRel.ren f h3
      · show SD.denL β' p.defers = _
        rw [hβ, ← SD.denL_ren, ← g4]; exact h4
      · show RoundRel β' p.roundOf fr.roundOf
        rw [hβ]
        rw [g5] at h7
        cases hp : p.roundOf <;> cases hr : fr.roundOf <;> rw [hp, hr] at h7 <;> exact h7
    · rw [show o + 1 + i = o + (i + 1) from by omega]
      exact hj (i + 1) fr' (by simpa using hi) k x hk
  | [], _ :: _, _, _, _, h, _ => h.elim
  | _ :: _, [], _, _, _, h, _ => h.elim
  | [], [], _ :: _, _, h, _, _ => h.elim
  | _ :: _, _ :: _, [], _, h, _, _ => h.elim

theorem Cells.den_ren (f : Nat → Nat) {β : Val} {c : Cells} {vs : List Value} (h : CellsRel β (c.ren f) vs) : CellsRel (fun n => β (f n)) c vs := by
  cases c with
  | lst l =>
    have h : SV.denL β (SV.renL f l) = some vs := h
    rw [SV.denL_ren] at h; exact h
  | fn g n =>
    obtain ⟨h1, h2⟩ := h
    refine ⟨h1, fun i x hx => ?_⟩
    have := h2 i x hx
    rw [SV.den_ren] at this; exact this
  | raw V n => exact h

/-- A STATE IS A CUT, with what nobody looks at filled in -/
theorem gen_rel {B : Base} {k0 : Nat} (hB : BaseOK k0 B) {s : SS} {C : Cut} {names : List Nat} (h : Gen k0 s C names) {m : Machine} (hM : MRel B s m) : ∃ J, MRel B (C.fill J) m := by
  obtain ⟨β, fr, frs, w, rfl, hFs, hH, hG, hl⟩ := hM.ex
  obtain ⟨hkeep, hnd, hlen, hgf, hgh⟩ := h
  generalize hf : nameOf names s.heap.length = f at hgf hgh
  have hlt : ∀ j, j < names.length → names[j]? = some (f j) := fun j hj => by rw [← hf]; exact nameOf_lt hj
  have hge : ∀ j, names.length ≤ j → f j = s.heap.length + j := fun j hj => by rw [← hf]; exact nameOf_ge hj
  have hid : ∀ j, j < k0 → f j = j := fun j hj => by
    have h1 := hkeep j hj
    have h2 := (List.getElem?_eq_some_iff.1 h1).1
    rw [hlt j h2] at h1; exact Option.some.inj h1
  have hinj : ∀ i j, i < names.length → j < names.length → f i = f j → i = j := fun i j hi hj he => by
    have h1 := hlt i hi
    have h2 := hlt j hj
    rw [he] at h1
    exact (List.getElem?_inj hi hnd).1 (h1.trans h2.symm)
  let J : Junk := ⟨fun i k => (((fr :: frs)[i]?).bind fun g => g.tmps.toList[k]?).getD undef, fun j k => ((β (f j)).bind fun l => match w.heap[l.blk]? with | some (.loop r) => r.tmps.toList[k]? | _ => none).getD undef⟩
  have hent : ∀ j e, (fillHs J.hp C.heap 0)[j]? = some e → ∃ E : HP, C.heap[j]? = some E ∧ e = E.fill (J.hp j) := fun j e he => by
    rw [fillHs_get, Nat.zero_add] at he
    cases hE : C.heap[j]? with
    | none => rw [hE] at he; cases he
    | some E => rw [hE] at he; exact ⟨E, rfl, (Option.some.inj he).symm⟩
  have hjl : ∀ j E, C.heap[j]? = some E → j < names.length := fun j E h => by rw [hlen]; exact (List.getElem?_eq_some_iff.1 h).1
  refine ⟨J, ⟨fun n => β (f n), fr, frs, w, rfl, ?_, ⟨⟨?_, ?_, ?_, hH.keep⟩, ?_⟩, ⟨?_, ?_⟩, hl⟩⟩
  · refine framesRel_fill rfl hFs hgf fun i g hi k x hk => ?_
    show (((fr :: frs)[0 + i]?).bind fun g => g.tmps.toList[k]?).getD undef = x
    rw [Nat.zero_add, hi]
    show (g.tmps.toList[k]?).getD undef = x
    rw [hk]; rfl
  · intro j e he
    obtain ⟨E, hE, rfl⟩ := hent j e he
    have hg := hgh j E hE
    have hold := hH.entries (f j)
    cases E with
    | ent E =>
      cases E with
      | own c wh el =>
        obtain ⟨c0, h1, hi⟩ := hg
        obtain ⟨l, vs, rest, lo, hi2, hl2, h0, hc, hh, hz, hw, hcap⟩ := hold _ h1
        exact ⟨l, vs, rest, lo, hi2, hl2, h0, Cells.den_ren f (hi _ _ hc), hh, hz, hw, hcap⟩
      | row c =>
        obtain ⟨c0, h1, hi⟩ := hg
        obtain ⟨l, vs, hl2, hc, hx⟩ := hold _ h1
        exact ⟨l, vs, hl2, Cells.den_ren f (hi _ _ hc), hx⟩
      | loop => exact hg.elim
      | deferred ds =>
        obtain ⟨l, ds', hl2, hd, hh⟩ := hold _ hg
        refine ⟨l, ds', hl2, ?_, hh⟩
        cases ds with
        | none => exact hd
        | some ds =>
          have hd : (SD.denL β (ds.map (SD.ren f))).map some = some ds' := hd
          rw [SD.denL_ren] at hd; exact hd
      | gone => trivial
      | obj o =>
        obtain ⟨o0, h1, hi⟩ := hg
        obtain ⟨l, x, hl2, h0, hd, hh⟩ := hold _ h1
        refine ⟨l, x, hl2, h0, ?_, hh⟩
        rw [← SObj.den_ren]
        exact hi _ _ hd
    | loop st p g T ps a b d =>
      obtain ⟨T0, h1, hT⟩ := hg
      obtain ⟨l, ld, Ts, hl2, hd, hTs, hh⟩ := hold _ h1
      refine ⟨l, ld, Ts, hl2, hd, ?_, hh⟩
      refine fillT_den rfl hTs hT fun k x hk => ?_
      show ((β (f j)).bind fun l => _).getD undef = x
      rw [hl2]
      simp only [Option.bind_some, hh, Nat.zero_add, hk]
      rfl
  · intro i j e e' l l' hi hj ho ho' hij hl1 hl2
    obtain ⟨E, hE, rfl⟩ := hent i e hi
    obtain ⟨E', hE', rfl⟩ := hent j e' hj
    obtain ⟨e0, h1, h2⟩ := HP.owned_fill (hgh i E hE) ho
    obtain ⟨e1, h3, h4⟩ := HP.owned_fill (hgh j E' hE') ho'
    exact hH.sep (f i) (f j) e0 e1 l l' h1 h3 h2 h4 (fun he => hij (hinj i j (hjl i E hE) (hjl j E' hE') he)) hl1 hl2
  · intro j e l he ho hl1
    obtain ⟨E, hE, rfl⟩ := hent j e he
    obtain ⟨e0, h1, h2⟩ := HP.owned_fill (hgh j E hE) ho
    exact hH.fresh (f j) e0 l h1 h2 hl1
  · intro n hn
    have hn : (fillHs J.hp C.heap 0).length ≤ n := hn
    rw [fillHs_length, ← hlen] at hn
    show β (f n) = none
    rw [hge n hn]
    exact hH.bound _ (Nat.le_add_right _ _)
  · intro g nm hg
    obtain ⟨l, h1, h2⟩ := hG.glob g nm hg
    exact ⟨l, by show β (f nm) = some l; rw [hid nm (hB.glob g nm hg)]; exact h1, h2⟩
  · intro n l hn
    show β (f n) = some l
    by_cases hk : n < k0
    · rw [hid n hk]; exact hG.fix n l hn
    · rw [hB.fix n (by omega)] at hn; cases hn

/- The rule. -/
/-- the state is the beginning of a round -/
def Turns {A : Type} (k0 : Nat) (C : A → Cut) (Q : A → Prop) (s : SS) : Prop := ∀ B m, BaseOK k0 B → MRel B s m → ∃ a J, Q a ∧ MRel B ((C a).fill J) m
theorem turns_of {A : Type} {k0 : Nat} {C : A → Cut} {Q : A → Prop} {s : SS} (a : A) (hq : Q a) (names : List Nat) (h : Gen k0 s (C a) names) : Turns k0 C Q s :=
  fun _ _ hB hM => let ⟨J, hJ⟩ := gen_rel hB h hM; ⟨a, J, hq, hJ⟩
/-- the same, with another place to stop -/
def Cfg.at (c : Cfg) (st : Option (Nat × Nat)) : Cfg := { P := c.P, glob := c.glob, sums := c.sums, stopAt := st }
theorem CfgOK.at {c : Cfg} (hc : CfgOK c) (st : Option (Nat × Nat)) : CfgOK (c.at st) := ⟨hc.prog, hc.sums⟩
theorem loop_ends {c : Cfg} (hc : CfgOK c) {B : Base} {k0 : Nat} (hB : BaseOK k0 B) (hP : B.P = c.P) (hgl : B.glob = c.glob) {A : Type} (C : A → Cut) (OK : A → Prop) (μ : A → Nat) {D : SV → List SO → Prop}
    (hs : ∀ a, OK a → ∀ J, ∃ st n, (sim1 (c.at st) n ((C a).fill J)).Ob D (Turns k0 C fun a' => OK a' ∧ μ a' < μ a)) :
    ∀ (k : Nat) (a : A) (J : Junk) (m : Machine), μ a < k → OK a → MRel B ((C a).fill J) m → ∃ m' v H, Steps B.P m m' ∧ D v H ∧ DoneRel B v H m' := by
  intro k
  induction k with
  | zero => intro a J m h; omega
  | succ k ih =>
    intro a J m hk ha hM
    obtain ⟨st, n, hs'⟩ := hs a ha J
    obtain ⟨m1, hst, ⟨v, H, hD, hdone⟩ | ⟨s, hS, hM1⟩⟩ := sim1_sound (B := B) (hc.at st) hP hgl hM hs'
    · exact ⟨m1, v, H, hst, hD, hdone⟩
    · obtain ⟨a', J', ⟨ha', hμ⟩, hM2⟩ := hS B m1 hB hM1
      obtain ⟨m2, v, H, hst2, hD, hdone⟩ := ih a' J' m1 (by omega) ha' hM2
      exact ⟨m2, v, H, hst.trans hst2, hD, hdone⟩

/-- a function comes to its end, with such a value and such entries -/
def Runs (c : Cfg) (f : FuncId) (args : List SV) (H : List SO) (D : SV → List SO → Prop) : Prop :=
  (∃ fn, c.P.funcs[f]? = some fn ∧ fn.body.isSome = true) ∧ ∀ (O : Nat → Prop) (w0 w : World) (β : Val) (vs : List Value), HeapRel c.P O w0 β H w → GlobRel c.glob β → SV.denL β args = some vs → Calls c.P f vs.toArray w (Came c.P O w0 β D)
theorem runs_of {c : Cfg} (hc : CfgOK c) {n : Nat} {f : FuncId} {args : List SV} {H : List SO} {D : SV → List SO → Prop} (hob : (callSim c n f args H).Ob D fun _ => False) : Runs c f args H D := by
  refine ⟨?_, fun O w0 w β vs hH hG ha => calls_of hc hH hG ha hob⟩
  unfold callSim at hob
  cases hg : enterF c.P f args with
  | none => rw [hg] at hob; exact hob.elim
  | some g => exact enterF_body hg
/-- A FUNCTION WITH A LOOP -/
theorem runs_loop {c : Cfg} (hc : CfgOK c) {A : Type} (C : A → Cut) (OK : A → Prop) (μ : A → Nat) {D : SV → List SO → Prop} {f : FuncId} {args : List SV} {H : List SO} (hgl : ∀ g nm, c.glob g = some nm → nm < H.length)
    (h0 : ∃ st n, (callSim (c.at st) n f args H).Ob D (Turns H.length C OK))
    (hs : ∀ a, OK a → ∀ J, ∃ st n, (sim1 (c.at st) n ((C a).fill J)).Ob D (Turns H.length C fun a' => OK a' ∧ μ a' < μ a)) : Runs c f args H D := by
  obtain ⟨st0, n0, h0⟩ := h0
  unfold callSim at h0
  cases hg : enterF (c.at st0).P f args with
  | none => rw [hg] at h0; exact h0.elim
  | some g =>
    rw [hg] at h0
    refine ⟨enterF_body hg, fun O w0 w β vs hH hG ha cs => ?_⟩
    have hB : BaseOK H.length ⟨c.P, c.glob, O, w0, cs, f, β⟩ := ⟨hH.bound, hgl⟩
    have hend : ∀ m v H', Steps c.P (lone (Frame.enter c.P f vs.toArray .normal) cs w) m → D v H' → DoneRel ⟨c.P, c.glob, O, w0, cs, f, β⟩ v H' m →
        ∃ e w' b, Came c.P O w0 β D e w' ∧ Comes c.P (lone (Frame.enter c.P f vs.toArray .normal) cs w) (lone b cs w') e ∧ b.fn = f ∧ b.leaving c.P w' e := by
      intro m v H' hst hD hdone
      obtain ⟨β', fr, x, w', rfl, hfn, hleave, hv, hH', hG'⟩ := hdone.ex
      exact ⟨.returned x, w', fr, ⟨v, H', x, β', rfl, hD, hG'.fix, hv, hH'⟩, hst, hfn, hleave⟩
    obtain ⟨m1, hst, ⟨v, H', hD, hdone⟩ | ⟨s, hS, hM1⟩⟩ := sim_sound (B := ⟨c.P, c.glob, O, w0, cs, f, β⟩) (hc.at st0) rfl rfl n0 _ _ (enter_mrel (c := c) hH hG ha hg cs) h0
    · exact hend m1 v H' hst hD hdone
    · obtain ⟨a, J, ha', hM2⟩ := hS _ _ hB hM1
      obtain ⟨m2, v, H', hst2, hD, hdone⟩ := loop_ends hc hB rfl rfl C OK μ hs (μ a + 1) a J m1 (Nat.lt_succ_self _) ha' hM2
      exact hend m2 v H' (hst.trans hst2) hD hdone

end Go.Sim


/-
  The symbolic simulator, thirty-third part: what a round comes to, told by a closed term.
-/
namespace Go.Sim
variable {α : Type}

/- What is seen of a state: the temporaries and the entries that a cut names. -/
noncomputable def seeT (vs : List SV) : List (Option SV) → List (Option SV) :=
  List.rec (motive := fun _ => List (Option SV) → List (Option SV)) (fun _ => []) (fun v _ ih T => List.rec (motive := fun _ => List (Option SV)) (some v :: ih []) (fun o r _ => optC o none (fun _ => some v) :: ih r) T) vs
noncomputable def seeF (s : SF) (p : SP) : SP := ⟨s.fn, seeT s.tmps p.tmps, s.todo, s.defers, s.roundOf⟩
noncomputable def seeFs (ss : List SF) : List SP → List SP :=
  List.rec (motive := fun _ => List SP → List SP) (fun _ => []) (fun s _ ih ps => List.rec (motive := fun _ => List SP) (⟨s.fn, seeT s.tmps [], s.todo, s.defers, s.roundOf⟩ :: ih []) (fun p r _ => seeF s p :: ih r) ps) ss
noncomputable def seeL (e : SO) (T : List (Option SV)) : HP := SO.rec (motive := fun _ => HP) (fun c w el => .ent (.own c w el)) (fun c => .ent (.row c)) (fun s p f T0 ps a b d => .loop s p f (seeT T0 T) ps a b d) (fun ds => .ent (.deferred ds)) (.ent .gone) (fun o => .ent (.obj o)) e
noncomputable def goneB (e : SO) : Bool := SO.rec (motive := fun _ => Bool) (fun _ _ _ => false) (fun _ => false) (fun _ _ _ _ _ _ _ _ => false) (fun _ => false) true (fun _ => false) e
noncomputable def seeE (e : Option SO) (E : HP) : Option HP := HP.rec (motive := fun _ => Option HP) (fun E0 => boolC (goneB E0) (some (.ent .gone)) (optC e none fun e => some (.ent e))) (fun _ _ _ T _ _ _ _ => optC e none fun e => some (seeL e T)) E
noncomputable def seeHs (H : List SO) (names : List Nat) : List HP → List (Option HP) :=
  List.rec (motive := fun _ => List HP → List (Option HP)) (fun _ => []) (fun n _ ih Es => List.rec (motive := fun _ => List (Option HP)) [] (fun E r _ => seeE (nth H n) E :: ih r) Es) names
abbrev Seen := List SP × Nat × List (Option HP)
noncomputable def viewS (M : Cut) (names : List Nat) (s : SS) : Seen := (seeFs s.frames M.frames, lenN s.heap, seeHs s.heap names M.heap)

/- A cut under other names. -/
noncomputable def renT (f : Nat → Nat) (T : List (Option SV)) : List (Option SV) := mapN (fun o => optC o none fun v => some (v.ren f)) T
noncomputable def SP.ren (f : Nat → Nat) (p : SP) : SP := ⟨p.fn, renT f p.tmps, mapN (SItem.ren f) p.todo, mapN (SD.ren f) p.defers, optC p.roundOf none fun n => some (f n)⟩
noncomputable def HP.ren (f : Nat → Nat) (E : HP) : HP :=
  HP.rec (motive := fun _ => HP) (fun e => SO.rec (motive := fun _ => HP) (fun c w el => .ent (.own (c.ren f) w el)) (fun c => .ent (.row (c.ren f))) (fun s p g T ps a b d => .ent (.loop s p g T ps a b d)) (fun ds => .ent (.deferred (optC ds none fun l => some (mapN (SD.ren f) l)))) (.ent .gone) (fun o => .ent (.obj (o.ren f))) e)
    (fun s p g T ps a b d => .loop s p g (renT f T) ps a b (f d)) E
noncomputable def seenC (names : List Nat) (N : Nat) (C : Cut) : Seen := (mapN (SP.ren (nameOf names N)) C.frames, N, mapN (fun E => some (E.ren (nameOf names N))) C.heap)

/- What is seen bears what the cut says. -/
def ImpT (f : Nat → Nat) : List (Option SV) → List (Option SV) → Prop
  | some v :: vs, some u :: us => v.Imp (u.ren f) ∧ ImpT f vs us
  | none :: vs, none :: us => ImpT f vs us
  | [], [] => True
  | _, _ => False
structure ImpF (f : Nat → Nat) (s p : SP) : Prop where
  fn : s.fn = p.fn
  tmps : ImpT f s.tmps p.tmps
  todo : s.todo = p.todo.map (SItem.ren f)
  defers : s.defers = p.defers.map (SD.ren f)
  roundOf : s.roundOf = p.roundOf.map f
def ImpFs (f : Nat → Nat) : List SP → List SP → Prop
  | s :: ss, p :: ps => ImpF f s p ∧ ImpFs f ss ps
  | [], [] => True
  | _, _ => False
def ImpE (f : Nat → Nat) (e : Option HP) (E : HP) : Prop :=
  match E with
  | .ent (.own c w el) => ∃ c0, e = some (.ent (.own c0 w el)) ∧ c0.Imp (c.ren f)
  | .ent (.row c) => ∃ c0, e = some (.ent (.row c0)) ∧ c0.Imp (c.ren f)
  | .ent (.deferred ds) => e = some (.ent (.deferred (ds.map (List.map (SD.ren f)))))
  | .ent (.obj o) => ∃ o0, e = some (.ent (.obj o0)) ∧ o0.Imp (o.ren f)
  | .ent .gone => True
  | .ent (.loop ..) => False
  | .loop s p g T ps a b d => ∃ T0, e = some (.loop s p g T0 ps a b (f d)) ∧ ImpT f T0 T
def ImpEs (f : Nat → Nat) : List (Option HP) → List HP → Prop
  | e :: es, E :: Es => ImpE f e E ∧ ImpEs f es Es
  | [], [] => True
  | _, _ => False
theorem seeT_gen {f : Nat → Nat} : ∀ {vs : List SV} {Tm T : List (Option SV)}, ImpT f (seeT vs Tm) T → GenT f vs T
  | [], _, [], _ => trivial
  | [], _, _ :: _, h => by cases h
  | v :: vs, [], T, h => by
    have h : ImpT f (some v :: seeT vs []) T := h
    cases T with
    | nil => exact h.elim
    | cons u us => cases u with
      | none => exact h.elim
      | some u => exact ⟨h.1, seeT_gen h.2⟩
  | v :: vs, o :: Tm, T, h => by
    have h : ImpT f (optC o none (fun _ => some v) :: seeT vs Tm) T := h
    cases T with
    | nil => cases o <;> exact h.elim
    | cons u us =>
      cases o with
      | none => cases u with
        | none => exact seeT_gen (Tm := Tm) (T := us) h
        | some u => exact h.elim
      | some o => cases u with
        | none => exact h.elim
        | some u => exact ⟨h.1, seeT_gen (Tm := Tm) (T := us) h.2⟩
theorem seeFs_gen {f : Nat → Nat} : ∀ {ss : List SF} {pm ps : List SP}, ImpFs f (seeFs ss pm) ps → GenFs f ss ps
  | [], _, [], _ => trivial
  | [], _, _ :: _, h => by cases h
  | s :: ss, [], ps, h => by
    have h : ImpFs f (⟨s.fn, seeT s.tmps [], s.todo, s.defers, s.roundOf⟩ :: seeFs ss []) ps := h
    cases ps with
    | nil => exact h.elim
    | cons p ps =>
      obtain ⟨⟨h1, h2, h3, h4, h5⟩, hr⟩ := h
      exact ⟨⟨h1, seeT_gen h2, h3, h4, h5⟩, seeFs_gen hr⟩
  | s :: ss, q :: pm, ps, h => by
    have h : ImpFs f (seeF s q :: seeFs ss pm) ps := h
    cases ps with
    | nil => exact h.elim
    | cons p ps =>
      obtain ⟨⟨h1, h2, h3, h4, h5⟩, hr⟩ := h
      exact ⟨⟨h1, seeT_gen h2, h3, h4, h5⟩, seeFs_gen hr⟩
theorem seeE_gen {f : Nat → Nat} {e : Option SO} {Em E : HP} (h : ImpE f (seeE e Em) E) : GenE f e E := by
  have hent : ∀ {e : Option SO} {e0 : SO}, e0 ≠ .gone → (∀ s p g T ps a b d, e0 ≠ .loop s p g T ps a b d) → seeE e Em = some (.ent e0) → e = some e0 := by
    intro e e0 hng hnl h
    cases Em with
    | ent Em =>
      have h : boolC (goneB Em) (some (.ent .gone)) (optC e none fun e => some (HP.ent e)) = some (.ent e0) := h
      cases hb : goneB Em with
      | true => rw [hb] at h; exact absurd (HP.ent.inj (Option.some.inj h)).symm hng
      | false =>
        rw [hb] at h
        cases e with
        | none => cases h
        | some e => rw [(HP.ent.inj (Option.some.inj h))]
    | loop s p g T ps a b d =>
      cases e with
      | none => cases h
      | some e =>
        have h : some (seeL e T) = some (HP.ent e0) := h
        have h := Option.some.inj h
        cases e with
        | loop => cases h
        | gone => exact absurd (HP.ent.inj h).symm hng
        | own => rw [← HP.ent.inj h]
        | row => rw [← HP.ent.inj h]
        | deferred => rw [← HP.ent.inj h]
        | obj => rw [← HP.ent.inj h]
  cases E with
  | ent E =>
    cases E with
    | own c w el => obtain ⟨c0, h1, h2⟩ := h; exact ⟨c0, hent (by simp) (by simp) h1, h2⟩
    | row c => obtain ⟨c0, h1, h2⟩ := h; exact ⟨c0, hent (by simp) (by simp) h1, h2⟩
    | deferred ds => exact hent (by simp) (by simp) h
    | obj o => obtain ⟨o0, h1, h2⟩ := h; exact ⟨o0, hent (by simp) (by simp) h1, h2⟩
    | gone => trivial
    | loop => exact h.elim
  | loop s p g T ps a b d =>
    obtain ⟨T0, h1, h2⟩ := h
    cases Em with
    | ent Em =>
      have h : boolC (goneB Em) (some (.ent .gone)) (optC e none fun e => some (HP.ent e)) = some (.loop s p g T0 ps a b (f d)) := h1
      cases hb : goneB Em with
      | true => rw [hb] at h; cases h
      | false => rw [hb] at h; cases e <;> cases h
    | loop s' p' g' Tm ps' a' b' d' =>
      cases e with
      | none => cases h1
      | some e =>
        have h1 : some (seeL e Tm) = some (HP.loop s p g T0 ps a b (f d)) := h1
        have h1 := Option.some.inj h1
        cases e with
        | loop s1 p1 g1 T1 ps1 a1 b1 d1 =>
          have h1 : HP.loop s1 p1 g1 (seeT T1 Tm) ps1 a1 b1 d1 = .loop s p g T0 ps a b (f d) := h1
          injection h1 with e1 e2 e3 e4 e5 e6 e7 e8
          subst e1 e2 e3 e4 e5 e6 e7 e8
          exact ⟨T1, rfl, seeT_gen h2⟩
        | own => cases h1
        | row => cases h1
        | deferred => cases h1
        | gone => cases h1
        | obj => cases h1
theorem seeHs_gen {f : Nat → Nat} {H : List SO} : ∀ {names : List Nat} {Em Es : List HP}, ImpEs f (seeHs H names Em) Es → Em.length = names.length → ∀ (j : Nat) (E : HP) (n : Nat), Es[j]? = some E → names[j]? = some n → GenE f H[n]? E
  | [], _, [], _, _, _, _, _, h, _ => by simp at h
  | [], _, _ :: _, h, _, _, _, _, _, _ => h.elim
  | n :: names, [], _, _, hl, _, _, _, _, _ => by simp at hl
  | n :: names, Em :: Ems, Es, h, hl, j, E, m, hE, hm => by
    have h : ImpEs f (seeE (nth H n) Em :: seeHs H names Ems) Es := h
    cases Es with
    | nil => exact h.elim
    | cons E0 Es =>
      cases j with
      | zero =>
        simp at hE hm
        subst hE hm
        have := seeE_gen h.1
        rwa [nth_eq] at this
      | succ j => exact seeHs_gen h.2 (by simpa using hl) j E m (by simpa using hE) (by simpa using hm)
/- The same under other names. -/
theorem impT_ren (f : Nat → Nat) : ∀ T : List (Option SV), ImpT f (renT f T) T
  | [] => trivial
  | some _ :: T => ⟨.refl _, impT_ren f T⟩
  | none :: T => impT_ren f T
theorem impFs_ren (f : Nat → Nat) : ∀ ps : List SP, ImpFs f (mapN (SP.ren f) ps) ps
  | [] => trivial
  | p :: ps => ⟨⟨rfl, impT_ren f _, by show mapN _ _ = _; rw [mapN_eq], by show mapN _ _ = _; rw [mapN_eq], by show optC p.roundOf none _ = _; cases p.roundOf <;> rfl⟩, impFs_ren f ps⟩
theorem impE_ren (f : Nat → Nat) (E : HP) (h : ∀ s p g T ps a b d, E ≠ .ent (.loop s p g T ps a b d)) : ImpE f (some (E.ren f)) E := by
  cases E with
  | ent e =>
    cases e with
    | own c w el => exact ⟨_, rfl, .refl _⟩
    | row c => exact ⟨_, rfl, .refl _⟩
    | deferred ds =>
      show some (HP.ent (.deferred (optC ds none fun l => some (mapN (SD.ren f) l)))) = _
      cases ds with
      | none => rfl
      | some l => rw [optC_some, mapN_eq]; rfl
    | gone => trivial
    | obj o => exact ⟨_, rfl, fun _ _ h => h⟩
    | loop => exact absurd rfl (h _ _ _ _ _ _ _ _)
  | loop s p g T ps a b d => exact ⟨_, rfl, impT_ren f T⟩
noncomputable def noLoopE (E : HP) : Bool := HP.rec (motive := fun _ => Bool) (fun e => SO.rec (motive := fun _ => Bool) (fun _ _ _ => true) (fun _ => true) (fun _ _ _ _ _ _ _ _ => false) (fun _ => true) true (fun _ => true) e) (fun _ _ _ _ _ _ _ _ => true) E
theorem impEs_ren (f : Nat → Nat) : ∀ Es : List HP, allN noLoopE Es = true → ImpEs f (mapN (fun E => some (E.ren f)) Es) Es
  | [], _ => trivial
  | E :: Es, h => by
    have h' := allN_spec _ _ h
    refine ⟨impE_ren f E fun s p g T ps a b d he => ?_, impEs_ren f Es ?_⟩
    · have := h' E List.mem_cons_self
      rw [he] at this; cases this
    · have h : boolC (noLoopE E) (allN noLoopE Es) false = true := h
      cases hb : noLoopE E with
      | true => rw [hb] at h; exact h
      | false => rw [hb] at h; cases h
/-- the names: those ahead of k0 az they were, none twice -/
noncomputable def nodupN (l : List Nat) : Bool := List.rec (motive := fun _ => Bool) true (fun a r ih => boolC (memN a r) false ih) l
noncomputable def keepN (l : List Nat) : Nat → Nat → Bool := List.rec (motive := fun _ => Nat → Nat → Bool) (fun k i => Nat.ble k i) (fun a _ ih k i => boolC (Nat.ble k i) true (boolC (Nat.beq a i) (ih k (Nat.succ i)) false)) l
noncomputable def namesOK (k0 : Nat) (names : List Nat) (M C : Cut) : Bool := boolC (nodupN names) (boolC (keepN names k0 0) (boolC (Nat.beq (lenN names) (lenN C.heap)) (Nat.beq (lenN names) (lenN M.heap)) false) false) false
theorem nodupN_spec : ∀ l : List Nat, nodupN l = true → l.Nodup
  | [], _ => by simp
  | a :: r, h => by
    have h : boolC (memN a r) false (nodupN r) = true := h
    cases hm : memN a r with
    | true => rw [hm] at h; cases h
    | false =>
      rw [hm] at h
      refine List.nodup_cons.2 ⟨fun hin => ?_, nodupN_spec r h⟩
      rw [memN_iff.2 hin] at hm; cases hm
theorem keepN_spec : ∀ (l : List Nat) (k i : Nat), keepN l k i = true → ∀ j, i + j < k → l[j]? = some (i + j)
  | [], k, i, h, j, hj => by
    have := Nat.le_of_ble_eq_true (show Nat.ble k i = true from h)
    omega
  | a :: r, k, i, h, j, hj => by
    have h : boolC (Nat.ble k i) true (boolC (Nat.beq a i) (keepN r k (i + 1)) false) = true := h
    cases hk : Nat.ble k i with
    | true => have := Nat.le_of_ble_eq_true hk; omega
    | false =>
      rw [hk, boolC_false] at h
      cases ha : Nat.beq a i with
      | false => rw [ha] at h; cases h
      | true =>
        rw [ha] at h
        have := Nat.eq_of_beq_eq_true ha
        subst this
        cases j with
        | zero => rfl
        | succ j =>
          have := keepN_spec r k (a + 1) h j (by omega)
          rw [List.getElem?_cons_succ, this]
          congr 1; omega
theorem boolC3 {b : Bool} {t : Bool} (h : boolC b t false = true) : b = true ∧ t = true := by cases b <;> first | exact ⟨rfl, h⟩ | cases h
theorem gen_view {k0 : Nat} {s : SS} {C M : Cut} {names : List Nat} {F : List SP} {N : Nat} {es : List (Option HP)} (hv : viewS M names s = (F, N, es)) (hn : namesOK k0 names M C = true) (hF : ImpFs (nameOf names N) F C.frames) (hE : ImpEs (nameOf names N) es C.heap) : Gen k0 s C names := by
  obtain ⟨h1, h2⟩ := Prod.mk.inj (show (_, _, _) = (F, N, es) from hv)
  obtain ⟨h2, h3⟩ := Prod.mk.inj h2
  rw [lenN_eq] at h2
  obtain ⟨n1, n2⟩ := boolC3 hn
  obtain ⟨n2, n3⟩ := boolC3 n2
  obtain ⟨n3, n4⟩ := boolC3 n3
  have l1 := Nat.eq_of_beq_eq_true n3
  have l2 := Nat.eq_of_beq_eq_true n4
  rw [lenN_eq, lenN_eq] at l1 l2
  subst h2
  refine ⟨fun j hj => ?_, nodupN_spec _ n1, l1, ?_, fun j E hj => ?_⟩
  · have := keepN_spec names k0 0 n2 j (by omega)
    rwa [Nat.zero_add] at this
  · rw [← h1] at hF; exact seeFs_gen hF
  · rw [← h3] at hE
    have hlt : j < names.length := by rw [l1]; exact (List.getElem?_eq_some_iff.1 hj).1
    exact seeHs_gen hE l2.symm j E _ hj (nameOf_lt hlt)
theorem gen_same {k0 : Nat} {s : SS} {C M : Cut} {names : List Nat} {N : Nat} (hv : viewS M names s = seenC names N C) (hn : boolC (namesOK k0 names M C) (allN noLoopE C.heap) false = true) : Gen k0 s C names :=
  gen_view hv (boolC3 hn).1 (impFs_ren _ _) (impEs_ren _ _ (boolC3 hn).2)

/-- what is seen, but for an entry -/
noncomputable def setSeen (i : Nat) (E : HP) (V : Seen) : Seen := (V.1, V.2.1, setN V.2.2 i (some E))
theorem impEs_set {f : Nat → Nat} : ∀ {es : List (Option HP)} {Es : List HP} (i : Nat) {E : HP}, ImpEs f es Es → (∀ E0, Es[i]? = some E0 → ImpE f (some E) E0) → ImpEs f (setN es i (some E)) Es
  | [], [], _, _, _, _ => trivial
  | e :: es, E0 :: Es, 0, E, h, h0 => ⟨h0 E0 rfl, h.2⟩
  | e :: es, E0 :: Es, i + 1, E, h, h0 => ⟨h.1, impEs_set i h.2 fun E1 h1 => h0 E1 (by simpa using h1)⟩
  | [], _ :: _, _, _, h, _ => h.elim
  | _ :: _, [], _, _, h, _ => h.elim

/-- what is seen, but for some temporaries and entries -/
noncomputable def setF (p : SP) (j : Nat) (v : SV) : SP := ⟨p.fn, setN p.tmps j (some v), p.todo, p.defers, p.roundOf⟩
noncomputable def setTmp (i j : Nat) (v : SV) (V : Seen) : Seen := (optC (nth V.1 i) V.1 fun p => setN V.1 i (setF p j v), V.2.1, V.2.2)
noncomputable def modSeen (ms : List (Nat × Nat × SV)) (es : List (Nat × HP)) (V : Seen) : Seen :=
  List.rec (motive := fun _ => Seen) (List.rec (motive := fun _ => Seen) V (fun m _ ih => setTmp m.1 m.2.1 m.2.2 ih) ms) (fun e _ ih => setSeen e.1 e.2 ih) es
theorem impT_set {f : Nat → Nat} : ∀ {vs us : List (Option SV)} (j : Nat) {v : SV}, ImpT f vs us → (∀ u, us[j]? = some u → ∃ w, u = some w ∧ v.Imp (w.ren f)) → ImpT f (setN vs j (some v)) us
  | some _ :: vs, some u :: us, 0, v, h, h0 => let ⟨w, e, hw⟩ := h0 _ rfl; ⟨by cases e; exact hw, h.2⟩
  | none :: vs, none :: us, 0, v, h, h0 => let ⟨_, e, _⟩ := h0 _ rfl; by cases e
  | some _ :: vs, some u :: us, j + 1, v, h, h0 => ⟨h.1, impT_set j h.2 fun w hw => h0 w (by simpa using hw)⟩
  | none :: vs, none :: us, j + 1, v, h, h0 => impT_set (vs := vs) (us := us) j h fun w hw => h0 w (by simpa using hw)
  | [], [], _, _, _, _ => trivial
  | some _ :: _, none :: _, _, _, h, _ => h.elim
  | none :: _, some _ :: _, _, _, h, _ => h.elim
  | [], _ :: _, _, _, h, _ => h.elim
  | some _ :: _, [], _, _, h, _ => False.elim h
  | none :: _, [], _, _, h, _ => False.elim h
theorem impFs_set {f : Nat → Nat} : ∀ {ss ps : List SP} (i j : Nat) {v : SV} {s : SP}, ImpFs f ss ps → ss[i]? = some s → (∀ p u, ps[i]? = some p → p.tmps[j]? = some u → ∃ w, u = some w ∧ v.Imp (w.ren f)) → ImpFs f (setN ss i (setF s j v)) ps
  | s0 :: ss, p :: ps, 0, j, v, s, h, hs, h0 => by
    simp at hs; subst hs
    obtain ⟨⟨h1, h2, h3, h4, h5⟩, hr⟩ := h
    exact ⟨⟨h1, impT_set j h2 fun u hu => h0 p u rfl hu, h3, h4, h5⟩, hr⟩
  | s0 :: ss, p :: ps, i + 1, j, v, s, h, hs, h0 => ⟨h.1, impFs_set i j h.2 (by simpa using hs) fun q u hq hu => h0 q u (by simpa using hq) hu⟩
  | [], _, _, _, _, _, _, hs, _ => by simp at hs
  | _ :: _, [], _, _, _, _, h, _, _ => h.elim
theorem gen_mod {k0 : Nat} {s : SS} {C M : Cut} {names : List Nat} {N : Nat} (ms : List (Nat × Nat × SV)) (es : List (Nat × HP)) (hv : viewS M names s = modSeen ms es (seenC names N C)) (hn : boolC (namesOK k0 names M C) (allN noLoopE C.heap) false = true)
    (hT : ∀ m ∈ ms, ∀ p u, C.frames[m.1]? = some p → p.tmps[m.2.1]? = some u → ∃ w, u = some w ∧ m.2.2.Imp (w.ren (nameOf names N))) (hE : ∀ e ∈ es, ∀ E0, C.heap[e.1]? = some E0 → ImpE (nameOf names N) (some e.2) E0) : Gen k0 s C names := by
  have key : ∀ ms : List (Nat × Nat × SV), (∀ m ∈ ms, ∀ p u, C.frames[m.1]? = some p → p.tmps[m.2.1]? = some u → ∃ w, u = some w ∧ m.2.2.Imp (w.ren (nameOf names N))) →
      ImpFs (nameOf names N) (List.rec (motive := fun _ => Seen) (seenC names N C) (fun m _ ih => setTmp m.1 m.2.1 m.2.2 ih) ms : Seen).1 C.frames ∧ (List.rec (motive := fun _ => Seen) (seenC names N C) (fun m _ ih => setTmp m.1 m.2.1 m.2.2 ih) ms : Seen).2 = (seenC names N C).2 := by
    intro ms
    induction ms with
    | nil => intro _; exact ⟨impFs_ren _ _, rfl⟩
    | cons m ms ih =>
      intro h
      obtain ⟨h1, h2⟩ := ih fun x hx => h x (List.mem_cons_of_mem _ hx)
      generalize hV : (List.rec (motive := fun _ => Seen) (seenC names N C) (fun m _ ih => setTmp m.1 m.2.1 m.2.2 ih) ms : Seen) = V at h1 h2
      show ImpFs _ (setTmp m.1 m.2.1 m.2.2 (List.rec (motive := fun _ => Seen) (seenC names N C) (fun m _ ih => setTmp m.1 m.2.1 m.2.2 ih) ms : Seen)).1 _ ∧ (setTmp m.1 m.2.1 m.2.2 (List.rec (motive := fun _ => Seen) (seenC names N C) (fun m _ ih => setTmp m.1 m.2.1 m.2.2 ih) ms : Seen)).2 = _
      rw [hV]
      refine ⟨?_, h2⟩
      show ImpFs _ (optC (nth V.1 m.1) V.1 fun p => setN V.1 m.1 (setF p m.2.1 m.2.2)) _
      cases hp : nth V.1 m.1 with
      | none => exact h1
      | some p =>
        rw [nth_eq] at hp
        exact impFs_set m.1 m.2.1 h1 hp fun q u hq hu => h m List.mem_cons_self q u hq hu
  obtain ⟨k1, k2⟩ := key ms hT
  have key2 : ∀ es : List (Nat × HP), (∀ e ∈ es, ∀ E0, C.heap[e.1]? = some E0 → ImpE (nameOf names N) (some e.2) E0) → ∀ V : Seen, V.2 = (seenC names N C).2 →
      (List.rec (motive := fun _ => Seen) V (fun e _ ih => setSeen e.1 e.2 ih) es : Seen).1 = V.1 ∧ (List.rec (motive := fun _ => Seen) V (fun e _ ih => setSeen e.1 e.2 ih) es : Seen).2.1 = N ∧ ImpEs (nameOf names N) (List.rec (motive := fun _ => Seen) V (fun e _ ih => setSeen e.1 e.2 ih) es : Seen).2.2 C.heap := by
    intro es
    induction es with
    | nil =>
      intro _ V hV
      refine ⟨rfl, ?_, ?_⟩
      · show V.2.1 = N; rw [hV]; rfl
      · show ImpEs _ V.2.2 _; rw [hV]; exact impEs_ren _ _ (boolC3 hn).2
    | cons e es ih =>
      intro h V hV
      obtain ⟨h1, h2, h3⟩ := ih (fun x hx => h x (List.mem_cons_of_mem _ hx)) V hV
      exact ⟨h1, h2, impEs_set e.1 h3 (h e List.mem_cons_self)⟩
  obtain ⟨j1, j2, j3⟩ := key2 es hE _ k2
  unfold modSeen at hv
  generalize (List.rec (motive := fun _ => Seen) (List.rec (motive := fun _ => Seen) (seenC names N C) (fun m _ ih => setTmp m.1 m.2.1 m.2.2 ih) ms) (fun e _ ih => setSeen e.1 e.2 ih) es : Seen) = V at hv j1 j2 j3
  obtain ⟨F, N', es'⟩ := V
  have j2 : N' = N := j2
  subst j2
  exact gen_view hv (boolC3 hn).1 (by rw [show F = _ from j1]; exact k1) j3
/- A run's outcome: it ends, or a round begins. -/
abbrev OutL := List Prop × Option ((SV × List (Option SO)) ⊕ Seen)
noncomputable def outL (js : List Nat) (M : Cut) (names : List Nat) (t : Tree) : List Bool → (Nat → Nat → Nat) → OutL :=
  Tree.rec (motive := fun _ => List Bool → (Nat → Nat → Nat) → OutL) (fun v H _ _ => ([], some (.inl (v, mapN (fun j => nth H j) js)))) (fun s _ _ => ([], some (.inr (viewS M names s)))) (fun p _ ih ds z => (p :: (ih ds z).1, (ih ds z).2))
    (fun b _ _ iht ihf ds z => List.rec (motive := fun _ => OutL) ([], none) (fun d r _ => ((b = d) :: (boolC d (iht r z) (ihf r z)).1, (boolC d (iht r z) (ihf r z)).2)) ds) (fun _ _ _ => ([], none)) (fun _ ih ds z => ih (z 0) ds fun i => z (i + 1)) t
theorem outL_ob {js : List Nat} {M : Cut} {names : List Nat} {t : Tree} {ds : List Bool} {ps : (Nat → Nat → Nat) → List Prop} {r : (Nat → Nat → Nat) → (SV × List (Option SO)) ⊕ Seen} (h : ∀ z, outL js M names t ds z = (ps z, some (r z))) (hp : ∀ z, ∀ p ∈ ps z, p) {D : SV → List SO → Prop} {S : SS → Prop}
    (hD : ∀ z v es, r z = .inl (v, es) → ∀ H : List SO, js.map (fun j => H[j]?) = es → D v H) (hS : ∀ z V, r z = .inr V → ∀ s, viewS M names s = V → S s) : t.Ob D S := by
  have z0 : Nat → Nat → Nat := fun _ _ => 0
  induction t generalizing ps r ds with
  | done v' H =>
    have h' : ([], some (.inl (v', mapN (fun j => nth H j) js))) = (ps z0, some (r z0)) := h z0
    have h1 := Option.some.inj (Prod.mk.inj h').2
    refine hD z0 v' _ h1.symm H ?_
    rw [mapN_eq]
    exact List.map_congr_left fun j _ => (nth_eq H j).symm
  | stop s =>
    have h' : ([], some (.inr (viewS M names s))) = (ps z0, some (r z0)) := h z0
    have h1 := Option.some.inj (Prod.mk.inj h').2
    exact hS z0 _ h1.symm s rfl
  | need p t ih =>
    have h' : ∀ z, (p :: (outL js M names t ds z).1, (outL js M names t ds z).2) = (ps z, some (r z)) := h
    refine ⟨?_, ih (ds := ds) (ps := fun z => (outL js M names t ds z).1) (r := r) (fun z => by rw [← (Prod.mk.inj (h' z)).2]) (fun z q hq => hp z q ?_) hD hS⟩
    · have := (Prod.mk.inj (h' z0)).1
      exact hp z0 p (by rw [← this]; exact List.mem_cons_self)
    · rw [← (Prod.mk.inj (h' z)).1]; exact List.mem_cons_of_mem _ hq
  | fork b t f iht ihf =>
    cases ds with
    | nil => cases (Prod.mk.inj (show ([], none) = (ps z0, some (r z0)) from h z0)).2
    | cons d rs =>
      have h' : ∀ z, ((b = d) :: (boolC d (outL js M names t rs z) (outL js M names f rs z)).1, (boolC d (outL js M names t rs z) (outL js M names f rs z)).2) = (ps z, some (r z)) := h
      have hb : b = d := hp z0 _ (by rw [← (Prod.mk.inj (h' z0)).1]; exact List.mem_cons_self)
      have hq : ∀ z, ∀ q ∈ (boolC d (outL js M names t rs z) (outL js M names f rs z)).1, q := fun z q hq => hp z q (by rw [← (Prod.mk.inj (h' z)).1]; exact List.mem_cons_of_mem _ hq)
      cases d with
      | true => exact ⟨fun _ => iht (ds := rs) (ps := fun z => (outL js M names t rs z).1) (r := r) (fun z => by rw [← (Prod.mk.inj (h' z)).2]; rfl) hq hD hS, fun hf => by rw [hf] at hb; cases hb⟩
      | false => exact ⟨fun ht => (by rw [ht] at hb; cases hb), fun _ => ihf (ds := rs) (ps := fun z => (outL js M names f rs z).1) (r := r) (fun z => by rw [← (Prod.mk.inj (h' z)).2]; rfl) hq hD hS⟩
  | stuck => cases (Prod.mk.inj (show ([], none) = (ps z0, some (r z0)) from h z0)).2
  | any k ih =>
    have h' : ∀ z, outL js M names (k (z 0)) ds (fun i => z (i + 1)) = (ps z, some (r z)) := h
    intro y
    let c : (Nat → Nat → Nat) → Nat → Nat → Nat := fun z i => Nat.rec (motive := fun _ => Nat → Nat) y (fun j _ => z j) i
    exact ih y (ds := ds) (ps := fun z => ps (c z)) (r := fun z => r (c z)) (fun z => h' (c z)) (fun z => hp (c z)) (fun z => hD (c z)) (fun z => hS (c z))
/-- a round that ends in the beginning of another -/
theorem outL_turn {A : Type} {k0 : Nat} {C : A → Cut} {Q : A → Prop} {js : List Nat} {M : Cut} {names : List Nat} {t : Tree} {ds : List Bool} {ps : List Prop} {N : Nat} {D : SV → List SO → Prop} (a : A) (hq : Q a)
    (h : ∀ z, outL js M names t ds z = (ps, some (.inr (seenC names N (C a))))) (hn : boolC (namesOK k0 names M (C a)) (allN noLoopE (C a).heap) false = true) (hp : ∀ p ∈ ps, p) : t.Ob D (Turns k0 C Q) :=
  outL_ob h (fun _ => hp) (fun _ v es h => by cases h) fun _ V h s hv => turns_of a hq names (gen_same (N := N) (by cases h; exact hv) hn)
theorem outL_turnM {A : Type} {k0 : Nat} {C : A → Cut} {Q : A → Prop} {js : List Nat} {M : Cut} {names : List Nat} {t : Tree} {ds : List Bool} {ps : List Prop} {N : Nat} {ms : List (Nat × Nat × SV)} {es : List (Nat × HP)} {D : SV → List SO → Prop} (a : A) (hq : Q a)
    (h : ∀ z, outL js M names t ds z = (ps, some (.inr (modSeen ms es (seenC names N (C a)))))) (hn : boolC (namesOK k0 names M (C a)) (allN noLoopE (C a).heap) false = true)
    (hT : ∀ m ∈ ms, ∀ p u, (C a).frames[m.1]? = some p → p.tmps[m.2.1]? = some u → ∃ w, u = some w ∧ m.2.2.Imp (w.ren (nameOf names N))) (hE : ∀ e ∈ es, ∀ E0, (C a).heap[e.1]? = some E0 → ImpE (nameOf names N) (some e.2) E0) (hp : ∀ p ∈ ps, p) : t.Ob D (Turns k0 C Q) :=
  outL_ob h (fun _ => hp) (fun _ v es h => by cases h) fun _ V h s hv => turns_of a hq names (gen_mod (N := N) ms es (by cases h; exact hv) hn hT hE)
/-- a round that ends the run -/
theorem outL_end {js : List Nat} {M : Cut} {names : List Nat} {t : Tree} {ds : List Bool} {ps : List Prop} {v : SV} {es : List (Option SO)} {D : SV → List SO → Prop} {S : SS → Prop}
    (h : ∀ z, outL js M names t ds z = (ps, some (.inl (v, es)))) (hp : ∀ p ∈ ps, p) (hD : ∀ H : List SO, js.map (fun j => H[j]?) = es → D v H) : t.Ob D S :=
  outL_ob h (fun _ => hp) (fun _ v' es' h => by cases h; exact hD) fun _ V h => by cases h

/- The same for a loop's rule, each from closed terms. -/
def TurnsTo {A : Type} (c : Cfg) (k0 : Nat) (C : A → Cut) (Q : A → Prop) (D : SV → List SO → Prop) (s : SS) : Prop := ∃ st n, (sim1 (c.at st) n s).Ob D (Turns k0 C Q)
theorem to_turn {A : Type} {c : Cfg} {k0 : Nat} {C : A → Cut} {Q : A → Prop} {D : SV → List SO → Prop} {s : SS} (st : Option (Nat × Nat)) (n : Nat) {M : Cut} {names : List Nat} {ds : List Bool} {ps : List Prop} {N : Nat} (a : A) (hq : Q a)
    (h : ∀ z, outL [] M names (sim1 (c.at st) n s) ds z = (ps, some (.inr (seenC names N (C a))))) (hn : boolC (namesOK k0 names M (C a)) (allN noLoopE (C a).heap) false = true) (hp : ∀ p ∈ ps, p) : TurnsTo c k0 C Q D s := ⟨st, n, outL_turn a hq h hn hp⟩
theorem to_end {A : Type} {c : Cfg} {k0 : Nat} {C : A → Cut} {Q : A → Prop} {D : SV → List SO → Prop} {s : SS} (st : Option (Nat × Nat)) (n : Nat) {M : Cut} {names js : List Nat} {ds : List Bool} {ps : List Prop} {v : SV} {es : List (Option SO)}
    (h : ∀ z, outL js M names (sim1 (c.at st) n s) ds z = (ps, some (.inl (v, es)))) (hp : ∀ p ∈ ps, p) (hD : ∀ H : List SO, js.map (fun j => H[j]?) = es → D v H) : TurnsTo c k0 C Q D s := ⟨st, n, outL_end h hp hD⟩
theorem to_turnM {A : Type} {c : Cfg} {k0 : Nat} {C : A → Cut} {Q : A → Prop} {D : SV → List SO → Prop} {s : SS} (st : Option (Nat × Nat)) (n : Nat) {M : Cut} {names : List Nat} {ds : List Bool} {ps : List Prop} {N : Nat} {ms : List (Nat × Nat × SV)} {es : List (Nat × HP)} (a : A) (hq : Q a)
    (h : ∀ z, outL [] M names (sim1 (c.at st) n s) ds z = (ps, some (.inr (modSeen ms es (seenC names N (C a)))))) (hn : boolC (namesOK k0 names M (C a)) (allN noLoopE (C a).heap) false = true)
    (hT : ∀ m ∈ ms, ∀ p u, (C a).frames[m.1]? = some p → p.tmps[m.2.1]? = some u → ∃ w, u = some w ∧ m.2.2.Imp (w.ren (nameOf names N))) (hE : ∀ e ∈ es, ∀ E0, (C a).heap[e.1]? = some E0 → ImpE (nameOf names N) (some e.2) E0) (hp : ∀ p ∈ ps, p) : TurnsTo c k0 C Q D s := ⟨st, n, outL_turnM a hq h hn hT hE hp⟩
def Starts {A : Type} (c : Cfg) (k0 : Nat) (C : A → Cut) (Q : A → Prop) (D : SV → List SO → Prop) (f : FuncId) (args : List SV) (H : List SO) : Prop := ∃ st n, (callSim (c.at st) n f args H).Ob D (Turns k0 C Q)
theorem to_start {A : Type} {c : Cfg} {k0 : Nat} {C : A → Cut} {Q : A → Prop} {D : SV → List SO → Prop} {f : FuncId} {args : List SV} {H : List SO} (st : Option (Nat × Nat)) (n : Nat) {M : Cut} {names : List Nat} {ds : List Bool} {ps : List Prop} {N : Nat} (a : A) (hq : Q a)
    (h : ∀ z, outL [] M names (callSim (c.at st) n f args H) ds z = (ps, some (.inr (seenC names N (C a))))) (hn : boolC (namesOK k0 names M (C a)) (allN noLoopE (C a).heap) false = true) (hp : ∀ p ∈ ps, p) : Starts c k0 C Q D f args H := ⟨st, n, outL_turn a hq h hn hp⟩
theorem to_startM {A : Type} {c : Cfg} {k0 : Nat} {C : A → Cut} {Q : A → Prop} {D : SV → List SO → Prop} {f : FuncId} {args : List SV} {H : List SO} (st : Option (Nat × Nat)) (n : Nat) {M : Cut} {names : List Nat} {ds : List Bool} {ps : List Prop} {N : Nat} {ms : List (Nat × Nat × SV)} {es : List (Nat × HP)} (a : A) (hq : Q a)
    (h : ∀ z, outL [] M names (callSim (c.at st) n f args H) ds z = (ps, some (.inr (modSeen ms es (seenC names N (C a)))))) (hn : boolC (namesOK k0 names M (C a)) (allN noLoopE (C a).heap) false = true)
    (hT : ∀ m ∈ ms, ∀ p u, (C a).frames[m.1]? = some p → p.tmps[m.2.1]? = some u → ∃ w, u = some w ∧ m.2.2.Imp (w.ren (nameOf names N))) (hE : ∀ e ∈ es, ∀ E0, (C a).heap[e.1]? = some E0 → ImpE (nameOf names N) (some e.2) E0) (hp : ∀ p ∈ ps, p) : Starts c k0 C Q D f args H := ⟨st, n, outL_turnM a hq h hn hT hE hp⟩
theorem start_end {A : Type} {c : Cfg} {k0 : Nat} {C : A → Cut} {Q : A → Prop} {D : SV → List SO → Prop} {f : FuncId} {args : List SV} {H : List SO} (st : Option (Nat × Nat)) (n : Nat) {M : Cut} {names js : List Nat} {ds : List Bool} {ps : List Prop} {v : SV} {es : List (Option SO)}
    (h : ∀ z, outL js M names (callSim (c.at st) n f args H) ds z = (ps, some (.inl (v, es)))) (hp : ∀ p ∈ ps, p) (hD : ∀ H : List SO, js.map (fun j => H[j]?) = es → D v H) : Starts c k0 C Q D f args H := ⟨st, n, outL_end h hp hD⟩
/-- A FUNCTION WITH A LOOP -/
theorem runs_by {c : Cfg} (hc : CfgOK c) {A : Type} (C : A → Cut) (OK : A → Prop) (μ : A → Nat) {D : SV → List SO → Prop} {f : FuncId} {args : List SV} {H : List SO} (hgl : ∀ g nm, c.glob g = some nm → nm < H.length)
    (h0 : Starts c H.length C OK D f args H) (hs : ∀ a, OK a → ∀ J, TurnsTo c H.length C (fun a' => OK a' ∧ μ a' < μ a) D ((C a).fill J)) : Runs c f args H D := runs_loop hc C OK μ hgl h0 hs

/- The skeleton of a cut: the state at which a run stops. -/
noncomputable def stopOf (t : Tree) : List Bool → SS :=
  Tree.rec (motive := fun _ => List Bool → SS) (fun _ _ _ => ⟨[], []⟩) (fun s _ => s) (fun _ _ ih ds => ih ds) (fun _ _ _ iht ihf ds => List.rec (motive := fun _ => SS) ⟨[], []⟩ (fun d r _ => boolC d (iht r) (ihf r)) ds) (fun _ _ => ⟨[], []⟩) (fun _ ih ds => ih (fun _ => 0) ds) t
/-- so many unknown temporaries, of which some are told -/
noncomputable def putsT (T : List (Option SV)) (l : List (Nat × SV)) : List (Option SV) := List.rec (motive := fun _ => List (Option SV) → List (Option SV)) (fun T => T) (fun a _ ih T => ih (setN T a.1 (some a.2))) l T
noncomputable def bareF (s : SF) (l : List (Nat × SV)) : SP := ⟨s.fn, putsT (repN none (lenN s.tmps)) l, s.todo, s.defers, s.roundOf⟩
noncomputable def bareFs (ss : List SF) : List (List (Nat × SV)) → List SP := List.rec (motive := fun _ => List (List (Nat × SV)) → List SP) (fun _ => []) (fun s _ ih ls => List.rec (motive := fun _ => List SP) (bareF s [] :: ih []) (fun l r _ => bareF s l :: ih r) ls) ss
/-- the loop's record az it stands at the stop, of which some temporaries are told -/
noncomputable def bareL (e : Option SO) (l : List (Nat × SV)) : HP := optC e (.ent .gone) fun e => SO.rec (motive := fun _ => HP) (fun c w el => .ent (.own c w el)) (fun c => .ent (.row c)) (fun s p f T ps a b d => .loop s p f (putsT (repN none (lenN T)) l) ps a b d) (fun ds => .ent (.deferred ds)) (.ent .gone) (fun o => .ent (.obj o)) e

/- A summary, a law. -/

end Go.Sim


/-
  The symbolic simulator, thirty-fourth part: a summary that is a run of the function itself, where all is known.
-/
namespace Go.Sim
variable {α : Type}

/-- an entry whose names are these -/
noncomputable def SO.keeps (p : Nat → Bool) (e : SO) : Bool := SO.rec (motive := fun _ => Bool) (fun c _ _ => Cells.rec (motive := fun _ => Bool) (fun l => SV.usesL p l) (fun _ _ => false) (fun _ _ => true) c) (fun c => Cells.rec (motive := fun _ => Bool) (fun l => SV.usesL p l) (fun _ _ => false) (fun _ _ => true) c) (fun _ _ _ _ _ _ _ _ => false) (fun _ => false) false (fun o => o.uses p) e

/-- the heap az the function is to see it -/
noncomputable def maskH (M : List Nat) (H : List SO) : Nat → List SO := List.rec (motive := fun _ => Nat → List SO) (fun _ => []) (fun e _ ih i => boolC (memN i M) e .gone :: ih (Nat.succ i)) H
noncomputable def atE (o : Option SO) : SO := optC o .gone fun e => e



/- All ends of a run, told by a closed term. -/
end Go.Sim

