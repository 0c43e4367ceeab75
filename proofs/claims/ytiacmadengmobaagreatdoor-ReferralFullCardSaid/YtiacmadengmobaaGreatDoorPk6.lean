/-
  Texts behind one another: the symbolic simulator and what it is told of the program.
-/
import Derived.Test.YtiacmadengmobaaGreatDoorPk5

/-
  The symbolic simulator, thirty-ninth part: summaries of runs of which the new names depend on what is drawn.
-/
namespace Go.Sim
open Go.RowKit

theorem sum_smallCX {c : Cfg} {O : Nat → Prop} {w0 w : World} {β : Val} {H : List SO} {base : Nat} {f : FuncId} {vs : List Value} (hH : HeapRel0 c.P O w0 β H w)
    (I : Ifc) (hgl : ∀ g j, c.glob g = some j → I.known j = true ∧ ∃ l, β (I.big j) = some l ∧ l.blk = g ∧ l.off = 0) (ha : SV.denL β (SV.renL I.big I.args) = some vs) (hI : I.FitsQ H) {r : SumRes} (turn : List Nat) (ht1 : ∀ (j : Nat) E, I.ents[j]? = some E → E.owned = true → j ∈ turn) (ht2 : ∀ j ∈ turn, ∃ E, I.ents[j]? = some E ∧ E.owned = true) (htn : turn.Nodup := by simp)
    (hbody : ∃ fn, c.P.funcs[f]? = some fn ∧ fn.body.isSome = true)
    (hrun : HeapRel c.P (I.ownsQ β) w (I.val β) I.ents w → GlobRel c.glob (I.val β) → SV.denL (I.val β) I.args = some vs → Calls c.P f vs.toArray w (Came c.P (I.ownsQ β) w (I.val β) fun v H2 => ∃ keep : List Nat, (∀ j ∈ keep, I.names.length ≤ j) ∧ keep.Nodup ∧ I.OutQ base turn keep r v H2)) : SumSem c.P H β w base f vs r := by
  intro hfree
  have hH' := Ifc.heapQ hH hI
  have ha' : SV.denL (I.val β) I.args = some vs := by
    rw [SV.denL_ren, SV.denL_uses Ifc.val_known _ hI.uargs] at ha; exact ha
  have hcalls := hrun hH' (fun g j hg => let ⟨hk, l, h1, h2⟩ := hgl g j hg; ⟨l, by rw [← Ifc.val_known j hk]; exact h1, h2⟩) ha'
  have hown : ∀ j ∈ turn, ∃ e l, H[I.big j]? = some e ∧ e.owned = true ∧ β (I.big j) = some l ∧ I.val β j = some l ∧ j < I.names.length := by
    intro j hj
    obtain ⟨E, he, ho⟩ := ht2 j hj
    obtain ⟨e, he', ht⟩ := hI.ent j _ he
    have hu := hI.uent j _ he
    have hjl : j < I.names.length := by rw [← hI.len]; exact (List.getElem?_eq_some_iff.1 he).1
    have hpl : e.placed = true ∨ ∃ o, e = .obj o := by
      cases E with
      | own => obtain ⟨_, rfl, _⟩ := ht; exact .inl rfl
      | row => cases ho
      | loop => exact hu.elim
      | deferred => exact hu.elim
      | gone => cases ho
      | obj => obtain ⟨_, rfl, _⟩ := ht; exact .inr ⟨_, rfl⟩
    obtain ⟨l, hl⟩ := (hH.entries _ _ he').loc hpl
    exact ⟨e, l, he', ht.owned hu ho, hl, by rw [← Ifc.val_known j ((I.known_iff j).2 hjl)]; exact hl, hjl⟩
  -- what is turned
  have hsets : ∀ (keep : List Nat) (v : SV) (H'' : List SO), I.OutQ base turn keep r v H'' → ∀ m e, (m, e) ∈ r.sets → ∃ j ∈ turn, m = I.big j ∧ GivenQ (I.seen keep) (I.out base keep) H''[j]? e ∧ ∃ i : Nat, turn[i]? = some j ∧ r.sets[i]? = some (m, e) := by
    intro keep v H'' hout m e hm
    obtain ⟨i, hi⟩ := List.mem_iff_getElem?.1 hm
    have hil := (List.getElem?_eq_some_iff.1 hi).1
    rw [hout.setsLen] at hil
    obtain ⟨e', h1, h2⟩ := hout.sets i _ (List.getElem?_eq_getElem hil)
    rw [hi] at h1
    cases h1
    exact ⟨_, List.getElem_mem hil, rfl, h2, i, List.getElem?_eq_getElem hil, hi⟩
  refine ⟨?_, .inl ⟨hbody, ?_⟩⟩
  · intro m e hm
    obtain ⟨e', w', fr, hcame, _⟩ := hcalls []
    obtain ⟨v, H'', x, β'', _, ⟨keep, hk, hkn, hout⟩, _⟩ := hcame
    obtain ⟨j, hj, rfl, _⟩ := hsets keep v H'' hout m e hm
    obtain ⟨e0, l, h1, h2, _⟩ := hown j hj
    exact ⟨_, h1, h2⟩
  · intro cs
    obtain ⟨e', w', fr, hcame, hst⟩ := hcalls cs
    refine ⟨e', w', fr, ?_, hst⟩
    obtain ⟨v, H'', x, β'', rfl, ⟨keep, hk, hkn, hout⟩, hle, hv, hH2⟩ := hcame
    -- the great valuation behind the call
    let βb : Val := fun n => if base ≤ n ∧ n < base + keep.length then (keep[n - base]?).bind β'' else β n
    have hlenn : r.news.length = keep.length := hout.newsLen
    have hfree' : ∀ i, i < keep.length → β (base + i) = none := fun i hi => hfree i (by rw [hlenn]; exact hi)
    have hβle : β.le βb := by
      intro n l hn
      show (if _ then _ else _) = _
      rw [if_neg]
      · exact hn
      · rintro ⟨h1, h2⟩
        have := hfree' (n - base) (by omega)
        rw [show base + (n - base) = n from by omega, hn] at this; cases this
    have hseen : ∀ j, I.seen keep j = true → βb (I.out base keep j) = β'' j := by
      intro j hj
      unfold Ifc.seen at hj
      unfold Ifc.out
      cases hkn' : I.known j with
      | true =>
        rw [boolC_true]
        have hjl := (I.known_iff j).1 hkn'
        obtain ⟨E, hE⟩ : ∃ E, I.ents[j]? = some E := ⟨_, List.getElem?_eq_getElem (by rw [hI.len]; exact hjl)⟩
        obtain ⟨e, he, htk⟩ := hI.ent j E hE
        have hu := hI.uent j E hE
        have hpl : e.placed = true ∨ ∃ o, e = .obj o := by
          cases E with
          | own cc ww el => obtain ⟨c1, rfl, _⟩ := htk; exact .inl rfl
          | row cc => obtain ⟨c1, rfl | ⟨ww, el, rfl⟩, _⟩ := htk <;> exact .inl rfl
          | loop => exact hu.elim
          | deferred => exact hu.elim
          | gone => obtain ⟨_, _, h⟩ := htk; exact h
          | obj => obtain ⟨_, rfl, _⟩ := htk; exact .inr ⟨_, rfl⟩
        obtain ⟨l, hl⟩ := (hH.entries _ _ he).loc hpl
        rw [hβle _ _ hl]
        have : I.val β j = some l := by rw [← Ifc.val_known j hkn']; exact hl
        rw [hle _ _ this]
      | false =>
        rw [hkn', boolC_false, memN_iff] at hj
        rw [boolC_false]
        have h1 := idxN_spec hj
        have h2 := (List.getElem?_eq_some_iff.1 h1).1
        show (if _ then _ else _) = _
        rw [if_pos (by omega), show base + idxN j keep - base = idxN j keep from by omega, h1]; rfl
    have hrenOwn : ∀ (j : Nat) (e : SO), GivenQ (I.seen keep) (I.out base keep) H''[j]? e → I.seen keep j = true → e.owned = true ∧ OwnRel c.P βb w' (I.out base keep j) e := by
      intro j e hg hs
      rcases hg with ⟨cc, ww, el, c', he, hu, himp, rfl⟩ | ⟨o, o', he, hu, himp, rfl⟩
      · obtain ⟨l, vs, rest, lo, hi, hl, h0, hcl, hh, hfz, hw, hcap⟩ := hH2.entries j _ he
        exact ⟨rfl, l, vs, rest, lo, hi, (hseen j hs).trans hl, h0, himp _ _ ((CellsRel.ren hu hseen).2 hcl), hh, hfz, hw, hcap⟩
      · obtain ⟨l, y, hl, h0, hd, hh⟩ := hH2.entries j _ he
        exact ⟨rfl, l, y, (hseen j hs).trans hl, h0, himp _ _ (by rw [SObj.den_ren, SObj.den_uses (β := fun n => βb (I.out base keep n)) (β' := β'') hseen hu]; exact hd), hh⟩
    have hatJ : ∀ (j : Nat) (e : SO), GivenQ (I.seen keep) (I.out base keep) H''[j]? e → ∃ e0 l, H''[j]? = some e0 ∧ e0.owned = true ∧ β'' j = some l := by
      intro j e hg
      rcases hg with ⟨cc, ww, el, c', he, _⟩ | ⟨o, o', he, _⟩
      · obtain ⟨l, vs2, rest, lo, hi2, hl, _⟩ := hH2.entries j _ he
        exact ⟨_, l, he, rfl, hl⟩
      · obtain ⟨l, y, hl, _⟩ := hH2.entries j _ he
        exact ⟨_, l, he, rfl, hl⟩
    have hseenT : ∀ j ∈ turn, I.seen keep j = true ∧ I.out base keep j = I.big j := by
      intro j hj
      obtain ⟨_, _, _, _, _, _, hjl⟩ := hown j hj
      have := (I.known_iff j).2 hjl
      unfold Ifc.seen Ifc.out
      rw [this]; exact ⟨rfl, rfl⟩
    have hseenK : ∀ j ∈ keep, I.seen keep j = true ∧ I.known j = false := by
      intro j hj
      have hnk : I.known j = false := by
        cases hx : I.known j with
        | false => rfl
        | true => have := (I.known_iff j).1 hx; have := hk j hj; omega
      unfold Ifc.seen
      rw [hnk]; exact ⟨memN_spec hj, rfl⟩
    have hnewsAt : ∀ (i : Nat) (e : SO), r.news[i]? = some e → ∃ j, keep[i]? = some j ∧ GivenQ (I.seen keep) (I.out base keep) H''[j]? e := by
      intro i e hi
      have hil := (List.getElem?_eq_some_iff.1 hi).1
      rw [hlenn] at hil
      obtain ⟨e', h1, h2⟩ := hout.news i _ (List.getElem?_eq_getElem hil)
      rw [hi] at h1; cases h1
      exact ⟨_, List.getElem?_eq_getElem hil, h2⟩
    refine ⟨x, βb, rfl, ?_, ⟨hβle, hH2.keep.os, hH2.keep.tape, hH2.keep.output, hH2.keep.size, ?_, ?_, ?_, ?_, ?_, ?_⟩⟩
    · refine hout.val _ _ ?_
      rw [SV.den_ren, SV.den_uses hseen _ hout.uv]; exact hv
    · intro n hn
      rw [hlenn] at hn
      show (if _ then _ else _) = _
      rw [if_neg (by omega)]
    · intro b hb hno
      refine hH2.keep.block b hb ?_
      rintro ⟨j, E, l, hj, ho, hl, rfl⟩
      have hjt := ht1 j E hj ho
      obtain ⟨i, hi⟩ := List.mem_iff_getElem?.1 hjt
      obtain ⟨e, he, _⟩ := hout.sets i j hi
      exact hno (I.big j) e l (List.mem_of_getElem? he) hl rfl
    · intro m e e' h1 h2
      obtain ⟨j, hj, hm1, hg1, i1, ht1', hs1⟩ := hsets keep v H'' hout m e h1
      obtain ⟨k, hk', hm2, hg2, i2, ht2', hs2⟩ := hsets keep v H'' hout m e' h2
      obtain ⟨_, _, _, _, _, _, hjl⟩ := hown j hj
      obtain ⟨_, _, _, _, _, _, hkl⟩ := hown k hk'
      have hjk : k = j := hI.nodup k j (I.big k) (Ifc.big_get hkl) (by rw [← hm2, hm1]; exact Ifc.big_get hjl)
      subst hjk
      have : i1 = i2 := (List.getElem?_inj (List.getElem?_eq_some_iff.1 ht1').1 htn).1 (ht1'.trans ht2'.symm)
      subst this
      rw [hs1] at hs2
      exact (Prod.mk.inj (Option.some.inj hs2)).2
    · intro m e hm
      obtain ⟨j, hj, rfl, hg, _⟩ := hsets keep v H'' hout m e hm
      obtain ⟨hs, hb⟩ := hseenT j hj
      rw [← hb]
      exact (hrenOwn j e hg hs).2
    · intro i e hi
      obtain ⟨j, hj, hg⟩ := hnewsAt i e hi
      have hjm := List.mem_of_getElem? hj
      obtain ⟨hs, hnk⟩ := hseenK j hjm
      have hout' : I.out base keep j = base + i := by
        unfold Ifc.out
        rw [hnk, boolC_false]
        have h1 := idxN_spec hjm
        have : idxN j keep = i := (List.getElem?_inj (List.getElem?_eq_some_iff.1 h1).1 hkn).1 (h1.trans hj.symm)
        rw [this]
      obtain ⟨ho, hor⟩ := hrenOwn j e hg hs
      refine ⟨ho, hout' ▸ hor, ?_⟩
      obtain ⟨e0, l, he, he0, hl⟩ := hatJ j e hg
      refine ⟨l, by rw [← hout', hseen j hs]; exact hl, .inl ?_⟩
      rcases hH2.fresh j _ l he he0 hl with h1 | ⟨k, E, lk, hk1, hko, hk2, hk3⟩
      · exact h1
      · exfalso
        -- a block that was given is still its own
        have hkt := ht1 k E hk1 hko
        obtain ⟨i3, hi3⟩ := List.mem_iff_getElem?.1 hkt
        obtain ⟨e3, _, hg3⟩ := hout.sets i3 k hi3
        obtain ⟨e4, l4, he4, ho4, hl4⟩ := hatJ k e3 hg3
        obtain ⟨_, l2, _, _, hb2, hv2, hkl⟩ := hown k hkt
        rw [hb2] at hk2; cases hk2
        rw [hle _ _ hv2] at hl4; cases hl4
        refine hH2.sep k j _ _ lk l he4 he ho4 he0 ?_ (hle _ _ hv2) hl hk3
        have := hk j hjm; omega
    · intro i j l l' hij hi hj hl hl'
      rw [hlenn] at hi hj
      have hone : ∀ i, i < keep.length → ∀ l, βb (base + i) = some l → ∃ k, keep[i]? = some k ∧ β'' k = some l := by
        intro i hi l hl
        have hl : (if base ≤ base + i ∧ base + i < base + keep.length then (keep[base + i - base]?).bind β'' else β (base + i)) = some l := hl
        rw [if_pos (by omega), show base + i - base = i from by omega, List.getElem?_eq_getElem hi] at hl
        exact ⟨_, List.getElem?_eq_getElem hi, hl⟩
      obtain ⟨k1, hk1, hb1⟩ := hone i hi l hl
      obtain ⟨k2, hk2, hb2⟩ := hone j hj l' hl'
      obtain ⟨n1, _, hg1⟩ := hout.news i k1 hk1
      obtain ⟨n2, _, hg2⟩ := hout.news j k2 hk2
      obtain ⟨e1, _, he1, ho1, _⟩ := hatJ k1 n1 hg1
      obtain ⟨e2, _, he2, ho2, _⟩ := hatJ k2 n2 hg2
      refine hH2.sep k1 k2 _ _ l l' he1 he2 ho1 ho2 (fun h => ?_) hb1 hb2
      subst h
      exact hij ((List.getElem?_inj (List.getElem?_eq_some_iff.1 hk1).1 hkn).1 (hk1.trans hk2.symm))
/- In short words. -/
/-- what a small run comes to, under whatever names -/
def Ifc.EndsX (I : Ifc) (base : Nat) (r : SumRes) (v : SV) (H : List SO) : Prop := ∃ keep : List Nat, (∀ j ∈ keep, I.names.length ≤ j) ∧ keep.Nodup ∧ I.EndsQ base keep r v H
theorem sum_runX {c : Cfg} (hc : CfgOK c) (n : Nat) {O : Nat → Prop} {w0 w : World} {β : Val} {H : List SO} {base : Nat} {f : FuncId} {vs : List Value} (hH : HeapRel0 c.P O w0 β H w)
    (I : Ifc) (hgl : ∀ g j, c.glob g = some j → I.known j = true ∧ ∃ l, β (I.big j) = some l ∧ l.blk = g ∧ l.off = 0) (ha : SV.denL β (SV.renL I.big I.args) = some vs) (hI : I.FitsQ H) {r : SumRes}
    (hob : (callSim c n f I.args I.ents).Ob (I.EndsX base r) fun _ => False) : SumSem c.P H β w base f vs r := by
  have hr := runs_of hc hob
  refine sum_smallCX hH I hgl ha hI (ownedOf I.ents 0) (fun j E h ho => (ownedOf_spec _ _ _).2 ⟨j, E, by omega, h, ho⟩) (fun j hj => ?_) (ownedOf_nodup _ _) hr.1 fun hH' hG ha' => (hr.2 _ _ _ _ _ hH' hG ha').mono fun e w' hcame => ?_
  · obtain ⟨i, E, h, h', ho⟩ := (ownedOf_spec _ _ _).1 hj
    exact ⟨E, by rw [h, Nat.zero_add]; exact h', ho⟩
  · obtain ⟨v, H', x, β', he, ⟨keep, hk, hkn, h⟩, hle, hv, hH2⟩ := hcame
    exact ⟨v, H', x, β', he, ⟨keep, hk, hkn, h.val, h.uv, h.sets.length, h.sets.get, h.news.length, h.news.get⟩, hle, hv, hH2⟩
end Go.Sim


/-
  The symbolic simulator, fortieth part: values that are written alike; summaries told for one state, whatever is drawn.
-/
namespace Go.Sim
variable {α : Type}

noncomputable def eqA (a b : SA) : Bool := match a, b with
  | ⟨n, .lit i⟩, ⟨m, .lit j⟩ => boolC (Nat.beq n m) (Nat.beq i j) false
  | _, _ => false
theorem eqA_spec {a b : SA} (h : eqA a b = true) : a = b := by
  unfold eqA at h
  split at h
  · obtain ⟨h1, h2⟩ := boolC_two h
    rw [Nat.eq_of_beq_eq_true h1, Nat.eq_of_beq_eq_true h2]
  · cases h
def eqN (a b : SN) : Bool := match a, b with
  | .lit i, .lit j => Nat.beq i j
  | _, _ => false
theorem eqN_spec {a b : SN} (h : eqN a b = true) : a = b := by
  unfold eqN at h
  split at h
  · rw [Nat.eq_of_beq_eq_true h]
  · cases h
noncomputable def eqC (a b : SC) : Bool := match a, b with
  | .lit i, .lit j => Nat.beq i j
  | .rest n i, .rest m j => boolC (Nat.beq n m) (Nat.beq i j) false
  | _, _ => false
theorem eqC_spec {a b : SC} (h : eqC a b = true) : a = b := by
  unfold eqC at h
  split at h
  · rw [Nat.eq_of_beq_eq_true h]
  · obtain ⟨h1, h2⟩ := boolC_two h
    rw [Nat.eq_of_beq_eq_true h1, Nat.eq_of_beq_eq_true h2]
  · cases h
def eqS (a b : SStr) : Bool := match a, b with
  | .lit x, .lit y => x.data.toList == y.data.toList
  | _, _ => false
theorem eqS_spec {a b : SStr} (h : eqS a b = true) : a = b := by
  unfold eqS at h
  split at h
  · rename_i x y
    have h := eq_of_beq h
    obtain ⟨⟨x⟩⟩ := x
    obtain ⟨⟨y⟩⟩ := y
    have h : x = y := h
    rw [h]
  · cases h
def eqB (a b : SB) : Bool := match a, b with
  | .lit x, .lit y => x == y
  | _, _ => false
theorem eqB_spec {a b : SB} (h : eqB a b = true) : a = b := by
  unfold eqB at h
  split at h
  · rw [eq_of_beq h]
  · cases h
noncomputable def eqJ (a b : SI) : Bool := match a, b with
  | .lit x, .lit y => eqI x y
  | _, _ => false
theorem eqJ_spec {a b : SI} (h : eqJ a b = true) : a = b := by
  unfold eqJ at h
  split at h
  · rw [eqI_spec h]
  · cases h
mutual
noncomputable def eqV : SV → SV → Bool
  | .int k a, .int j b => boolC (eqK k j) (eqJ a b) false
  | .bool a, .bool b => eqB a b
  | .str a, .str b => eqS a b
  | .ptr a, .ptr b => eqA a b
  | .nilPtr, .nilPtr => true
  | .slice a l c, .slice b m d => boolC (eqA a b) (boolC (eqN l m) (eqC c d) false) false
  | .nilSlice, .nilSlice => true
  | .map n, .map m => Nat.beq n m
  | .nilMap, .nilMap => true
  | .nilFunc, .nilFunc => true
  | .nilIface, .nilIface => true
  | .agg l, .agg m => eqVL l m
  | .tuple l, .tuple m => eqVL l m
  | _, _ => false
noncomputable def eqVL : List SV → List SV → Bool
  | [], [] => true
  | v :: l, u :: m => boolC (eqV v u) (eqVL l m) false
  | _, _ => false
end
mutual
theorem eqV_spec : (v u : SV) → eqV v u = true → v = u
  | .int k a, u, h => by
    cases u <;> simp only [eqV, Bool.false_eq_true] at h
    obtain ⟨h1, h2⟩ := boolC_two h
    rw [eqK_spec h1, eqJ_spec h2]
  | .bool a, u, h => by
    cases u <;> simp only [eqV, Bool.false_eq_true] at h
    rw [eqB_spec h]
  | .str a, u, h => by
    cases u <;> simp only [eqV, Bool.false_eq_true] at h
    rw [eqS_spec h]
  | .ptr a, u, h => by
    cases u <;> simp only [eqV, Bool.false_eq_true] at h
    rw [eqA_spec h]
  | .nilPtr, u, h => by cases u <;> simp only [eqV, Bool.false_eq_true] at h; rfl
  | .slice a l c, u, h => by
    cases u <;> simp only [eqV, Bool.false_eq_true] at h
    obtain ⟨h1, h2⟩ := boolC_two h
    obtain ⟨h2, h3⟩ := boolC_two h2
    rw [eqA_spec h1, eqN_spec h2, eqC_spec h3]
  | .nilSlice, u, h => by cases u <;> simp only [eqV, Bool.false_eq_true] at h; rfl
  | .map n, u, h => by
    cases u <;> simp only [eqV, Bool.false_eq_true] at h
    rw [Nat.eq_of_beq_eq_true h]
  | .nilMap, u, h => by cases u <;> simp only [eqV, Bool.false_eq_true] at h; rfl
  | .func _ _ _, u, h => by cases u <;> simp only [eqV, Bool.false_eq_true] at h
  | .nilFunc, u, h => by cases u <;> simp only [eqV, Bool.false_eq_true] at h; rfl
  | .iface _ _, u, h => by cases u <;> simp only [eqV, Bool.false_eq_true] at h
  | .nilIface, u, h => by cases u <;> simp only [eqV, Bool.false_eq_true] at h; rfl
  | .agg l, u, h => by
    cases u <;> simp only [eqV, Bool.false_eq_true] at h
    rw [eqVL_spec l _ h]
  | .tuple l, u, h => by
    cases u <;> simp only [eqV, Bool.false_eq_true] at h
    rw [eqVL_spec l _ h]
  | .val _, u, h => by cases u <;> simp only [eqV, Bool.false_eq_true] at h
  | .tail _ _ _ _, u, h => by cases u <;> simp only [eqV, Bool.false_eq_true] at h
theorem eqVL_spec : (l m : List SV) → eqVL l m = true → l = m
  | [], m, h => by cases m <;> simp only [eqVL, Bool.false_eq_true] at h; rfl
  | v :: l, m, h => by
    cases m with
    | nil => simp only [eqVL, Bool.false_eq_true] at h
    | cons u m =>
      simp only [eqVL] at h
      obtain ⟨h1, h2⟩ := boolC_two h
      rw [eqV_spec v u h1, eqVL_spec l m h2]
end
noncomputable def eqEs : List (SV × SV × Nat) → List (SV × SV × Nat) → Bool
  | [], [] => true
  | v :: l, u :: m => boolC (eqV v.1 u.1) (boolC (eqV v.2.1 u.2.1) (boolC (Nat.beq v.2.2 u.2.2) (eqEs l m) false) false) false
  | _, _ => false
theorem eqEs_spec : ∀ (l m : List (SV × SV × Nat)), eqEs l m = true → l = m
  | [], m, h => by cases m <;> simp only [eqEs, Bool.false_eq_true] at h; rfl
  | v :: l, m, h => by
    cases m with
    | nil => simp only [eqEs, Bool.false_eq_true] at h
    | cons u m =>
      simp only [eqEs] at h
      obtain ⟨h1, g1⟩ := boolC_two h
      obtain ⟨h2, g2⟩ := boolC_two g1
      obtain ⟨h3, g3⟩ := boolC_two g2
      rw [eqEs_spec l m g3]
      have e1 : v.1 = u.1 := eqV_spec _ _ h1
      have e2 : v.2.1 = u.2.1 := eqV_spec _ _ h2
      have e3 : v.2.2 = u.2.2 := Nat.eq_of_beq_eq_true h3
      rw [show v = u from Prod.ext e1 (Prod.ext e2 e3)]
noncomputable def eqE (a b : SO) : Bool := match a, b with
  | .row (.lst l), .row (.lst m) => eqVL l m
  | .obj (.map es c), .obj (.map es' c') => boolC (eqEs es es') (Nat.beq c c') false
  | _, _ => false
theorem eqE_spec {a b : SO} (h : eqE a b = true) : a = b := by
  unfold eqE at h
  split at h
  · rw [eqVL_spec _ _ h]
  · obtain ⟨h1, h2⟩ := boolC_two h
    rw [eqEs_spec _ _ h1, Nat.eq_of_beq_eq_true h2]
  · cases h
noncomputable def eqEL : List SO → List SO → Bool
  | [], [] => true
  | v :: l, u :: m => boolC (eqE v u) (eqEL l m) false
  | _, _ => false
theorem eqEL_spec : ∀ (l m : List SO), eqEL l m = true → l = m
  | [], m, h => by cases m <;> simp only [eqEL, Bool.false_eq_true] at h; rfl
  | v :: l, m, h => by
    cases m with
    | nil => simp only [eqEL, Bool.false_eq_true] at h
    | cons u m =>
      simp only [eqEL] at h
      obtain ⟨h1, h2⟩ := boolC_two h
      rw [eqE_spec h1, eqEL_spec l m h2]
/-- a path's conditions, and what is made of its end -/
noncomputable def outG {γ : Type} (g : SV → List SO → γ) (t : Tree) : List Bool → (Nat → Nat → Nat) → List Prop × Option γ :=
  Tree.rec (motive := fun _ => List Bool → (Nat → Nat → Nat) → List Prop × Option γ) (fun v H _ _ => ([], some (g v H))) (fun _ _ _ => ([], none)) (fun p _ ih ds z => (p :: (ih ds z).1, (ih ds z).2))
    (fun b _ _ iht ihf ds z => List.rec (motive := fun _ => List Prop × Option γ) ([], none) (fun d r _ => ((b = d) :: (boolC d (iht r z) (ihf r z)).1, (boolC d (iht r z) (ihf r z)).2)) ds) (fun _ _ _ => ([], none)) (fun _ ih ds z => ih (z 0) ds fun i => z (i + 1)) t
theorem outG_ob {γ : Type} {g : SV → List SO → γ} {t : Tree} {y : γ} (h : ∀ z : Nat → Nat → Nat, ∃ ds ps, outG g t ds z = (ps, some y) ∧ ∀ p ∈ ps, p) : t.Ob (fun v H => g v H = y) fun _ => False := by
  have z0 : Nat → Nat → Nat := fun _ _ => 0
  induction t with
  | done v' H =>
    obtain ⟨ds, ps, h, _⟩ := h z0
    have h' : ([], some (g v' H)) = (ps, some y) := h
    exact Option.some.inj (Prod.mk.inj h').2
  | stop =>
    obtain ⟨ds, ps, h, _⟩ := h z0
    cases (Prod.mk.inj (show ([], none) = (ps, some y) from h)).2
  | need p t ih =>
    have h' : ∀ z, ∃ ds ps, (p :: (outG g t ds z).1, (outG g t ds z).2) = (ps, some y) ∧ ∀ q ∈ ps, q := h
    refine ⟨?_, ih fun z => ?_⟩
    · obtain ⟨ds, ps, h1, h2⟩ := h' z0
      exact h2 p (by rw [← (Prod.mk.inj h1).1]; exact List.mem_cons_self)
    · obtain ⟨ds, ps, h1, h2⟩ := h' z
      obtain ⟨e1, e2⟩ := Prod.mk.inj h1
      exact ⟨ds, (outG g t ds z).1, by rw [← e2], fun q hq => h2 q (by rw [← e1]; exact List.mem_cons_of_mem _ hq)⟩
  | fork b t f iht ihf =>
    have key : ∀ z, ∃ d r, b = d ∧ (boolC d (outG g t r z) (outG g f r z)).2 = some y ∧ ∀ q ∈ (boolC d (outG g t r z) (outG g f r z)).1, q := by
      intro z
      obtain ⟨ds, ps, h1, h2⟩ := h z
      cases ds with
      | nil => cases (Prod.mk.inj (show ([], none) = (ps, some y) from h1)).2
      | cons d r =>
        have h1 : ((b = d) :: (boolC d (outG g t r z) (outG g f r z)).1, (boolC d (outG g t r z) (outG g f r z)).2) = (ps, some y) := h1
        obtain ⟨e1, e2⟩ := Prod.mk.inj h1
        exact ⟨d, r, h2 _ (by rw [← e1]; exact List.mem_cons_self), e2, fun q hq => h2 q (by rw [← e1]; exact List.mem_cons_of_mem _ hq)⟩
    refine ⟨fun hb => iht fun z => ?_, fun hb => ihf fun z => ?_⟩
    · obtain ⟨d, r, hd, h1, h2⟩ := key z
      rw [hb] at hd
      subst hd
      exact ⟨r, (outG g t r z).1, Prod.ext rfl h1, h2⟩
    · obtain ⟨d, r, hd, h1, h2⟩ := key z
      rw [hb] at hd
      subst hd
      exact ⟨r, (outG g f r z).1, Prod.ext rfl h1, h2⟩
  | stuck =>
    obtain ⟨ds, ps, h, _⟩ := h z0
    cases (Prod.mk.inj (show ([], none) = (ps, some y) from h)).2
  | any k ih =>
    intro y
    refine ih y fun z => ?_
    let c : Nat → Nat → Nat := fun i => Nat.rec (motive := fun _ => Nat → Nat) y (fun j _ => z j) i
    exact h c
/-- what a run's end is as a result -/
noncomputable def endR (I : Ifc) (base : Nat) (v : SV) (H : List SO) : R SumRes := outM I base (ownedOf I.ents 0) (notKnown (lenN I.names) (reachN H 400 (app v.nms (ownedOf I.ents 0)) [])) v H
theorem outM_ends {I : Ifc} {base : Nat} {keep : List Nat} {v : SV} {H : List SO} {r : SumRes} (h : outM I base (ownedOf I.ents 0) keep v H = .ok r) : I.EndsX base r v H := by
  unfold outM at h
  cases hk : boolC (nodupN keep) (boolC (allN (fun j => Nat.ble (lenN I.names) j) keep) (boolC (v.uses (I.seen keep)) (boolC (keepsAt (I.seen keep) H (ownedOf I.ents 0)) (boolC (keepsAt (I.seen keep) H keep) (allN (fun m => optC (nth H m) false SO.owned) (app (ownedOf I.ents 0) keep)) false) false) false) false) false with
  | false => rw [hk] at h; cases h
  | true =>
    rw [hk] at h
    have h : R.ok _ = R.ok r := h
    cases h
    obtain ⟨k1, hk⟩ := boolC_two hk
    obtain ⟨k2, hk⟩ := boolC_two hk
    obtain ⟨k3, hk⟩ := boolC_two hk
    obtain ⟨k4, hk⟩ := boolC_two hk
    obtain ⟨k5, k6⟩ := boolC_two hk
    have hown : ∀ j ∈ ownedOf I.ents 0 ++ keep, ∀ e, H[j]? = some e → e.owned = true := by
      intro j hj e he
      have := allN_mem k6 j (by rw [app_eq]; exact hj)
      rw [nth_eq, he] at this
      exact this
    refine ⟨keep, fun j hj => ?_, nodupN_spec keep k1, SV.Imp.refl _, k3, setsQ_of fun j hj => ?_, newsQ_of fun j hj => ?_⟩
    · have := allN_mem k2 j hj
      rw [← lenN_eq]
      exact Nat.le_of_ble_eq_true this
    · obtain ⟨e, he, hk⟩ := keepsAt_get k4 hj
      exact ⟨e, he, hk, hown j (List.mem_append_left _ hj) e he⟩
    · obtain ⟨e, he, hk⟩ := keepsAt_get k5 hj
      exact ⟨e, he, hk, hown j (List.mem_append_right _ hj) e he⟩
end Go.Sim


/-
  The symbolic simulator, forty-first part: a summary told for one state alone, whatever is drawn.
-/
namespace Go.Sim
variable {α : Type}

noncomputable def fitB (ro : Bool) (M : List Nat) (args : List SV) (H : List SO) : Bool := boolC (nodupN M) (boolC (keepsAt (fun n => memN n M) H M) (boolC (SV.usesL (fun n => memN n M) args) (boolC (SV.usesL (smallI ro M args H).known (smallI ro M args H).args) (allN (fun e => e.keeps (smallI ro M args H).known) (smallI ro M args H).ents) false) false) false) false
theorem small_fits {P : Program} {ro : Bool} {O : Nat → Prop} {w0 w : World} {β : Val} {H : List SO} {args : List SV} {vs : List Value} {M : List Nat} (hok : fitB ro M args H = true) (_hH : HeapRel0 P O w0 β H w) (ha : SV.denL β args = some vs) :
    (smallI ro M args H).FitsQ H ∧ SV.denL β (SV.renL (smallI ro M args H).big (smallI ro M args H).args) = some vs := by
  unfold fitB at hok
  obtain ⟨h1, hok⟩ := boolC_two hok
  obtain ⟨h2, hok⟩ := boolC_two hok
  obtain ⟨h3, hok⟩ := boolC_two hok
  obtain ⟨h4, h5⟩ := boolC_two hok
  have hM : M.Nodup := nodupN_spec M h1
  have hround : ∀ n, memN n M = true → (smallI ro M args H).big (idxN n M) = n := by
    intro n hn
    show (nth M (idxN n M)).getD 0 = n
    rw [nth_eq, idxN_spec (memN_iff.1 hn)]
    rfl
  have hget : ∀ (j : Nat) (E : SO), (smallI ro M args H).ents[j]? = some E → ∃ m e, M[j]? = some m ∧ H[m]? = some e ∧ E = rowO ro (renO (fun n => idxN n M) e) ∧ e.keeps (fun n => memN n M) = true := by
    intro j E hE
    have hE : (mapN (fun m => rowO ro (renO (fun n => idxN n M) (atE (nth H m)))) M)[j]? = some E := hE
    rw [mapN_eq, List.getElem?_map] at hE
    cases hm : M[j]? with
    | none => rw [hm] at hE; cases hE
    | some m =>
      rw [hm] at hE
      obtain ⟨e, he, hk⟩ := keepsAt_get h2 (List.mem_of_getElem? hm)
      have hE : rowO ro (renO (fun n => idxN n M) (atE (nth H m))) = E := Option.some.inj hE
      rw [nth_eq, he] at hE
      exact ⟨m, e, rfl, he, hE.symm, hk⟩
  refine ⟨⟨?_, fun i j nm hi hj => ?_, h4, fun j E hE => ?_, fun j E hE => ?_⟩, ?_⟩
  · show (mapN _ M).length = M.length
    rw [mapN_eq, List.length_map]
  · exact (List.getElem?_inj (List.getElem?_eq_some_iff.1 hi).1 hM).1 (hi.trans hj.symm)
  · obtain ⟨m, e, hm, he, rfl, hk⟩ := hget j E hE
    have hb : (smallI ro M args H).big j = m := by
      show (nth M j).getD 0 = m
      rw [nth_eq, hm]; rfl
    exact ⟨e, by rw [hb]; exact he, taken_ro ro (taken_round hround hk)⟩
  · exact SO.keeps_cuses (allN_mem h5 E (List.mem_of_getElem? hE))
  · show SV.denL β (SV.renL (smallI ro M args H).big (SV.renL (fun n => idxN n M) args)) = some vs
    rw [SV.denL_ren, SV.denL_ren]
    rw [← SV.denL_uses (p := fun n => memN n M) (β := β) (fun n hn => by show β n = β ((smallI ro M args H).big (idxN n M)); rw [hround n hn]) args h3]
    exact ha
/-- the result of one path -/
noncomputable def getR (o : Option (R SumRes)) : SumRes := optC o ⟨.nilPtr, [], []⟩ fun r => R.rec (motive := fun _ => SumRes) (fun a => a) (fun _ _ ih => ih) (fun _ _ _ a _ => a) (fun _ => ⟨.nilPtr, [], []⟩) (fun _ ih => ih fun _ => 0) r
noncomputable def pathR (t : Tree) (ds : List Bool) (I : Ifc) (base : Nat) : SumRes := getR (outG (endR I base) t ds fun _ _ => 0).2
/-- A SUMMARY TOLD FOR ONE STATE -/
noncomputable def toldM (ro : Bool) (t : Tree) (ds : List Bool) (A : List SV) (E : List SO) (els : R SumRes) (args : List SV) (H : List SO) (base : Nat) (M : List Nat) : R SumRes :=
  boolC (boolC (fitB ro M args H) (boolC (eqVL (smallI ro M args H).args A) (eqEL (smallI ro M args H).ents E) false) false) (.ok (pathR t ds ⟨M, E, A⟩ base)) els
theorem toldM_sat {c : Cfg} (hc : CfgOK c) (hg : ∀ g, c.glob g = none) {n : Nat} {f : FuncId} {ro : Bool} {ds : List Bool} {A : List SV} {E : List SO} {els : R SumRes} {O : Nat → Prop} {w0 w : World} {β : Val} {H : List SO} {base : Nat} {args : List SV} {vs : List Value} (M : List Nat)
    (hT : ∀ M : List Nat, M.length = E.length → ∀ z, ∃ ds' ps, outG (endR ⟨M, E, A⟩ base) (callSim c n f A E) ds' z = (ps, some (.ok (pathR (callSim c n f A E) ds ⟨M, E, A⟩ base))) ∧ ∀ p ∈ ps, p)
    (hH : HeapRel0 c.P O w0 β H w) (ha : SV.denL β args = some vs) (he : els.Sat (SumSem c.P H β w base f vs)) : (toldM ro (callSim c n f A E) ds A E els args H base M).Sat (SumSem c.P H β w base f vs) := by
  unfold toldM
  cases hok : boolC (fitB ro M args H) (boolC (eqVL (smallI ro M args H).args A) (eqEL (smallI ro M args H).ents E) false) false with
  | false => exact he
  | true =>
    obtain ⟨h1, hok⟩ := boolC_two hok
    obtain ⟨h2, h3⟩ := boolC_two hok
    rw [boolC_true]
    obtain ⟨hI, ha'⟩ := small_fits h1 hH ha
    have e1 := eqVL_spec _ _ h2
    have e2 := eqEL_spec _ _ h3
    have e : smallI ro M args H = ⟨M, E, A⟩ := by
      have h : smallI ro M args H = ⟨M, (smallI ro M args H).ents, (smallI ro M args H).args⟩ := rfl
      rw [h, e1, e2]
    rw [e] at hI ha'
    show SumSem c.P H β w base f vs _
    exact sum_runX hc n hH ⟨M, E, A⟩ (fun g j h => by rw [hg g] at h; cases h) ha' hI ((outG_ob (hT M (hI.len.symm))).mono fun v H h => outM_ends h)
end Go.Sim

