/-
  Texts behind one another: the symbolic simulator and what it is told of the program.
-/
import Derived.Test.YtbhhagnpgkjmgaaDoorPk5
import Derived.WideShapes
import Derived.ChangeShapes
import Derived.ChangeSlices
import Derived.Deep.Strs

/-
  The symbolic simulator, thirty-fifth part: summaries whose new entries may be maps.
-/
namespace Go.Sim

/- Entries that may be maps. -/
def TakenQ (f : Nat → Nat) (E e : SO) : Prop :=
  match E with
  | .obj o => ∃ o0, e = .obj o0 ∧ o0.Imp (o.ren f)
  | .gone => ∃ l : Option Nat, l = l ∧ (e.placed = true ∨ ∃ o, e = .obj o)
  | E => Taken f E e
def SO.CUsesQ (p : Nat → Bool) (E : SO) : Prop :=
  match E with
  | .obj o => o.uses p = true
  | E => E.CUses p
theorem Taken.q {f : Nat → Nat} {E e : SO} (h : Taken f E e) : TakenQ f E e := by
  cases E with
  | own => exact h
  | row => exact h
  | loop => exact h
  | deferred => exact h
  | gone => exact ⟨none, rfl, .inl h⟩
  | obj => exact h.elim
theorem SO.CUses.q {p : Nat → Bool} {E : SO} (h : E.CUses p) : E.CUsesQ p := by
  cases E with
  | own => exact h
  | row => exact h
  | loop => exact h
  | deferred => exact h
  | gone => exact h
  | obj => exact h.elim
structure Ifc.FitsQ (I : Ifc) (H : List SO) : Prop where
  len : I.ents.length = I.names.length
  nodup : ∀ (i j nm : Nat), I.names[i]? = some nm → I.names[j]? = some nm → i = j
  uargs : SV.usesL I.known I.args = true
  ent : ∀ (j : Nat) (E : SO), I.ents[j]? = some E → ∃ e, H[I.big j]? = some e ∧ TakenQ I.big E e
  uent : ∀ (j : Nat) (E : SO), I.ents[j]? = some E → E.CUsesQ I.known
theorem Ifc.Fits.q {I : Ifc} {H : List SO} (h : I.Fits H) : I.FitsQ H := ⟨h.len, h.nodup, h.uargs, fun j E he => let ⟨e, h1, h2⟩ := h.ent j E he; ⟨e, h1, h2.q⟩, fun j E he => (h.uent j E he).q⟩
def EntsQ (f : Nat → Nat) (p : Nat → Bool) (H : List SO) : List Nat → List SO → Prop
  | n :: ns, E :: Es => ((∃ e, H[n]? = some e ∧ TakenQ f E e) ∧ E.CUsesQ p) ∧ EntsQ f p H ns Es
  | [], [] => True
  | _, _ => False
theorem EntsQ.length {f : Nat → Nat} {p : Nat → Bool} {H : List SO} : ∀ {ns : List Nat} {Es : List SO}, EntsQ f p H ns Es → Es.length = ns.length
  | [], [], _ => rfl
  | _ :: _, _ :: _, h => by simp only [List.length_cons]; rw [EntsQ.length h.2]
  | [], _ :: _, h => h.elim
  | _ :: _, [], h => h.elim
theorem EntsQ.get {f : Nat → Nat} {p : Nat → Bool} {H : List SO} : ∀ {ns : List Nat} {Es : List SO}, EntsQ f p H ns Es → ∀ (j : Nat) (E : SO), Es[j]? = some E → (∃ e, H[(nth ns j).getD 0]? = some e ∧ TakenQ f E e) ∧ E.CUsesQ p
  | [], [], _, j, E, h => by simp at h
  | n :: ns, E' :: Es, h, 0, E, hE => by simp at hE; subst hE; exact h.1
  | n :: ns, E' :: Es, h, j + 1, E, hE => by
    have := EntsQ.get h.2 j E (by simpa using hE)
    rw [nth_eq] at this ⊢
    simpa using this
  | [], _ :: _, h, _, _, _ => h.elim
  | _ :: _, [], h, _, _, _ => h.elim
theorem Ifc.fitsQ {I : Ifc} {H : List SO} (hn : I.names.Nodup) (hu : SV.usesL I.known I.args = true) (he : EntsQ I.big I.known H I.names I.ents) : I.FitsQ H :=
  ⟨he.length, fun _ _ _ hi hj => (List.getElem?_inj (List.getElem?_eq_some_iff.1 hi).1 hn).1 (hi.trans hj.symm), hu, fun j E hE => (he.get j E hE).1, fun j E hE => (he.get j E hE).2⟩
def Ifc.ownsQ (I : Ifc) (β : Val) (b : Nat) : Prop := ∃ (j : Nat) (E : SO) (l : Loc), I.ents[j]? = some E ∧ E.owned = true ∧ β (I.big j) = some l ∧ l.blk = b
/-- what is owned in small is owned in great -/
theorem TakenQ.owned {f : Nat → Nat} {p : Nat → Bool} {E e : SO} (h : TakenQ f E e) (hu : E.CUsesQ p) (ho : E.owned = true) : e.owned = true := by
  cases E with
  | own => obtain ⟨_, rfl, _⟩ := h; rfl
  | row => cases ho
  | loop => exact hu.elim
  | deferred => exact hu.elim
  | gone => cases ho
  | obj => obtain ⟨_, rfl, _⟩ := h; rfl
theorem EntryRel.loc {P : Program} {O : Nat → Prop} {w0 w : World} {β : Val} {n : Nat} {e : SO} (h : EntryRel P O w0 β w n e) (hp : e.placed = true ∨ ∃ o, e = .obj o) : ∃ l, β n = some l := by
  rcases hp with hp | ⟨o, rfl⟩
  · cases e with
    | own cc ww el => obtain ⟨l, _, _, _, _, hl, _⟩ := h; exact ⟨l, hl⟩
    | row cc => obtain ⟨l, _, hl, _⟩ := h; exact ⟨l, hl⟩
    | loop => cases hp
    | deferred => cases hp
    | gone => cases hp
    | obj => cases hp
  · obtain ⟨l, _, hl, _⟩ := h; exact ⟨l, hl⟩
theorem Ifc.heapQ {P : Program} {O : Nat → Prop} {w0 w : World} {β : Val} {H : List SO} {I : Ifc} (h : HeapRel0 P O w0 β H w) (hI : I.FitsQ H) : HeapRel P (I.ownsQ β) w (I.val β) I.ents w := by
  have hj : ∀ (j : Nat) (E : SO), I.ents[j]? = some E → j < I.names.length := fun j E he => by
    rw [← hI.len]; exact (List.getElem?_eq_some_iff.1 he).1
  have hval : ∀ (j : Nat) (E : SO), I.ents[j]? = some E → I.val β j = β (I.big j) := fun j E he => by
    exact (Ifc.val_known j ((I.known_iff j).2 (hj j E he))).symm
  have hne : ∀ (i j : Nat) (E E' : SO), I.ents[i]? = some E → I.ents[j]? = some E' → i ≠ j → I.big i ≠ I.big j := fun i j E E' h1 h2 hij heq =>
    hij (hI.nodup i j (I.big i) (Ifc.big_get (hj i E h1)) (by rw [heq]; exact Ifc.big_get (hj j E' h2)))
  refine ⟨⟨fun n E hn => ?_, fun n m E E' l l' hn hm ho ho' hnm hl hl' => ?_, fun n E l hn ho hl => ?_, ⟨rfl, rfl, rfl, Nat.le_refl _, Nat.le_refl _, fun _ _ _ => rfl⟩⟩, fun n hn => ?_⟩
  · obtain ⟨e, he, ht⟩ := hI.ent n E hn
    have hu := hI.uent n E hn
    have hv := hval n E hn
    have h0 := h.entries _ e he
    cases E with
    | own c wh el =>
      obtain ⟨c0, rfl, himp⟩ := ht
      obtain ⟨l, vs, rest, lo, hi, hl, h0', hc, hh, hfz, hw, hcap⟩ := h0
      exact ⟨l, vs, rest, lo, hi, hv.trans hl, h0', (CellsRel.ren hu Ifc.val_known).1 (himp _ _ hc), hh, hfz, hw, hcap⟩
    | row c =>
      have htake : ∀ (vs : List Value) (k i : Nat) (x : Value), (vs.take k)[i]? = some x → vs[i]? = some x := by
        intro vs k i x h
        rw [List.getElem?_take] at h
        split at h
        · exact h
        · cases h
      obtain ⟨c0, ht, himp⟩ := ht
      rcases ht with rfl | ⟨wh, el, rfl⟩
      · obtain ⟨l, vs, hl, hc, hx⟩ := h0
        obtain ⟨kk, hc⟩ := himp _ _ hc
        refine ⟨l, vs.take kk, hv.trans hl, (CellsRel.ren hu Ifc.val_known).1 hc, fun i x hi => ?_⟩
        obtain ⟨h1, h2, h3⟩ := hx i x (htake _ _ _ _ hi)
        refine ⟨Nat.lt_of_lt_of_le h1 h.keep.size, ?_, ?_⟩
        · rintro ⟨j, E', l', hj', ho', hl', hb⟩
          obtain ⟨e', he', ht'⟩ := hI.ent j _ hj'
          rcases h.fresh _ _ l' he' (ht'.owned (hI.uent j _ hj') ho') hl' with h4 | h4
          · omega
          · exact h2 (hb ▸ h4)
        · rw [World.cell_of_block (h.keep.block _ h1 h2)]; exact h3
      · obtain ⟨l, vs, rest, lo, hi, hl, h0', hc, hh, hfz, hw, hcap⟩ := h0
        obtain ⟨kk, hc⟩ := himp _ _ hc
        refine ⟨l, vs.take kk, hv.trans hl, (CellsRel.ren hu Ifc.val_known).1 hc, fun i x hi0 => ⟨(Array.getElem?_eq_some_iff.1 hh).1, ?_, ?_⟩⟩
        · rintro ⟨j, E', l', hj', ho', hl', hb⟩
          obtain ⟨e', he', ht'⟩ := hI.ent j _ hj'
          by_cases hnj : n = j
          · subst hnj; rw [hn] at hj'; cases hj'; cases ho'
          · exact h.sep _ _ _ _ l l' he he' rfl (ht'.owned (hI.uent j _ hj') ho') (hne n j _ _ hn hj' hnj) hl hl' hb.symm
        · unfold World.cell?
          rw [hh, h0', Nat.zero_add]
          have hi' := htake _ _ _ _ hi0
          have hlt := (List.getElem?_eq_some_iff.1 hi').1
          simp only [List.getElem?_toArray, List.getElem?_append_left hlt, hi']
          rfl
    | loop => exact hu.elim
    | deferred => exact hu.elim
    | gone => trivial
    | obj o =>
      obtain ⟨o0, rfl, himp⟩ := ht
      obtain ⟨l, x, hl, h0', hd, hh⟩ := h0
      refine ⟨l, x, hv.trans hl, h0', ?_, hh⟩
      have := himp _ _ hd
      rw [SObj.den_ren, SObj.den_uses (β := fun n => β (I.big n)) (β' := I.val β) Ifc.val_known hu] at this
      exact this
  · obtain ⟨e, he, ht⟩ := hI.ent n E hn
    obtain ⟨e', he', ht'⟩ := hI.ent m E' hm
    rw [hval n E hn] at hl
    rw [hval m E' hm] at hl'
    exact h.sep _ _ _ _ l l' he he' (ht.owned (hI.uent n E hn) ho) (ht'.owned (hI.uent m E' hm) ho') (hne n m _ _ hn hm hnm) hl hl'
  · rw [hval n E hn] at hl
    exact .inr ⟨n, E, l, hn, ho, hl, rfl⟩
  · unfold Ifc.val
    rw [if_neg]
    rw [I.known_iff, ← hI.len]; omega
/-- the small entry is the great one's, at last; a map, too -/
def GivenO (p : Nat → Bool) (g : Nat → Nat) (E : Option SO) (e : SO) : Prop := Given p g E e ∨ ∃ o, E = some (.obj o) ∧ o.uses p = true ∧ e = .obj (o.ren g)
def GivenQ (p : Nat → Bool) (g : Nat → Nat) (E : Option SO) (e : SO) : Prop := Given p g E e ∨ ∃ o o', E = some (.obj o) ∧ o.uses p = true ∧ (o.ren g).Imp o' ∧ e = .obj o'
structure Ifc.OutQ (I : Ifc) (base : Nat) (turn keep : List Nat) (r : SumRes) (v : SV) (H : List SO) : Prop where
  val : (v.ren (I.out base keep)).Imp r.v
  uv : v.uses (I.seen keep) = true
  setsLen : r.sets.length = turn.length
  sets : ∀ (i j : Nat), turn[i]? = some j → ∃ e, r.sets[i]? = some (I.big j, e) ∧ GivenQ (I.seen keep) (I.out base keep) H[j]? e
  newsLen : r.news.length = keep.length
  news : ∀ (i j : Nat), keep[i]? = some j → ∃ e, r.news[i]? = some e ∧ GivenQ (I.seen keep) (I.out base keep) H[j]? e
/-- A SUMMARY FROM A SMALL RUN -/
theorem sum_smallCQ {c : Cfg} {O : Nat → Prop} {w0 w : World} {β : Val} {H : List SO} {base : Nat} {f : FuncId} {vs : List Value} (hH : HeapRel0 c.P O w0 β H w)
    (I : Ifc) (hgl : ∀ g j, c.glob g = some j → I.known j = true ∧ ∃ l, β (I.big j) = some l ∧ l.blk = g ∧ l.off = 0) (ha : SV.denL β (SV.renL I.big I.args) = some vs) (hI : I.FitsQ H) {r : SumRes} (turn keep : List Nat) (ht1 : ∀ (j : Nat) E, I.ents[j]? = some E → E.owned = true → j ∈ turn) (ht2 : ∀ j ∈ turn, ∃ E, I.ents[j]? = some E ∧ E.owned = true) (hk : ∀ j ∈ keep, I.names.length ≤ j) (hkn : keep.Nodup) (htn : turn.Nodup := by simp)
    (hbody : ∃ fn, c.P.funcs[f]? = some fn ∧ fn.body.isSome = true)
    (hrun : HeapRel c.P (I.ownsQ β) w (I.val β) I.ents w → GlobRel c.glob (I.val β) → SV.denL (I.val β) I.args = some vs → Calls c.P f vs.toArray w (Came c.P (I.ownsQ β) w (I.val β) (I.OutQ base turn keep r))) : SumSem c.P H β w base f vs r := by
  intro hfree
  have hH' := Ifc.heapQ hH hI
  have ha' : SV.denL (I.val β) I.args = some vs := by
    rw [SV.denL_ren, SV.denL_uses Ifc.val_known _ hI.uargs] at ha; exact ha
  have hcalls := hrun hH' (fun g j hg => let ⟨hk, l, h1, h2⟩ := hgl g j hg; ⟨l, by rw [← Ifc.val_known j hk]; exact h1, h2⟩) ha'
  have hown : ∀ j ∈ turn, ∃ e l, H[I.big j]? = some e ∧ e.owned = true ∧ β (I.big j) = some l ∧ I.val β j = some l ∧ j < I.names.length := by
    intro j hj
    obtain ⟨E, he, ho⟩ := ht2 j hj
    obtain ⟨e, he', ht⟩ := hI.ent j _ he
    have hu := hI.uent j _ he
    have hjl : j < I.names.length := by rw [← hI.len]; exact (List.getElem?_eq_some_iff.1 he).1
    have hpl : e.placed = true ∨ ∃ o, e = .obj o := by
      cases E with
      | own => obtain ⟨_, rfl, _⟩ := ht; exact .inl rfl
      | row => cases ho
      | loop => exact hu.elim
      | deferred => exact hu.elim
      | gone => cases ho
      | obj => obtain ⟨_, rfl, _⟩ := ht; exact .inr ⟨_, rfl⟩
    obtain ⟨l, hl⟩ := (hH.entries _ _ he').loc hpl
    exact ⟨e, l, he', ht.owned hu ho, hl, by rw [← Ifc.val_known j ((I.known_iff j).2 hjl)]; exact hl, hjl⟩
  -- what is turned
  have hsets : ∀ (v : SV) (H'' : List SO), I.OutQ base turn keep r v H'' → ∀ m e, (m, e) ∈ r.sets → ∃ j ∈ turn, m = I.big j ∧ GivenQ (I.seen keep) (I.out base keep) H''[j]? e ∧ ∃ i : Nat, turn[i]? = some j ∧ r.sets[i]? = some (m, e) := by
    intro v H'' hout m e hm
    obtain ⟨i, hi⟩ := List.mem_iff_getElem?.1 hm
    have hil := (List.getElem?_eq_some_iff.1 hi).1
    rw [hout.setsLen] at hil
    obtain ⟨e', h1, h2⟩ := hout.sets i _ (List.getElem?_eq_getElem hil)
    rw [hi] at h1
    cases h1
    exact ⟨_, List.getElem_mem hil, rfl, h2, i, List.getElem?_eq_getElem hil, hi⟩
  refine ⟨?_, .inl ⟨hbody, ?_⟩⟩
  · intro m e hm
    obtain ⟨e', w', fr, hcame, _⟩ := hcalls []
    obtain ⟨v, H'', x, β'', _, hout, _⟩ := hcame
    obtain ⟨j, hj, rfl, _⟩ := hsets v H'' hout m e hm
    obtain ⟨e0, l, h1, h2, _⟩ := hown j hj
    exact ⟨_, h1, h2⟩
  · intro cs
    obtain ⟨e', w', fr, hcame, hst⟩ := hcalls cs
    refine ⟨e', w', fr, ?_, hst⟩
    obtain ⟨v, H'', x, β'', rfl, hout, hle, hv, hH2⟩ := hcame
    -- the great valuation behind the call
    let βb : Val := fun n => if base ≤ n ∧ n < base + keep.length then (keep[n - base]?).bind β'' else β n
    have hlenn : r.news.length = keep.length := hout.newsLen
    have hfree' : ∀ i, i < keep.length → β (base + i) = none := fun i hi => hfree i (by rw [hlenn]; exact hi)
    have hβle : β.le βb := by
      intro n l hn
      show (if _ then _ else _) = _
      rw [if_neg]
      · exact hn
      · rintro ⟨h1, h2⟩
        have := hfree' (n - base) (by omega)
        rw [show base + (n - base) = n from by omega, hn] at this; cases this
    have hseen : ∀ j, I.seen keep j = true → βb (I.out base keep j) = β'' j := by
      intro j hj
      unfold Ifc.seen at hj
      unfold Ifc.out
      cases hkn' : I.known j with
      | true =>
        rw [boolC_true]
        have hjl := (I.known_iff j).1 hkn'
        obtain ⟨E, hE⟩ : ∃ E, I.ents[j]? = some E := ⟨_, List.getElem?_eq_getElem (by rw [hI.len]; exact hjl)⟩
        obtain ⟨e, he, htk⟩ := hI.ent j E hE
        have hu := hI.uent j E hE
        have hpl : e.placed = true ∨ ∃ o, e = .obj o := by
          cases E with
          | own cc ww el => obtain ⟨c1, rfl, _⟩ := htk; exact .inl rfl
          | row cc => obtain ⟨c1, rfl | ⟨ww, el, rfl⟩, _⟩ := htk <;> exact .inl rfl
          | loop => exact hu.elim
          | deferred => exact hu.elim
          | gone => obtain ⟨_, _, h⟩ := htk; exact h
          | obj => obtain ⟨_, rfl, _⟩ := htk; exact .inr ⟨_, rfl⟩
        obtain ⟨l, hl⟩ := (hH.entries _ _ he).loc hpl
        rw [hβle _ _ hl]
        have : I.val β j = some l := by rw [← Ifc.val_known j hkn']; exact hl
        rw [hle _ _ this]
      | false =>
        rw [hkn', boolC_false, memN_iff] at hj
        rw [boolC_false]
        have h1 := idxN_spec hj
        have h2 := (List.getElem?_eq_some_iff.1 h1).1
        show (if _ then _ else _) = _
        rw [if_pos (by omega), show base + idxN j keep - base = idxN j keep from by omega, h1]; rfl
    have hrenOwn : ∀ (j : Nat) (e : SO), GivenQ (I.seen keep) (I.out base keep) H''[j]? e → I.seen keep j = true → e.owned = true ∧ OwnRel c.P βb w' (I.out base keep j) e := by
      intro j e hg hs
      rcases hg with ⟨cc, ww, el, c', he, hu, himp, rfl⟩ | ⟨o, o', he, hu, himp, rfl⟩
      · obtain ⟨l, vs, rest, lo, hi, hl, h0, hcl, hh, hfz, hw, hcap⟩ := hH2.entries j _ he
        exact ⟨rfl, l, vs, rest, lo, hi, (hseen j hs).trans hl, h0, himp _ _ ((CellsRel.ren hu hseen).2 hcl), hh, hfz, hw, hcap⟩
      · obtain ⟨l, y, hl, h0, hd, hh⟩ := hH2.entries j _ he
        exact ⟨rfl, l, y, (hseen j hs).trans hl, h0, himp _ _ (by rw [SObj.den_ren, SObj.den_uses (β := fun n => βb (I.out base keep n)) (β' := β'') hseen hu]; exact hd), hh⟩
    have hatJ : ∀ (j : Nat) (e : SO), GivenQ (I.seen keep) (I.out base keep) H''[j]? e → ∃ e0 l, H''[j]? = some e0 ∧ e0.owned = true ∧ β'' j = some l := by
      intro j e hg
      rcases hg with ⟨cc, ww, el, c', he, _⟩ | ⟨o, o', he, _⟩
      · obtain ⟨l, vs2, rest, lo, hi2, hl, _⟩ := hH2.entries j _ he
        exact ⟨_, l, he, rfl, hl⟩
      · obtain ⟨l, y, hl, _⟩ := hH2.entries j _ he
        exact ⟨_, l, he, rfl, hl⟩
    have hseenT : ∀ j ∈ turn, I.seen keep j = true ∧ I.out base keep j = I.big j := by
      intro j hj
      obtain ⟨_, _, _, _, _, _, hjl⟩ := hown j hj
      have := (I.known_iff j).2 hjl
      unfold Ifc.seen Ifc.out
      rw [this]; exact ⟨rfl, rfl⟩
    have hseenK : ∀ j ∈ keep, I.seen keep j = true ∧ I.known j = false := by
      intro j hj
      have hnk : I.known j = false := by
        cases hx : I.known j with
        | false => rfl
        | true => have := (I.known_iff j).1 hx; have := hk j hj; omega
      unfold Ifc.seen
      rw [hnk]; exact ⟨memN_spec hj, rfl⟩
    have hnewsAt : ∀ (i : Nat) (e : SO), r.news[i]? = some e → ∃ j, keep[i]? = some j ∧ GivenQ (I.seen keep) (I.out base keep) H''[j]? e := by
      intro i e hi
      have hil := (List.getElem?_eq_some_iff.1 hi).1
      rw [hlenn] at hil
      obtain ⟨e', h1, h2⟩ := hout.news i _ (List.getElem?_eq_getElem hil)
      rw [hi] at h1; cases h1
      exact ⟨_, List.getElem?_eq_getElem hil, h2⟩
    refine ⟨x, βb, rfl, ?_, ⟨hβle, hH2.keep.os, hH2.keep.tape, hH2.keep.output, hH2.keep.drawn, hH2.keep.size, ?_, ?_, ?_, ?_, ?_, ?_⟩⟩
    · refine hout.val _ _ ?_
      rw [SV.den_ren, SV.den_uses hseen _ hout.uv]; exact hv
    · intro n hn
      rw [hlenn] at hn
      show (if _ then _ else _) = _
      rw [if_neg (by omega)]
    · intro b hb hno
      refine hH2.keep.block b hb ?_
      rintro ⟨j, E, l, hj, ho, hl, rfl⟩
      have hjt := ht1 j E hj ho
      obtain ⟨i, hi⟩ := List.mem_iff_getElem?.1 hjt
      obtain ⟨e, he, _⟩ := hout.sets i j hi
      exact hno (I.big j) e l (List.mem_of_getElem? he) hl rfl
    · intro m e e' h1 h2
      obtain ⟨j, hj, hm1, hg1, i1, ht1', hs1⟩ := hsets v H'' hout m e h1
      obtain ⟨k, hk', hm2, hg2, i2, ht2', hs2⟩ := hsets v H'' hout m e' h2
      obtain ⟨_, _, _, _, _, _, hjl⟩ := hown j hj
      obtain ⟨_, _, _, _, _, _, hkl⟩ := hown k hk'
      have hjk : k = j := hI.nodup k j (I.big k) (Ifc.big_get hkl) (by rw [← hm2, hm1]; exact Ifc.big_get hjl)
      subst hjk
      have : i1 = i2 := (List.getElem?_inj (List.getElem?_eq_some_iff.1 ht1').1 htn).1 (ht1'.trans ht2'.symm)
      subst this
      rw [hs1] at hs2
      exact (Prod.mk.inj (Option.some.inj hs2)).2
    · intro m e hm
      obtain ⟨j, hj, rfl, hg, _⟩ := hsets v H'' hout m e hm
      obtain ⟨hs, hb⟩ := hseenT j hj
      rw [← hb]
      exact (hrenOwn j e hg hs).2
    · intro i e hi
      obtain ⟨j, hj, hg⟩ := hnewsAt i e hi
      have hjm := List.mem_of_getElem? hj
      obtain ⟨hs, hnk⟩ := hseenK j hjm
      have hout' : I.out base keep j = base + i := by
        unfold Ifc.out
        rw [hnk, boolC_false]
        have h1 := idxN_spec hjm
        have : idxN j keep = i := (List.getElem?_inj (List.getElem?_eq_some_iff.1 h1).1 hkn).1 (h1.trans hj.symm)
        rw [this]
      obtain ⟨ho, hor⟩ := hrenOwn j e hg hs
      refine ⟨ho, hout' ▸ hor, ?_⟩
      obtain ⟨e0, l, he, he0, hl⟩ := hatJ j e hg
      refine ⟨l, by rw [← hout', hseen j hs]; exact hl, .inl ?_⟩
      rcases hH2.fresh j _ l he he0 hl with h1 | ⟨k, E, lk, hk1, hko, hk2, hk3⟩
      · exact h1
      · exfalso
        -- a block that was given is still its own
        have hkt := ht1 k E hk1 hko
        obtain ⟨i3, hi3⟩ := List.mem_iff_getElem?.1 hkt
        obtain ⟨e3, _, hg3⟩ := hout.sets i3 k hi3
        obtain ⟨e4, l4, he4, ho4, hl4⟩ := hatJ k e3 hg3
        obtain ⟨_, l2, _, _, hb2, hv2, hkl⟩ := hown k hkt
        rw [hb2] at hk2; cases hk2
        rw [hle _ _ hv2] at hl4; cases hl4
        refine hH2.sep k j _ _ lk l he4 he ho4 he0 ?_ (hle _ _ hv2) hl hk3
        have := hk j hjm; omega
    · intro i j l l' hij hi hj hl hl'
      rw [hlenn] at hi hj
      have hone : ∀ i, i < keep.length → ∀ l, βb (base + i) = some l → ∃ k, keep[i]? = some k ∧ β'' k = some l := by
        intro i hi l hl
        have hl : (if base ≤ base + i ∧ base + i < base + keep.length then (keep[base + i - base]?).bind β'' else β (base + i)) = some l := hl
        rw [if_pos (by omega), show base + i - base = i from by omega, List.getElem?_eq_getElem hi] at hl
        exact ⟨_, List.getElem?_eq_getElem hi, hl⟩
      obtain ⟨k1, hk1, hb1⟩ := hone i hi l hl
      obtain ⟨k2, hk2, hb2⟩ := hone j hj l' hl'
      obtain ⟨n1, _, hg1⟩ := hout.news i k1 hk1
      obtain ⟨n2, _, hg2⟩ := hout.news j k2 hk2
      obtain ⟨e1, _, he1, ho1, _⟩ := hatJ k1 n1 hg1
      obtain ⟨e2, _, he2, ho2, _⟩ := hatJ k2 n2 hg2
      refine hH2.sep k1 k2 _ _ l l' he1 he2 ho1 ho2 (fun h => ?_) hb1 hb2
      subst h
      exact hij ((List.getElem?_inj (List.getElem?_eq_some_iff.1 hk1).1 hkn).1 (hk1.trans hk2.symm))
/- In short words. -/
/-- the places of what may be written -/
def ownedOf : List SO → Nat → List Nat
  | [], _ => []
  | E :: Es, k => if E.owned then k :: ownedOf Es (k + 1) else ownedOf Es (k + 1)
theorem ownedOf_spec : ∀ (Es : List SO) (k j : Nat), j ∈ ownedOf Es k ↔ ∃ i E, j = k + i ∧ Es[i]? = some E ∧ E.owned = true
  | [], k, j => by simp [ownedOf]
  | E :: Es, k, j => by
    have ih := ownedOf_spec Es (k + 1) j
    have hstep : (∃ i E', j = k + 1 + i ∧ Es[i]? = some E' ∧ E'.owned = true) → ∃ i E', j = k + i ∧ (E :: Es)[i]? = some E' ∧ E'.owned = true := fun ⟨i, E', h, h', h3⟩ => ⟨i + 1, E', by omega, by simpa using h', h3⟩
    unfold ownedOf
    split
    · rename_i ho
      rw [List.mem_cons, ih]
      constructor
      · rintro (rfl | h)
        · exact ⟨0, _, rfl, rfl, ho⟩
        · exact hstep h
      · rintro ⟨i, E', h, h', h3⟩
        cases i with
        | zero => exact .inl h
        | succ i => exact .inr ⟨i, E', by omega, by simpa using h', h3⟩
    · rename_i ho
      rw [ih]
      constructor
      · exact hstep
      · rintro ⟨i, E', h, h', h3⟩
        cases i with
        | zero => simp at h'; subst h'; exact absurd h3 ho
        | succ i => exact ⟨i, E', by omega, by simpa using h', h3⟩
theorem ownedOf_nodup : ∀ (Es : List SO) (k : Nat), (ownedOf Es k).Nodup
  | [], k => by simp [ownedOf]
  | E :: Es, k => by
    unfold ownedOf
    split
    · refine List.nodup_cons.2 ⟨fun h => ?_, ownedOf_nodup Es (k + 1)⟩
      obtain ⟨i, _, h, _⟩ := (ownedOf_spec Es (k + 1) k).1 h
      omega
    · exact ownedOf_nodup Es (k + 1)
def SetsQ (big : Nat → Nat) (p : Nat → Bool) (g : Nat → Nat) (H : List SO) : List Nat → List (Nat × SO) → Prop
  | j :: js, x :: rs => (x.1 = big j ∧ GivenQ p g H[j]? x.2) ∧ SetsQ big p g H js rs
  | [], [] => True
  | _, _ => False
def NewsQ (p : Nat → Bool) (g : Nat → Nat) (H : List SO) : List Nat → List SO → Prop
  | j :: js, e :: rs => GivenQ p g H[j]? e ∧ NewsQ p g H js rs
  | [], [] => True
  | _, _ => False
theorem SetsQ.length {big p g H} : ∀ {js : List Nat} {rs : List (Nat × SO)}, SetsQ big p g H js rs → rs.length = js.length
  | [], [], _ => rfl
  | _ :: _, _ :: _, h => by simp only [List.length_cons]; rw [SetsQ.length h.2]
  | [], _ :: _, h => h.elim
  | _ :: _, [], h => h.elim
theorem SetsQ.get {big p g H} : ∀ {js : List Nat} {rs : List (Nat × SO)}, SetsQ big p g H js rs → ∀ (i j : Nat), js[i]? = some j → ∃ e, rs[i]? = some (big j, e) ∧ GivenQ p g H[j]? e
  | [], [], _, i, j, h => by simp at h
  | j' :: js, x :: rs, h, 0, j, hE => by simp at hE; subst hE; exact ⟨x.2, by simp [← h.1.1], h.1.2⟩
  | j' :: js, x :: rs, h, i + 1, j, hE => by
    obtain ⟨e, a, b⟩ := SetsQ.get h.2 i j (by simpa using hE)
    exact ⟨e, by simpa using a, b⟩
  | [], _ :: _, h, _, _, _ => h.elim
  | _ :: _, [], h, _, _, _ => h.elim
theorem NewsQ.length {p g H} : ∀ {js : List Nat} {rs : List SO}, NewsQ p g H js rs → rs.length = js.length
  | [], [], _ => rfl
  | _ :: _, _ :: _, h => by simp only [List.length_cons]; rw [NewsQ.length h.2]
  | [], _ :: _, h => h.elim
  | _ :: _, [], h => h.elim
theorem NewsQ.get {p g H} : ∀ {js : List Nat} {rs : List SO}, NewsQ p g H js rs → ∀ (i j : Nat), js[i]? = some j → ∃ e, rs[i]? = some e ∧ GivenQ p g H[j]? e
  | [], [], _, i, j, h => by simp at h
  | j' :: js, x :: rs, h, 0, j, hE => by simp at hE; subst hE; exact ⟨x, by simp, h.1⟩
  | j' :: js, x :: rs, h, i + 1, j, hE => by
    obtain ⟨e, a, b⟩ := NewsQ.get h.2 i j (by simpa using hE)
    exact ⟨e, by simpa using a, b⟩
  | [], _ :: _, h, _, _, _ => h.elim
  | _ :: _, [], h, _, _, _ => h.elim
/-- what a small run comes to -/
structure Ifc.EndsQ (I : Ifc) (base : Nat) (keep : List Nat) (r : SumRes) (v : SV) (H : List SO) : Prop where
  val : (v.ren (I.out base keep)).Imp r.v
  uv : v.uses (I.seen keep) = true
  sets : SetsQ I.big (I.seen keep) (I.out base keep) H (ownedOf I.ents 0) r.sets
  news : NewsQ (I.seen keep) (I.out base keep) H keep r.news
/-- A SUMMARY FROM RUNS -/
theorem sum_runsQ {c : Cfg} {O : Nat → Prop} {w0 w : World} {β : Val} {H : List SO} {base : Nat} {f : FuncId} {vs : List Value} (hH : HeapRel0 c.P O w0 β H w)
    (I : Ifc) (hgl : ∀ g j, c.glob g = some j → I.known j = true ∧ ∃ l, β (I.big j) = some l ∧ l.blk = g ∧ l.off = 0) (ha : SV.denL β (SV.renL I.big I.args) = some vs) (hI : I.FitsQ H) {r : SumRes} (keep : List Nat) (hk : ∀ j ∈ keep, I.names.length ≤ j) (hkn : keep.Nodup)
    (hr : Runs c f I.args I.ents (I.EndsQ base keep r)) : SumSem c.P H β w base f vs r := by
  refine sum_smallCQ hH I hgl ha hI (ownedOf I.ents 0) keep (fun j E h ho => (ownedOf_spec _ _ _).2 ⟨j, E, by omega, h, ho⟩) (fun j hj => ?_) hk hkn (ownedOf_nodup _ _) hr.1 fun hH' hG ha' => (hr.2 _ _ _ _ _ hH' hG ha').mono fun e w' hcame => ?_
  · obtain ⟨i, E, h, h', ho⟩ := (ownedOf_spec _ _ _).1 hj
    exact ⟨E, by rw [h, Nat.zero_add]; exact h', ho⟩
  · obtain ⟨v, H', x, β', he, h, hle, hv, hH2⟩ := hcame
    exact ⟨v, H', x, β', he, ⟨h.val, h.uv, h.sets.length, h.sets.get, h.news.length, h.news.get⟩, hle, hv, hH2⟩
/-- A SUMMARY FROM A SMALL RUN -/
theorem sum_runQ {c : Cfg} (hc : CfgOK c) (n : Nat) {O : Nat → Prop} {w0 w : World} {β : Val} {H : List SO} {base : Nat} {f : FuncId} {vs : List Value} (hH : HeapRel0 c.P O w0 β H w)
    (I : Ifc) (hgl : ∀ g j, c.glob g = some j → I.known j = true ∧ ∃ l, β (I.big j) = some l ∧ l.blk = g ∧ l.off = 0) (ha : SV.denL β (SV.renL I.big I.args) = some vs) (hI : I.FitsQ H) {r : SumRes} (keep : List Nat) (hk : ∀ j ∈ keep, I.names.length ≤ j) (hkn : keep.Nodup)
    (hob : (callSim c n f I.args I.ents).Ob (I.EndsQ base keep r) fun _ => False) : SumSem c.P H β w base f vs r := sum_runsQ hH I hgl ha hI keep hk hkn (runs_of hc hob)
/-- the older forms -/
structure Ifc.OutO (I : Ifc) (base : Nat) (turn keep : List Nat) (r : SumRes) (v : SV) (H : List SO) : Prop where
  val : (v.ren (I.out base keep)).Imp r.v
  uv : v.uses (I.seen keep) = true
  setsLen : r.sets.length = turn.length
  sets : ∀ (i j : Nat), turn[i]? = some j → ∃ e, r.sets[i]? = some (I.big j, e) ∧ Given (I.seen keep) (I.out base keep) H[j]? e
  newsLen : r.news.length = keep.length
  news : ∀ (i j : Nat), keep[i]? = some j → ∃ e, r.news[i]? = some e ∧ GivenO (I.seen keep) (I.out base keep) H[j]? e

/- For whatever numbers that nobody knows: the directions may go by them. -/
theorem outW_ob {js : List Nat} {t : Tree} {v : SV} {es : List (Option SO)} (h : ∀ z : Nat → Nat → Nat, ∃ ds ps, outZ js t ds z = (ps, some (v, es)) ∧ ∀ p ∈ ps, p) {D : SV → List SO → Prop} {S : SS → Prop} (hD : ∀ H : List SO, js.map (fun j => H[j]?) = es → D v H) : t.Ob D S := by
  have z0 : Nat → Nat → Nat := fun _ _ => 0
  induction t with
  | done v' H =>
    obtain ⟨ds, ps, h, _⟩ := h z0
    have h' : ([], some (v', mapN (fun j => nth H j) js)) = (ps, some (v, es)) := h
    obtain ⟨h2, h3⟩ := Prod.mk.inj (Option.some.inj (Prod.mk.inj h').2)
    rw [← h2] at hD
    refine hD H ?_
    rw [mapN_eq] at h3
    rw [← h3]
    exact List.map_congr_left fun j _ => (nth_eq H j).symm
  | stop =>
    obtain ⟨ds, ps, h, _⟩ := h z0
    cases (Prod.mk.inj (show ([], none) = (ps, some (v, es)) from h)).2
  | need p t ih =>
    have h' : ∀ z, ∃ ds ps, (p :: (outZ js t ds z).1, (outZ js t ds z).2) = (ps, some (v, es)) ∧ ∀ q ∈ ps, q := h
    refine ⟨?_, ih fun z => ?_⟩
    · obtain ⟨ds, ps, h1, h2⟩ := h' z0
      exact h2 p (by rw [← (Prod.mk.inj h1).1]; exact List.mem_cons_self)
    · obtain ⟨ds, ps, h1, h2⟩ := h' z
      obtain ⟨e1, e2⟩ := Prod.mk.inj h1
      exact ⟨ds, (outZ js t ds z).1, by rw [← e2], fun q hq => h2 q (by rw [← e1]; exact List.mem_cons_of_mem _ hq)⟩
  | fork b t f iht ihf =>
    have key : ∀ z, ∃ d r, b = d ∧ (boolC d (outZ js t r z) (outZ js f r z)).2 = some (v, es) ∧ ∀ q ∈ (boolC d (outZ js t r z) (outZ js f r z)).1, q := by
      intro z
      obtain ⟨ds, ps, h1, h2⟩ := h z
      cases ds with
      | nil => cases (Prod.mk.inj (show ([], none) = (ps, some (v, es)) from h1)).2
      | cons d r =>
        have h1 : ((b = d) :: (boolC d (outZ js t r z) (outZ js f r z)).1, (boolC d (outZ js t r z) (outZ js f r z)).2) = (ps, some (v, es)) := h1
        obtain ⟨e1, e2⟩ := Prod.mk.inj h1
        exact ⟨d, r, h2 _ (by rw [← e1]; exact List.mem_cons_self), e2, fun q hq => h2 q (by rw [← e1]; exact List.mem_cons_of_mem _ hq)⟩
    refine ⟨fun hb => iht fun z => ?_, fun hb => ihf fun z => ?_⟩
    · obtain ⟨d, r, hd, h1, h2⟩ := key z
      rw [hb] at hd
      subst hd
      exact ⟨r, (outZ js t r z).1, Prod.ext rfl h1, h2⟩
    · obtain ⟨d, r, hd, h1, h2⟩ := key z
      rw [hb] at hd
      subst hd
      exact ⟨r, (outZ js f r z).1, Prod.ext rfl h1, h2⟩
  | stuck =>
    obtain ⟨ds, ps, h, _⟩ := h z0
    cases (Prod.mk.inj (show ([], none) = (ps, some (v, es)) from h)).2
  | any k ih =>
    intro y
    refine ih y fun z => ?_
    let c : Nat → Nat → Nat := fun i => Nat.rec (motive := fun _ => Nat → Nat) y (fun j _ => z j) i
    exact h c
theorem sum_outW {c : Cfg} (hc : CfgOK c) (n : Nat) {O : Nat → Prop} {w0 w : World} {β : Val} {H : List SO} {base : Nat} {f : FuncId} {vs : List Value} (hH : HeapRel0 c.P O w0 β H w)
    (I : Ifc) (hgl : ∀ g j, c.glob g = some j → I.known j = true ∧ ∃ l, β (I.big j) = some l ∧ l.blk = g ∧ l.off = 0) (ha : SV.denL β (SV.renL I.big I.args) = some vs) (hI : I.Fits H) {r : SumRes} (keep : List Nat) (hk : ∀ j ∈ keep, I.names.length ≤ j) (hkn : keep.Nodup)
    {js : List Nat} {v : SV} {es : List (Option SO)} (h : ∀ z : Nat → Nat → Nat, ∃ ds ps, outZ js (callSim c n f I.args I.ents) ds z = (ps, some (v, es)) ∧ ∀ p ∈ ps, p) (hD : ∀ H2 : List SO, js.map (fun j => H2[j]?) = es → I.Ends base keep r v H2) : SumSem c.P H β w base f vs r :=
  sum_runG hc n hH I hgl ha hI keep hk hkn (outW_ob h hD)
end Go.Sim


/-
  The symbolic simulator, thirty-sixth part: the loop rule where a round goes by numbers that nobody knows.
-/
namespace Go.Sim
end Go.Sim


/-
  Strings in order: cmp.Compare.
-/
namespace Go.Proofs.YtbhhagnpgkjmgaaDoor.Aes
open Go.Sim
open Go.Proofs
variable {α : Type}

def cmpZ (a b : ByteArray) : Int := if Op.bytesLess a.data.toList b.data.toList then -1 else if Op.bytesLess a.data.toList b.data.toList || decide (a = b) then 0 else 1
noncomputable def cmpL (a b : ByteArray) : Int := boolC (Op.bytesLess a.data.toList b.data.toList) (-1) (boolC (a.data.toList == b.data.toList) 0 1)
theorem cmpL_eq (a b : ByteArray) : cmpL a b = cmpZ a b := by
  unfold cmpL cmpZ
  have h : (a.data.toList == b.data.toList) = decide (a = b) := by rw [← beq_data, beq_bytes]
  rw [h]
  cases Op.bytesLess a.data.toList b.data.toList with
  | true => rfl
  | false => cases h2 : decide (a = b) <;> simp [boolC]
noncomputable def cmpI (s t : SStr) : SI := SStr.rec (motive := fun _ => SI) (fun a => SStr.rec (motive := fun _ => SI) (fun b => .lit (cmpL a b)) (fun b => .sym (cmpZ a b)) (fun l => .sym (cmpZ a (bytesOf l))) t) (fun a => .sym (cmpZ a t.den)) (fun l => .sym (cmpZ (bytesOf l) t.den)) s
theorem cmpI_den (s t : SStr) : (cmpI s t).den = cmpZ s.den t.den := by
  cases s <;> cases t <;> first | rfl | exact cmpL_eq _ _
noncomputable def cmpS : Summ := fun args _ _ => args2 args fun s t => optC (strV s) (.stuck 681) fun s => optC (strV t) (.stuck 681) fun t => .ok ⟨SV.int .i64 (cmpI s t), [], []⟩
theorem cmp_run1 (a b : ByteArray) : outO [] (callSim cfgX 400 52 [.str (.sym a), .str (.sym b)] []) [false, false, true] = ([(!decide (a = a)) = false, (!decide (b = b)) = false, Op.bytesLess a.data.toList b.data.toList = true], some (.int .i64 (.lit (-1)), [])) := by kernel_rfl
theorem cmp_run2 (a b : ByteArray) : outO [] (callSim cfgX 400 52 [.str (.sym a), .str (.sym b)] []) [false, false, false, true] = ([(!decide (a = a)) = false, (!decide (b = b)) = false, Op.bytesLess a.data.toList b.data.toList = false, (!(Op.bytesLess a.data.toList b.data.toList || decide (a = b))) = true], some (.int .i64 (.lit 1), [])) := by kernel_rfl
theorem cmp_run3 (a b : ByteArray) : outO [] (callSim cfgX 400 52 [.str (.sym a), .str (.sym b)] []) [false, false, false, false] = ([(!decide (a = a)) = false, (!decide (b = b)) = false, Op.bytesLess a.data.toList b.data.toList = false, (!(Op.bytesLess a.data.toList b.data.toList || decide (a = b))) = false], some (.int .i64 (.lit 0), [])) := by kernel_rfl
theorem str_imp {s t : SStr} (h : s.den = t.den) : (SV.str s).Imp (.str t) := fun _ _ hx => by
  simp only [SV.den] at hx ⊢
  rw [← h]; exact hx
theorem int_impS {k : IntKind} {a b : SI} (h : a.den = b.den) : (SV.int k a).Imp (.int k b) := fun _ _ hx => by
  simp only [SV.den] at hx ⊢
  rw [← h]; exact hx
theorem cmpOK : SumOK Tryd.prog 52 cmpS := by
  intro glob O w0 β H w base args vs hH hG ha
  refine args2_sat fun v1 v2 hv => optC_only fun s hs => optC_only fun t ht => ?_
  rw [hv, strV_spec hs, strV_spec ht] at ha
  have ha := impL_cons (str_imp (t := .sym s.den) rfl) (impL_cons (str_imp (t := .sym t.den) rfl) impL_nil) _ _ ha
  have hE : ∀ (n : Int), cmpZ s.den t.den = n → ∀ H2 : List SO, (⟨[], [], [.str (.sym s.den), .str (.sym t.den)]⟩ : Ifc).Ends base [] ⟨SV.int .i64 (cmpI s t), [], []⟩ (SV.int .i64 (.lit n)) H2 := fun n hn H2 => ⟨int_impS (by rw [cmpI_den, hn]; rfl), rfl, trivial, trivial⟩
  have h1 : ∀ a : ByteArray, (!decide (a = a)) = false := fun a => by simp
  cases hb : Op.bytesLess s.den.data.toList t.den.data.toList with
  | true => exact sum_outO cfgXOK rfl 400 hH ⟨[], [], [.str (.sym s.den), .str (.sym t.den)]⟩ ha (fits0 rfl) [] (by simp) (by simp) (cmp_run1 s.den t.den) (all_cons (h1 _) (all_cons (h1 _) (all_cons hb all_nil))) fun H2 _ => hE _ (by unfold cmpZ; rw [hb]; rfl) H2
  | false =>
    cases he : decide (s.den = t.den) with
    | true => exact sum_outO cfgXOK rfl 400 hH ⟨[], [], [.str (.sym s.den), .str (.sym t.den)]⟩ ha (fits0 rfl) [] (by simp) (by simp) (cmp_run3 s.den t.den) (all_cons (h1 _) (all_cons (h1 _) (all_cons hb (all_cons (by rw [hb, he]; rfl) all_nil)))) fun H2 _ => hE _ (by unfold cmpZ; rw [hb, he]; rfl) H2
    | false => exact sum_outO cfgXOK rfl 400 hH ⟨[], [], [.str (.sym s.den), .str (.sym t.den)]⟩ ha (fits0 rfl) [] (by simp) (by simp) (cmp_run2 s.den t.den) (all_cons (h1 _) (all_cons (h1 _) (all_cons hb (all_cons (by rw [hb, he]; rfl) all_nil)))) fun H2 _ => hE _ (by unfold cmpZ; rw [hb, he]; rfl) H2
noncomputable def cfgR0 : Cfg := cfgOf (sumsOf [(69, idxS), (52, cmpS)])
theorem cfgR0OK : CfgOK cfgR0 := sumsOf_ok (allC idxOK (all1 cmpOK))
end Go.Proofs.YtbhhagnpgkjmgaaDoor.Aes


/-
  Functions of one string, told for some strings.
-/
namespace Go.Proofs.YtbhhagnpgkjmgaaDoor.Aes
open Go.Sim
open Go.Proofs
variable {α : Type}

set_option maxRecDepth 1000000
def bAs (l : List UInt8) : ByteArray := ⟨l.toArray⟩
def strIs (v : SV) (l : List UInt8) : Bool := match v with | .str (.lit s) => s.data.toList == l | _ => false
theorem strIs_spec {v : SV} {l : List UInt8} (h : strIs v l = true) : v = .str (.lit (bAs l)) := by
  unfold strIs at h
  split at h
  · rename_i s
    have h := eq_of_beq h
    obtain ⟨⟨x⟩⟩ := s
    have h : x = l := h
    rw [h]; rfl
  · cases h
/-- what a table says of a string -/
noncomputable def litTab (T : List (List UInt8 × Bool)) (v : SV) : Option Bool := List.rec (motive := fun _ => Option Bool) none (fun a _ ih => boolC (strIs v a.1) (some a.2) ih) T
end Go.Proofs.YtbhhagnpgkjmgaaDoor.Aes


/-
  The symbolic simulator, thirty-seventh part: a run az its own summary, where all is known: with what it makes, without conditions.
-/
namespace Go.Sim
variable {α : Type}

/- The names in a value, an entry. -/
def SC.nms : SC → List Nat
  | .rest nm _ => [nm]
  | _ => []
def SFn.nms : SFn → List Nat
  | .yield nm => [nm]
  | _ => []
mutual
noncomputable def SV.nms : SV → List Nat
  | .ptr a => [a.nm]
  | .slice a _ c => a.nm :: c.nms
  | .tail a _ _ c => a.nm :: c.nms
  | .map nm => [nm]
  | .func g xs ys => app g.nms (app (SV.nmsL xs) (SV.nmsL ys))
  | .iface _ v => v.nms
  | .agg l => SV.nmsL l
  | .tuple l => SV.nmsL l
  | _ => []
noncomputable def SV.nmsL : List SV → List Nat
  | [] => []
  | v :: l => app v.nms (SV.nmsL l)
end
noncomputable def nmsC (c : Cells) : List Nat := Cells.rec (motive := fun _ => List Nat) (fun l => SV.nmsL l) (fun _ _ => []) (fun _ _ => []) c
noncomputable def nmsEs (es : List (SV × SV × Nat)) : List Nat := List.rec (motive := fun _ => List Nat) [] (fun e _ ih => app e.1.nms (app e.2.1.nms ih)) es
noncomputable def nmsO (o : SObj) : List Nat := SObj.rec (motive := fun _ => List Nat) (fun es _ => nmsEs es) (fun m _ _ _ => optC m [] fun n => [n]) (fun _ _ => []) (fun _ _ _ _ => []) o
noncomputable def nmsE (e : SO) : List Nat := SO.rec (motive := fun _ => List Nat) (fun c _ _ => nmsC c) (fun c => nmsC c) (fun _ _ _ _ _ _ _ _ => []) (fun _ => []) [] (fun o => nmsO o) e
/-- all that can be reached -/
noncomputable def reachN (H : List SO) (n : Nat) : List Nat → List Nat → List Nat :=
  Nat.rec (motive := fun _ => List Nat → List Nat → List Nat) (fun _ seen => seen)
    (fun _ ih todo seen => List.rec (motive := fun _ => List Nat) seen (fun a r _ => boolC (memN a seen) (ih r seen) (ih (app (optC (nth H a) [] nmsE) r) (a :: seen))) todo) n
noncomputable def renO (f : Nat → Nat) (e : SO) : SO := SO.rec (motive := fun _ => SO) (fun c w el => .own (c.ren f) w el) (fun c => .row (c.ren f)) (fun _ _ _ _ _ _ _ _ => .gone) (fun _ => .gone) .gone (fun o => .obj (o.ren f)) e
/-- what is read alone -/
noncomputable def rowO (ro : Bool) (e : SO) : SO := boolC ro (SO.rec (motive := fun _ => SO) (fun c _ _ => .row c) (fun c => .row c) (fun _ _ _ _ _ _ _ _ => .gone) (fun _ => .gone) .gone (fun o => .obj o) e) e
/-- how it ends, where that is certain -/
noncomputable def detT (t : Tree) : Option (SV × List SO) :=
  Tree.rec (motive := fun _ => Option (SV × List SO)) (fun v H => some (v, H)) (fun _ => none) (fun _ _ _ => none) (fun b _ _ iht ihf => boolC b iht ihf) (fun _ => none) (fun _ _ => none) t
theorem detT_ob {v : SV} {H : List SO} : ∀ {t : Tree}, detT t = some (v, H) → t.Ob (fun v' H' => v' = v ∧ H' = H) fun _ => False := by
  intro t
  induction t with
  | done v' H' => intro h; cases h; exact ⟨rfl, rfl⟩
  | stop => intro h; cases h
  | need => intro h; cases h
  | fork b t f iht ihf =>
    intro h
    have h : boolC b (detT t) (detT f) = some (v, H) := h
    exact ⟨fun hb => iht (by rw [hb] at h; exact h), fun hb => ihf (by rw [hb] at h; exact h)⟩
  | stuck => intro h; cases h
  | any => intro h; cases h
noncomputable def notKnown (n : Nat) (l : List Nat) : List Nat := filterN (fun j => Nat.ble n j) l
noncomputable def keepsAt (p : Nat → Bool) (H : List SO) (js : List Nat) : Bool := allN (fun m => optC (nth H m) false fun e => e.keeps p) js
noncomputable def smallI (ro : Bool) (M : List Nat) (args : List SV) (H : List SO) : Ifc := ⟨M, mapN (fun m => rowO ro (renO (fun n => idxN n M) (atE (nth H m)))) M, SV.renL (fun n => idxN n M) args⟩
noncomputable def outM (I : Ifc) (base : Nat) (turn keep : List Nat) (v : SV) (H2 : List SO) : R SumRes :=
  boolC (boolC (nodupN keep) (boolC (allN (fun j => Nat.ble (lenN I.names) j) keep) (boolC (v.uses (I.seen keep)) (boolC (keepsAt (I.seen keep) H2 turn) (boolC (keepsAt (I.seen keep) H2 keep) (allN (fun m => optC (nth H2 m) false SO.owned) (app turn keep)) false) false) false) false) false)
    (.ok ⟨v.ren (I.out base keep), mapN (fun j => (I.big j, renO (I.out base keep) (atE (nth H2 j)))) turn, mapN (fun j => renO (I.out base keep) (atE (nth H2 j))) keep⟩) (.stuck 7782)
noncomputable def runI (c : Cfg) (n : Nat) (f : FuncId) (I : Ifc) (base : Nat) (turn : List Nat) : R SumRes :=
  optC (detT (callSim c n f I.args I.ents)) (.stuck 7781) fun r => outM I base turn (notKnown (lenN I.names) (reachN r.2 400 (app r.1.nms turn) [])) r.1 r.2
noncomputable def runM (ro : Bool) (c : Cfg) (n : Nat) (f : FuncId) (args : List SV) (H : List SO) (base : Nat) (M : List Nat) : R SumRes :=
  boolC (boolC (nodupN M) (boolC (keepsAt (fun n => memN n M) H M) (boolC (SV.usesL (fun n => memN n M) args) (boolC (SV.usesL (smallI ro M args H).known (smallI ro M args H).args) (allN (fun e => e.keeps (smallI ro M args H).known) (smallI ro M args H).ents) false) false) false) false)
    (runI c n f (smallI ro M args H) base (ownedOf (smallI ro M args H).ents 0)) (.stuck 7783)
/-- A RUN AS A SUMMARY -/
noncomputable def ownRun (ro : Bool) (fl : Nat) (c : Cfg) (n : Nat) (f : FuncId) : Summ := fun args H base => List.rec (motive := fun _ => R SumRes) (.stuck fl) (fun _ _ _ => runM ro c n f args H base (reachN H 400 (SV.nmsL args) [])) args

theorem SO.keeps_cuses {p : Nat → Bool} {e : SO} (h : e.keeps p = true) : e.CUsesQ p := by
  cases e with
  | own c w el => cases c with
    | lst l => exact h
    | fn => cases h
    | raw => trivial
  | row c => cases c with
    | lst l => exact h
    | fn => cases h
    | raw => trivial
  | loop => cases h
  | deferred => cases h
  | gone => cases h
  | obj o => exact h
theorem cells_round {p : Nat → Bool} {q g : Nat → Nat} (hq : ∀ n, p n = true → g (q n) = n) {c : Cells} (h : (match c with | .lst l => SV.usesL p l | .fn _ _ => false | .raw _ _ => true) = true) : c.Imp ((c.ren q).ren g) := by
  intro β vs hr
  cases c with
  | lst l =>
    show SV.denL β (SV.renL g (SV.renL q l)) = some vs
    rw [SV.denL_ren, SV.denL_ren]
    rw [← SV.denL_uses (p := p) (β := β) (fun n hn => by show β n = β (g (q n)); rw [hq n hn]) l h]
    exact hr
  | fn => cases h
  | raw => exact hr
theorem taken_round {p : Nat → Bool} {q g : Nat → Nat} (hq : ∀ n, p n = true → g (q n) = n) {e : SO} (h : e.keeps p = true) : TakenQ g (renO q e) e := by
  cases e with
  | own c w el => exact ⟨c, rfl, cells_round hq (by cases c <;> exact h)⟩
  | row c => exact ⟨c, .inl rfl, (cells_round hq (by cases c <;> exact h)).front⟩
  | loop => cases h
  | deferred => cases h
  | gone => cases h
  | obj o =>
    refine ⟨o, rfl, fun β x hx => ?_⟩
    rw [SObj.den_ren, SObj.den_ren]
    rw [← SObj.den_uses (p := p) (β := β) (fun n hn => by show β n = β (g (q n)); rw [hq n hn]) h]
    exact hx
theorem taken_ro (ro : Bool) {g : Nat → Nat} {E e : SO} (h : TakenQ g E e) : TakenQ g (rowO ro E) e := by
  cases ro with
  | false => exact h
  | true =>
    cases E with
    | own c w el => obtain ⟨c0, rfl, h⟩ := h; exact ⟨c0, .inr ⟨w, el, rfl⟩, h.front⟩
    | row c => exact h
    | loop => exact h.elim
    | deferred => exact h.elim
    | gone => exact h
    | obj o => exact h
theorem given_of {p : Nat → Bool} {g : Nat → Nat} {e : SO} (h : e.keeps p = true) (ho : e.owned = true) : GivenQ p g (some e) (renO g e) := by
  cases e with
  | own c w el =>
    refine .inl ⟨c, w, el, c.ren g, rfl, ?_, Cells.Imp.refl _, rfl⟩
    cases c with
    | lst l => exact h
    | fn => cases h
    | raw => trivial
  | row => cases ho
  | loop => cases h
  | deferred => cases h
  | gone => cases h
  | obj o => exact .inr ⟨o, o.ren g, rfl, h, fun _ _ x => x, rfl⟩
theorem keepsAt_get {p : Nat → Bool} {H : List SO} {js : List Nat} (h : keepsAt p H js = true) {j : Nat} (hj : j ∈ js) : ∃ e, H[j]? = some e ∧ e.keeps p = true := by
  have := allN_mem h j hj
  rw [nth_eq] at this
  cases hx : H[j]? with
  | none => rw [hx] at this; cases this
  | some e => rw [hx] at this; exact ⟨e, rfl, this⟩
theorem setsQ_of {big : Nat → Nat} {p : Nat → Bool} {g : Nat → Nat} {H : List SO} : ∀ {js : List Nat}, (∀ j ∈ js, ∃ e, H[j]? = some e ∧ e.keeps p = true ∧ e.owned = true) → SetsQ big p g H js (mapN (fun j => (big j, renO g (atE (nth H j)))) js)
  | [], _ => trivial
  | j :: js, h => by
    obtain ⟨e, he, hk, ho⟩ := h j List.mem_cons_self
    refine ⟨⟨rfl, ?_⟩, setsQ_of fun k hk => h k (List.mem_cons_of_mem _ hk)⟩
    show GivenQ p g H[j]? (renO g (atE (nth H j)))
    rw [nth_eq, he]
    exact given_of hk ho
theorem newsQ_of {p : Nat → Bool} {g : Nat → Nat} {H : List SO} : ∀ {js : List Nat}, (∀ j ∈ js, ∃ e, H[j]? = some e ∧ e.keeps p = true ∧ e.owned = true) → NewsQ p g H js (mapN (fun j => renO g (atE (nth H j))) js)
  | [], _ => trivial
  | j :: js, h => by
    obtain ⟨e, he, hk, ho⟩ := h j List.mem_cons_self
    refine ⟨?_, newsQ_of fun k hk => h k (List.mem_cons_of_mem _ hk)⟩
    show GivenQ p g H[j]? (renO g (atE (nth H j)))
    rw [nth_eq, he]
    exact given_of hk ho
theorem boolC_two {a b : Bool} (h : boolC a b false = true) : a = true ∧ b = true := by cases a <;> first | exact ⟨rfl, h⟩ | cases h
theorem runM_sat {ro : Bool} {c : Cfg} (hc : CfgOK c) (hg : ∀ g, c.glob g = none) {n : Nat} {f : FuncId} {O : Nat → Prop} {w0 w : World} {β : Val} {H : List SO} {base : Nat} {args : List SV} {vs : List Value} (M : List Nat)
    (hH : HeapRel0 c.P O w0 β H w) (ha : SV.denL β args = some vs) : (runM ro c n f args H base M).Sat (SumSem c.P H β w base f vs) := by
  unfold runM
  cases hok : boolC (nodupN M) (boolC (keepsAt (fun n => memN n M) H M) (boolC (SV.usesL (fun n => memN n M) args) (boolC (SV.usesL (smallI ro M args H).known (smallI ro M args H).args) (allN (fun e => e.keeps (smallI ro M args H).known) (smallI ro M args H).ents) false) false) false) false with
  | false => trivial
  | true =>
    obtain ⟨h1, hok⟩ := boolC_two hok
    obtain ⟨h2, hok⟩ := boolC_two hok
    obtain ⟨h3, hok⟩ := boolC_two hok
    obtain ⟨h4, h5⟩ := boolC_two hok
    rw [boolC_true]
    have hM : M.Nodup := nodupN_spec M h1
    have hround : ∀ n, memN n M = true → (smallI ro M args H).big (idxN n M) = n := by
      intro n hn
      show (nth M (idxN n M)).getD 0 = n
      rw [nth_eq, idxN_spec (memN_iff.1 hn)]
      rfl
    have hget : ∀ (j : Nat) (E : SO), (smallI ro M args H).ents[j]? = some E → ∃ m e, M[j]? = some m ∧ H[m]? = some e ∧ E = rowO ro (renO (fun n => idxN n M) e) ∧ e.keeps (fun n => memN n M) = true := by
      intro j E hE
      have hE : (mapN (fun m => rowO ro (renO (fun n => idxN n M) (atE (nth H m)))) M)[j]? = some E := hE
      rw [mapN_eq, List.getElem?_map] at hE
      cases hm : M[j]? with
      | none => rw [hm] at hE; cases hE
      | some m =>
        rw [hm] at hE
        obtain ⟨e, he, hk⟩ := keepsAt_get h2 (List.mem_of_getElem? hm)
        have hE : rowO ro (renO (fun n => idxN n M) (atE (nth H m))) = E := Option.some.inj hE
        rw [nth_eq, he] at hE
        exact ⟨m, e, rfl, he, hE.symm, hk⟩
    have hI : (smallI ro M args H).FitsQ H := by
      refine ⟨?_, fun i j nm hi hj => ?_, h4, fun j E hE => ?_, fun j E hE => ?_⟩
      · show (mapN _ M).length = M.length
        rw [mapN_eq, List.length_map]
      · exact (List.getElem?_inj (List.getElem?_eq_some_iff.1 hi).1 hM).1 (hi.trans hj.symm)
      · obtain ⟨m, e, hm, he, rfl, hk⟩ := hget j E hE
        have hb : (smallI ro M args H).big j = m := by
          show (nth M j).getD 0 = m
          rw [nth_eq, hm]; rfl
        exact ⟨e, by rw [hb]; exact he, taken_ro ro (taken_round hround hk)⟩
      · exact SO.keeps_cuses (allN_mem h5 E (List.mem_of_getElem? hE))
    have ha' : SV.denL β (SV.renL (smallI ro M args H).big (smallI ro M args H).args) = some vs := by
      show SV.denL β (SV.renL (smallI ro M args H).big (SV.renL (fun n => idxN n M) args)) = some vs
      rw [SV.denL_ren, SV.denL_ren]
      rw [← SV.denL_uses (p := fun n => memN n M) (β := β) (fun n hn => by show β n = β ((smallI ro M args H).big (idxN n M)); rw [hround n hn]) args h3]
      exact ha
    generalize smallI ro M args H = I at hI ha' ⊢
    unfold runI
    cases hd : detT (callSim c n f I.args I.ents) with
    | none => trivial
    | some r =>
      obtain ⟨v, H2⟩ := r
      rw [optC_some]
      show (outM I base (ownedOf I.ents 0) (notKnown (lenN I.names) (reachN H2 400 (app v.nms (ownedOf I.ents 0)) [])) v H2).Sat _
      generalize notKnown (lenN I.names) (reachN H2 400 (app v.nms (ownedOf I.ents 0)) []) = keep
      unfold outM
      cases hk : boolC (nodupN keep) (boolC (allN (fun j => Nat.ble (lenN I.names) j) keep) (boolC (v.uses (I.seen keep)) (boolC (keepsAt (I.seen keep) H2 (ownedOf I.ents 0)) (boolC (keepsAt (I.seen keep) H2 keep) (allN (fun m => optC (nth H2 m) false SO.owned) (app (ownedOf I.ents 0) keep)) false) false) false) false) false with
      | false => trivial
      | true =>
        obtain ⟨k1, hk⟩ := boolC_two hk
        obtain ⟨k2, hk⟩ := boolC_two hk
        obtain ⟨k3, hk⟩ := boolC_two hk
        obtain ⟨k4, hk⟩ := boolC_two hk
        obtain ⟨k5, k6⟩ := boolC_two hk
        rw [boolC_true]
        have hown : ∀ j ∈ ownedOf I.ents 0 ++ keep, ∀ e, H2[j]? = some e → e.owned = true := by
          intro j hj e he
          have := allN_mem k6 j (by rw [app_eq]; exact hj)
          rw [nth_eq, he] at this
          exact this
        show SumSem c.P H β w base f vs _
        refine sum_runQ hc n hH I (fun g j h => by rw [hg g] at h; cases h) ha' hI keep (fun j hj => ?_) (nodupN_spec keep k1) ((detT_ob hd).mono fun v' H' h => ?_)
        · have := allN_mem k2 j hj
          rw [← lenN_eq]
          exact Nat.le_of_ble_eq_true this
        · obtain ⟨rfl, rfl⟩ := h
          refine ⟨SV.Imp.refl _, k3, setsQ_of fun j hj => ?_, newsQ_of fun j hj => ?_⟩
          · obtain ⟨e, he, hk⟩ := keepsAt_get k4 hj
            exact ⟨e, he, hk, hown j (List.mem_append_left _ hj) e he⟩
          · obtain ⟨e, he, hk⟩ := keepsAt_get k5 hj
            exact ⟨e, he, hk, hown j (List.mem_append_right _ hj) e he⟩
theorem ownRun_ok (ro : Bool) (fl : Nat) {c : Cfg} (hc : CfgOK c) (hg : ∀ g, c.glob g = none) (n : Nat) (f : FuncId) : SumOK c.P f (ownRun ro fl c n f) := by
  intro glob O w0 β H w base args vs hH hG ha
  unfold ownRun
  cases args with
  | nil => trivial
  | cons a r => exact runM_sat hc hg _ hH ha
end Go.Sim


/-
  The symbolic simulator, thirty-eighth part: functions that answer true or false: the run's own answer, whatever it is.
-/
namespace Go.Sim
variable {α : Type}

theorem bool_ends {base : Nat} {I : Ifc} {t : Bool} {v : SV} {H : List SO} (ho : ownedOf I.ents 0 = []) (h : ∃ b, v = .bool b ∧ b.den = t) : I.EndsQ base [] ⟨.bool (.sym t), [], []⟩ v H := by
  obtain ⟨b, rfl, rfl⟩ := h
  refine ⟨fun β x hx => hx, rfl, ?_, trivial⟩
  rw [ho]
  trivial
/-- a row of strings that is read alone -/
noncomputable def strD (v : SV) : ByteArray := SV.rec (motive_1 := fun _ => ByteArray) (motive_2 := fun _ => Unit) (fun _ _ => .empty) (fun _ => .empty) (fun s => s.den) (fun _ => .empty) .empty (fun _ _ _ => .empty) .empty (fun _ => .empty) .empty (fun _ _ _ _ _ => .empty) .empty (fun _ _ _ => .empty) .empty (fun _ _ => .empty) (fun _ _ => .empty) (fun _ => .empty) (fun _ _ _ _ => .empty) () (fun _ _ _ _ => ()) v
noncomputable def rowSt (S : Nat → ByteArray) (n : Nat) : SO := .row (.fn (fun i => .str (.sym (S i))) n)
end Go.Sim


/-
  Principals and events that came in: their cells.
-/
namespace Go.Proofs.YtbhhagnpgkjmgaaDoor.Aes
open Go.Sim Go.WideShapes Go.ChangeShapes

/-- a slice of strings that came in -/
def StrRow (w : World) (a : Option Addr) (len cap : Nat) (S : Nat → ByteArray) : Prop :=
  (a = none ∧ len = 0 ∧ cap = 0) ∨ ∃ x, a = some x ∧ x.spot = none ∧ len ≤ cap ∧ cap ≤ maxLen ∧ ∀ i, i < cap → w.cell? (x.add i) = some (.string (S i))
section
variable {H : Type} {enc : TypeId × Value → H} {P : Program} {w : World} {r : Reach} {b0 base : Nat} {held : Bool}

theorem cell_strs {ts te : TypeId} {n : Nat} {c : Value} {y : DataW H × List MemPlace} (hs : P.underlying ts = some (.slice te)) (he : P.underlying te = some .string) (ce : P.cellsOf te = 1) (k : DataW.trod enc P w base (fun _ => true) held n ts [c] = some y) (hsp : ∀ x l m, c = .slice (some x) l m → x.spot = none) :
    ∃ a len cap S, c = .slice a len cap ∧ StrRow w a len cap S := by
  rcases Go.Deep.open_strs hs he ce k with ⟨hc, _⟩ | ⟨x, l, m, q, S, hc, _, hl, hm, hq, _, hcell⟩
  · obtain rfl : c = .slice none 0 0 := by simpa using hc
    exact ⟨none, 0, 0, fun _ => .empty, rfl, .inl ⟨rfl, rfl, rfl⟩⟩
  · obtain rfl : c = .slice (some x) l m := by simpa using hc
    rw [if_pos rfl] at hq
    subst hq
    exact ⟨some x, l, _, S, rfl, .inr ⟨x, rfl, hsp _ _ _ rfl, hl, hm, fun i hi => (hcell i hi).1⟩⟩
end
/-- strings that are read alone -/
noncomputable def rowS (S : Nat → ByteArray) (n : Nat) : SO := .row (.fn (fun i => .str (.sym (S i))) n)
theorem start_strs {P : Program} {w : World} {β : Val} {H : List SO} (h : HeapRel P (fun _ => False) w β H w) {x : Addr} {len cap : Nat} {S : Nat → ByteArray} (hs : x.spot = none) (hl : len ≤ cap)
    (hx : ∀ i, i < cap → w.cell? (x.add i) = some (.string (S i))) :
    ∃ β', HeapRel P (fun _ => False) w β' (H ++ [rowS S cap]) w ∧ β.le β' ∧ (SV.slice ⟨H.length, .lit 0⟩ (.sym len) (.sym cap)).den β' = some (.slice (some x) len cap) := by
  have hsn := h.snoc (Go.Sim.Loc.mk x.block x.off 0) (rowS S cap) ?_ (fun ho => by cases ho)
  · refine ⟨_, hsn.1, hsn.2, ?_⟩
    simp only [SV.den, SA.den, SC.den, Val.upd_same, Option.map_some, Option.bind_some, SN.den, Nat.add_zero, sliceV]
    cases x; cases hs
    exact if_pos hl
  · refine ⟨_, (List.range cap).map fun i => Value.string (S i), Val.upd_same .., ⟨by simp, fun i y hy => ?_⟩, fun i y hy => ?_⟩
    · rw [List.getElem?_map] at hy
      cases hi : (List.range cap)[i]? with
      | none => rw [hi] at hy; cases hy
      | some j =>
        rw [hi] at hy; cases hy
        have := List.getElem?_eq_some_iff.1 hi
        obtain ⟨h1, h2⟩ := this
        rw [List.getElem_range] at h2
        subst h2; rfl
    · rw [List.getElem?_map] at hy
      cases hi : (List.range cap)[i]? with
      | none => rw [hi] at hy; cases hy
      | some j =>
        rw [hi] at hy; cases hy
        obtain ⟨h1, h2⟩ := List.getElem?_eq_some_iff.1 hi
        rw [List.getElem_range] at h2
        subst h2
        have hi : i < cap := by simpa using h1
        have hc := hx i hi
        have e : (x.add i : Addr) = ⟨x.block, x.off + i, none⟩ := by
          cases x; cases hs
          unfold Addr.add
          split
          · rename_i h0; rw [h0]; rfl
          · rfl
        rw [e] at hc
        refine ⟨?_, fun f => f, hc⟩
        unfold World.cell? at hc
        show x.block < w.heap.size
        by_cases hb : x.block < w.heap.size
        · exact hb
        · have hn : w.heap[x.block]? = none := Array.getElem?_eq_none (by omega)
          simp only [hn] at hc
          cases hc
end Go.Proofs.YtbhhagnpgkjmgaaDoor.Aes


/-
  Runs az summaries at this program; what ends in true; principals' values.
-/
namespace Go.Proofs.YtbhhagnpgkjmgaaDoor.Aes
open Go.Sim
open Go.Proofs
variable {α : Type}

set_option maxRecDepth 1000000
theorem runOfOK (ro : Bool) (fl : Nat) {g : FuncId → Option Summ} (hc : CfgOK (cfgOf g)) (n : Nat) (f : FuncId) : SumOK Tryd.prog f (ownRun ro fl (cfgOf g) n f) := ownRun_ok ro fl hc (fun _ => rfl) n f
noncomputable def roL (c : Cfg) (l : List FuncId) (r : List (FuncId × Summ)) : List (FuncId × Summ) := List.rec (motive := fun _ => List (FuncId × Summ)) r (fun f _ ih => (f, ownRun true 0 c 4000 f) :: ih) l
theorem rep_all {p : Prop} (h : p) (n : Nat) : ∀ q ∈ repN p n, q := by
  intro q hq
  rw [repN_eq] at hq
  rw [List.eq_of_mem_replicate hq]
  exact h
theorem app_all {l m : List Prop} (h : ∀ p ∈ l, p) (h' : ∀ p ∈ m, p) : ∀ p ∈ app l m, p := by
  intro p hp
  rw [app_eq] at hp
  rcases List.mem_append.1 hp with hp | hp
  · exact h p hp
  · exact h' p hp
theorem tmp_set {C : Cut} {i j : Nat} {v : SV} (h : ((C.frames[i]?).bind fun p => p.tmps[j]?) = some (some v)) {p : SP} {u : Option SV} (hp : C.frames[i]? = some p) (hu : p.tmps[j]? = some u) {w : SV} {f : Nat → Nat} (hi : w.Imp (v.ren f)) : ∃ x, u = some x ∧ w.Imp (x.ren f) := by
  rw [hp] at h
  simp only [Option.bind_some, hu, Option.some.injEq] at h
  exact ⟨v, h, hi⟩
theorem runs_mono {c : Cfg} {f : FuncId} {args : List SV} {H : List SO} {D E : SV → List SO → Prop} (h : Runs c f args H D) (hde : ∀ v H, D v H → E v H) : Runs c f args H E :=
  ⟨h.1, fun O w0 w β vs hH hG ha => (h.2 O w0 w β vs hH hG ha).mono fun e w' ⟨v, H', x, β', h1, h2, h3⟩ => ⟨v, H', x, β', h1, hde _ _ h2, h3⟩⟩
end Go.Proofs.YtbhhagnpgkjmgaaDoor.Aes


/-
  Strings: their bytes, their parts, the first place of a byte.
-/
namespace Go.Proofs.YtbhhagnpgkjmgaaDoor.Aes
open Go.Sim
open Go.Proofs
variable {α : Type}

/-- a byte of a string, az a number -/
noncomputable def bytN (s : ByteArray) (i : Nat) : Int := ((s.data.getD i 0).toBitVec.toNat : Int)
theorem ext_size (s : ByteArray) (a b : Nat) : (s.extract a b).size = min b s.size - a := by
  show (s.extract a b).data.size = _
  rw [ByteArray.data_extract, Array.size_extract]
  rfl
theorem ext_byt {s : ByteArray} {a b i : Nat} (h : a + i < min b s.size) : bytN (s.extract a b) i = bytN s (a + i) := by
  have h2 : min b s.data.size = min b s.size := rfl
  unfold bytN
  rw [ByteArray.data_extract, Array.getD_eq_getD_getElem?, Array.getD_eq_getD_getElem?, Array.getElem?_extract, if_pos (by omega)]
theorem ext_ext {s : ByteArray} {k a : Nat} (hk : k ≤ s.size) : (s.extract k s.size).extract a (s.extract k s.size).size = s.extract (k + a) s.size := by
  apply ByteArray.ext
  rw [ByteArray.data_extract, ByteArray.data_extract, ByteArray.data_extract, Array.extract_extract, ext_size]
  congr 1
  omega
theorem ext_all (s : ByteArray) : s.extract 0 s.size = s := by
  apply ByteArray.ext
  rw [ByteArray.data_extract]
  show s.data.extract 0 s.data.size = _
  rw [Array.extract_size]
theorem byt_at {s : ByteArray} {i : Nat} (h : i < s.size) (c : UInt8) : (s[i]! == c) = true ↔ bytN s i = (c.toNat : Int) := by
  have hd : i < s.data.size := h
  have e1 : s[i]! = s.data[i] := by
    rw [getElem!_pos s i h]; rfl
  have e2 : s.data.getD i 0 = s.data[i] := by
    rw [Array.getD_eq_getD_getElem?, Array.getElem?_eq_getElem hd]; rfl
  unfold bytN
  rw [e1, e2]
  constructor
  · intro he
    rw [eq_of_beq he]; rfl
  · intro he
    have : (s.data[i]).toNat = c.toNat := by
      have he : (((s.data[i]).toNat : Nat) : Int) = (c.toNat : Int) := he
      omega
    rw [UInt8.toNat_inj.1 this]
    exact beq_self_eq_true c
theorem fi_cases (r : ByteArray) (c : UInt8) : (firstIdx r c = -1 ∧ ∀ i, i < r.size → bytN r i ≠ (c.toNat : Int)) ∨ ∃ m : Nat, firstIdx r c = (m : Int) ∧ m < r.size ∧ bytN r m = (c.toNat : Int) ∧ ∀ j : Nat, j < m → bytN r j ≠ (c.toNat : Int) := by
  unfold firstIdx
  cases h : (List.range r.size).find? fun i => r[i]! == c with
  | none =>
    refine .inl ⟨rfl, fun i hi he => ?_⟩
    have := List.find?_eq_none.1 h i (List.mem_range.2 hi)
    exact this ((byt_at hi c).2 he)
  | some m =>
    obtain ⟨h1, h2, h3⟩ := List.find?_range_eq_some.1 h
    have h2 := List.mem_range.1 h2
    refine .inr ⟨m, rfl, h2, (byt_at h2 c).1 h1, fun j hj he => ?_⟩
    have h4 := h3 j hj
    rw [(byt_at (by omega) c).2 he] at h4
    cases h4
theorem size_zero {s : ByteArray} (h : s.size = 0) : s = ⟨#[]⟩ := by
  apply ByteArray.ext
  exact Array.eq_empty_of_size_eq_zero h
end Go.Proofs.YtbhhagnpgkjmgaaDoor.Aes


/-
  Which strings are realms: the runs of name.Realm, of any string.
-/
namespace Go.Proofs.YtbhhagnpgkjmgaaDoor.Aes
open Go.Sim
open Go.Proofs
variable {α : Type}

set_option maxRecDepth 1000000
noncomputable def rmT (st : Option (Nat × Nat)) (s : ByteArray) : Tree := callSim (cfgX.at st) 20000 33 [.str (.sym s)] []
noncomputable def rmS1 (s : ByteArray) : SS := stopOf (rmT (some (2, 3)) s) [true, false]
noncomputable def rmS2 (s : ByteArray) : SS := stopOf (rmT (some (3, 3)) s) [true, false, false, false, false]
noncomputable def rmS3 (s : ByteArray) : SS := stopOf (rmT (some (3, 3)) s) [true, false, false, true, false]
def dotB : ByteArray := ⟨#[46]⟩
def nilB : ByteArray := ⟨#[]⟩
noncomputable def rmB (s lab : ByteArray) (i : Nat) : List (Nat × SV) := [(0, .str (.sym s)), (2, .ptr ⟨0, .lit 0⟩), (3, .str (.sym lab)), (15, .int .i64 (.sym (lab.size : Int))), (16, .int .i64 (.sym i))]
noncomputable def rmO : List (Nat × SV) := [(0, .func (.yield 5) [] []), (1, .ptr ⟨2, .lit 0⟩), (2, .ptr ⟨1, .lit 0⟩), (3, .ptr ⟨3, .lit 0⟩), (9, .str (.lit dotB)), (10, .int .i64 (.lit 1)), (11, .bool (.lit false))]
noncomputable def rmR (s : ByteArray) : List (Nat × SV) := [(0, .str (.sym s)), (2, .ptr ⟨0, .lit 0⟩)]
noncomputable def rmE (S : SS) (j : Nat) : HP := optC (nth S.heap j) (.ent .gone) HP.ent
noncomputable def rmH (S : SS) (s r : ByteArray) : List HP := [rmE S 0, .ent (.own (.lst [.str (.sym r)]) true 9), rmE S 2, rmE S 3, rmE S 4, bareL (nth S.heap 5) (rmR s)]
noncomputable def rmCO (s r : ByteArray) : Cut := ⟨bareFs (rmS1 s).frames [rmO, rmR s], rmH (rmS1 s) s r⟩
noncomputable def rmCI (s r lab : ByteArray) (n : Int) (i : Nat) : Cut := ⟨bareFs (rmS2 s).frames [rmB s lab i, (7, .int .i64 (.sym n)) :: rmO, rmR s], rmH (rmS2 s) s r⟩
noncomputable def rmCF (s r : ByteArray) (i : Nat) : Cut := ⟨bareFs (rmS3 s).frames [rmB s r i, rmO, rmR s], rmH (rmS3 s) s r⟩
noncomputable def rmN : List Nat := [0, 1, 2, 3, 4, 5]
noncomputable def fiI (r : ByteArray) : Int := firstIdx r 46
noncomputable def labR (r : ByteArray) : ByteArray := r.extract 0 (fiI r + 0).toNat
noncomputable def noR : Option ((SV × List (Option SO)) ⊕ Seen) := some (.inl (.bool (.lit false), []))
noncomputable def yesR : Option ((SV × List (Option SO)) ⊕ Seen) := some (.inl (.bool (.lit true), []))
/-- a byte: in order, and not -/
noncomputable def chC (c : Int) (k : Nat) : List Prop := match k with
  | 0 => (decide (c < 65) = false) :: repN (decide (c > 90) = false) 5
  | 1 => app (repN (decide (c < 65) = true) 3) ((decide (c < 48) = false) :: repN (decide (c > 57) = false) 3)
  | 2 => app (repN (decide (c < 65) = true) 3) (app (repN (decide (c < 48) = true) 3) [(c != 45) = false])
  | 3 => app (repN (decide (c < 65) = true) 3) (app (repN (decide (c < 48) = true) 3) [(c != 45) = true])
  | 4 => app (repN (decide (c < 65) = true) 3) [decide (c < 48) = false, decide (c > 57) = true, (c != 45) = true]
  | _ => [decide (c < 65) = false, decide (c > 90) = true, decide (c < 48) = false, decide (c > 57) = true, (c != 45) = true]
def chD (k : Nat) : List Bool := match k with
  | 0 => [false, false, false, false, false, false]
  | 1 => [true, true, true, false, false, false, false]
  | 2 => [true, true, true, true, true, true, false]
  | 3 => [true, true, true, true, true, true, true]
  | 4 => [true, true, true, false, true, true]
  | _ => [false, true, false, true, true]
noncomputable def inC (r : ByteArray) (i : Nat) (q : List Prop) : List Prop := (decide ((i : Int) < (r.size : Int)) = true) :: ((0 : Int) ≤ (i : Int) ∧ (i : Int) < (r.size : Int)) :: q
noncomputable def nxC (r : ByteArray) (b : Bool) : List Prop := [decide (dotB = r) = false, decide (fiI r < 0) = false, inI64 (fiI r + 0), 0 ≤ fiI r + 0 ∧ fiI r + 0 ≤ (r.size : Int), decide (labR r = nilB) = b]
section
variable (s r lab : ByteArray) (n : Int) (i : Nat)
theorem rm_few : outO [] (rmT none s) (repN false 4) = (repN (decide ((s.size : Int) ≥ 1) = false) 4, some (.bool (.lit false), [])) := by kernel_rfl
theorem rm_many : outO [] (rmT none s) [true, true] = ([decide ((s.size : Int) ≥ 1) = true, (!decide ((s.size : Int) ≤ 32)) = true], some (.bool (.lit false), [])) := by kernel_rfl
theorem rm_init (z : Nat → Nat → Nat) : outL [] (rmCO s s) rmN (rmT (some (2, 3)) s) [true, false] z = ([decide ((s.size : Int) ≥ 1) = true, (!decide ((s.size : Int) ≤ 32)) = false], some (.inr (seenC rmN 6 (rmCO s s)))) := by kernel_rfl
theorem rm_in (J : Junk) (z : Nat → Nat → Nat) : outL [] (rmCI s r (labR r) (fiI r) 0) rmN (sim1 (cfgX.at (some (3, 3))) 20000 ((rmCO s r).fill J)) [false, false, false] z = (nxC r false, some (.inr (modSeen [(0, 16, .int .i64 (.lit 0))] [] (seenC rmN 6 (rmCI s r (labR r) (fiI r) 0))))) := by kernel_rfl
theorem rm_fin (J : Junk) (z : Nat → Nat → Nat) : outL [] (rmCF s r 0) rmN (sim1 (cfgX.at (some (3, 3))) 20000 ((rmCO s r).fill J)) [false, true, false] z = ([decide (dotB = r) = false, decide (fiI r < 0) = true, decide (r = nilB) = false], some (.inr (modSeen [(0, 16, .int .i64 (.lit 0))] [] (seenC rmN 6 (rmCF s r 0))))) := by kernel_rfl
theorem rm_dot (J : Junk) (z : Nat → Nat → Nat) : outL [] (rmCO s r) rmN (sim1 (cfgX.at none) 20000 ((rmCO s r).fill J)) [true, true] z = ([decide (dotB = r) = true, 0 ≤ r.size, decide (r.extract 0 (0 + 0) = nilB) = true], noR) := by kernel_rfl
theorem rm_nolab (J : Junk) (z : Nat → Nat → Nat) : outL [] (rmCO s r) rmN (sim1 (cfgX.at none) 20000 ((rmCO s r).fill J)) [false, false, true] z = (nxC r true, noR) := by kernel_rfl
theorem rm_none (J : Junk) (z : Nat → Nat → Nat) : outL [] (rmCO s r) rmN (sim1 (cfgX.at none) 20000 ((rmCO s r).fill J)) [false, true, true] z = ([decide (dotB = r) = false, decide (fiI r < 0) = true, decide (r = nilB) = true], noR) := by kernel_rfl
theorem rm_i0 (J : Junk) (z : Nat → Nat → Nat) : outL [] (rmCI s r lab n i) rmN (sim1 (cfgX.at (some (3, 3))) 20000 ((rmCI s r lab n i).fill J)) (true :: chD 0) z = (inC lab i (app (chC (bytN lab i) 0) [inI64 ((i : Int) + 1)]), some (.inr (seenC rmN 6 (rmCI s r lab n (i + 1))))) := by kernel_rfl
theorem rm_i1 (J : Junk) (z : Nat → Nat → Nat) : outL [] (rmCI s r lab n i) rmN (sim1 (cfgX.at (some (3, 3))) 20000 ((rmCI s r lab n i).fill J)) (true :: chD 1) z = (inC lab i (app (chC (bytN lab i) 1) [inI64 ((i : Int) + 1)]), some (.inr (seenC rmN 6 (rmCI s r lab n (i + 1))))) := by kernel_rfl
theorem rm_i2 (J : Junk) (z : Nat → Nat → Nat) : outL [] (rmCI s r lab n i) rmN (sim1 (cfgX.at (some (3, 3))) 20000 ((rmCI s r lab n i).fill J)) (true :: chD 2) z = (inC lab i (app (chC (bytN lab i) 2) [inI64 ((i : Int) + 1)]), some (.inr (seenC rmN 6 (rmCI s r lab n (i + 1))))) := by kernel_rfl
theorem rm_i3 (J : Junk) (z : Nat → Nat → Nat) : outL [] (rmCI s r lab n i) rmN (sim1 (cfgX.at none) 20000 ((rmCI s r lab n i).fill J)) (true :: chD 3) z = (inC lab i (chC (bytN lab i) 3), noR) := by kernel_rfl
theorem rm_i4 (J : Junk) (z : Nat → Nat → Nat) : outL [] (rmCI s r lab n i) rmN (sim1 (cfgX.at none) 20000 ((rmCI s r lab n i).fill J)) (true :: chD 4) z = (inC lab i (chC (bytN lab i) 4), noR) := by kernel_rfl
theorem rm_i5 (J : Junk) (z : Nat → Nat → Nat) : outL [] (rmCI s r lab n i) rmN (sim1 (cfgX.at none) 20000 ((rmCI s r lab n i).fill J)) (true :: chD 5) z = (inC lab i (chC (bytN lab i) 5), noR) := by kernel_rfl
theorem rm_io (J : Junk) (z : Nat → Nat → Nat) : outL [] (rmCO s (r.extract (n + 1).toNat r.size)) rmN (sim1 (cfgX.at (some (2, 3))) 20000 ((rmCI s r lab n i).fill J)) [false] z = ([decide ((i : Int) < (lab.size : Int)) = false, inI64 (n + 1), 0 ≤ n + 1 ∧ n + 1 ≤ (r.size : Int)], some (.inr (seenC rmN 6 (rmCO s (r.extract (n + 1).toNat r.size))))) := by kernel_rfl
theorem rm_f0 (J : Junk) (z : Nat → Nat → Nat) : outL [] (rmCF s r i) rmN (sim1 (cfgX.at (some (3, 3))) 20000 ((rmCF s r i).fill J)) (true :: chD 0) z = (inC r i (app (chC (bytN r i) 0) [inI64 ((i : Int) + 1)]), some (.inr (seenC rmN 6 (rmCF s r (i + 1))))) := by kernel_rfl
theorem rm_f1 (J : Junk) (z : Nat → Nat → Nat) : outL [] (rmCF s r i) rmN (sim1 (cfgX.at (some (3, 3))) 20000 ((rmCF s r i).fill J)) (true :: chD 1) z = (inC r i (app (chC (bytN r i) 1) [inI64 ((i : Int) + 1)]), some (.inr (seenC rmN 6 (rmCF s r (i + 1))))) := by kernel_rfl
theorem rm_f2 (J : Junk) (z : Nat → Nat → Nat) : outL [] (rmCF s r i) rmN (sim1 (cfgX.at (some (3, 3))) 20000 ((rmCF s r i).fill J)) (true :: chD 2) z = (inC r i (app (chC (bytN r i) 2) [inI64 ((i : Int) + 1)]), some (.inr (seenC rmN 6 (rmCF s r (i + 1))))) := by kernel_rfl
theorem rm_f3 (J : Junk) (z : Nat → Nat → Nat) : outL [] (rmCF s r i) rmN (sim1 (cfgX.at none) 20000 ((rmCF s r i).fill J)) (true :: chD 3) z = (inC r i (chC (bytN r i) 3), noR) := by kernel_rfl
theorem rm_f4 (J : Junk) (z : Nat → Nat → Nat) : outL [] (rmCF s r i) rmN (sim1 (cfgX.at none) 20000 ((rmCF s r i).fill J)) (true :: chD 4) z = (inC r i (chC (bytN r i) 4), noR) := by kernel_rfl
theorem rm_f5 (J : Junk) (z : Nat → Nat → Nat) : outL [] (rmCF s r i) rmN (sim1 (cfgX.at none) 20000 ((rmCF s r i).fill J)) (true :: chD 5) z = (inC r i (chC (bytN r i) 5), noR) := by kernel_rfl
theorem rm_end (J : Junk) (z : Nat → Nat → Nat) : outL [] (rmCF s r i) rmN (sim1 (cfgX.at none) 20000 ((rmCF s r i).fill J)) [false] z = ([decide ((i : Int) < (r.size : Int)) = false], yesR) := by kernel_rfl
theorem rm_nO : boolC (namesOK 0 rmN (rmCO s r) (rmCO s r)) (allN noLoopE (rmCO s r).heap) false = true := by kernel_rfl
theorem rm_nI : boolC (namesOK 0 rmN (rmCI s r lab n i) (rmCI s r lab n i)) (allN noLoopE (rmCI s r lab n i).heap) false = true := by kernel_rfl
theorem rm_nII (j : Nat) : boolC (namesOK 0 rmN (rmCI s r lab n i) (rmCI s r lab n j)) (allN noLoopE (rmCI s r lab n j).heap) false = true := by kernel_rfl
theorem rm_nF (j : Nat) : boolC (namesOK 0 rmN (rmCF s r i) (rmCF s r j)) (allN noLoopE (rmCF s r j).heap) false = true := by kernel_rfl
theorem rm_tI : (((rmCI s r lab n i).frames[0]?).bind fun p => p.tmps[16]?) = some (some (.int .i64 (.sym i))) := by kernel_rfl
theorem rm_tF : (((rmCF s r i).frames[0]?).bind fun p => p.tmps[16]?) = some (some (.int .i64 (.sym i))) := by kernel_rfl
end
end Go.Proofs.YtbhhagnpgkjmgaaDoor.Aes


/-
  Which strings are realms: the summary of name.Realm.
-/
namespace Go.Proofs.YtbhhagnpgkjmgaaDoor.Aes
open Go.Sim
open Go.Proofs
variable {α : Type}

set_option maxRecDepth 100000
def okc (c : Int) : Prop := (65 ≤ c ∧ c ≤ 90) ∨ (48 ≤ c ∧ c ≤ 57) ∨ c = 45
def chP (s : ByteArray) (i : Nat) : Prop := okc (bytN s i) ∨ (bytN s i = 46 ∧ i ≠ 0 ∧ i + 1 ≠ s.size ∧ bytN s (i - 1) ≠ 46)
/-- a realm -/
def rlmP (s : ByteArray) : Prop := 1 ≤ s.size ∧ s.size ≤ 32 ∧ ∀ i, i < s.size → chP s i
noncomputable def rlmB (s : ByteArray) : Bool := @decide (rlmP s) (Classical.propDecidable _)
theorem rlmB_true {s : ByteArray} (h : rlmP s) : rlmB s = true := @decide_eq_true _ (Classical.propDecidable _) h
theorem rlmB_false {s : ByteArray} (h : ¬ rlmP s) : rlmB s = false := @decide_eq_false _ (Classical.propDecidable _) h
theorem okc_dot {c : Int} (h : okc c) : c ≠ 46 := by rcases h with h | h | h <;> omega
/-- the labels up to a place are in order -/
def rmInv (s : ByteArray) (k : Nat) : Prop := k ≤ s.size ∧ (k = 0 ∨ (1 ≤ k ∧ bytN s (k - 1) = 46)) ∧ ∀ i, i < k → okc (bytN s i) ∨ (bytN s i = 46 ∧ i ≠ 0 ∧ bytN s (i - 1) ≠ 46)
theorem dot_bad {s : ByteArray} {k : Nat} (h : rmInv s k) (hk : k < s.size) (hd : bytN s k = 46) : ¬ rlmP s := by
  rintro ⟨_, _, ha⟩
  rcases ha k hk with h1 | ⟨_, h2, _, h4⟩
  · exact okc_dot h1 hd
  · rcases h.2.1 with h5 | ⟨_, h5⟩
    · exact h2 h5
    · exact h4 h5
theorem end_bad {s : ByteArray} (h1 : 1 ≤ s.size) {k : Nat} (h : rmInv s k) (hk : k = s.size) : ¬ rlmP s := by
  rintro ⟨_, _, ha⟩
  rcases h.2.1 with h5 | ⟨h6, h5⟩
  · omega
  · rcases ha (k - 1) (by omega) with h7 | ⟨_, _, h7, _⟩
    · exact okc_dot h7 h5
    · exact h7 (by omega)
theorem ch_bad {s : ByteArray} {i : Nat} (hi : i < s.size) (h1 : ¬ okc (bytN s i)) (h2 : bytN s i ≠ 46) : ¬ rlmP s := fun h => by
  rcases h.2.2 i hi with h3 | ⟨h3, _⟩
  · exact h1 h3
  · exact h2 h3
theorem inv_next {s : ByteArray} {k m : Nat} (h : rmInv s k) (hm : 1 ≤ m) (hk : k + m < s.size) (hd : bytN s (k + m) = 46) (ho : ∀ j, j < m → okc (bytN s (k + j))) : rmInv s (k + (m + 1)) := by
  refine ⟨by omega, .inr ⟨by omega, by rw [show k + (m + 1) - 1 = k + m by omega]; exact hd⟩, fun i hi => ?_⟩
  by_cases c1 : i < k
  · exact h.2.2 i c1
  · by_cases c2 : i < k + m
    · have := ho (i - k) (by omega)
      rw [show k + (i - k) = i by omega] at this
      exact .inl this
    · have e : i = k + m := by omega
      subst e
      refine .inr ⟨hd, by omega, ?_⟩
      have := ho (m - 1) (by omega)
      rw [show k + (m - 1) = k + m - 1 by omega] at this
      exact okc_dot this
theorem fin_good {s : ByteArray} {k : Nat} (h1 : 1 ≤ s.size) (h32 : s.size ≤ 32) (h : rmInv s k) (hk : k < s.size) (ho : ∀ j, j < s.size - k → okc (bytN s (k + j))) : rlmP s := by
  refine ⟨h1, h32, fun i hi => ?_⟩
  by_cases c1 : i < k
  · rcases h.2.2 i c1 with h2 | ⟨h2, h3, h4⟩
    · exact .inl h2
    · exact .inr ⟨h2, h3, by omega, h4⟩
  · have := ho (i - k) (by omega)
    rw [show k + (i - k) = i by omega] at this
    exact .inl this
inductive Rm where
  | out (r : ByteArray)
  | inn (r lab : ByteArray) (n : Int) (i : Nat)
  | fin (r : ByteArray) (i : Nat)
noncomputable def rmC (s : ByteArray) : Rm → Cut
  | .out r => rmCO s r
  | .inn r lab n i => rmCI s r lab n i
  | .fin r i => rmCF s r i
def rmQ (s : ByteArray) : Rm → Prop
  | .out r => ∃ k, rmInv s k ∧ r = s.extract k s.size
  | .inn r lab n i => ∃ k m : Nat, rmInv s k ∧ r = s.extract k s.size ∧ 1 ≤ m ∧ k + m < s.size ∧ n = m ∧ lab = r.extract 0 m ∧ bytN s (k + m) = 46 ∧ (∀ j, j < m → bytN s (k + j) ≠ 46) ∧ (∀ j, j < i → okc (bytN s (k + j))) ∧ i ≤ m
  | .fin r i => ∃ k, rmInv s k ∧ r = s.extract k s.size ∧ 1 ≤ r.size ∧ (∀ j, j < r.size → bytN s (k + j) ≠ 46) ∧ (∀ j, j < i → okc (bytN s (k + j))) ∧ i ≤ r.size
def rmMu : Rm → Nat
  | .out r => 100 * r.size + 99
  | .inn r lab _ i => 100 * r.size + (lab.size - i)
  | .fin r i => 100 * r.size + (r.size - i)
theorem chC0_all {c : Int} (h : 65 ≤ c ∧ c ≤ 90) : ∀ p ∈ chC c 0, p := all_cons (decide_eq_false (by omega)) (rep_all (decide_eq_false (by omega)) 5)
theorem chC1_all {c : Int} (h : 48 ≤ c ∧ c ≤ 57) : ∀ p ∈ chC c 1, p := app_all (rep_all (decide_eq_true (by omega)) 3) (all_cons (decide_eq_false (by omega)) (rep_all (decide_eq_false (by omega)) 3))
theorem chC2_all {c : Int} (h : c = 45) : ∀ p ∈ chC c 2, p := app_all (rep_all (decide_eq_true (by omega)) 3) (app_all (rep_all (decide_eq_true (by omega)) 3) (all_cons (by subst h; rfl) all_nil))
theorem chC3_all {c : Int} (h : c < 48) (h2 : c ≠ 45) : ∀ p ∈ chC c 3, p := app_all (rep_all (decide_eq_true (by omega)) 3) (app_all (rep_all (decide_eq_true (by omega)) 3) (all_cons (bne_iff_ne.2 h2) all_nil))
theorem chC4_all {c : Int} (h : 57 < c) (h2 : c < 65) : ∀ p ∈ chC c 4, p := app_all (rep_all (decide_eq_true (by omega)) 3) (all_cons (decide_eq_false (by omega)) (all_cons (decide_eq_true (by omega)) (all_cons (bne_iff_ne.2 (by omega)) all_nil)))
theorem chC5_all {c : Int} (h : 90 < c) : ∀ p ∈ chC c 5, p := all_cons (decide_eq_false (by omega)) (all_cons (decide_eq_true (by omega)) (all_cons (decide_eq_false (by omega)) (all_cons (decide_eq_true (by omega)) (all_cons (bne_iff_ne.2 (by omega)) all_nil))))
theorem inC_all {r : ByteArray} {i : Nat} (h : i < r.size) {q : List Prop} (hq : ∀ p ∈ q, p) : ∀ p ∈ inC r i q, p := all_cons (decide_eq_true (by omega)) (all_cons ⟨by omega, by omega⟩ hq)
theorem rm_runs (s : ByteArray) (h1 : 1 ≤ s.size) (h32 : s.size ≤ 32) : Runs cfgX 33 [.str (.sym s)] [] fun v _ => ∃ b, v = .bool b ∧ b.den = rlmB s := by
  have hno : ¬ rlmP s → ∀ H : List SO, (fun (v : SV) (_ : List SO) => ∃ b, v = .bool b ∧ b.den = rlmB s) (.bool (.lit false)) H := fun hn _ => ⟨_, rfl, (rlmB_false hn).symm⟩
  refine runs_by cfgXOK (rmC s) (rmQ s) rmMu (fun g nm hg => by cases hg) ?_ fun a ha J => ?_
  · exact to_start (some (2, 3)) 20000 (.out s) ⟨0, ⟨by omega, .inl rfl, fun i hi => by omega⟩, (ext_all s).symm⟩ (rm_init s) (rm_nO s s) (all_cons (decide_eq_true (by omega)) (all_cons (by rw [decide_eq_true (show ((s.size : Nat) : Int) ≤ 32 by omega)]; rfl) all_nil))
  cases a with
  | out r =>
    obtain ⟨k, hI, hr⟩ := ha
    have hk := hI.1
    have hsz : r.size = s.size - k := by rw [hr, ext_size]; omega
    have hb : ∀ j, j < r.size → bytN r j = bytN s (k + j) := fun j hj => by rw [hr]; exact ext_byt (by omega)
    show TurnsTo cfgX _ (rmC s) _ _ ((rmCO s r).fill J)
    by_cases hd : dotB = r
    · have hs1 : r.size = 1 := by rw [← hd]; rfl
      have hb0 : bytN s k = 46 := by
        have := hb 0 (by omega)
        rw [Nat.add_zero] at this
        rw [← this, ← hd]; rfl
      exact to_end none 20000 (rm_dot s r J) (all_cons (decide_eq_true hd) (all_cons (Nat.zero_le _) (all_cons (decide_eq_true (size_zero (by rw [ext_size]; omega))) all_nil))) fun H _ => hno (dot_bad hI (by omega) hb0) H
    · have hd' : decide (dotB = r) = false := decide_eq_false hd
      rcases fi_cases r 46 with ⟨h0, hnd⟩ | ⟨m, hm, hlt, hdot, hmin⟩
      · have h0' : fiI r = -1 := h0
        have hneg : decide (fiI r < 0) = true := decide_eq_true (by omega)
        by_cases hr0 : r.size = 0
        · exact to_end none 20000 (rm_none s r J) (all_cons hd' (all_cons hneg (all_cons (decide_eq_true (size_zero hr0)) all_nil))) fun H _ => hno (end_bad h1 hI (by omega)) H
        · refine to_turnM (some (3, 3)) 20000 (.fin r 0) ⟨⟨k, hI, hr, by omega, fun j hj => by rw [← hb j hj]; exact hnd j hj, fun j hj => by omega, by omega⟩, by show 100 * r.size + (r.size - 0) < 100 * r.size + 99; omega⟩ (rm_fin s r J) (rm_nF s r 0 0) (fun q hq p u hp hu => ?_) (fun e he => by cases he) (all_cons hd' (all_cons hneg (all_cons (decide_eq_false (fun e => hr0 (by rw [e]; rfl))) all_nil)))
          obtain rfl : q = (0, 16, .int .i64 (.lit 0)) := by simpa using hq
          exact tmp_set (rm_tF s r 0) hp hu (int_impS rfl)
      · have hm' : fiI r = (m : Int) := hm
        have hle : (fiI r + 0).toNat = m := by omega
        have hlab : labR r = r.extract 0 m := by unfold labR; rw [hle]
        have hdm : bytN s (k + m) = 46 := by rw [← hb m hlt]; exact hdot
        have c1 : decide (fiI r < 0) = false := decide_eq_false (by omega)
        have c2 : inI64 (fiI r + 0) := ⟨by omega, by omega⟩
        have c3 : 0 ≤ fiI r + 0 ∧ fiI r + 0 ≤ (r.size : Int) := ⟨by omega, by omega⟩
        have hls : (labR r).size = m := by rw [hlab, ext_size]; omega
        by_cases hm0 : m = 0
        · exact to_end none 20000 (rm_nolab s r J) (all_cons hd' (all_cons c1 (all_cons c2 (all_cons c3 (all_cons (decide_eq_true (size_zero (by omega))) all_nil))))) fun H _ => hno (dot_bad hI (by omega) (by rw [hm0, Nat.add_zero] at hdm; exact hdm)) H
        · refine to_turnM (some (3, 3)) 20000 (.inn r (labR r) (fiI r) 0) ⟨⟨k, m, hI, hr, by omega, by omega, hm', hlab, hdm, fun j hj => by rw [← hb j (by omega)]; exact hmin j hj, fun j hj => by omega, by omega⟩, by show 100 * r.size + ((labR r).size - 0) < 100 * r.size + 99; omega⟩ (rm_in s r J) (rm_nI s r (labR r) (fiI r) 0) (fun q hq p u hp hu => ?_) (fun e he => by cases he)
            (all_cons hd' (all_cons c1 (all_cons c2 (all_cons c3 (all_cons (decide_eq_false (fun e => hm0 (by rw [← hls, e]; rfl))) all_nil)))))
          obtain rfl : q = (0, 16, .int .i64 (.lit 0)) := by simpa using hq
          exact tmp_set (rm_tI s r (labR r) (fiI r) 0) hp hu (int_impS rfl)
  | inn r lab n i =>
    obtain ⟨k, m, hI, hr, hm1, hkm, hn, hlab, hdm, hmin, ho, him⟩ := ha
    have hk := hI.1
    have hsz : r.size = s.size - k := by rw [hr, ext_size]; omega
    have hls : lab.size = m := by rw [hlab, ext_size]; omega
    have hb : ∀ j, j < m → bytN lab j = bytN s (k + j) := fun j hj => by
      rw [hlab, ext_byt (by omega), Nat.zero_add, hr]
      exact ext_byt (by omega)
    show TurnsTo cfgX _ (rmC s) _ _ ((rmCI s r lab n i).fill J)
    by_cases hi : i < m
    · have hc := hb i hi
      have hne := hmin i hi
      have hq : okc (bytN s (k + i)) → (rmQ s (.inn r lab n (i + 1))) ∧ rmMu (.inn r lab n (i + 1)) < rmMu (.inn r lab n i) := fun hok => ⟨⟨k, m, hI, hr, hm1, hkm, hn, hlab, hdm, hmin, fun j hj => by
        by_cases c : j < i
        · exact ho j c
        · obtain rfl : j = i := by omega
          exact hok, by omega⟩, by show 100 * r.size + (lab.size - (i + 1)) < 100 * r.size + (lab.size - i); omega⟩
      have hin : ∀ q : List Prop, (∀ p ∈ q, p) → ∀ p ∈ inC lab i q, p := fun q hq => inC_all (by omega) hq
      have h64 : inI64 ((i : Int) + 1) := ⟨by omega, by omega⟩
      by_cases a1 : 65 ≤ bytN s (k + i) ∧ bytN s (k + i) ≤ 90
      · exact to_turn (some (3, 3)) 20000 (.inn r lab n (i + 1)) (hq (.inl a1)) (rm_i0 s r lab n i J) (rm_nII s r lab n i (i + 1)) (hin _ (app_all (by rw [hc]; exact chC0_all a1) (all_cons h64 all_nil)))
      by_cases a2 : 48 ≤ bytN s (k + i) ∧ bytN s (k + i) ≤ 57
      · exact to_turn (some (3, 3)) 20000 (.inn r lab n (i + 1)) (hq (.inr (.inl a2))) (rm_i1 s r lab n i J) (rm_nII s r lab n i (i + 1)) (hin _ (app_all (by rw [hc]; exact chC1_all a2) (all_cons h64 all_nil)))
      by_cases a3 : bytN s (k + i) = 45
      · exact to_turn (some (3, 3)) 20000 (.inn r lab n (i + 1)) (hq (.inr (.inr a3))) (rm_i2 s r lab n i J) (rm_nII s r lab n i (i + 1)) (hin _ (app_all (by rw [hc]; exact chC2_all a3) (all_cons h64 all_nil)))
      have hbad : ¬ rlmP s := ch_bad (i := k + i) (by omega) (fun h => by rcases h with h | h | h; exact a1 h; exact a2 h; exact a3 h) hne
      by_cases a4 : bytN s (k + i) < 48
      · exact to_end none 20000 (rm_i3 s r lab n i J) (hin _ (by rw [hc]; exact chC3_all a4 a3)) fun H _ => hno hbad H
      by_cases a5 : bytN s (k + i) < 65
      · exact to_end none 20000 (rm_i4 s r lab n i J) (hin _ (by rw [hc]; exact chC4_all (by omega) a5)) fun H _ => hno hbad H
      · exact to_end none 20000 (rm_i5 s r lab n i J) (hin _ (by rw [hc]; exact chC5_all (by omega))) fun H _ => hno hbad H
    · have e : i = m := by omega
      subst e
      have hnt : (n + 1).toNat = i + 1 := by omega
      have hr' : r.extract (n + 1).toNat r.size = s.extract (k + (i + 1)) s.size := by
        rw [hnt, hr]
        exact ext_ext hk
      have hsz' : (r.extract (n + 1).toNat r.size).size = s.size - (k + (i + 1)) := by rw [hr', ext_size]; omega
      exact to_turn (some (2, 3)) 20000 (.out (r.extract (n + 1).toNat r.size)) ⟨⟨k + (i + 1), inv_next hI hm1 hkm hdm ho, hr'⟩, by show 100 * (r.extract (n + 1).toNat r.size).size + 99 < 100 * r.size + (lab.size - i); omega⟩ (rm_io s r lab n i J) (rm_nO s _)
        (all_cons (decide_eq_false (by omega)) (all_cons ⟨by omega, by omega⟩ (all_cons ⟨by omega, by omega⟩ all_nil)))
  | fin r i =>
    obtain ⟨k, hI, hr, hr1, hnd, ho, hir⟩ := ha
    have hk := hI.1
    have hsz : r.size = s.size - k := by rw [hr, ext_size]; omega
    have hb : ∀ j, j < r.size → bytN r j = bytN s (k + j) := fun j hj => by rw [hr]; exact ext_byt (by omega)
    show TurnsTo cfgX _ (rmC s) _ _ ((rmCF s r i).fill J)
    by_cases hi : i < r.size
    · have hc := hb i hi
      have hne := hnd i hi
      have hq : okc (bytN s (k + i)) → (rmQ s (.fin r (i + 1))) ∧ rmMu (.fin r (i + 1)) < rmMu (.fin r i) := fun hok => ⟨⟨k, hI, hr, hr1, hnd, fun j hj => by
        by_cases c : j < i
        · exact ho j c
        · obtain rfl : j = i := by omega
          exact hok, by omega⟩, by show 100 * r.size + (r.size - (i + 1)) < 100 * r.size + (r.size - i); omega⟩
      have hin : ∀ q : List Prop, (∀ p ∈ q, p) → ∀ p ∈ inC r i q, p := fun q hq => inC_all hi hq
      have h64 : inI64 ((i : Int) + 1) := ⟨by omega, by omega⟩
      by_cases a1 : 65 ≤ bytN s (k + i) ∧ bytN s (k + i) ≤ 90
      · exact to_turn (some (3, 3)) 20000 (.fin r (i + 1)) (hq (.inl a1)) (rm_f0 s r i J) (rm_nF s r i (i + 1)) (hin _ (app_all (by rw [hc]; exact chC0_all a1) (all_cons h64 all_nil)))
      by_cases a2 : 48 ≤ bytN s (k + i) ∧ bytN s (k + i) ≤ 57
      · exact to_turn (some (3, 3)) 20000 (.fin r (i + 1)) (hq (.inr (.inl a2))) (rm_f1 s r i J) (rm_nF s r i (i + 1)) (hin _ (app_all (by rw [hc]; exact chC1_all a2) (all_cons h64 all_nil)))
      by_cases a3 : bytN s (k + i) = 45
      · exact to_turn (some (3, 3)) 20000 (.fin r (i + 1)) (hq (.inr (.inr a3))) (rm_f2 s r i J) (rm_nF s r i (i + 1)) (hin _ (app_all (by rw [hc]; exact chC2_all a3) (all_cons h64 all_nil)))
      have hbad : ¬ rlmP s := ch_bad (i := k + i) (by omega) (fun h => by rcases h with h | h | h; exact a1 h; exact a2 h; exact a3 h) hne
      by_cases a4 : bytN s (k + i) < 48
      · exact to_end none 20000 (rm_f3 s r i J) (hin _ (by rw [hc]; exact chC3_all a4 a3)) fun H _ => hno hbad H
      by_cases a5 : bytN s (k + i) < 65
      · exact to_end none 20000 (rm_f4 s r i J) (hin _ (by rw [hc]; exact chC4_all (by omega) a5)) fun H _ => hno hbad H
      · exact to_end none 20000 (rm_f5 s r i J) (hin _ (by rw [hc]; exact chC5_all (by omega))) fun H _ => hno hbad H
    · have e : i = r.size := by omega
      exact to_end none 20000 (rm_end s r i J) (all_cons (decide_eq_false (by omega)) all_nil) fun H _ => ⟨_, rfl, (rlmB_true (fin_good h1 h32 hI (by omega) fun j hj => ho j (by omega))).symm⟩
noncomputable def rlmS : Summ := fun args _ _ => args1 args fun v => optC (strV v) (.stuck 7796) fun s => .ok ⟨.bool (.sym (rlmB s.den)), [], []⟩
theorem rlmOK : SumOK Tryd.prog 33 rlmS := by
  intro glob O w0 β H w base args vs hH hG ha
  refine args1_sat fun v hv => optC_only fun s hs => ?_
  rw [hv, strV_spec hs] at ha
  have ha := impL_cons (str_imp (t := .sym s.den) rfl) impL_nil _ _ ha
  show SumSem Tryd.prog H β w base _ vs ⟨.bool (.sym (rlmB s.den)), [], []⟩
  generalize s.den = s at ha ⊢
  let I : Ifc := ⟨[], [], [.str (.sym s)]⟩
  have hb : ∀ b : SB, b.den = rlmB s → ∀ H2 : List SO, I.EndsQ base [] ⟨.bool (.sym (rlmB s)), [], []⟩ (.bool b) H2 := fun b hb H2 => bool_ends rfl ⟨b, rfl, hb⟩
  by_cases h1 : 1 ≤ s.size
  · by_cases h32 : s.size ≤ 32
    · exact sum_runsQ (c := cfgX) hH I (by intro g j hg; cases hg) ha (fits0 rfl).q [] (by simp) (by simp) (runs_mono (rm_runs s h1 h32) fun v H h => bool_ends rfl h)
    · refine sum_runQ cfgXOK 20000 hH I (by intro g j hg; cases hg) ha (fits0 rfl).q [] (by simp) (by simp) (outO_ob (rm_many s) (all_cons (decide_eq_true (by omega)) (all_cons (by rw [decide_eq_false (show ¬ ((s.size : Nat) : Int) ≤ 32 by omega)]; rfl) all_nil)) fun H2 _ => hb (.lit false) (rlmB_false fun h => h32 h.2.1).symm H2)
  · refine sum_runQ cfgXOK 20000 hH I (by intro g j hg; cases hg) ha (fits0 rfl).q [] (by simp) (by simp) (outO_ob (rm_few s) (rep_all (decide_eq_false (by omega)) 4) fun H2 _ => hb (.lit false) (rlmB_false fun h => h1 h.1).symm H2)
end Go.Proofs.YtbhhagnpgkjmgaaDoor.Aes


/-
  Which strings are realms: the reference's answer is the same.
-/
namespace Go.Proofs.YtbhhagnpgkjmgaaDoor.Aes
open Go.Sim
open Go.Proofs
variable {α : Type}

set_option maxRecDepth 1000000
section
variable (s : ByteArray) (i : Nat)
noncomputable def rdT (st : Option (Nat × Nat)) : Tree := callSim (cfgX.at st) 4000 22 [.str (.sym s)] []
noncomputable def rdC : Cut := ⟨bareFs (stopOf (rdT s (some (1, 3))) []).frames [[(0, .str (.sym s)), (3, .int .i64 (.sym i))]], []⟩
noncomputable def prevN : Int := ((s.data.getD ((i : Int) - 1).toNat 0).toBitVec.toNat : Int)
noncomputable def rdI (q : List Prop) : List Prop := (decide ((i : Int) < (s.size : Int)) = true) :: ((0 : Int) ≤ (i : Int) ∧ (i : Int) < (s.size : Int)) :: q
noncomputable def dotC (q : List Prop) : List Prop := ((bytN s i == 46) = true) :: q
noncomputable def dot2C (b : Bool) (q : List Prop) : List Prop := dotC s i ((((i : Int) == 0) = false) :: inI64 ((s.size : Int) - 1) :: (((i : Int) == (s.size : Int) - 1) = false) :: inI64 ((i : Int) - 1) :: ((0 : Int) ≤ (i : Int) - 1 ∧ (i : Int) - 1 < (s.size : Int)) :: ((prevN s i == 46) = b) :: q)
noncomputable def chrC (q : List Prop) : List Prop := app (repN ((bytN s i == 46) = false) 7) (((bytN s i != 46) = true) :: q)
noncomputable def lowC (q : List Prop) : List Prop := chrC s i (((bytN s i != 45) = true) :: app (repN (decide (bytN s i ≥ 65) = false) 3) q)
noncomputable def rdN (J : Junk) (ds : List Bool) (z : Nat → Nat → Nat) : OutL := outL [] (rdC s i) [] (sim1 (cfgX.at (some (1, 3))) 4000 ((rdC s i).fill J)) (true :: ds) z
noncomputable def rdE (J : Junk) (ds : List Bool) (z : Nat → Nat → Nat) : OutL := outL [] (rdC s i) [] (sim1 (cfgX.at none) 4000 ((rdC s i).fill J)) ds z
noncomputable def rdX : Option ((SV × List (Option SO)) ⊕ Seen) := some (.inr (seenC [] 0 (rdC s (i + 1))))
variable (J : Junk) (z : Nat → Nat → Nat)
theorem rd_init : outL [] (rdC s 0) [] (rdT s (some (1, 3))) [] z = ([], some (.inr (modSeen [(0, 3, .int .i64 (.lit 0))] [] (seenC [] 0 (rdC s 0))))) := by kernel_rfl
theorem rd_t0 : rdN s i J [true, false, false, false, false, false, false] z = (rdI s i (dot2C s i false (app (repN ((bytN s i != 46) = false) 3) [inI64 ((i : Int) + 1)])), rdX s i) := by kernel_rfl
theorem rd_ta : rdN s i J (app (repN false 7) (true :: repN false 6)) z = (rdI s i (chrC s i (app (repN ((bytN s i != 45) = false) 6) [inI64 ((i : Int) + 1)])), rdX s i) := by kernel_rfl
theorem rd_tb : rdN s i J (app (repN false 7) (true :: true :: true :: repN false 6)) z = (rdI s i (chrC s i (((bytN s i != 45) = true) :: (decide (bytN s i ≥ 65) = true) :: app (repN ((!decide (bytN s i ≤ 90)) = false) 6) [inI64 ((i : Int) + 1)])), rdX s i) := by kernel_rfl
theorem rd_tc : rdN s i J (app (repN false 7) (true :: true :: app (repN false 3) [true, false])) z = (rdI s i (lowC s i [decide (bytN s i ≥ 48) = true, (!decide (bytN s i ≤ 57)) = false, inI64 ((i : Int) + 1)]), rdX s i) := by kernel_rfl
theorem rd_x1 : rdE s i J (true :: true :: repN true 6) z = (rdI s i (dotC s i (repN (((i : Int) == 0) = true) 6)), noR) := by kernel_rfl
theorem rd_x2 : rdE s i J (true :: true :: false :: repN true 6) z = (rdI s i (dotC s i ((((i : Int) == 0) = false) :: inI64 ((s.size : Int) - 1) :: repN (((i : Int) == (s.size : Int) - 1) = true) 6)), noR) := by kernel_rfl
theorem rd_x3 : rdE s i J [true, true, false, false, true] z = (rdI s i (dot2C s i true []), noR) := by kernel_rfl
theorem rd_n1 : rdE s i J (true :: app (repN false 7) (true :: true :: repN false 6)) z = (rdI s i (lowC s i (repN (decide (bytN s i ≥ 48) = false) 3)), noR) := by kernel_rfl
theorem rd_n2 : rdE s i J (true :: app (repN false 7) (true :: true :: app (repN false 3) [true, true])) z = (rdI s i (lowC s i [decide (bytN s i ≥ 48) = true, (!decide (bytN s i ≤ 57)) = true]), noR) := by kernel_rfl
theorem rd_n3 : rdE s i J (true :: app (repN false 7) [true, true, true, true, true, true]) z = (rdI s i (chrC s i [(bytN s i != 45) = true, decide (bytN s i ≥ 65) = true, (!decide (bytN s i ≤ 90)) = true, decide (bytN s i ≥ 48) = true, (!decide (bytN s i ≤ 57)) = true]), noR) := by kernel_rfl
theorem rd_end : rdE s i J [false, true] z = ([decide ((i : Int) < (s.size : Int)) = false, decide ((s.size : Int) ≥ 1) = true], some (.inl (.bool (.sym (decide ((s.size : Int) ≤ 32))), []))) := by kernel_rfl
theorem rd_few : rdE s i J (repN false 5) z = ((decide ((i : Int) < (s.size : Int)) = false) :: repN (decide ((s.size : Int) ≥ 1) = false) 4, noR) := by kernel_rfl
theorem rd_names (j : Nat) : boolC (namesOK 0 [] (rdC s i) (rdC s j)) (allN noLoopE (rdC s j).heap) false = true := by kernel_rfl
theorem rd_tmp : (((rdC s i).frames[0]?).bind fun p => p.tmps[3]?) = some (some (.int .i64 (.sym i))) := by kernel_rfl
end
theorem beqI {a b : Int} (h : a ≠ b) : (a == b) = false := beq_eq_false_iff_ne.2 h
theorem bneF {a b : Int} (h : a = b) : (a != b) = false := by subst h; simp
theorem bneT {a b : Int} (h : a ≠ b) : (a != b) = true := bne_iff_ne.2 h
theorem eqT {a b : Int} (h : a = b) : (a == b) = true := by subst h; simp
theorem notT {p : Prop} [Decidable p] (h : ¬ p) : (!decide p) = true := by rw [decide_eq_false h]; rfl
theorem notF {p : Prop} [Decidable p] (h : p) : (!decide p) = false := by rw [decide_eq_true h]; rfl
theorem rd_runs (s : ByteArray) (hbig : s.size ≤ 9223372036854775807) : Runs cfgX 22 [.str (.sym s)] [] fun v _ => ∃ b, v = .bool b ∧ b.den = rlmB s := by
  have hno : ¬ rlmP s → ∀ H : List SO, (fun (v : SV) (_ : List SO) => ∃ b, v = .bool b ∧ b.den = rlmB s) (.bool (.lit false)) H := fun hn _ => ⟨_, rfl, (rlmB_false hn).symm⟩
  refine runs_by cfgXOK (rdC s) (fun i => i ≤ s.size ∧ ∀ j, j < i → chP s j) (fun i => s.size - i) (fun g nm hg => by cases hg) ?_ fun i hi J => ?_
  · refine to_startM (some (1, 3)) 4000 0 ⟨Nat.zero_le _, fun j hj => by omega⟩ (rd_init s) (rd_names s 0 0) (fun m hm p u hp hu => ?_) (by simp) all_nil
    obtain rfl : m = (0, 3, .int .i64 (.lit 0)) := by simpa using hm
    exact tmp_set (rd_tmp s 0) hp hu (int_impS rfl)
  obtain ⟨hi1, hi2⟩ := hi
  by_cases hin : i < s.size
  · have hI : ∀ q : List Prop, (∀ p ∈ q, p) → ∀ p ∈ rdI s i q, p := fun q hq => all_cons (decide_eq_true (by omega)) (all_cons ⟨by omega, by omega⟩ hq)
    have h64 : inI64 ((i : Int) + 1) := ⟨by omega, by omega⟩
    have hnext : chP s i → (i + 1 ≤ s.size ∧ ∀ j, j < i + 1 → chP s j) ∧ s.size - (i + 1) < s.size - i := fun hc => ⟨⟨by omega, fun j hj => by
      by_cases hj' : j < i
      · exact hi2 j hj'
      · obtain rfl : j = i := by omega
        exact hc⟩, by omega⟩
    have hbad : ¬ chP s i → ¬ rlmP s := fun hc h => hc (h.2.2 i hin)
    have hprev : i ≠ 0 → prevN s i = bytN s (i - 1) := fun h0 => by
      unfold prevN bytN
      rw [show ((i : Int) - 1).toNat = i - 1 by omega]
    by_cases hd : bytN s i = 46
    · have hdT := eqT hd
      have hok : okc (bytN s i) → False := fun h => okc_dot h hd
      by_cases h0 : i = 0
      · exact to_end none 4000 (rd_x1 s i J) (hI _ (all_cons hdT (rep_all (eqT (by omega)) 6))) fun H _ => hno (hbad fun h => by rcases h with h | h; exact hok h; exact h.2.1 h0) H
      have h0F : ((i : Int) == 0) = false := beqI (by omega)
      have c1 : inI64 ((s.size : Int) - 1) := ⟨by omega, by omega⟩
      by_cases hl : i + 1 = s.size
      · exact to_end none 4000 (rd_x2 s i J) (hI _ (all_cons hdT (all_cons h0F (all_cons c1 (rep_all (eqT (by omega)) 6))))) fun H _ => hno (hbad fun h => by rcases h with h | h; exact hok h; exact h.2.2.1 hl) H
      have hlF : ((i : Int) == (s.size : Int) - 1) = false := beqI (by omega)
      have c2 : inI64 ((i : Int) - 1) := ⟨by omega, by omega⟩
      have c3 : (0 : Int) ≤ (i : Int) - 1 ∧ (i : Int) - 1 < (s.size : Int) := ⟨by omega, by omega⟩
      by_cases hp : bytN s (i - 1) = 46
      · exact to_end none 4000 (rd_x3 s i J) (hI _ (all_cons hdT (all_cons h0F (all_cons c1 (all_cons hlF (all_cons c2 (all_cons c3 (all_cons (eqT (by rw [hprev h0]; exact hp)) all_nil)))))))) fun H _ => hno (hbad fun h => by rcases h with h | h; exact hok h; exact h.2.2.2 hp) H
      · exact to_turn (some (1, 3)) 4000 (i + 1) (hnext (.inr ⟨hd, h0, hl, hp⟩)) (rd_t0 s i J) (rd_names s i (i + 1)) (hI _ (all_cons hdT (all_cons h0F (all_cons c1 (all_cons hlF (all_cons c2 (all_cons c3 (all_cons (beqI (by rw [hprev h0]; exact hp)) (app_all (rep_all (bneF hd) 3) (all_cons h64 all_nil))))))))))
    · have hC : ∀ q : List Prop, (∀ p ∈ q, p) → ∀ p ∈ chrC s i q, p := fun q hq => app_all (rep_all (beqI hd) 7) (all_cons (bneT hd) hq)
      have hbad' : ¬ okc (bytN s i) → ¬ rlmP s := fun hc => hbad fun h => by rcases h with h | h; exact hc h; exact hd h.1
      by_cases a3 : bytN s i = 45
      · exact to_turn (some (1, 3)) 4000 (i + 1) (hnext (.inl (.inr (.inr a3)))) (rd_ta s i J) (rd_names s i (i + 1)) (hI _ (hC _ (app_all (rep_all (bneF a3) 6) (all_cons h64 all_nil))))
      have a3T := bneT a3
      have hL : bytN s i < 65 → ∀ q : List Prop, (∀ p ∈ q, p) → ∀ p ∈ lowC s i q, p := fun hl q hq => hC _ (all_cons a3T (app_all (rep_all (decide_eq_false (by omega)) 3) hq))
      by_cases a1 : 65 ≤ bytN s i
      · by_cases a2 : bytN s i ≤ 90
        · exact to_turn (some (1, 3)) 4000 (i + 1) (hnext (.inl (.inl ⟨a1, a2⟩))) (rd_tb s i J) (rd_names s i (i + 1)) (hI _ (hC _ (all_cons a3T (all_cons (decide_eq_true a1) (app_all (rep_all (notF a2) 6) (all_cons h64 all_nil))))))
        · exact to_end none 4000 (rd_n3 s i J) (hI _ (hC _ (all_cons a3T (all_cons (decide_eq_true a1) (all_cons (notT a2) (all_cons (decide_eq_true (by omega)) (all_cons (notT (by omega)) all_nil))))))) fun H _ => hno (hbad' fun h => by rcases h with h | h | h <;> omega) H
      · by_cases a4 : 48 ≤ bytN s i
        · by_cases a5 : bytN s i ≤ 57
          · exact to_turn (some (1, 3)) 4000 (i + 1) (hnext (.inl (.inr (.inl ⟨a4, a5⟩)))) (rd_tc s i J) (rd_names s i (i + 1)) (hI _ (hL (by omega) _ (all_cons (decide_eq_true a4) (all_cons (notF a5) (all_cons h64 all_nil)))))
          · exact to_end none 4000 (rd_n2 s i J) (hI _ (hL (by omega) _ (all_cons (decide_eq_true a4) (all_cons (notT a5) all_nil)))) fun H _ => hno (hbad' fun h => by rcases h with h | h | h <;> omega) H
        · exact to_end none 4000 (rd_n1 s i J) (hI _ (hL (by omega) _ (rep_all (decide_eq_false (by omega)) 3))) fun H _ => hno (hbad' fun h => by rcases h with h | h | h <;> omega) H
  · have e : i = s.size := by omega
    by_cases h1 : 1 ≤ s.size
    · refine to_end none 4000 (rd_end s i J) (all_cons (decide_eq_false (by omega)) (all_cons (decide_eq_true (by omega)) all_nil)) fun H _ => ⟨_, rfl, ?_⟩
      show decide ((s.size : Int) ≤ 32) = _
      by_cases h32 : s.size ≤ 32
      · rw [rlmB_true ⟨h1, h32, fun j hj => hi2 j (by omega)⟩]
        exact decide_eq_true (by omega)
      · rw [rlmB_false fun h => h32 h.2.1]
        exact decide_eq_false (by omega)
    · exact to_end none 4000 (rd_few s i J) (all_cons (decide_eq_false (by omega)) (rep_all (decide_eq_false (by omega)) 4)) fun H _ => hno (fun h => h1 h.1) H
noncomputable def rldS : Summ := fun args _ _ => args1 args fun v => optC (strV v) (.stuck 7795) fun s => .need (s.den.size ≤ 9223372036854775807) (.ok ⟨.bool (.sym (rlmB s.den)), [], []⟩)
theorem rldOK : SumOK Tryd.prog 22 rldS := by
  intro glob O w0 β H w base args vs hH hG ha
  refine args1_sat fun v hv => optC_only fun s hs => fun hb => ?_
  rw [hv, strV_spec hs] at ha
  have ha := impL_cons (str_imp (t := .sym s.den) rfl) impL_nil _ _ ha
  show SumSem Tryd.prog H β w base _ vs ⟨.bool (.sym (rlmB s.den)), [], []⟩
  generalize s.den = s at ha hb ⊢
  let I : Ifc := ⟨[], [], [.str (.sym s)]⟩
  exact sum_runsQ (c := cfgX) hH I (by intro g j hg; cases hg) ha (fits0 rfl).q [] (by simp) (by simp) (runs_mono (rd_runs s hb) fun v H h => bool_ends rfl h)
end Go.Proofs.YtbhhagnpgkjmgaaDoor.Aes


/-
  Slices of strings, wherever they lie.
-/
namespace Go.Proofs.YtbhhagnpgkjmgaaDoor.Aes
open Go.Sim
open Go.Proofs
variable {α : Type}

noncomputable def strF (S : Nat → ByteArray) : Nat → SV := fun i => .str (.sym (S i))
def IsS (g : Nat → SV) : Prop := ∀ i, g i = .str (.sym (strD (g i)))
theorem strF_isS (S : Nat → ByteArray) : IsS (strF S) := fun _ => rfl
theorem isS_eq {g : Nat → SV} (h : IsS g) : strF (fun i => strD (g i)) = g := funext fun i => (h i).symm
noncomputable def uns (l : List SV) : Option (List ByteArray) := List.rec (motive := fun _ => Option (List ByteArray)) (some []) (fun v _ ih => optC (strV v) none fun s => optC ih none fun xs => some (s.den :: xs)) l
noncomputable def strAt (l : List ByteArray) (i : Nat) : ByteArray := (l[i]?).getD .empty
noncomputable def sx (l : List ByteArray) : List SV := mapN (fun s => SV.str (.sym s)) l
theorem optC_optS {β γ : Type} {o : Option β} {f : β → Option γ} {r : γ} (h : optC o none f = some r) : ∃ x, o = some x ∧ f x = some r := by
  cases o with
  | none => cases h
  | some x => exact ⟨x, rfl, h⟩
theorem uns_imp : ∀ {l : List SV} {xs : List ByteArray}, uns l = some xs → SV.ImpL l (sx xs)
  | [], xs, h => by cases h; exact SV.ImpL.refl _
  | v :: l, xs, h => by
    obtain ⟨s, hs, h⟩ := optC_optS (show (optC (strV v) none fun s => optC (uns l) none fun xs => some (s.den :: xs)) = some xs from h)
    obtain ⟨ys, hy, h⟩ := optC_optS h
    cases h
    rw [strV_spec hs]
    exact impL_cons (str_imp (t := .sym s.den) rfl) (uns_imp hy)
theorem sx_rel {γ : Val} : ∀ {xs : List ByteArray} {vs : List Value}, SV.denL γ (sx xs) = some vs → CellsRel γ (.fn (strF (strAt xs)) xs.length) vs
  | [], vs, h => by cases h; exact ⟨rfl, fun i x hx => by simp at hx⟩
  | x :: xs, vs, h => by
    obtain ⟨v, us, hv, hu, rfl⟩ := denL_cons.1 (show SV.denL γ (.str (.sym x) :: sx xs) = some vs from h)
    obtain ⟨h1, h2⟩ := sx_rel hu
    refine ⟨by simp [h1], fun i y hy => ?_⟩
    cases i with
    | zero =>
      simp at hy; subst hy
      cases hv; rfl
    | succ i => exact h2 i y (by simpa using hy)
noncomputable def strsC (c : Cells) (f : (Nat → ByteArray) → Nat → R α) : R α :=
  Cells.rec (motive := fun _ => R α) (fun l => optC (uns l) (.stuck 7801) fun xs => f (strAt xs) (lenN xs)) (fun g n => .need (IsS g) (f (fun i => strD (g i)) n)) (fun _ _ => .stuck 7802) c
noncomputable def strsE (e : Option SO) (f : (Nat → ByteArray) → Nat → R α) : R α :=
  optC e (.stuck 7803) fun e => SO.rec (motive := fun _ => R α) (fun c _ _ => strsC c f) (fun c => strsC c f) (fun _ _ _ _ _ _ _ _ => .stuck 7804) (fun _ => .stuck 7804) (.stuck 7804) (fun _ => .stuck 7804) e
theorem strsC_sat {c : Cells} {f : (Nat → ByteArray) → Nat → R α} {φ : α → Prop} (h : ∀ S n, c.Imp (.fn (strF S) n) → (f S n).Sat φ) : (strsC c f).Sat φ := by
  cases c with
  | lst l =>
    refine optC_only fun xs hx => h _ _ fun γ vs hv => ?_
    rw [lenN_eq]
    exact sx_rel (uns_imp hx _ _ hv)
  | fn g n =>
    intro hg
    refine h _ _ ?_
    rw [isS_eq hg]; exact .refl _
  | raw V n => trivial
theorem strsE_sat {e : Option SO} {f : (Nat → ByteArray) → Nat → R α} {φ : α → Prop} (h : ∀ S n, (∀ g, ∃ e', e = some e' ∧ Taken g (rowSt S n) e') → (f S n).Sat φ) : (strsE e f).Sat φ := by
  refine optC_only fun e' he => ?_
  cases e' with
  | own c w el => exact strsC_sat fun S n hi => h S n fun g => ⟨_, he, taken_row (c0 := c) (.inr ⟨w, el, rfl⟩) hi.front⟩
  | row c => exact strsC_sat fun S n hi => h S n fun g => ⟨_, he, taken_row (c0 := c) (.inl rfl) hi.front⟩
  | loop => trivial
  | deferred => trivial
  | gone => trivial
  | obj => trivial
theorem rowSt_uses (p : Nat → Bool) (S : Nat → ByteArray) (n : Nat) : (rowSt S n).CUses p := fun _ => rfl
/-- a slice of strings: those of its block, their number; the place, the length; the capacity: a number, or what there is -/
structure Ss where
  S : Nat → ByteArray
  N : Nat
  o : Nat
  n : Nat
  b : Bool
  k : Nat
noncomputable def Ss.row (s : Ss) : SO := rowSt s.S s.N
noncomputable def Ss.val (s : Ss) (nm : Nat) : SV := .slice ⟨nm, .sym s.o⟩ (.sym s.n) (boolC s.b (.rest nm s.k) (.sym s.k))
noncomputable def Ss.at (s : Ss) (i : Nat) : ByteArray := s.S (s.o + i)
noncomputable def Ss.pl (s : Ss) (m : Nat) : Ss := ⟨s.S, s.N, s.o, s.n, false, m⟩
def Ss.ok (s : Ss) : Prop := s.o + s.n ≤ s.N ∧ s.n ≤ 1099511627776
noncomputable def capL (nm : Nat) (c : SC) : Option (Bool × Nat) := SC.rec (motive := fun _ => Option (Bool × Nat)) (fun m => some (false, m)) (fun m => some (false, m)) (fun q k => boolC (Nat.beq q nm) (some (true, k)) none) c
theorem capL_den {nm : Nat} {c : SC} {bk : Bool × Nat} (h : capL nm c = some bk) (γ : Val) : c.den γ = (boolC bk.1 (.rest nm bk.2) (.sym bk.2) : SC).den γ := by
  cases c with
  | lit m => cases h; rfl
  | sym m => cases h; rfl
  | rest q k =>
    have h : boolC (Nat.beq q nm) (some (true, k)) none = some bk := h
    cases hq : Nat.beq q nm with
    | false => rw [hq] at h; cases h
    | true =>
      rw [hq] at h
      cases h
      rw [Nat.eq_of_beq_eq_true hq]; rfl
noncomputable def nilSs : Ss := ⟨fun _ => .empty, 0, 0, 0, false, 0⟩
noncomputable def partSs (H : List SO) (v : SV) (f : Ss → Nat → R α) : R α := v.asSlice (.stuck 7805) fun a l c => optC (capL a.nm c) (.stuck 7806) fun bk => strsE (nth H a.nm) fun S N => f ⟨S, N, a.off.den, l.den, bk.1, bk.2⟩ a.nm
theorem partSs_sat {H : List SO} {v : SV} {f : Ss → Nat → R α} {φ : α → Prop} (h : ∀ t nm, (∀ g, ∃ e', H[nm]? = some e' ∧ Taken g t.row e') → v.Imp (t.val nm) → (f t nm).Sat φ) : (partSs H v f).Sat φ := by
  unfold partSs
  rcases asSlice_cases v with ⟨a, l, c, rfl⟩ | hv
  · refine optC_only fun bk hbk => strsE_sat fun S N ht => h ⟨S, N, a.off.den, l.den, bk.1, bk.2⟩ a.nm (fun g => by rw [← nth_eq]; exact ht g) fun γ x hx => ?_
    rw [den_slice] at hx
    obtain ⟨A, C, hA, hC, hle, rfl⟩ := hx
    rw [show (Ss.val ⟨S, N, a.off.den, l.den, bk.1, bk.2⟩ a.nm) = .slice ⟨a.nm, .sym a.off.den⟩ (.sym l.den) (boolC bk.1 (.rest a.nm bk.2) (.sym bk.2)) from rfl, den_slice]
    exact ⟨A, C, hA, by rw [← capL_den hbk]; exact hC, hle, rfl⟩
  · rw [hv]; trivial
/-- or nil -/
noncomputable def optSs (H : List SO) (v : SV) (f : Ss → Option Nat → R α) : R α := sliceR v (f nilSs none) fun _ _ => partSs H v fun t tn => f t (some tn)
theorem optSs_sat {H : List SO} {v : SV} {f : Ss → Option Nat → R α} {φ : α → Prop} (h0 : v = .nilSlice → (f nilSs none).Sat φ) (h : ∀ t nm, (∀ g, ∃ e', H[nm]? = some e' ∧ Taken g t.row e') → v.Imp (t.val nm) → (f t (some nm)).Sat φ) : (optSs H v f).Sat φ :=
  sliceR_sat h0 fun _ _ _ _ => partSs_sat h
theorem Ss.row_uses (t : Ss) (p : Nat → Bool) : t.row.CUses p := rowSt_uses _ _ _
theorem Ss.val_ren (t : Ss) (f : Nat → Nat) (nm : Nat) : (t.val nm).ren f = t.val (f nm) := by
  unfold Ss.val
  cases t.b <;> rfl
theorem Ss.val_uses (t : Ss) (p : Nat → Bool) (nm : Nat) (h : p nm = true) : (t.val nm).uses p = true := by
  unfold Ss.val
  cases t.b with
  | false => show p nm && true = true; rw [h]; rfl
  | true => show (p nm && p nm) = true; rw [h]; rfl
theorem Ss.val_den {t : Ss} {nm : Nat} {γ : Val} {x : Value} (h : (t.val nm).den γ = some x) : ∃ m, t.n ≤ m ∧ ((t.pl m).val nm).den γ = some x := by
  obtain ⟨m, hm, hd, _, _⟩ := slice_den (show (SV.slice ⟨nm, .sym t.o⟩ (.sym t.n) (boolC t.b (.rest nm t.k) (.sym t.k))).den γ = some x from h)
  exact ⟨m, hm, hd⟩
end Go.Proofs.YtbhhagnpgkjmgaaDoor.Aes


/-
  Slices of strings: few, realms, valid.
-/
namespace Go.Proofs.YtbhhagnpgkjmgaaDoor.Aes
open Go.Sim
open Go.Proofs
variable {α : Type}

set_option maxRecDepth 1000000
/-- a loop that asks the same of all -/
theorem all_loop {c : Cfg} (hc : CfgOK c) (C : Nat → Cut) (p : Nat → Prop) (n : Nat) {D : SV → List SO → Prop} {f : FuncId} {args : List SV} {H : List SO} (hgl : ∀ g nm, c.glob g = some nm → nm < H.length)
    (h0 : ∀ Q : Nat → Prop, Q 0 → Starts c H.length C Q D f args H)
    (h1 : ∀ i, i < n → p i → ∀ J (Q : Nat → Prop), Q (i + 1) → TurnsTo c H.length C Q D ((C i).fill J))
    (h2 : ∀ i, i < n → ¬ p i → ∀ J (Q : Nat → Prop), TurnsTo c H.length C Q D ((C i).fill J))
    (h3 : (∀ j, j < n → p j) → ∀ J (Q : Nat → Prop), TurnsTo c H.length C Q D ((C n).fill J)) : Runs c f args H D := by
  refine runs_by hc C (fun i => i ≤ n ∧ ∀ j, j < i → p j) (fun i => n - i) hgl (h0 _ ⟨Nat.zero_le _, fun j hj => by omega⟩) fun i hi J => ?_
  by_cases hin : i < n
  · by_cases hp : p i
    · refine h1 i hin hp J _ ⟨⟨by omega, fun j hj => ?_⟩, by omega⟩
      by_cases c : j < i
      · exact hi.2 j c
      · obtain rfl : j = i := by omega
        exact hp
    · exact h2 i hin hp J _
  · have e : i = n := by have := hi.1; omega
    subst e
    exact h3 hi.2 J _
noncomputable def cB (p : Prop) : Bool := @decide p (Classical.propDecidable _)
theorem cB_true {p : Prop} (h : p) : cB p = true := @decide_eq_true _ (Classical.propDecidable _) h
theorem cB_false {p : Prop} (h : ¬ p) : cB p = false := @decide_eq_false _ (Classical.propDecidable _) h
def isBool (t : Bool) (v : SV) : Prop := ∃ b, v = .bool b ∧ b.den = t
noncomputable def rlL : List (FuncId × Summ) := [(33, rlmS), (22, rldS)]
theorem rlLOK : ∀ y ∈ rlL, SumOK Tryd.prog y.1 y.2 := allC rlmOK (all1 rldOK)
noncomputable def cfgL : Cfg := cfgOf (sumsOf rlL)
theorem cfgLOK : CfgOK cfgL := sumsOf_ok rlLOK
noncomputable def inS (t : Ss) (i : Nat) (q : List Prop) : List Prop := (decide ((i : Int) < (t.n : Int)) = true) :: ((0 : Int) ≤ (i : Int) ∧ (i : Int) < (t.n : Int)) :: (t.o + i * 1 < t.N) :: q
noncomputable def Ss.el (t : Ss) (i : Nat) : ByteArray := t.S (t.o + i * 1)
theorem Ss.el_at (t : Ss) (i : Nat) : t.el i = t.at i := by unfold Ss.el Ss.at; rw [Nat.mul_one]
theorem inS_all {t : Ss} {i : Nat} (ht : t.ok) (h : i < t.n) {q : List Prop} (hq : ∀ p ∈ q, p) : ∀ p ∈ inS t i q, p := by
  have := ht.1
  exact all_cons (decide_eq_true (by omega)) (all_cons ⟨by omega, by omega⟩ (all_cons (by omega) hq))
section
variable (t : Ss) (k : Nat) (m : Int) (i : Nat) (J : Junk) (z : Nat → Nat → Nat)
noncomputable def fwT (st : Option (Nat × Nat)) (v : SV) (H : List SO) (m : Int) : Tree := callSim (cfgL.at st) 4000 4 [v, .int .i64 (.sym m)] H
noncomputable def rsT (st : Option (Nat × Nat)) (v : SV) (H : List SO) : Tree := callSim (cfgL.at st) 4000 20 [v] H
noncomputable def vdT (st : Option (Nat × Nat)) (v : SV) (H : List SO) : Tree := callSim (cfgL.at st) 4000 25 [v] H
noncomputable def fwC : Cut := ⟨bareFs (stopOf (fwT (some (1, 3)) ((t.pl k).val 0) [(t.pl k).row] m) [false]).frames [[(0, (t.pl k).val 0), (5, .int .i64 (.sym i))]], [.ent t.row]⟩
noncomputable def rsC : Cut := ⟨bareFs (stopOf (rsT (some (1, 3)) ((t.pl k).val 0) [(t.pl k).row]) []).frames [[(5, (t.pl k).val 0), (6, .int .i64 (.sym (t.n : Int))), (7, .int .i64 (.sym i))]], [.ent t.row]⟩
noncomputable def vdC : Cut := ⟨bareFs (stopOf (vdT (some (1, 3)) ((t.pl k).val 0) [(t.pl k).row]) []).frames [[(0, (t.pl k).val 0), (3, .int .i64 (.sym i))]], [.ent t.row]⟩
theorem fw_nil0 : outO [] (fwT none .nilSlice [] m) [false] = ([decide ((0 : Int) > m) = false], some (.bool (.lit true), [])) := by kernel_rfl
theorem fw_nil1 : outO [] (fwT none .nilSlice [] m) [true] = ([decide ((0 : Int) > m) = true], some (.bool (.lit false), [])) := by kernel_rfl
theorem rs_nil : outO [] (rsT none .nilSlice []) [] = ([], some (.bool (.lit true), [])) := by kernel_rfl
theorem vd_nil : outO [] (vdT none .nilSlice []) [] = ([], some (.bool (.lit true), [])) := by kernel_rfl
theorem fw_init : outL [] (fwC t k m 0) [0] (fwT (some (1, 3)) ((t.pl k).val 0) [(t.pl k).row] m) [false] z = ([decide ((t.n : Int) > m) = false], some (.inr (modSeen [(0, 5, .int .i64 (.lit 0))] [] (seenC [0] 1 (fwC t k m 0))))) := by kernel_rfl
theorem rs_init : outL [] (rsC t k 0) [0] (rsT (some (1, 3)) ((t.pl k).val 0) [(t.pl k).row]) [] z = ([], some (.inr (modSeen [(0, 7, .int .i64 (.lit 0))] [] (seenC [0] 1 (rsC t k 0))))) := by kernel_rfl
theorem vd_init : outL [] (vdC t k 0) [0] (vdT (some (1, 3)) ((t.pl k).val 0) [(t.pl k).row]) [] z = ([], some (.inr (modSeen [(0, 3, .int .i64 (.lit 0))] [] (seenC [0] 1 (vdC t k 0))))) := by kernel_rfl
theorem fw_turn : outL [] (fwC t k m i) [0] (sim1 (cfgL.at (some (1, 3))) 4000 ((fwC t k m i).fill J)) [true, false] z = (inS t i [decide (((t.el i).size : Int) > 60) = false, inI64 ((i : Int) + 1)], some (.inr (seenC [0] 1 (fwC t k m (i + 1))))) := by kernel_rfl
theorem rs_turn : outL [] (rsC t k i) [0] (sim1 (cfgL.at (some (1, 3))) 4000 ((rsC t k i).fill J)) [true, false] z = (inS t i [(!rlmB (t.el i)) = false, inI64 ((i : Int) + 1)], some (.inr (seenC [0] 1 (rsC t k (i + 1))))) := by kernel_rfl
theorem vd_turn : outL [] (vdC t k i) [0] (sim1 (cfgL.at (some (1, 3))) 4000 ((vdC t k i).fill J)) [true, false] z = (inS t i [(t.el i).size ≤ 9223372036854775807, (!rlmB (t.el i)) = false, inI64 ((i : Int) + 1)], some (.inr (seenC [0] 1 (vdC t k (i + 1))))) := by kernel_rfl
theorem fw_fail : outL [] (fwC t k m i) [0] (sim1 (cfgL.at none) 4000 ((fwC t k m i).fill J)) [true, true] z = (inS t i [decide (((t.el i).size : Int) > 60) = true], noR) := by kernel_rfl
theorem rs_fail : outL [] (rsC t k i) [0] (sim1 (cfgL.at none) 4000 ((rsC t k i).fill J)) [true, true] z = (inS t i [(!rlmB (t.el i)) = true], noR) := by kernel_rfl
theorem vd_fail : outL [] (vdC t k i) [0] (sim1 (cfgL.at none) 4000 ((vdC t k i).fill J)) [true, true] z = (inS t i [(t.el i).size ≤ 9223372036854775807, (!rlmB (t.el i)) = true], noR) := by kernel_rfl
theorem fw_end : outL [] (fwC t k m i) [0] (sim1 (cfgL.at none) 4000 ((fwC t k m i).fill J)) [false] z = ([decide ((i : Int) < (t.n : Int)) = false], yesR) := by kernel_rfl
theorem rs_end : outL [] (rsC t k i) [0] (sim1 (cfgL.at none) 4000 ((rsC t k i).fill J)) [false] z = ([decide ((i : Int) < (t.n : Int)) = false], yesR) := by kernel_rfl
theorem vd_end : outL [] (vdC t k i) [0] (sim1 (cfgL.at none) 4000 ((vdC t k i).fill J)) [false] z = ([decide ((i : Int) < (t.n : Int)) = false], yesR) := by kernel_rfl
theorem fw_names (j : Nat) : boolC (namesOK 1 [0] (fwC t k m i) (fwC t k m j)) (allN noLoopE (fwC t k m j).heap) false = true := by kernel_rfl
theorem rs_names (j : Nat) : boolC (namesOK 1 [0] (rsC t k i) (rsC t k j)) (allN noLoopE (rsC t k j).heap) false = true := by kernel_rfl
theorem vd_names (j : Nat) : boolC (namesOK 1 [0] (vdC t k i) (vdC t k j)) (allN noLoopE (vdC t k j).heap) false = true := by kernel_rfl
theorem fw_tmp : (((fwC t k m i).frames[0]?).bind fun p => p.tmps[5]?) = some (some (.int .i64 (.sym i))) := by kernel_rfl
theorem rs_tmp : (((rsC t k i).frames[0]?).bind fun p => p.tmps[7]?) = some (some (.int .i64 (.sym i))) := by kernel_rfl
theorem vd_tmp : (((vdC t k i).frames[0]?).bind fun p => p.tmps[3]?) = some (some (.int .i64 (.sym i))) := by kernel_rfl
end
/- What comes of it. -/
def fewP (t : Ss) (m : Int) : Prop := (t.n : Int) ≤ m ∧ ∀ i, i < t.n → (t.at i).size ≤ 60
def rlsP (t : Ss) : Prop := ∀ i, i < t.n → rlmP (t.at i)
theorem rlm_not {s : ByteArray} : rlmP s → (!rlmB s) = false := fun h => by rw [rlmB_true h]; rfl
theorem rlm_not' {s : ByteArray} : ¬ rlmP s → (!rlmB s) = true := fun h => by rw [rlmB_false h]; rfl
theorem fw_runs {t : Ss} (k : Nat) {m : Int} (ht : t.ok) (hm : (t.n : Int) ≤ m) : Runs cfgL 4 [(t.pl k).val 0, .int .i64 (.sym m)] [(t.pl k).row] fun v _ => isBool (cB (fewP t m)) v := by
  have hn := ht.2
  refine all_loop cfgLOK (fwC t k m) (fun i => (t.at i).size ≤ 60) t.n (fun g nm hg => by cases hg) (fun Q hQ => ?_) (fun i hi hp J Q hQ => ?_) (fun i hi hp J Q => ?_) (fun hp J Q => ?_)
  · refine to_startM (some (1, 3)) 4000 0 hQ (fw_init t k m) (fw_names t k m 0 0) (fun q hq p u hp hu => ?_) (fun e he => by cases he) (all_cons (decide_eq_false (by omega)) all_nil)
    obtain rfl : q = (0, 5, .int .i64 (.lit 0)) := by simpa using hq
    exact tmp_set (fw_tmp t k m 0) hp hu (int_impS rfl)
  · exact to_turn (some (1, 3)) 4000 (i + 1) hQ (fw_turn t k m i J) (fw_names t k m i (i + 1)) (inS_all ht hi (all_cons (decide_eq_false (by rw [t.el_at]; omega)) (all_cons ⟨by omega, by omega⟩ all_nil)))
  · exact to_end none 4000 (fw_fail t k m i J) (inS_all ht hi (all_cons (decide_eq_true (by rw [t.el_at]; omega)) all_nil)) fun H _ => ⟨_, rfl, (cB_false fun h => hp (h.2 i hi)).symm⟩
  · exact to_end none 4000 (fw_end t k m t.n J) (all_cons (decide_eq_false (by omega)) all_nil) fun H _ => ⟨_, rfl, (cB_true ⟨hm, hp⟩).symm⟩
theorem rs_runs {t : Ss} (k : Nat) (ht : t.ok) : Runs cfgL 20 [(t.pl k).val 0] [(t.pl k).row] fun v _ => isBool (cB (rlsP t)) v := by
  have hn := ht.2
  refine all_loop cfgLOK (rsC t k) (fun i => rlmP (t.at i)) t.n (fun g nm hg => by cases hg) (fun Q hQ => ?_) (fun i hi hp J Q hQ => ?_) (fun i hi hp J Q => ?_) (fun hp J Q => ?_)
  · refine to_startM (some (1, 3)) 4000 0 hQ (rs_init t k) (rs_names t k 0 0) (fun q hq p u hp hu => ?_) (fun e he => by cases he) all_nil
    obtain rfl : q = (0, 7, .int .i64 (.lit 0)) := by simpa using hq
    exact tmp_set (rs_tmp t k 0) hp hu (int_impS rfl)
  · exact to_turn (some (1, 3)) 4000 (i + 1) hQ (rs_turn t k i J) (rs_names t k i (i + 1)) (inS_all ht hi (all_cons (by rw [t.el_at]; exact rlm_not hp) (all_cons ⟨by omega, by omega⟩ all_nil)))
  · exact to_end none 4000 (rs_fail t k i J) (inS_all ht hi (all_cons (by rw [t.el_at]; exact rlm_not' hp) all_nil)) fun H _ => ⟨_, rfl, (cB_false fun h => hp (h i hi)).symm⟩
  · exact to_end none 4000 (rs_end t k t.n J) (all_cons (decide_eq_false (by omega)) all_nil) fun H _ => ⟨_, rfl, (cB_true hp).symm⟩
theorem vd_runs {t : Ss} (k : Nat) (ht : t.ok) (hs : ∀ i, i < t.n → (t.at i).size ≤ 9223372036854775807) : Runs cfgL 25 [(t.pl k).val 0] [(t.pl k).row] fun v _ => isBool (cB (rlsP t)) v := by
  have hn := ht.2
  refine all_loop cfgLOK (vdC t k) (fun i => rlmP (t.at i)) t.n (fun g nm hg => by cases hg) (fun Q hQ => ?_) (fun i hi hp J Q hQ => ?_) (fun i hi hp J Q => ?_) (fun hp J Q => ?_)
  · refine to_startM (some (1, 3)) 4000 0 hQ (vd_init t k) (vd_names t k 0 0) (fun q hq p u hp hu => ?_) (fun e he => by cases he) all_nil
    obtain rfl : q = (0, 3, .int .i64 (.lit 0)) := by simpa using hq
    exact tmp_set (vd_tmp t k 0) hp hu (int_impS rfl)
  · exact to_turn (some (1, 3)) 4000 (i + 1) hQ (vd_turn t k i J) (vd_names t k i (i + 1)) (inS_all ht hi (all_cons (by rw [t.el_at]; exact hs i hi) (all_cons (by rw [t.el_at]; exact rlm_not hp) (all_cons ⟨by omega, by omega⟩ all_nil))))
  · exact to_end none 4000 (vd_fail t k i J) (inS_all ht hi (all_cons (by rw [t.el_at]; exact hs i hi) (all_cons (by rw [t.el_at]; exact rlm_not' hp) all_nil))) fun H _ => ⟨_, rfl, (cB_false fun h => hp (h i hi)).symm⟩
  · exact to_end none 4000 (vd_end t k t.n J) (all_cons (decide_eq_false (by omega)) all_nil) fun H _ => ⟨_, rfl, (cB_true hp).symm⟩
end Go.Proofs.YtbhhagnpgkjmgaaDoor.Aes


/-
  Slices of strings: the summaries of few, realms, valid.
-/
namespace Go.Proofs.YtbhhagnpgkjmgaaDoor.Aes
open Go.Sim
open Go.Proofs
variable {α : Type}

set_option maxRecDepth 1000000
theorem ss_sem {g : FuncId → Option Summ} {f : FuncId} {O : Nat → Prop} {w0 w : World} {β : Val} {H : List SO} {base : Nat} {vs : List Value} (hH : HeapRel0 Tryd.prog O w0 β H w) {v : SV} {t : Ss} {nm : Nat} {rest : List SV} (ha : SV.denL β (v :: rest) = some vs)
    (ht : ∀ g, ∃ e', H[nm]? = some e' ∧ Taken g t.row e') (hi : v.Imp (t.val nm)) (hr : ∀ f, SV.renL f rest = rest) (hu : ∀ p, SV.usesL p rest = true) {b : Bool} (hrun : ∀ k, Runs (cfgOf g) f ((t.pl k).val 0 :: rest) [t.row] fun v _ => isBool b v) :
    SumSem Tryd.prog H β w base f vs ⟨.bool (.sym b), [], []⟩ := by
  obtain ⟨x, ys, hx, hys, rfl⟩ := denL_cons.1 ha
  obtain ⟨k, _, hx'⟩ := Ss.val_den (hi _ _ hx)
  refine sum_runsQ (c := cfgOf g) hH ⟨[nm], [t.row], (t.pl k).val 0 :: rest⟩ (by intro g j hg; cases hg) ?_ (Ifc.fitsQ (by simp) ?_ ⟨⟨ht _, t.row_uses _⟩, trivial⟩) [] (by simp) (by simp) (runs_mono (hrun k) fun v H h => bool_ends rfl h)
  · show SV.denL β (((t.pl k).val 0).ren _ :: SV.renL _ rest) = _
    rw [Ss.val_ren, hr]; exact denL_cons.2 ⟨_, _, hx', hys, rfl⟩
  · show (((t.pl k).val 0).uses _ && SV.usesL _ rest) = true
    rw [Ss.val_uses _ _ _ rfl, hu]; rfl
theorem i0_sem {g : FuncId → Option Summ} (hc : CfgOK (cfgOf g)) {f : FuncId} {O : Nat → Prop} {w0 w : World} {β : Val} {H : List SO} {base : Nat} {vs : List Value} (hH : HeapRel0 Tryd.prog O w0 β H w) {args : List SV} (ha : SV.denL β args = some vs) (hr : ∀ f, SV.renL f args = args) (hu : ∀ p, SV.usesL p args = true)
    {b t : Bool} {ds : List Bool} {ps : List Prop} {n : Nat} (hrun : outO [] (callSim (cfgOf g) n f args []) ds = (ps, some (.bool (.lit b), []))) (hp : ∀ p ∈ ps, p) (hb : b = t) : SumSem Tryd.prog H β w base f vs ⟨.bool (.sym t), [], []⟩ := by
  subst hb
  refine sum_runQ hc n hH ⟨[], [], args⟩ (by intro g j hg; cases hg) ?_ (Ifc.fitsQ (by simp) (hu _) trivial) [] (by simp) (by simp) (outO_ob hrun hp fun H2 _ => bool_ends rfl ⟨_, rfl, rfl⟩)
  show SV.denL β (SV.renL _ args) = _
  rw [hr]; exact ha
noncomputable def i64V (v : SV) : Option SI := v.asInt none fun k n => boolC (i64K k) (some n) none
theorem i64V_spec {v : SV} {n : SI} (h : i64V v = some n) : v = .int .i64 n := by
  cases v <;> first | (cases h; done) | skip
  rename_i k m
  cases k <;> first | (cases h; rfl) | (cases h; done)
noncomputable def bR (p : Prop) : SumRes := ⟨.bool (.sym (cB p)), [], []⟩
noncomputable def fewS : Summ := fun args H _ => args2 args fun v mv => optC (i64V mv) (.stuck 7810) fun m => optSs H v fun t _ => .need ((t.n : Int) ≤ m.den → t.ok) (.ok (bR (fewP t m.den)))
noncomputable def rlsS : Summ := fun args H _ => args1 args fun v => optSs H v fun t _ => .need t.ok (.ok (bR (rlsP t)))
noncomputable def vldS : Summ := fun args H _ => args1 args fun v => optSs H v fun t _ => .need (t.ok ∧ ∀ i, i < t.n → (t.at i).size ≤ 9223372036854775807) (.ok (bR (rlsP t)))
theorem fewOK : SumOK Tryd.prog 4 fewS := by
  intro glob O w0 β H w base args vs hH hG ha
  refine args2_sat fun v mv hv => optC_only fun m hm => ?_
  rw [hv, i64V_spec hm] at ha
  have ha := impL_cons (.refl v) (impL_cons (int_impS (b := .sym m.den) rfl) impL_nil) _ _ ha
  refine optSs_sat (fun hn => fun _ => ?_) fun t nm ht hi => fun hok => ?_
  · rw [hn] at ha
    by_cases c : (0 : Int) > m.den
    · exact i0_sem cfgLOK hH ha (fun _ => rfl) (fun _ => rfl) (fw_nil1 m.den) (all_cons (decide_eq_true c) all_nil) (cB_false fun h => by have : (0 : Int) ≤ m.den := h.1; omega).symm
    · exact i0_sem cfgLOK hH ha (fun _ => rfl) (fun _ => rfl) (fw_nil0 m.den) (all_cons (decide_eq_false c) all_nil) (cB_true ⟨by show (0 : Int) ≤ m.den; omega, fun i hi => by have : i < 0 := hi; omega⟩).symm
  · refine ss_sem (g := sumsOf rlL) hH ha ht hi (fun _ => rfl) (fun _ => rfl) fun k => ?_
    by_cases c : (t.n : Int) ≤ m.den
    · exact fw_runs k (hok c) c
    · refine runs_by cfgLOK (fun _ : Nat => fwC t k m.den 0) (fun _ => False) (fun _ => 0) (fun g nm hg => by cases hg) ?_ fun _ h _ => h.elim
      refine start_end none 4000 (M := fwC t k m.den 0) (names := [0]) (js := []) (ds := [true]) (ps := [decide ((t.n : Int) > m.den) = true]) (v := .bool (.lit false)) (es := []) (fun z => ?_) (all_cons (decide_eq_true (by omega)) all_nil) fun H _ => ⟨_, rfl, (cB_false fun h => c h.1).symm⟩
      kernel_rfl
theorem rlsOK : SumOK Tryd.prog 20 rlsS := by
  intro glob O w0 β H w base args vs hH hG ha
  refine args1_sat fun v hv => ?_
  rw [hv] at ha
  refine optSs_sat (fun hn => fun _ => ?_) fun t nm ht hi => fun hok => ss_sem (g := sumsOf rlL) hH ha ht hi (fun _ => rfl) (fun _ => rfl) fun k => rs_runs k hok
  rw [hn] at ha
  exact i0_sem cfgLOK hH ha (fun _ => rfl) (fun _ => rfl) rs_nil all_nil (cB_true fun i hi => by have : i < 0 := hi; omega).symm
theorem vldOK : SumOK Tryd.prog 25 vldS := by
  intro glob O w0 β H w base args vs hH hG ha
  refine args1_sat fun v hv => ?_
  rw [hv] at ha
  refine optSs_sat (fun hn => fun _ => ?_) fun t nm ht hi => fun ⟨hok, hs⟩ => ss_sem (g := sumsOf rlL) hH ha ht hi (fun _ => rfl) (fun _ => rfl) fun k => vd_runs k hok hs
  rw [hn] at ha
  exact i0_sem cfgLOK hH ha (fun _ => rfl) (fun _ => rfl) vd_nil all_nil (cB_true fun i hi => by have : i < 0 := hi; omega).symm
end Go.Proofs.YtbhhagnpgkjmgaaDoor.Aes


/-
  Slices of strings: In, Index, Contains, same.
-/
namespace Go.Proofs.YtbhhagnpgkjmgaaDoor.Aes
open Go.Sim
open Go.Proofs
variable {α : Type}

set_option maxRecDepth 1000000
theorem all_loopP {c : Cfg} (hc : CfgOK c) (C : Nat → Cut) (p : Nat → Prop) (n : Nat) {D : SV → List SO → Prop} {f : FuncId} {args : List SV} {H : List SO} (hgl : ∀ g nm, c.glob g = some nm → nm < H.length)
    (h0 : ∀ Q : Nat → Prop, Q 0 → Starts c H.length C Q D f args H)
    (h1 : ∀ i, i < n → p i → ∀ J (Q : Nat → Prop), Q (i + 1) → TurnsTo c H.length C Q D ((C i).fill J))
    (h2 : ∀ i, i < n → ¬ p i → (∀ j, j < i → p j) → ∀ J (Q : Nat → Prop), TurnsTo c H.length C Q D ((C i).fill J))
    (h3 : (∀ j, j < n → p j) → ∀ J (Q : Nat → Prop), TurnsTo c H.length C Q D ((C n).fill J)) : Runs c f args H D := by
  refine runs_by hc C (fun i => i ≤ n ∧ ∀ j, j < i → p j) (fun i => n - i) hgl (h0 _ ⟨Nat.zero_le _, fun j hj => by omega⟩) fun i hi J => ?_
  by_cases hin : i < n
  · by_cases hp : p i
    · refine h1 i hin hp J _ ⟨⟨by omega, fun j hj => ?_⟩, by omega⟩
      by_cases c : j < i
      · exact hi.2 j c
      · obtain rfl : j = i := by omega
        exact hp
    · exact h2 i hin hp hi.2 J _
  · have e : i = n := by have := hi.1; omega
    subst e
    exact h3 hi.2 J _
section
variable (t u : Ss) (k k2 : Nat) (x : ByteArray) (i : Nat) (J : Junk) (z : Nat → Nat → Nat)
noncomputable def inT (st : Option (Nat × Nat)) (v : SV) (H : List SO) (x : ByteArray) : Tree := callSim (cfgL.at st) 4000 29 [v, .str (.sym x)] H
noncomputable def ixT (st : Option (Nat × Nat)) (v : SV) (H : List SO) (x : ByteArray) : Tree := callSim (cfgL.at st) 4000 23 [v, .str (.sym x)] H
noncomputable def saT (st : Option (Nat × Nat)) (v w : SV) (H : List SO) : Tree := callSim (cfgL.at st) 4000 14 [v, w] H
noncomputable def inC' : Cut := ⟨bareFs (stopOf (inT (some (1, 3)) ((t.pl k).val 0) [(t.pl k).row] x) []).frames [[(0, (t.pl k).val 0), (1, .str (.sym x)), (5, .int .i64 (.sym i))]], [.ent t.row]⟩
noncomputable def ixC : Cut := ⟨bareFs (stopOf (ixT (some (1, 3)) ((t.pl k).val 0) [(t.pl k).row] x) []).frames [[(0, (t.pl k).val 0), (1, .str (.sym x)), (6, (t.pl k).val 0), (7, .int .i64 (.sym (t.n : Int))), (8, .int .i64 (.sym i))]], [.ent t.row]⟩
noncomputable def saC : Cut := ⟨bareFs (stopOf (saT (some (1, 3)) ((t.pl k).val 0) ((u.pl k2).val 1) [(t.pl k).row, (u.pl k2).row]) [false]).frames [[(0, (t.pl k).val 0), (1, (u.pl k2).val 1), (5, .int .i64 (.sym i))]], [.ent t.row, .ent u.row]⟩
theorem in_nil : outO [] (inT none .nilSlice [] x) [] = ([], some (.bool (.lit false), [])) := by kernel_rfl
theorem ix_nil : outO [] (ixT none .nilSlice [] x) [] = ([], some (.int .i64 (.lit (-1)), [])) := by kernel_rfl
theorem in_init : outL [] (inC' t k x 0) [0] (inT (some (1, 3)) ((t.pl k).val 0) [(t.pl k).row] x) [] z = ([], some (.inr (modSeen [(0, 5, .int .i64 (.lit 0))] [] (seenC [0] 1 (inC' t k x 0))))) := by kernel_rfl
theorem ix_init : outL [] (ixC t k x 0) [0] (ixT (some (1, 3)) ((t.pl k).val 0) [(t.pl k).row] x) [] z = ([], some (.inr (modSeen [(0, 8, .int .i64 (.lit 0))] [] (seenC [0] 1 (ixC t k x 0))))) := by kernel_rfl
theorem sa_init : outL [] (saC t u k k2 0) [0, 1] (saT (some (1, 3)) ((t.pl k).val 0) ((u.pl k2).val 1) [(t.pl k).row, (u.pl k2).row]) [false] z = ([((t.n : Int) != (u.n : Int)) = false], some (.inr (modSeen [(0, 5, .int .i64 (.lit 0))] [] (seenC [0, 1] 2 (saC t u k k2 0))))) := by kernel_rfl
theorem in_turn : outL [] (inC' t k x i) [0] (sim1 (cfgL.at (some (1, 3))) 4000 ((inC' t k x i).fill J)) [true, false] z = (inS t i [decide (t.el i = x) = false, inI64 ((i : Int) + 1)], some (.inr (seenC [0] 1 (inC' t k x (i + 1))))) := by kernel_rfl
theorem ix_turn : outL [] (ixC t k x i) [0] (sim1 (cfgL.at (some (1, 3))) 4000 ((ixC t k x i).fill J)) [true, false] z = (inS t i [decide (x = t.el i) = false, inI64 ((i : Int) + 1)], some (.inr (seenC [0] 1 (ixC t k x (i + 1))))) := by kernel_rfl
theorem sa_turn : outL [] (saC t u k k2 i) [0, 1] (sim1 (cfgL.at (some (1, 3))) 4000 ((saC t u k k2 i).fill J)) [true, false] z = (inS t i (((0 : Int) ≤ (i : Int) ∧ (i : Int) < (u.n : Int)) :: (u.o + i * 1 < u.N) :: [(!decide (t.el i = u.el i)) = false, inI64 ((i : Int) + 1)]), some (.inr (seenC [0, 1] 2 (saC t u k k2 (i + 1))))) := by kernel_rfl
theorem in_yes : outL [] (inC' t k x i) [0] (sim1 (cfgL.at none) 4000 ((inC' t k x i).fill J)) [true, true] z = (inS t i [decide (t.el i = x) = true], yesR) := by kernel_rfl
theorem ix_yes : outL [] (ixC t k x i) [0] (sim1 (cfgL.at none) 4000 ((ixC t k x i).fill J)) [true, true] z = (inS t i [decide (x = t.el i) = true], some (.inl (.int .i64 (.sym (i : Int)), []))) := by kernel_rfl
theorem sa_no : outL [] (saC t u k k2 i) [0, 1] (sim1 (cfgL.at none) 4000 ((saC t u k k2 i).fill J)) [true, true] z = (inS t i (((0 : Int) ≤ (i : Int) ∧ (i : Int) < (u.n : Int)) :: (u.o + i * 1 < u.N) :: [(!decide (t.el i = u.el i)) = true]), noR) := by kernel_rfl
theorem in_end : outL [] (inC' t k x i) [0] (sim1 (cfgL.at none) 4000 ((inC' t k x i).fill J)) [false] z = ([decide ((i : Int) < (t.n : Int)) = false], noR) := by kernel_rfl
theorem ix_end : outL [] (ixC t k x i) [0] (sim1 (cfgL.at none) 4000 ((ixC t k x i).fill J)) [false] z = ([decide ((i : Int) < (t.n : Int)) = false], some (.inl (.int .i64 (.lit (-1)), []))) := by kernel_rfl
theorem sa_end : outL [] (saC t u k k2 i) [0, 1] (sim1 (cfgL.at none) 4000 ((saC t u k k2 i).fill J)) [false] z = ([decide ((i : Int) < (t.n : Int)) = false], yesR) := by kernel_rfl
theorem sa_len : outL [] (saC t u k k2 0) [0, 1] (saT none ((t.pl k).val 0) ((u.pl k2).val 1) [(t.pl k).row, (u.pl k2).row]) [true] z = ([((t.n : Int) != (u.n : Int)) = true], noR) := by kernel_rfl
theorem in_names (j : Nat) : boolC (namesOK 1 [0] (inC' t k x i) (inC' t k x j)) (allN noLoopE (inC' t k x j).heap) false = true := by kernel_rfl
theorem ix_names (j : Nat) : boolC (namesOK 1 [0] (ixC t k x i) (ixC t k x j)) (allN noLoopE (ixC t k x j).heap) false = true := by kernel_rfl
theorem sa_names (j : Nat) : boolC (namesOK 2 [0, 1] (saC t u k k2 i) (saC t u k k2 j)) (allN noLoopE (saC t u k k2 j).heap) false = true := by kernel_rfl
theorem in_tmp : (((inC' t k x i).frames[0]?).bind fun p => p.tmps[5]?) = some (some (.int .i64 (.sym i))) := by kernel_rfl
theorem ix_tmp : (((ixC t k x i).frames[0]?).bind fun p => p.tmps[8]?) = some (some (.int .i64 (.sym i))) := by kernel_rfl
theorem sa_tmp : (((saC t u k k2 i).frames[0]?).bind fun p => p.tmps[5]?) = some (some (.int .i64 (.sym i))) := by kernel_rfl
end
def inP (t : Ss) (x : ByteArray) : Prop := ∃ i, i < t.n ∧ t.at i = x
noncomputable def idxZ (t : Ss) (x : ByteArray) : Int := match (List.range t.n).find? fun i => cB (t.at i = x) with
  | some i => i
  | none => -1
def sameP (t u : Ss) : Prop := t.n = u.n ∧ ∀ i, i < t.n → t.at i = u.at i
theorem cB_iff {p : Prop} : cB p = true ↔ p := ⟨fun h => @of_decide_eq_true _ (Classical.propDecidable _) h, cB_true⟩
theorem idxZ_none {t : Ss} {x : ByteArray} (h : ∀ i, i < t.n → t.at i ≠ x) : idxZ t x = -1 := by
  unfold idxZ
  rw [List.find?_eq_none.2 fun i hi hc => h i (List.mem_range.1 hi) (cB_iff.1 hc)]
theorem idxZ_some {t : Ss} {x : ByteArray} {i : Nat} (hi : i < t.n) (h : t.at i = x) (hm : ∀ j, j < i → t.at j ≠ x) : idxZ t x = (i : Int) := by
  unfold idxZ
  rw [List.find?_range_eq_some.2 ⟨cB_iff.2 h, List.mem_range.2 hi, fun j hj => by rw [cB_false (hm j hj)]; rfl⟩]
theorem in_runs {t : Ss} (k : Nat) (x : ByteArray) (ht : t.ok) : Runs cfgL 29 [(t.pl k).val 0, .str (.sym x)] [t.row] fun v _ => isBool (cB (inP t x)) v := by
  have hn := ht.2
  refine all_loopP cfgLOK (inC' t k x) (fun i => t.at i ≠ x) t.n (fun g nm hg => by cases hg) (fun Q hQ => ?_) (fun i hi hp J Q hQ => ?_) (fun i hi hp _ J Q => ?_) (fun hp J Q => ?_)
  · refine to_startM (some (1, 3)) 4000 0 hQ (in_init t k x) (in_names t k x 0 0) (fun q hq p u hp hu => ?_) (fun e he => by cases he) all_nil
    obtain rfl : q = (0, 5, .int .i64 (.lit 0)) := by simpa using hq
    exact tmp_set (in_tmp t k x 0) hp hu (int_impS rfl)
  · exact to_turn (some (1, 3)) 4000 (i + 1) hQ (in_turn t k x i J) (in_names t k x i (i + 1)) (inS_all ht hi (all_cons (decide_eq_false (by rw [t.el_at]; exact hp)) (all_cons ⟨by omega, by omega⟩ all_nil)))
  · have hp : t.at i = x := Classical.not_not.1 hp
    exact to_end none 4000 (in_yes t k x i J) (inS_all ht hi (all_cons (decide_eq_true (by rw [t.el_at]; exact hp)) all_nil)) fun H _ => ⟨_, rfl, (cB_true ⟨i, hi, hp⟩).symm⟩
  · exact to_end none 4000 (in_end t k x t.n J) (all_cons (decide_eq_false (by omega)) all_nil) fun H _ => ⟨_, rfl, (cB_false fun ⟨i, hi, h⟩ => hp i hi h).symm⟩
theorem ix_runs {t : Ss} (k : Nat) (x : ByteArray) (ht : t.ok) : Runs cfgL 23 [(t.pl k).val 0, .str (.sym x)] [t.row] fun v _ => ∃ n, v = .int .i64 n ∧ n.den = idxZ t x := by
  have hn := ht.2
  refine all_loopP cfgLOK (ixC t k x) (fun i => t.at i ≠ x) t.n (fun g nm hg => by cases hg) (fun Q hQ => ?_) (fun i hi hp J Q hQ => ?_) (fun i hi hp hm J Q => ?_) (fun hp J Q => ?_)
  · refine to_startM (some (1, 3)) 4000 0 hQ (ix_init t k x) (ix_names t k x 0 0) (fun q hq p u hp hu => ?_) (fun e he => by cases he) all_nil
    obtain rfl : q = (0, 8, .int .i64 (.lit 0)) := by simpa using hq
    exact tmp_set (ix_tmp t k x 0) hp hu (int_impS rfl)
  · exact to_turn (some (1, 3)) 4000 (i + 1) hQ (ix_turn t k x i J) (ix_names t k x i (i + 1)) (inS_all ht hi (all_cons (decide_eq_false (by rw [t.el_at]; exact fun h => hp h.symm)) (all_cons ⟨by omega, by omega⟩ all_nil)))
  · have hp : t.at i = x := Classical.not_not.1 hp
    exact to_end none 4000 (ix_yes t k x i J) (inS_all ht hi (all_cons (decide_eq_true (by rw [t.el_at]; exact hp.symm)) all_nil)) fun H _ => ⟨_, rfl, (idxZ_some hi hp hm).symm⟩
  · exact to_end none 4000 (ix_end t k x t.n J) (all_cons (decide_eq_false (by omega)) all_nil) fun H _ => ⟨_, rfl, (idxZ_none hp).symm⟩
theorem sa_runs {t u : Ss} (k k2 : Nat) (ht : t.ok) (hu : u.ok) : Runs cfgL 14 [(t.pl k).val 0, (u.pl k2).val 1] [t.row, u.row] fun v _ => isBool (cB (sameP t u)) v := by
  have hn := ht.2
  have hu1 := hu.1
  by_cases hl : t.n = u.n
  · refine all_loopP cfgLOK (saC t u k k2) (fun i => t.at i = u.at i) t.n (fun g nm hg => by cases hg) (fun Q hQ => ?_) (fun i hi hp J Q hQ => ?_) (fun i hi hp _ J Q => ?_) (fun hp J Q => ?_)
    · refine to_startM (some (1, 3)) 4000 0 hQ (sa_init t u k k2) (sa_names t u k k2 0 0) (fun q hq p u' hp hu => ?_) (fun e he => by cases he) (all_cons (bneF (by omega)) all_nil)
      obtain rfl : q = (0, 5, .int .i64 (.lit 0)) := by simpa using hq
      exact tmp_set (sa_tmp t u k k2 0) hp hu (int_impS rfl)
    · exact to_turn (some (1, 3)) 4000 (i + 1) hQ (sa_turn t u k k2 i J) (sa_names t u k k2 i (i + 1)) (inS_all ht hi (all_cons ⟨by omega, by omega⟩ (all_cons (by omega) (all_cons (notF (by rw [t.el_at, u.el_at]; exact hp)) (all_cons ⟨by omega, by omega⟩ all_nil)))))
    · exact to_end none 4000 (sa_no t u k k2 i J) (inS_all ht hi (all_cons ⟨by omega, by omega⟩ (all_cons (by omega) (all_cons (notT (by rw [t.el_at, u.el_at]; exact hp)) all_nil)))) fun H _ => ⟨_, rfl, (cB_false fun h => hp (h.2 i hi)).symm⟩
    · exact to_end none 4000 (sa_end t u k k2 t.n J) (all_cons (decide_eq_false (by omega)) all_nil) fun H _ => ⟨_, rfl, (cB_true ⟨hl, hp⟩).symm⟩
  · refine runs_by cfgLOK (fun _ : Nat => saC t u k k2 0) (fun _ => False) (fun _ => 0) (fun g nm hg => by cases hg) ?_ fun _ h _ => h.elim
    exact start_end none 4000 (sa_len t u k k2) (all_cons (bneT (by omega)) all_nil) fun H _ => ⟨_, rfl, (cB_false fun h => hl h.1).symm⟩
end Go.Proofs.YtbhhagnpgkjmgaaDoor.Aes


/-
  Slices of strings: the summaries of In, Index, Contains, same.
-/
namespace Go.Proofs.YtbhhagnpgkjmgaaDoor.Aes
open Go.Sim
open Go.Proofs
variable {α : Type}

set_option maxRecDepth 1000000
theorem int_ends {base : Nat} {I : Ifc} {t : Int} {v : SV} {H : List SO} (ho : ownedOf I.ents 0 = []) (h : ∃ n, v = .int .i64 n ∧ n.den = t) : I.EndsQ base [] ⟨.int .i64 (.sym t), [], []⟩ v H := by
  obtain ⟨n, rfl, rfl⟩ := h
  refine ⟨fun β x hx => hx, rfl, ?_, trivial⟩
  rw [ho]
  trivial
/-- a function of a slice of strings and of what has no name: what it comes to -/
theorem ss_any {g : FuncId → Option Summ} {f : FuncId} {O : Nat → Prop} {w0 w : World} {β : Val} {H : List SO} {base : Nat} {vs : List Value} (hH : HeapRel0 Tryd.prog O w0 β H w) {v : SV} {t : Ss} {nm : Nat} {rest : List SV} (ha : SV.denL β (v :: rest) = some vs)
    (ht : ∀ g, ∃ e', H[nm]? = some e' ∧ Taken g t.row e') (hi : v.Imp (t.val nm)) (hr : ∀ f, SV.renL f rest = rest) (hu : ∀ p, SV.usesL p rest = true) {r : SumRes} {D : SV → List SO → Prop} (hrun : ∀ k, Runs (cfgOf g) f ((t.pl k).val 0 :: rest) [t.row] D)
    (hD : ∀ k v H, D v H → (⟨[nm], [t.row], (t.pl k).val 0 :: rest⟩ : Ifc).EndsQ base [] r v H) :
    SumSem Tryd.prog H β w base f vs r := by
  obtain ⟨x, ys, hx, hys, rfl⟩ := denL_cons.1 ha
  obtain ⟨k, _, hx'⟩ := Ss.val_den (hi _ _ hx)
  refine sum_runsQ (c := cfgOf g) hH ⟨[nm], [t.row], (t.pl k).val 0 :: rest⟩ (by intro g j hg; cases hg) ?_ (Ifc.fitsQ (by simp) ?_ ⟨⟨ht _, t.row_uses _⟩, trivial⟩) [] (by simp) (by simp) (runs_mono (hrun k) fun v H h => hD k v H h)
  · show SV.denL β (((t.pl k).val 0).ren _ :: SV.renL _ rest) = _
    rw [Ss.val_ren, hr]; exact denL_cons.2 ⟨_, _, hx', hys, rfl⟩
  · show (((t.pl k).val 0).uses _ && SV.usesL _ rest) = true
    rw [Ss.val_uses _ _ _ rfl, hu]; rfl
theorem ss_sem2 {g : FuncId → Option Summ} {f : FuncId} {O : Nat → Prop} {w0 w : World} {β : Val} {H : List SO} {base : Nat} {vs : List Value} (hH : HeapRel0 Tryd.prog O w0 β H w) {v v' : SV} {t u : Ss} {nm nm' : Nat} (ha : SV.denL β [v, v'] = some vs) (hne : nm ≠ nm')
    (ht : ∀ g, ∃ e', H[nm]? = some e' ∧ Taken g t.row e') (hi : v.Imp (t.val nm)) (hu : ∀ g, ∃ e', H[nm']? = some e' ∧ Taken g u.row e') (hi' : v'.Imp (u.val nm')) {b : Bool} (hrun : ∀ k k2, Runs (cfgOf g) f [(t.pl k).val 0, (u.pl k2).val 1] [t.row, u.row] fun v _ => isBool b v) :
    SumSem Tryd.prog H β w base f vs ⟨.bool (.sym b), [], []⟩ := by
  obtain ⟨x, ys, hx, hys, rfl⟩ := denL_cons.1 ha
  obtain ⟨y, zs, hy, hzs, rfl⟩ := denL_cons.1 hys
  obtain ⟨k, _, hx'⟩ := Ss.val_den (hi _ _ hx)
  obtain ⟨k2, _, hy'⟩ := Ss.val_den (hi' _ _ hy)
  refine sum_runsQ (c := cfgOf g) hH ⟨[nm, nm'], [t.row, u.row], [(t.pl k).val 0, (u.pl k2).val 1]⟩ (by intro g j hg; cases hg) ?_ (Ifc.fitsQ (by simp [hne]) ?_ ⟨⟨ht _, t.row_uses _⟩, ⟨hu _, u.row_uses _⟩, trivial⟩) [] (by simp) (by simp) (runs_mono (hrun k k2) fun v H h => bool_ends rfl h)
  · show SV.denL β [((t.pl k).val 0).ren _, ((u.pl k2).val 1).ren _] = _
    rw [Ss.val_ren, Ss.val_ren]; exact denL_cons.2 ⟨_, _, hx', denL_cons.2 ⟨_, _, hy', hzs, rfl⟩, rfl⟩
  · show (((t.pl k).val 0).uses _ && (((u.pl k2).val 1).uses _ && true)) = true
    rw [Ss.val_uses _ _ _ rfl, Ss.val_uses _ _ _ rfl]; rfl
/-- one run of a function of a slice of strings that answers a Boolean -/
theorem ss_run {g : FuncId → Option Summ} (hc : CfgOK (cfgOf g)) {f : FuncId} {O : Nat → Prop} {w0 w : World} {β : Val} {H : List SO} {base : Nat} {vs : List Value} (hH : HeapRel0 Tryd.prog O w0 β H w) {args : List SV} {args' : Nat → List SV} {t : Ss} {nm : Nat} (hf : ∃ k, SV.denL β (SV.renL (⟨[nm], [t.row], args' k⟩ : Ifc).big (args' k)) = some vs) (hu : ∀ k, SV.usesL (⟨[nm], [t.row], args' k⟩ : Ifc).known (args' k) = true)
    (ht : ∀ g, ∃ e', H[nm]? = some e' ∧ Taken g t.row e') {b : SB} {c : Bool} {ds : List Bool} {ps : List Prop} {n : Nat} (hrun : ∀ k, outO [] (callSim (cfgOf g) n f (args' k) [t.row]) ds = (ps, some (.bool b, []))) (hp : ∀ p ∈ ps, p) (hb : b.den = c) : SumSem Tryd.prog H β w base f vs ⟨.bool (.sym c), [], []⟩ := by
  obtain ⟨k, hk⟩ := hf
  exact sum_runQ hc n hH ⟨[nm], [t.row], args' k⟩ (by intro g j hg; cases hg) hk (Ifc.fitsQ (by simp) (hu k) ⟨⟨ht _, t.row_uses _⟩, trivial⟩) [] (by simp) (by simp) (outO_ob (hrun k) hp fun H2 _ => bool_ends rfl ⟨_, rfl, hb⟩)
noncomputable def inS' : Summ := fun args H _ => args2 args fun v xv => optC (strV xv) (.stuck 7811) fun x => optSs H v fun t _ => .need t.ok (.ok (bR (inP t x.den)))
noncomputable def ixS : Summ := fun args H _ => args2 args fun v xv => optC (strV xv) (.stuck 7812) fun x => optSs H v fun t _ => .need t.ok (.ok ⟨.int .i64 (.sym (idxZ t x.den)), [], []⟩)
theorem inOK : SumOK Tryd.prog 29 inS' := by
  intro glob O w0 β H w base args vs hH hG ha
  refine args2_sat fun v xv hv => optC_only fun x hx => ?_
  rw [hv, strV_spec hx] at ha
  have ha := impL_cons (.refl v) (impL_cons (str_imp (t := .sym x.den) rfl) impL_nil) _ _ ha
  refine optSs_sat (fun hn => fun _ => ?_) fun t nm ht hi => fun hok => ss_sem (g := sumsOf rlL) hH ha ht hi (fun _ => rfl) (fun _ => rfl) fun k => in_runs k x.den hok
  rw [hn] at ha
  exact i0_sem cfgLOK hH ha (fun _ => rfl) (fun _ => rfl) (in_nil x.den) all_nil (cB_false fun ⟨i, hi, _⟩ => by have : i < 0 := hi; omega).symm
theorem ixOK : SumOK Tryd.prog 23 ixS := by
  intro glob O w0 β H w base args vs hH hG ha
  refine args2_sat fun v xv hv => optC_only fun x hx => ?_
  rw [hv, strV_spec hx] at ha
  have ha := impL_cons (.refl v) (impL_cons (str_imp (t := .sym x.den) rfl) impL_nil) _ _ ha
  refine optSs_sat (fun hn => fun _ => ?_) fun t nm ht hi => fun hok => ss_any (g := sumsOf rlL) hH ha ht hi (fun _ => rfl) (fun _ => rfl) (fun k => ix_runs k x.den hok) fun k v H h => int_ends rfl h
  rw [hn] at ha
  exact sum_runQ cfgLOK 4000 hH ⟨[], [], [.nilSlice, .str (.sym x.den)]⟩ (by intro g j hg; cases hg) ha (Ifc.fitsQ (by simp) rfl trivial) [] (by simp) (by simp) (outO_ob (ix_nil x.den) all_nil fun H2 _ => int_ends rfl ⟨_, rfl, (idxZ_none fun i hi => by have : i < 0 := hi; omega).symm⟩)
/- Contains, by Index. -/
noncomputable def rlL2 : List (FuncId × Summ) := (23, ixS) :: rlL
theorem rlL2OK : ∀ y ∈ rlL2, SumOK Tryd.prog y.1 y.2 := allC ixOK rlLOK
noncomputable def cfgL2 : Cfg := cfgOf (sumsOf rlL2)
theorem cfgL2OK : CfgOK cfgL2 := sumsOf_ok rlL2OK
theorem co_run (t : Ss) (k : Nat) (x : ByteArray) : outO [] (callSim cfgL2 4000 28 [(t.pl k).val 0, .str (.sym x)] [t.row]) [] = ([IsS (strF t.S), t.ok], some (.bool (.sym (decide (idxZ t x ≥ 0))), [])) := by kernel_rfl
theorem co_nil (x : ByteArray) : outO [] (callSim cfgL2 4000 28 [.nilSlice, .str (.sym x)] []) [] = ([nilSs.ok], some (.bool (.sym (decide (idxZ nilSs x ≥ 0))), [])) := by kernel_rfl
theorem idxZ_pos {t : Ss} {x : ByteArray} : decide (idxZ t x ≥ 0) = cB (inP t x) := by
  unfold idxZ
  cases h : (List.range t.n).find? fun i => cB (t.at i = x) with
  | none =>
    rw [cB_false fun ⟨i, hi, he⟩ => List.find?_eq_none.1 h i (List.mem_range.2 hi) (cB_true he)]
    exact decide_eq_false (by show ¬ (-1 : Int) ≥ 0; omega)
  | some i =>
    obtain ⟨h1, h2, _⟩ := List.find?_range_eq_some.1 h
    rw [cB_true ⟨i, List.mem_range.1 h2, cB_iff.1 h1⟩]
    exact decide_eq_true (by show ((i : Nat) : Int) ≥ 0; omega)
theorem nil_ok : nilSs.ok := ⟨Nat.le_refl _, by show (0 : Nat) ≤ _; omega⟩
theorem coOK : SumOK Tryd.prog 28 inS' := by
  intro glob O w0 β H w base args vs hH hG ha
  refine args2_sat fun v xv hv => optC_only fun x hx => ?_
  rw [hv, strV_spec hx] at ha
  have ha := impL_cons (.refl v) (impL_cons (str_imp (t := .sym x.den) rfl) impL_nil) _ _ ha
  refine optSs_sat (fun hn => fun _ => ?_) fun t nm ht hi => fun hok => ?_
  · rw [hn] at ha
    exact sum_runQ cfgL2OK 4000 hH ⟨[], [], [.nilSlice, .str (.sym x.den)]⟩ (by intro g j hg; cases hg) ha (Ifc.fitsQ (by simp) rfl trivial) [] (by simp) (by simp) (outO_ob (co_nil x.den) (all_cons nil_ok all_nil) fun H2 _ => bool_ends rfl ⟨_, rfl, (idxZ_pos : decide (idxZ nilSs x.den ≥ 0) = cB (inP nilSs x.den))⟩)
  · obtain ⟨y, ys, hy, hys, rfl⟩ := denL_cons.1 ha
    obtain ⟨k, _, hy'⟩ := Ss.val_den (hi _ _ hy)
    refine ss_run (args := []) cfgL2OK hH (args' := fun k => [(t.pl k).val 0, .str (.sym x.den)]) (nm := nm) (t := t) ⟨k, ?_⟩ (fun k => ?_) ht (fun k => co_run t k x.den) (all_cons (strF_isS _) (all_cons hok all_nil)) idxZ_pos
    · show SV.denL β [((t.pl k).val 0).ren _, .str (.sym x.den)] = _
      rw [Ss.val_ren]; exact denL_cons.2 ⟨_, _, hy', hys, rfl⟩
    · show (((t.pl k).val 0).uses _ && (true && true)) = true
      rw [Ss.val_uses _ _ _ rfl]; rfl
/- same -/
theorem sa_nn : outO [] (saT none .nilSlice .nilSlice []) [] = ([], some (.bool (.lit true), [])) := by kernel_rfl
theorem sa_n0 (u : Ss) (k : Nat) : outO [] (saT none .nilSlice ((u.pl k).val 0) [u.row]) [true] = ([((0 : Int) != (u.n : Int)) = true], some (.bool (.lit false), [])) := by kernel_rfl
theorem sa_n1 (u : Ss) (k : Nat) : outO [] (saT none .nilSlice ((u.pl k).val 0) [u.row]) [false] = ([((0 : Int) != (u.n : Int)) = false], some (.bool (.lit true), [])) := by kernel_rfl
theorem sa_0n (t : Ss) (k : Nat) : outO [] (saT none ((t.pl k).val 0) .nilSlice [t.row]) [true] = ([((t.n : Int) != 0) = true], some (.bool (.lit false), [])) := by kernel_rfl
theorem sa_1n (t : Ss) (k : Nat) : outO [] (saT none ((t.pl k).val 0) .nilSlice [t.row]) [false, false] = ([((t.n : Int) != 0) = false, decide ((0 : Int) < (t.n : Int)) = false], some (.bool (.lit true), [])) := by kernel_rfl
noncomputable def difN (a b : Option Nat) : Bool := optC a true fun x => optC b true fun y => boolC (Nat.beq x y) false true
noncomputable def saS : Summ := fun args H _ => args2 args fun v w => optSs H v fun t tn => optSs H w fun u un => boolC (difN tn un) (.need (t.ok ∧ u.ok) (.ok (bR (sameP t u)))) (.stuck 7813)
theorem saOK : SumOK Tryd.prog 14 saS := by
  intro glob O w0 β H w base args vs hH hG ha
  refine args2_sat fun v w' hv => ?_
  rw [hv] at ha
  refine optSs_sat (fun hn => optSs_sat (fun hn' => boolC_only fun _ => fun _ => ?_) fun u un hu hi' => boolC_only fun _ => fun _ => ?_) fun t tn ht hi => optSs_sat (fun hn' => boolC_only fun _ => fun _ => ?_) fun u un hu hi' => boolC_only fun hd => fun ⟨h1, h2⟩ => ?_
  · rw [hn, hn'] at ha
    exact i0_sem cfgLOK hH ha (fun _ => rfl) (fun _ => rfl) sa_nn all_nil (cB_true ⟨rfl, fun i hi => by have : i < 0 := hi; omega⟩).symm
  · rw [hn] at ha
    obtain ⟨x, ys, hx, hys, rfl⟩ := denL_cons.1 ha
    obtain ⟨y, zs, hy, hzs, rfl⟩ := denL_cons.1 hys
    obtain ⟨k, _, hy'⟩ := Ss.val_den (hi' _ _ hy)
    have hf : ∃ k, SV.denL β (SV.renL (⟨[un], [u.row], [.nilSlice, (u.pl k).val 0]⟩ : Ifc).big [.nilSlice, (u.pl k).val 0]) = some (x :: y :: zs) := ⟨k, by
      show SV.denL β [.nilSlice, ((u.pl k).val 0).ren _] = _
      rw [Ss.val_ren]; exact denL_cons.2 ⟨_, _, hx, denL_cons.2 ⟨_, _, hy', hzs, rfl⟩, rfl⟩⟩
    have hus : ∀ k, SV.usesL (⟨[un], [u.row], [.nilSlice, (u.pl k).val 0]⟩ : Ifc).known [.nilSlice, (u.pl k).val 0] = true := fun k => by
      show (true && (((u.pl k).val 0).uses _ && true)) = true
      rw [Ss.val_uses _ _ _ rfl]; rfl
    by_cases c : u.n = 0
    · exact ss_run (args := []) cfgLOK hH (args' := fun k => [.nilSlice, (u.pl k).val 0]) hf hus hu (fun k => sa_n1 u k) (all_cons (bneF (by omega)) all_nil) (cB_true ⟨c.symm, fun i hi => by have : i < 0 := hi; omega⟩).symm
    · exact ss_run (args := []) cfgLOK hH (args' := fun k => [.nilSlice, (u.pl k).val 0]) hf hus hu (fun k => sa_n0 u k) (all_cons (bneT (by omega)) all_nil) (cB_false fun h => c h.1.symm).symm
  · rw [hn'] at ha
    obtain ⟨x, ys, hx, hys, rfl⟩ := denL_cons.1 ha
    obtain ⟨k, _, hx'⟩ := Ss.val_den (hi _ _ hx)
    have hf : ∃ k, SV.denL β (SV.renL (⟨[tn], [t.row], [(t.pl k).val 0, .nilSlice]⟩ : Ifc).big [(t.pl k).val 0, .nilSlice]) = some (x :: ys) := ⟨k, by
      show SV.denL β [((t.pl k).val 0).ren _, .nilSlice] = _
      rw [Ss.val_ren]; exact denL_cons.2 ⟨_, _, hx', hys, rfl⟩⟩
    have hus : ∀ k, SV.usesL (⟨[tn], [t.row], [(t.pl k).val 0, .nilSlice]⟩ : Ifc).known [(t.pl k).val 0, .nilSlice] = true := fun k => by
      show (((t.pl k).val 0).uses _ && (true && true)) = true
      rw [Ss.val_uses _ _ _ rfl]; rfl
    by_cases c : t.n = 0
    · exact ss_run (args := []) cfgLOK hH (args' := fun k => [(t.pl k).val 0, .nilSlice]) hf hus ht (fun k => sa_1n t k) (all_cons (bneF (by omega)) (all_cons (decide_eq_false (by omega)) all_nil)) (cB_true ⟨c, fun i hi => by omega⟩).symm
    · exact ss_run (args := []) cfgLOK hH (args' := fun k => [(t.pl k).val 0, .nilSlice]) hf hus ht (fun k => sa_0n t k) (all_cons (bneT (by omega)) all_nil) (cB_false fun h => c h.1).symm
  · have hne : tn ≠ un := fun e => by
      subst e
      have h : boolC (Nat.beq tn tn) false true = true := hd
      rw [Nat.beq_refl] at h
      cases h
    exact ss_sem2 (g := sumsOf rlL) hH ha hne ht hi hu hi' fun k k2 => sa_runs k k2 h1 h2
end Go.Proofs.YtbhhagnpgkjmgaaDoor.Aes


/-
  A string cut at its first dot: strings.Cut, the reference's Parent.
-/
namespace Go.Proofs.YtbhhagnpgkjmgaaDoor.Aes
open Go.Sim
open Go.Proofs
variable {α : Type}

set_option maxRecDepth 1000000
noncomputable def cutF (x : ByteArray) : Bool := decide (fiI x ≥ 0)
noncomputable def cutB (x : ByteArray) : ByteArray := boolC (cutF x) (x.extract (fiI x + 1).toNat x.size) nilB
noncomputable def cutA (x : ByteArray) : ByteArray := boolC (cutF x) (x.extract 0 (fiI x).toNat) x
noncomputable def cutT (s : ByteArray) : Tree := callSim cfgX 2000 42 [.str (.sym s), .str (.lit dotB)] []
section
variable (s : ByteArray)
theorem cut_dot : outO [] (cutT s) [true, true] = ([decide (dotB = s) = true, 0 ≤ s.size, 1 ≤ s.size], some (.tuple [.str (.sym (s.extract 0 0)), .str (.sym (s.extract 1 s.size)), .bool (.lit true)], [])) := by kernel_rfl
theorem cut_no : outO [] (cutT s) [false, false] = ([decide (dotB = s) = false, decide (fiI s ≥ 0) = false], some (.tuple [.str (.sym s), .str (.lit nilB), .bool (.lit false)], [])) := by kernel_rfl
theorem cut_yes : outO [] (cutT s) [false, true] = ([decide (dotB = s) = false, decide (fiI s ≥ 0) = true, 0 ≤ fiI s ∧ fiI s ≤ (s.size : Int), inI64 (fiI s + 1), 0 ≤ fiI s + 1 ∧ fiI s + 1 ≤ (s.size : Int)], some (.tuple [.str (.sym (s.extract 0 (fiI s).toNat)), .str (.sym (s.extract (fiI s + 1).toNat s.size)), .bool (.lit true)], [])) := by kernel_rfl
end
theorem fi_dot : fiI dotB = 0 := by kernel_rfl
theorem fiI_range (s : ByteArray) : fiI s = -1 ∨ 0 ≤ fiI s ∧ fiI s < (s.size : Int) := by
  rcases fi_cases s 46 with ⟨h, _⟩ | ⟨m, h, hm, _⟩
  · exact .inl h
  · exact .inr ⟨by show 0 ≤ firstIdx s 46; omega, by show firstIdx s 46 < _; omega⟩
def IsCut (s : ByteArray) (v : SV) : Prop := ∃ a b : SStr, ∃ c : SB, v = .tuple [.str a, .str b, .bool c] ∧ a.den = cutA s ∧ b.den = cutB s ∧ c.den = cutF s
noncomputable def cutR (s : ByteArray) : SumRes := ⟨.tuple [.str (.sym (cutA s)), .str (.sym (cutB s)), .bool (.sym (cutF s))], [], []⟩
theorem cut_ends {base : Nat} {I : Ifc} {s : ByteArray} {v : SV} {H : List SO} (ho : ownedOf I.ents 0 = []) (h : IsCut s v) : I.EndsQ base [] (cutR s) v H := by
  obtain ⟨a, b, c, rfl, h1, h2, h3⟩ := h
  refine ⟨fun β x hx => ?_, rfl, ?_, trivial⟩
  · rw [show (cutR s).v = .tuple [.str (.sym a.den), .str (.sym b.den), .bool (.sym c.den)] by rw [h1, h2, h3]; rfl]
    exact hx
  · rw [ho]; trivial
noncomputable def litDot (v : SV) : Bool := optC (strV v) false fun s => SStr.rec (motive := fun _ => Bool) (fun s => decide (s = dotB)) (fun _ => false) (fun _ => false) s
theorem litDot_spec {v : SV} (h : litDot v = true) : v = .str (.lit dotB) := by
  unfold litDot at h
  cases hv : strV v with
  | none => rw [hv] at h; cases h
  | some s =>
    rw [hv] at h
    rw [strV_spec hv]
    cases s with
    | lit b => rw [of_decide_eq_true (show decide (b = dotB) = true from h)]
    | sym b => cases h
    | bytes b => cases h
noncomputable def cutS : Summ := fun args _ _ => args2 args fun v w => optC (strV v) (.stuck 7820) fun s => boolC (litDot w) (.need (s.den.size ≤ 9223372036854775807) (.ok (cutR s.den))) (.stuck 7821)
theorem cutOK : SumOK Tryd.prog 42 cutS := by
  intro glob O w0 β H w base args vs hH hG ha
  refine args2_sat fun v w' hv => optC_only fun s hs => boolC_only fun hd => fun hz => ?_
  rw [hv, strV_spec hs, litDot_spec hd] at ha
  have ha := impL_cons (str_imp (t := .sym s.den) rfl) (impL_cons (.refl _) impL_nil) _ _ ha
  show SumSem Tryd.prog H β w base _ vs (cutR s.den)
  generalize s.den = s at ha hz ⊢
  have hb : ∀ {ds ps v}, outO [] (cutT s) ds = (ps, some (v, [])) → (∀ p ∈ ps, p) → IsCut s v → SumSem Tryd.prog H β w base 42 vs (cutR s) := fun hr hp hc => sum_runQ cfgXOK 2000 hH ⟨[], [], [.str (.sym s), .str (.lit dotB)]⟩ (by intro g j hg; cases hg) ha (Ifc.fitsQ (by simp) rfl trivial) [] (by simp) (by simp) (outO_ob hr hp fun H2 _ => cut_ends rfl hc)
  by_cases hd : dotB = s
  · have e0 : fiI s = 0 := by rw [← hd]; exact fi_dot
    have hF : cutF s = true := decide_eq_true (by rw [e0]; exact Int.le_refl 0)
    have h1 : 1 ≤ s.size := by rw [← hd]; exact Nat.le_refl 1
    refine hb (cut_dot s) (all_cons (decide_eq_true hd) (all_cons (Nat.zero_le _) (all_cons h1 all_nil))) ⟨_, _, _, rfl, ?_, ?_, hF.symm⟩
    · show _ = boolC (cutF s) _ _
      rw [hF]; show _ = s.extract 0 (fiI s).toNat
      rw [e0]; rfl
    · show _ = boolC (cutF s) _ _
      rw [hF]; show _ = s.extract (fiI s + 1).toNat s.size
      rw [e0]; rfl
  · have hdF : decide (dotB = s) = false := decide_eq_false hd
    rcases fiI_range s with h | ⟨h1, h2⟩
    · have hF : cutF s = false := decide_eq_false (by omega)
      refine hb (cut_no s) (all_cons hdF (all_cons hF all_nil)) ⟨_, _, _, rfl, ?_, ?_, hF.symm⟩
      · show _ = boolC (cutF s) _ _
        rw [hF]; rfl
      · show _ = boolC (cutF s) _ _
        rw [hF]; rfl
    · have hF : cutF s = true := decide_eq_true (by omega)
      refine hb (cut_yes s) (all_cons hdF (all_cons hF (all_cons ⟨h1, by omega⟩ (all_cons ⟨by omega, by omega⟩ (all_cons ⟨by omega, by omega⟩ all_nil))))) ⟨_, _, _, rfl, ?_, ?_, hF.symm⟩
      · show _ = boolC (cutF s) _ _
        rw [hF]; rfl
      · show _ = boolC (cutF s) _ _
        rw [hF]; rfl
/- The reference's Parent. -/
noncomputable def parB (x : ByteArray) : Bool := boolC (cutF x) (rlmB (cutB x)) false
section
variable (s : ByteArray) (i : Nat)
noncomputable def rpT (st : Option (Nat × Nat)) : Tree := callSim (cfgL.at st) 4000 7 [.str (.sym s)] []
noncomputable def rpC : Cut := ⟨bareFs (stopOf (rpT s (some (1, 3))) []).frames [[(0, .str (.sym s)), (4, .int .i64 (.sym i))]], []⟩
variable (J : Junk) (z : Nat → Nat → Nat)
theorem rp_init : outL [] (rpC s 0) [] (rpT s (some (1, 3))) [] z = ([], some (.inr (modSeen [(0, 4, .int .i64 (.lit 0))] [] (seenC [] 0 (rpC s 0))))) := by kernel_rfl
theorem rp_turn : outL [] (rpC s i) [] (sim1 (cfgL.at (some (1, 3))) 4000 ((rpC s i).fill J)) [true, false] z = ([decide ((i : Int) < (s.size : Int)) = true, (0 : Int) ≤ (i : Int) ∧ (i : Int) < (s.size : Int), (bytN s i == 46) = false, inI64 ((i : Int) + 1)], some (.inr (seenC [] 0 (rpC s (i + 1))))) := by kernel_rfl
noncomputable def sfx : ByteArray := s.extract ((i : Int) + 1).toNat s.size
theorem rp_dot : outL [] (rpC s i) [] (sim1 (cfgL.at none) 4000 ((rpC s i).fill J)) [true, true] z = ([decide ((i : Int) < (s.size : Int)) = true, (0 : Int) ≤ (i : Int) ∧ (i : Int) < (s.size : Int), (bytN s i == 46) = true, inI64 ((i : Int) + 1), (0 : Int) ≤ (i : Int) + 1 ∧ (i : Int) + 1 ≤ (s.size : Int), inI64 ((i : Int) + 1), (0 : Int) ≤ (i : Int) + 1 ∧ (i : Int) + 1 ≤ (s.size : Int), (sfx s i).size ≤ 9223372036854775807], some (.inl (.tuple [.str (.sym (sfx s i)), .bool (.sym (rlmB (sfx s i)))], []))) := by kernel_rfl
theorem rp_end : outL [] (rpC s i) [] (sim1 (cfgL.at none) 4000 ((rpC s i).fill J)) [false] z = ([decide ((i : Int) < (s.size : Int)) = false], some (.inl (.tuple [.str (.lit nilB), .bool (.lit false)], []))) := by kernel_rfl
theorem rp_names (j : Nat) : boolC (namesOK 0 [] (rpC s i) (rpC s j)) (allN noLoopE (rpC s j).heap) false = true := by kernel_rfl
theorem rp_tmp : (((rpC s i).frames[0]?).bind fun p => p.tmps[4]?) = some (some (.int .i64 (.sym i))) := by kernel_rfl
end
def IsPar (s : ByteArray) (v : SV) : Prop := ∃ b : SStr, ∃ c : SB, v = .tuple [.str b, .bool c] ∧ b.den = cutB s ∧ c.den = parB s
noncomputable def parR (s : ByteArray) : SumRes := ⟨.tuple [.str (.sym (cutB s)), .bool (.sym (parB s))], [], []⟩
theorem par_ends {base : Nat} {I : Ifc} {s : ByteArray} {v : SV} {H : List SO} (ho : ownedOf I.ents 0 = []) (h : IsPar s v) : I.EndsQ base [] (parR s) v H := by
  obtain ⟨b, c, rfl, h2, h3⟩ := h
  refine ⟨fun β x hx => ?_, rfl, ?_, trivial⟩
  · rw [show (parR s).v = .tuple [.str (.sym b.den), .bool (.sym c.den)] by rw [h2, h3]; rfl]
    exact hx
  · rw [ho]; trivial
theorem fiI_first {s : ByteArray} {m : Nat} (hm : m < s.size) (hd : bytN s m = 46) (hf : ∀ j, j < m → bytN s j ≠ 46) : fiI s = (m : Int) := by
  rcases fi_cases s 46 with ⟨_, h⟩ | ⟨q, h, h1, h2, h3⟩
  · exact absurd hd (h m hm)
  · have h2 : bytN s q = 46 := h2
    have : q = m := by
      rcases Nat.lt_trichotomy q m with c | c | c
      · exact absurd h2 (hf q c)
      · exact c
      · exact absurd hd (h3 m c)
    rw [← this]; exact h
theorem fiI_none {s : ByteArray} (hf : ∀ j, j < s.size → bytN s j ≠ 46) : fiI s = -1 := by
  rcases fi_cases s 46 with ⟨h, _⟩ | ⟨q, h, h1, h2, h3⟩
  · exact h
  · exact absurd h2 (hf q h1)
theorem rp_runs (s : ByteArray) (hbig : s.size ≤ 9223372036854775807) : Runs cfgL 7 [.str (.sym s)] [] fun v _ => IsPar s v := by
  refine all_loopP cfgLOK (rpC s) (fun i => bytN s i ≠ 46) s.size (fun g nm hg => by cases hg) (fun Q hQ => ?_) (fun i hi hp J Q hQ => ?_) (fun i hi hp hb J Q => ?_) (fun hp J Q => ?_)
  · refine to_startM (some (1, 3)) 4000 0 hQ (rp_init s) (rp_names s 0 0) (fun q hq p u hp hu => ?_) (fun e he => by cases he) all_nil
    obtain rfl : q = (0, 4, .int .i64 (.lit 0)) := by simpa using hq
    exact tmp_set (rp_tmp s 0) hp hu (int_impS rfl)
  · exact to_turn (some (1, 3)) 4000 (i + 1) hQ (rp_turn s i J) (rp_names s i (i + 1)) (all_cons (decide_eq_true (by omega)) (all_cons ⟨by omega, by omega⟩ (all_cons (beqI hp) (all_cons ⟨by omega, by omega⟩ all_nil))))
  · have hd : bytN s i = 46 := Classical.byContradiction hp
    have he : fiI s = (i : Int) := fiI_first hi hd hb
    have hF : cutF s = true := decide_eq_true (by rw [he]; omega)
    have hB : sfx s i = cutB s := by
      show _ = boolC (cutF s) _ _
      rw [hF]; show _ = s.extract (fiI s + 1).toNat s.size
      rw [he]; rfl
    have hz : (sfx s i).size ≤ 9223372036854775807 := by unfold sfx; rw [ext_size]; omega
    have h64 : inI64 ((i : Int) + 1) := ⟨by omega, by omega⟩
    refine to_end none 4000 (rp_dot s i J) (all_cons (decide_eq_true (by omega)) (all_cons ⟨by omega, by omega⟩ (all_cons (eqT hd) (all_cons h64 (all_cons ⟨by omega, by omega⟩ (all_cons h64 (all_cons ⟨by omega, by omega⟩ (all_cons hz all_nil)))))))) fun H _ => ⟨_, _, rfl, hB, ?_⟩
    show rlmB (sfx s i) = boolC (cutF s) (rlmB (cutB s)) false
    rw [hF, hB]; rfl
  · exact to_end none 4000 (rp_end s s.size J) (all_cons (decide_eq_false (by omega)) all_nil) fun H _ => by
      have hF : cutF s = false := decide_eq_false (by rw [fiI_none hp]; omega)
      refine ⟨_, _, rfl, ?_, ?_⟩
      · show _ = boolC (cutF s) _ _
        rw [hF]; rfl
      · show _ = boolC (cutF s) _ _
        rw [hF]; rfl
noncomputable def rpS : Summ := fun args _ _ => args1 args fun v => optC (strV v) (.stuck 7822) fun s => .need (s.den.size ≤ 9223372036854775807) (.ok (parR s.den))
theorem rpOK : SumOK Tryd.prog 7 rpS := by
  intro glob O w0 β H w base args vs hH hG ha
  refine args1_sat fun v hv => optC_only fun s hs => fun hb => ?_
  rw [hv, strV_spec hs] at ha
  have ha := impL_cons (str_imp (t := .sym s.den) rfl) impL_nil _ _ ha
  show SumSem Tryd.prog H β w base _ vs (parR s.den)
  generalize s.den = s at ha hb ⊢
  let I : Ifc := ⟨[], [], [.str (.sym s)]⟩
  exact sum_runsQ (c := cfgL) hH I (by intro g j hg; cases hg) ha (fits0 rfl).q [] (by simp) (by simp) (runs_mono (rp_runs s hb) fun v H h => par_ends rfl h)
end Go.Proofs.YtbhhagnpgkjmgaaDoor.Aes


/-
  A realm and those above it: the program's list and the reference's.
-/
namespace Go.Proofs.YtbhhagnpgkjmgaaDoor.Aes
open Go.Sim
open Go.Proofs
variable {α : Type}

set_option maxRecDepth 1000000
/-- the realms above, one by one -/
noncomputable def suf (s : ByteArray) (i : Nat) : ByteArray := Nat.rec s (fun _ r => cutB r) i
/-- how many there are -/
noncomputable def depN (f : Nat) : ByteArray → Nat := Nat.rec (fun _ => 0) (fun _ ih r => boolC (cutF r) (Nat.succ (ih (cutB r))) 0) f
noncomputable def dep (s : ByteArray) : Nat := depN 16 s
noncomputable def rlA : List (FuncId × Summ) := (7, rpS) :: (42, cutS) :: rlL2
theorem rlAOK : ∀ y ∈ rlA, SumOK Tryd.prog y.1 y.2 := allC rpOK (allC cutOK rlL2OK)
noncomputable def cfgA : Cfg := cfgOf (sumsOf rlA)
theorem cfgAOK : CfgOK cfgA := sumsOf_ok rlAOK
noncomputable def acT (st : Option (Nat × Nat)) (s : ByteArray) : Tree := callSim (cfgA.at st) 20000 21 [.str (.sym s)] []
noncomputable def liT (st : Option (Nat × Nat)) (s : ByteArray) : Tree := callSim (cfgA.at st) 20000 26 [.str (.sym s)] []
noncomputable def acC (j : Nat) : ByteArray → List Prop := Nat.rec (fun r => [r.size ≤ 9223372036854775807, cutF r = false, cutF r = false, cutF r = false, cutF r = false]) (fun _ ih r => (r.size ≤ 9223372036854775807) :: (cutF r = true) :: ih (cutB r)) j
noncomputable def liC (j : Nat) : ByteArray → List Prop := Nat.rec (fun r => [r.size ≤ 9223372036854775807, parB r = false]) (fun _ ih r => (r.size ≤ 9223372036854775807) :: (parB r = true) :: ih (cutB r)) j
noncomputable def acL (s : ByteArray) (j : Nat) : List SV := mapN (fun i => SV.str (.sym (suf s i))) (fromN (Nat.succ j) 0)
noncomputable def acE (s : ByteArray) (j : Nat) : Option SO := some (.own (.lst (acL s j)) false 9)
noncomputable def acV (nm j : Nat) : SV := .slice ⟨nm, .lit 0⟩ (.lit (Nat.succ j)) (.rest nm 0)
theorem ac_0 (s : ByteArray) : outO [0] (acT none s) [false, false, false, false, false] = (((!rlmB s) = false) :: acC 0 s, some (.slice ⟨0, .lit 0⟩ (.lit 1) (.lit 1), [some (.own (.lst [.str (.sym s)]) true 9)])) := by kernel_rfl
theorem li_0 (s : ByteArray) : outO [0] (liT none s) [false] = (liC 0 s, some (.slice ⟨0, .lit 0⟩ (.lit 1) (.lit 1), [some (.own (.lst [.str (.sym s)]) true 9)])) := by kernel_rfl
theorem ac_n (s : ByteArray) : mapN (fun j => outO [4 + 2 * j] (acT none s) (false :: app (repN true j) [false, false, false, false])) (fromN 15 1) = mapN (fun j => (((!rlmB s) = false) :: acC j s, some (acV (4 + 2 * j) j, [acE s j]))) (fromN 15 1) := by kernel_rfl
theorem li_n (s : ByteArray) : mapN (fun j => outO [2 * j] (liT none s) (app (repN true j) [false])) (fromN 15 1) = mapN (fun j => (liC j s, some (acV (2 * j) j, [acE s j]))) (fromN 15 1) := by kernel_rfl
theorem from_rel {γ : Val} {f : Nat → SV} : ∀ {n k : Nat} {vs : List Value}, SV.denL γ (mapN f (fromN n k)) = some vs → vs.length = n ∧ ∀ i x, vs[i]? = some x → (f (k + i)).den γ = some x
  | 0, k, vs, h => by cases h; exact ⟨rfl, fun i x hx => by simp at hx⟩
  | n + 1, k, vs, h => by
    obtain ⟨v, us, hv, hu, rfl⟩ := denL_cons.1 (show SV.denL γ (f k :: mapN f (fromN n (k + 1))) = some vs from h)
    obtain ⟨h1, h2⟩ := from_rel hu
    refine ⟨by simp [h1], fun i x hx => ?_⟩
    cases i with
    | zero =>
      simp at hx; subst hx
      exact hv
    | succ i =>
      have := h2 i x (by simpa using hx)
      rwa [show k + 1 + i = k + (i + 1) by omega] at this
theorem from_imp (f : Nat → SV) (n : Nat) : (Cells.lst (mapN f (fromN n 0))).Imp (.fn f n) := fun γ vs hv => by
  obtain ⟨h1, h2⟩ := from_rel (show SV.denL γ (mapN f (fromN n 0)) = some vs from hv)
  exact ⟨h1, fun i x hx => by have := h2 i x hx; rwa [Nat.zero_add] at this⟩
/- Which realms there are. -/
theorem cut_realm {r : ByteArray} (h : rlmP r) (hc : cutF r = true) : rlmP (cutB r) ∧ (cutB r).size + 2 ≤ r.size := by
  have hB : cutB r = r.extract (fiI r + 1).toNat r.size := by
    show boolC (cutF r) _ _ = _
    rw [hc]; rfl
  have hge : fiI r ≥ 0 := of_decide_eq_true hc
  rcases fi_cases r 46 with ⟨h1, _⟩ | ⟨m, h1, hm, hd, _⟩
  · have h1 : fiI r = -1 := h1
    omega
  have h1 : fiI r = (m : Int) := h1
  rw [h1, show ((m : Int) + 1).toNat = m + 1 by omega] at hB
  have hz : (cutB r).size = r.size - (m + 1) := by rw [hB, ext_size, Nat.min_self]
  have hb : ∀ i, i < (cutB r).size → bytN (cutB r) i = bytN r (m + 1 + i) := fun i hi => by rw [hB]; exact ext_byt (by rw [Nat.min_self]; omega)
  obtain ⟨_, h32, ha⟩ := h
  rcases ha m hm with hk | ⟨_, hm0, hml, _⟩
  · exact absurd hd (okc_dot hk)
  refine ⟨⟨by omega, by omega, fun i hi => ?_⟩, by omega⟩
  rcases ha (m + 1 + i) (by omega) with hk | ⟨hk, _, hkl, hkp⟩
  · exact .inl (by rw [hb i hi]; exact hk)
  · have hi0 : i ≠ 0 := fun e => by
      subst e
      exact hkp (by rw [show m + 1 + 0 - 1 = m by omega]; exact hd)
    refine .inr ⟨by rw [hb i hi]; exact hk, hi0, by omega, ?_⟩
    rw [hb (i - 1) (by omega), show m + 1 + (i - 1) = m + 1 + i - 1 by omega]
    exact hkp
theorem par_realm {r : ByteArray} (h : rlmP r) : parB r = cutF r := by
  show boolC (cutF r) (rlmB (cutB r)) false = _
  cases hc : cutF r with
  | false => rfl
  | true => exact rlmB_true (cut_realm h hc).1
theorem dep_all : ∀ (f : Nat) (r : ByteArray), rlmP r → r.size ≤ 2 * f → depN f r + 1 ≤ f ∧ (∀ p ∈ acC (depN f r) r, p) ∧ ∀ p ∈ liC (depN f r) r, p
  | 0, r, h, hz => by have := h.1; omega
  | f + 1, r, h, hz => by
    have h32 := h.2.1
    have hs : r.size ≤ 9223372036854775807 := by omega
    cases hc : cutF r with
    | false =>
      have e : depN (f + 1) r = 0 := by
        show boolC (cutF r) _ _ = _
        rw [hc]; rfl
      rw [e]
      exact ⟨by omega, all_cons hs (all_cons hc (all_cons hc (all_cons hc (all_cons hc all_nil)))), all_cons hs (all_cons ((par_realm h).trans hc) all_nil)⟩
    | true =>
      have e : depN (f + 1) r = depN f (cutB r) + 1 := by
        show boolC (cutF r) _ _ = _
        rw [hc]; rfl
      obtain ⟨h1, h2⟩ := cut_realm h hc
      obtain ⟨h3, h4, h5⟩ := dep_all f (cutB r) h1 (by omega)
      rw [e]
      exact ⟨by omega, all_cons hs (all_cons hc h4), all_cons hs (all_cons ((par_realm h).trans hc) h5)⟩
theorem dep_pos {r : ByteArray} (hc : cutF r = true) : 1 ≤ dep r := by
  show 1 ≤ boolC (cutF r) _ _
  rw [hc]; exact Nat.succ_le_succ (Nat.zero_le _)
theorem dep_zero {r : ByteArray} (hc : cutF r = false) : dep r = 0 := by
  show boolC (cutF r) _ _ = _
  rw [hc]; rfl
/-- the list az it comes: its capacity, the block -/
noncomputable def upV (nm : Nat) (b : Bool) (s : ByteArray) : SV := .slice ⟨nm, .lit 0⟩ (.sym (Nat.succ (dep s))) (boolC b (.rest nm 0) (.lit 1))
noncomputable def upE (b : Bool) (s : ByteArray) : SO := .own (.fn (strF (suf s)) (Nat.succ (dep s))) (boolC b false true) 9
noncomputable def upR (base : Nat) (s : ByteArray) : R SumRes := .need (rlmP s) (.fork (cutF s) (.ok ⟨upV base true s, [], [upE true s]⟩) (.ok ⟨upV base false s, [], [upE false s]⟩))
noncomputable def upS : Summ := fun args _ base => args1 args fun v => optC (strV v) (.stuck 7823) fun s => upR base s.den
theorem mapN_atL {β : Type} {f g : Nat → β} {k b : Nat} (h : mapN f (fromN k b) = mapN g (fromN k b)) {l : Nat} (h1 : b ≤ l) (h2 : l < b + k) : f l = g l := by
  rw [mapN_eq, mapN_eq, fromN_eqr] at h
  have h3 : ∀ f : Nat → β, (List.map f (List.range' b k))[l - b]? = some (f l) := fun f => by
    rw [List.getElem?_map, List.getElem?_range' (by omega)]
    simp only [Option.map_some]
    rw [show b + 1 * (l - b) = l from by omega]
  have h4 := h3 f
  rw [h, h3 g] at h4
  exact (Option.some.inj h4).symm
theorem memN_one (q : Nat) : memN q [q] = true := by
  show boolC (Nat.beq q q) true _ = true
  rw [Nat.beq_refl]; rfl
theorem out_one (args : List SV) (base q : Nat) : (⟨[], [], args⟩ : Ifc).out base [q] q = base := by
  show base + boolC (Nat.beq q q) 0 _ = base
  rw [Nat.beq_refl]; rfl
theorem sx_uses (p : Nat → Bool) (f : Nat → ByteArray) : ∀ l : List Nat, SV.usesL p (mapN (fun i => SV.str (.sym (f i))) l) = true
  | [] => rfl
  | a :: l => show (true && SV.usesL p (mapN (fun i => SV.str (.sym (f i))) l)) = true by rw [sx_uses p f l]; rfl
theorem sx_ren (g : Nat → Nat) (f : Nat → ByteArray) : ∀ l : List Nat, SV.renL g (mapN (fun i => SV.str (.sym (f i))) l) = mapN (fun i => SV.str (.sym (f i))) l
  | [] => rfl
  | a :: l => show SV.str (.sym (f a)) :: SV.renL g (mapN (fun i => SV.str (.sym (f i))) l) = SV.str (.sym (f a)) :: mapN (fun i => SV.str (.sym (f i))) l by rw [sx_ren g f l]
theorem up_sem {f : FuncId} (T : ByteArray → Tree) (hT : ∀ s, T s = callSim (cfgA.at none) 20000 f [.str (.sym s)] []) (nmF : Nat → Nat) (ds : Nat → List Bool) (C : Nat → ByteArray → List Prop) (hC : ∀ s, rlmP s → ∀ p ∈ C (dep s) s, p)
    (h0 : ∀ s, outO [0] (T s) (ds 0) = (C 0 s, some (.slice ⟨0, .lit 0⟩ (.lit 1) (.lit 1), [some (.own (.lst [.str (.sym s)]) true 9)])))
    (hn : ∀ s, mapN (fun j => outO [nmF j] (T s) (ds j)) (fromN 15 1) = mapN (fun j => (C j s, some (acV (nmF j) j, [acE s j]))) (fromN 15 1)) : SumOK Tryd.prog f upS := by
  intro glob O w0 β H w base args vs hH hG ha
  refine args1_sat fun v hv => optC_only fun s hs => ?_
  rw [hv, strV_spec hs] at ha
  have ha := impL_cons (str_imp (t := .sym s.den) rfl) impL_nil _ _ ha
  generalize s.den = s at ha ⊢
  intro hr
  have hcc := hC s hr
  have hcA : CfgOK (cfgA.at none) := cfgAOK.at none
  refine ⟨fun hc => ?_, fun hc => ?_⟩
  · have hd1 := dep_pos hc
    have hd2 := (dep_all 16 s hr hr.2.1).1
    have hd2 : dep s + 1 ≤ 16 := hd2
    have hrun : outO [nmF (dep s)] (T s) (ds (dep s)) = (C (dep s) s, some (acV (nmF (dep s)) (dep s), [acE s (dep s)])) := mapN_atL (hn s) hd1 (by omega)
    rw [hT] at hrun
    refine sum_outO hcA rfl 20000 hH ⟨[], [], [.str (.sym s)]⟩ ha (fits0 rfl) [nmF (dep s)] (by simp) (by simp) hrun hcc fun H2 hH2 => ?_
    have h := (List.cons.inj (show [H2[nmF (dep s)]?] = [acE s (dep s)] from hH2)).1
    generalize nmF (dep s) = q at h ⊢
    have ho : (⟨[], [], [.str (.sym s)]⟩ : Ifc).out base [q] q = base := out_one _ _ _
    refine ⟨?_, ?_, trivial, ⟨⟨_, _, _, _, h, ?_, ?_, rfl⟩, trivial⟩⟩
    · show SV.Imp (.slice ⟨Ifc.out _ base [q] q, .lit 0⟩ (.lit (Nat.succ (dep s))) (.rest (Ifc.out _ base [q] q) 0)) _
      rw [ho]
      exact fun _ _ h => h
    · exact show (memN q [q] && memN q [q]) = true by rw [memN_one]; rfl
    · exact sx_uses _ (suf s) _
    · show Cells.Imp (.lst (SV.renL _ (acL s (dep s)))) _
      rw [show SV.renL _ (acL s (dep s)) = acL s (dep s) from sx_ren _ (suf s) _]
      exact from_imp (strF (suf s)) (Nat.succ (dep s))
  · have e0 := dep_zero hc
    rw [e0] at hcc
    have hrun := h0 s
    rw [hT] at hrun
    refine sum_outO hcA rfl 20000 hH ⟨[], [], [.str (.sym s)]⟩ ha (fits0 rfl) [0] (by simp) (by simp) hrun hcc fun H2 hH2 => ?_
    have h := (List.cons.inj (show [H2[0]?] = [some (.own (.lst [.str (.sym s)]) true 9)] from hH2)).1
    refine ⟨?_, rfl, trivial, ⟨⟨_, _, _, _, h, by rfl, ?_, rfl⟩, trivial⟩⟩
    · show SV.Imp _ (.slice ⟨base, .lit 0⟩ (.sym (Nat.succ (dep s))) (.lit 1))
      rw [e0]
      exact fun _ _ h => h
    · show Cells.Imp _ (.fn (strF (suf s)) (Nat.succ (dep s)))
      rw [e0]
      exact from_imp (strF (suf s)) 1
theorem acOK : SumOK Tryd.prog 21 upS :=
  up_sem (acT none) (fun _ => rfl) (fun j => 4 + 2 * j) (fun j => false :: app (repN true j) [false, false, false, false]) (fun j s => ((!rlmB s) = false) :: acC j s) (fun s hr => all_cons (rlm_not hr) (dep_all 16 s hr hr.2.1).2.1) ac_0 ac_n
theorem liOK : SumOK Tryd.prog 26 upS :=
  up_sem (liT none) (fun _ => rfl) (fun j => 2 * j) (fun j => app (repN true j) [false]) liC (fun s hr => (dep_all 16 s hr hr.2.1).2.2) li_0 li_n
end Go.Proofs.YtbhhagnpgkjmgaaDoor.Aes


/-
  The hierarchical path: the program's runs.
-/
namespace Go.Proofs.YtbhhagnpgkjmgaaDoor.Aes
open Go.Sim
open Go.Proofs
variable {α : Type}

set_option maxRecDepth 1000000
noncomputable def rlH : List (FuncId × Summ) := (26, upS) :: (21, upS) :: (23, ixS) :: (20, rlsS) :: (25, vldS) :: rlA
noncomputable def cfgH : Cfg := cfgOf (sumsOf rlH)
noncomputable def heT (st : Option (Nat × Nat)) (x y : ByteArray) : Tree := callSim (cfgH.at st) 20000 8 [.str (.sym x), .str (.sym y)] []
theorem rlHOK : ∀ y ∈ rlH, SumOK Tryd.prog y.1 y.2 := allC liOK (allC acOK (allC ixOK (allC rlsOK (allC vldOK rlAOK))))
theorem cfgHOK : CfgOK cfgH := sumsOf_ok rlHOK
section
variable (x y : ByteArray) (bu bd : Bool) (i : Nat)
noncomputable def heO : Cut := ⟨bareFs (stopOf (heT (some (1, 3)) x y) [false, true, true]).frames [[(6, upV 0 bu x), (7, upV 1 bd y), (23, upV 0 bu x), (24, .int .i64 (.sym (Nat.succ (dep x) : Nat))), (25, .int .i64 (.sym i))]], [.ent (upE bu x), .ent (upE bd y)]⟩
noncomputable def heN : List Nat := [0, 1]
noncomputable def heM : List Nat := [0, 1, 2, 3, 4, 5]
noncomputable def heM7 : List Nat := [7, 1, 2, 3, 4, 5]
variable (J : Junk)
noncomputable def heS (st : Option (Nat × Nat)) : Tree := sim1 (cfgH.at st) 20000 ((heO x y bu bd i).fill J)
noncomputable def dSs (bd : Bool) (y : ByteArray) : Ss := ⟨suf y, Nat.succ (dep y), 0, Nat.succ (dep y), bd, boolC bd 0 1⟩
/-- the place in the other list, az the program finds it -/
noncomputable def hq : Int := idxZ (dSs bd y) (suf x (0 + i * 1))
noncomputable def heJ : Junk := ⟨fun _ _ => undef, fun _ _ => undef⟩
noncomputable def heA0 : SS := stopOf (heS x y bu bd i heJ (some (2, 2))) [true, false]
noncomputable def pV (nm : Nat) (z : Int) : SV := .slice ⟨nm, .lit 0⟩ (.sym z.toNat) (.sym z.toNat)
noncomputable def heH (e0 e1 : SO) (p d : SV) : List HP := [.ent e0, .ent e1, .ent (.own (.lst [p]) true 22), .ent (.own (.lst [d]) true 22), .ent (.deferred (some [])), bareL (nth (heA0 x y bu bd i).heap 5) [(11, .ptr ⟨2, .lit 0⟩)]]
variable (q m : Int) (V : Nat → Value) (n : Nat)
noncomputable def heF : List SP := bareFs (heA0 x y bu bd i).frames [[(0, .func (.yield 5) [] []), (1, .ptr ⟨3, .lit 0⟩), (3, .int .i64 (.sym m))], [(11, .ptr ⟨2, .lit 0⟩)]]
noncomputable def heA : Cut := ⟨heF x y bu bd i m, heH x y bu bd i (upE bu x) (upE bd y) (pV 0 ((i : Int) + 1)) (pV 1 q)⟩
noncomputable def heB : Cut := ⟨heF x y bu bd i m, heH x y bu bd i (.own (.raw V (n * 1)) false 9) (upE bd y) (.slice ⟨0, .lit 0⟩ (.sym n) (.rest 0 0)) (pV 1 q)⟩
noncomputable def ltC (t : List Prop) : List Prop := (decide ((i : Int) < (Nat.succ (dep x) : Nat)) = true) :: ((0 : Int) ≤ (i : Int) ∧ (i : Int) < (Nat.succ (dep x) : Nat)) :: (0 + i * 1 < Nat.succ (dep x)) :: IsS (strF (suf y)) :: (dSs bd y).ok :: t
variable (z : Nat → Nat → Nat)
theorem he_next : outL [] (heO x y bu bd (i + 1)) heN (heS x y bu bd i J (some (1, 3))) [true, true] z = (ltC x y bd i [decide (hq x y bd i < 0) = true, inI64 ((i : Int) + 1)], some (.inr (seenC heN 2 (heO x y bu bd (i + 1))))) := by cases bu <;> cases bd <;> kernel_rfl
theorem he_body : outL [] (heA x y bu bd i (hq x y bd i) ((hq x y bd i).toNat - 1)) heM (heS x y bu bd i J (some (2, 2))) [true, false] z = (ltC x y bd i [decide (hq x y bd i < 0) = false, inI64 ((i : Int) + 1), inI64 ((i : Int) + 1), 0 ≤ (i : Int) + 1 ∧ (i : Int) + 1 ≤ (boolC bu (Nat.succ (dep x)) 1 : Nat), 0 ≤ (i : Int) + 1 ∧ (i : Int) + 1 ≤ (((i : Int) + 1).toNat : Int), 0 ≤ hq x y bd i ∧ hq x y bd i ≤ (boolC bd (Nat.succ (dep y)) 1 : Nat), 0 ≤ hq x y bd i ∧ hq x y bd i ≤ ((hq x y bd i).toNat : Int), inI64 (((hq x y bd i).toNat : Int) - 1)], some (.inr (seenC heM 6 (heA x y bu bd i (hq x y bd i) ((hq x y bd i).toNat - 1))))) := by cases bu <;> cases bd <;> kernel_rfl
theorem he_none : outL [] (heO x y bu bd i) heN (heS x y bu bd i J none) [false] z = ([decide ((i : Int) < (Nat.succ (dep x) : Nat)) = false], some (.inl (.tuple [.nilSlice, .int .i64 (.lit 9)], []))) := by cases bu <;> cases bd <;> kernel_rfl
noncomputable def heAS (st : Option (Nat × Nat)) : Tree := sim1 (cfgH.at st) 20000 ((heA x y bu bd i q m).fill J)
noncomputable def heBS (st : Option (Nat × Nat)) : Tree := sim1 (cfgH.at st) 20000 ((heB x y bu bd i q m V n).fill J)
noncomputable def geC (t : List Prop) : List Prop := (decide (m ≥ 0) = true) :: (0 ≤ m ∧ m < (q.toNat : Int)) :: (0 + m.toNat * 1 < Nat.succ (dep y)) :: (1 ≤ 1) :: t
/-- behind the first n values of a row, a string -/
noncomputable def addV (V : Nat → Value) (n : Nat) (s : ByteArray) : Nat → Value := catV (fun j => V (0 + j)) (n * 1) fun j => atV [.string s] (0 + j)
noncomputable def sufV (x : ByteArray) : Nat → Value := fun j => optC (valC (strF (suf x) j)) undef fun x => x
noncomputable def n1 : Nat := ((i : Int) + 1).toNat
theorem he_A1 : outL [] (heB x y bu bd i q (m - 1) (addV (sufV x) (n1 i) (suf y (0 + m.toNat * 1))) (n1 i + 1)) heM7 (heAS x y bu bd i J q m (some (2, 2))) [true, false] z = (geC y q m [decide (n1 i + 1 ≤ n1 i) = false, 0 + n1 i * 1 ≤ Nat.succ (dep x) ∧ ∀ j, j < n1 i * 1 → ∃ v, valC (strF (suf x) (0 + j)) = some v, (n1 i + 1) * 16 < 140737488355328 ∧ n1 i + 1 < 140737488355328, inI64 (m - 1)], some (.inr (seenC heM7 8 (heB x y bu bd i q (m - 1) (addV (sufV x) (n1 i) (suf y (0 + m.toNat * 1))) (n1 i + 1))))) := by cases bu <;> cases bd <;> kernel_rfl
theorem he_A0 : outL [0] (heA x y bu bd i q m) heM (heAS x y bu bd i J q m none) [false] z = ([decide (m ≥ 0) = false], some (.inl (.tuple [pV 0 ((i : Int) + 1), .int .i64 (.lit 0)], [some (upE bu x)]))) := by cases bu <;> cases bd <;> kernel_rfl
theorem he_B1 : outL [] (heB x y bu bd i q (m - 1) (addV V n (suf y (0 + m.toNat * 1))) (n + 1)) heM7 (heBS x y bu bd i J q m V n (some (2, 2))) [true] z = (geC y q m [0 + n * 1 ≤ n * 1, ((n + 1) * 16 < 140737488355328 ∧ n + 1 < 140737488355328) ∧ ∀ j, j < 1 → (atV [Value.string (suf y (0 + m.toNat * 1))] (0 + j)).oneCell' = true, inI64 (m - 1)], some (.inr (seenC heM7 8 (heB x y bu bd i q (m - 1) (addV V n (suf y (0 + m.toNat * 1))) (n + 1))))) := by cases bu <;> cases bd <;> kernel_rfl
theorem he_B0 : outL [0] (heB x y bu bd i q m V n) heM (heBS x y bu bd i J q m V n none) [false] z = ([decide (m ≥ 0) = false], some (.inl (.tuple [.slice ⟨0, .lit 0⟩ (.sym n) (.rest 0 0), .int .i64 (.lit 0)], [some (.own (.raw V (n * 1)) false 9)]))) := by cases bu <;> cases bd <;> kernel_rfl
noncomputable def twoSs : Ss := ⟨strAt [x, y], 2, 0, 2, false, 2⟩
theorem he_bad : outO [] (heT none x y) [true] = ([(twoSs x y).ok, (!cB (rlsP (twoSs x y))) = true], some (.tuple [.nilSlice, .int .i64 (.lit 2)], [])) := by kernel_rfl
theorem he_init : outL [] (heO x y bu bd 0) [1, 2] (heT (some (1, 3)) x y) [false, bu, bd] z = ([(twoSs x y).ok, (!cB (rlsP (twoSs x y))) = false, rlmP x, cutF x = bu, rlmP y, cutF y = bd], some (.inr (modSeen [(0, 25, .int .i64 (.lit 0))] [] (seenC [1, 2] 3 (heO x y bu bd 0))))) := by cases bu <;> cases bd <;> kernel_rfl
theorem he_n0 : boolC (namesOK 0 [1, 2] (heO x y bu bd 0) (heO x y bu bd 0)) (allN noLoopE (heO x y bu bd 0).heap) false = true := by cases bu <;> cases bd <;> kernel_rfl
theorem he_nO : boolC (namesOK 0 heN (heO x y bu bd (i + 1)) (heO x y bu bd (i + 1))) (allN noLoopE (heO x y bu bd (i + 1)).heap) false = true := by cases bu <;> cases bd <;> kernel_rfl
theorem he_nA : boolC (namesOK 0 heM (heA x y bu bd i q m) (heA x y bu bd i q m)) (allN noLoopE (heA x y bu bd i q m).heap) false = true := by cases bu <;> cases bd <;> kernel_rfl
theorem he_nB : boolC (namesOK 0 heM7 (heB x y bu bd i q m V n) (heB x y bu bd i q m V n)) (allN noLoopE (heB x y bu bd i q m V n).heap) false = true := by cases bu <;> cases bd <;> kernel_rfl
theorem he_tmp : (((heO x y bu bd i).frames[0]?).bind fun p => p.tmps[25]?) = some (some (.int .i64 (.sym i))) := by cases bu <;> cases bd <;> kernel_rfl
end
end Go.Proofs.YtbhhagnpgkjmgaaDoor.Aes


/-
  The hierarchical path: the program's summary.
-/
namespace Go.Proofs.YtbhhagnpgkjmgaaDoor.Aes
open Go.Sim
open Go.Proofs
variable {α : Type}

set_option maxRecDepth 1000000
/- Where two lines meet. -/
def hasM (x y : ByteArray) (i : Nat) : Prop := ∃ k, k ≤ dep y ∧ suf y k = suf x i
noncomputable def comO (x y : ByteArray) : Option Nat := (List.range (dep x + 1)).find? fun i => cB (hasM x y i)
noncomputable def comK (x y : ByteArray) (i : Nat) : Nat := ((List.range (dep y + 1)).find? fun k => cB (suf y k = suf x i)).getD 0
noncomputable def comB (x y : ByteArray) : Bool := (comO x y).isSome
noncomputable def cI (x y : ByteArray) : Nat := (comO x y).getD 0
noncomputable def cK (x y : ByteArray) : Nat := comK x y (cI x y)
noncomputable def hieG (x y : ByteArray) (i k : Nat) (j : Nat) : ByteArray := if j ≤ i then suf x j else suf y (k - (j - i))
noncomputable def hieS (x y : ByteArray) : Nat → ByteArray := hieG x y (cI x y) (cK x y)
noncomputable def hieN (x y : ByteArray) : Nat := cI x y + 1 + cK x y
theorem com_none {x y : ByteArray} (h : ∀ i, i ≤ dep x → ¬ hasM x y i) : comB x y = false := by
  unfold comB comO
  rw [List.find?_eq_none.2 fun i hi hc => h i (by have := List.mem_range.1 hi; omega) (cB_iff.1 hc)]
  rfl
theorem com_some {x y : ByteArray} {i : Nat} (hi : i ≤ dep x) (h : hasM x y i) (hm : ∀ j, j < i → ¬ hasM x y j) : comB x y = true ∧ cI x y = i := by
  unfold comB cI comO
  rw [List.find?_range_eq_some.2 ⟨cB_iff.2 h, List.mem_range.2 (by omega), fun j hj => by rw [cB_false (hm j hj)]; rfl⟩]
  exact ⟨rfl, rfl⟩
theorem comK_le {x y : ByteArray} {i : Nat} (h : hasM x y i) : comK x y i ≤ dep y ∧ suf y (comK x y i) = suf x i ∧ ∀ j, j < comK x y i → suf y j ≠ suf x i := by
  unfold comK
  cases hf : (List.range (dep y + 1)).find? fun k => cB (suf y k = suf x i) with
  | none =>
    obtain ⟨k, hk, he⟩ := h
    exact absurd (cB_iff.2 he) (List.find?_eq_none.1 hf k (List.mem_range.2 (by omega)))
  | some k =>
    obtain ⟨h1, h2, h3⟩ := List.find?_range_eq_some.1 hf
    have h2 := List.mem_range.1 h2
    refine ⟨by show k ≤ _; omega, cB_iff.1 h1, fun j hj he => ?_⟩
    have := h3 j hj
    rw [cB_true he] at this
    cases this
theorem hq_none {x y : ByteArray} {bd : Bool} {i : Nat} (h : ¬ hasM x y i) : hq x y bd i = -1 := by
  refine idxZ_none fun k hk he => h ⟨k, by have hk : k < Nat.succ (dep y) := hk; omega, ?_⟩
  have he : suf y (0 + k) = suf x (0 + i * 1) := he
  rwa [Nat.zero_add, Nat.zero_add, Nat.mul_one] at he
theorem hq_some {x y : ByteArray} {bd : Bool} {i : Nat} (h : hasM x y i) : hq x y bd i = (comK x y i : Int) := by
  obtain ⟨h1, h2, h3⟩ := comK_le h
  refine idxZ_some (by show _ < Nat.succ (dep y); omega) ?_ fun j hj => ?_
  · show suf y (0 + _) = suf x (0 + i * 1)
    rw [Nat.zero_add, Nat.zero_add, Nat.mul_one]; exact h2
  · show suf y (0 + j) ≠ suf x (0 + i * 1)
    rw [Nat.zero_add, Nat.zero_add, Nat.mul_one]; exact h3 j hj
theorem addV_old {V : Nat → Value} {n j : Nat} {s : ByteArray} (h : j < n) : addV V n s j = V j := by
  unfold addV catV
  rw [if_pos (by omega)]
  show V (0 + j) = V j
  rw [Nat.zero_add]
theorem addV_new {V : Nat → Value} {n : Nat} {s : ByteArray} : addV V n s n = .string s := by
  unfold addV catV
  rw [if_neg (by omega)]
  show atV [.string s] (0 + (n - n * 1)) = _
  rw [show 0 + (n - n * 1) = 0 by omega]
  rfl
theorem n1_eq (i : Nat) : n1 i = i + 1 := by unfold n1; omega
theorem two_ok (x y : ByteArray) : (twoSs x y).ok := ⟨Nat.le_refl _, by show (2 : Nat) ≤ _; omega⟩
theorem two_rls {x y : ByteArray} : rlsP (twoSs x y) ↔ rlmP x ∧ rlmP y := by
  constructor
  · intro h
    exact ⟨h 0 (by show (0 : Nat) < 2; omega), h 1 (by show (1 : Nat) < 2; omega)⟩
  · rintro ⟨h1, h2⟩ i hi
    have hi : i < 2 := hi
    rcases (show i = 0 ∨ i = 1 by omega) with rfl | rfl
    · exact h1
    · exact h2
/-- what comes of it -/
def heD (x y : ByteArray) (bu : Bool) (v : SV) (H : List SO) : Prop :=
  (comB x y = false ∧ v = .tuple [.nilSlice, .int .i64 (.lit 9)]) ∨
  (comB x y = true ∧ cK x y = 0 ∧ v = .tuple [pV 0 ((cI x y : Int) + 1), .int .i64 (.lit 0)] ∧ H[0]? = some (upE bu x)) ∨
  (comB x y = true ∧ cK x y ≠ 0 ∧ ∃ V, v = .tuple [.slice ⟨0, .lit 0⟩ (.sym (hieN x y)) (.rest 0 0), .int .i64 (.lit 0)] ∧ H[0]? = some (.own (.raw V (hieN x y * 1)) false 9) ∧ ∀ j, j < hieN x y → V j = .string (hieS x y j))
inductive HeK where
  | O (i : Nat)
  | A (i : Nat) (q m : Int)
  | B (i : Nat) (q m : Int) (V : Nat → Value) (n : Nat)
noncomputable def heK (x y : ByteArray) (bu bd : Bool) : HeK → Cut
  | .O i => heO x y bu bd i
  | .A i q m => heA x y bu bd i q m
  | .B i q m V n => heB x y bu bd i q m V n
def heQ (x y : ByteArray) : HeK → Prop
  | .O i => i ≤ dep x + 1 ∧ ∀ j, j < i → ¬ hasM x y j
  | .A i q m => i ≤ dep x ∧ hasM x y i ∧ (∀ j, j < i → ¬ hasM x y j) ∧ q = (comK x y i : Int) ∧ m = q - 1
  | .B i q m V n => i ≤ dep x ∧ hasM x y i ∧ (∀ j, j < i → ¬ hasM x y j) ∧ q = (comK x y i : Int) ∧ ∃ t, 1 ≤ t ∧ t ≤ comK x y i ∧ m = q - 1 - t ∧ n = i + 1 + t ∧ ∀ j, j < n → V j = .string (hieG x y i (comK x y i) j)
noncomputable def heMu (x _y : ByteArray) : HeK → Nat
  | .O i => (dep x + 1 - i) * 1000 + 500
  | .A _ _ _ => 400
  | .B _ _ m _ _ => (m + 1).toNat
theorem he_runs {x y : ByteArray} (hx : rlmP x) (hy : rlmP y) : Runs cfgH 8 [.str (.sym x), .str (.sym y)] [] (heD x y (cutF x)) := by
  have hdx : dep x + 1 ≤ 16 := (dep_all 16 x hx hx.2.1).1
  have hdy : dep y + 1 ≤ 16 := (dep_all 16 y hy hy.2.1).1
  have hcx : ∀ i, i ≤ dep x → i + 1 ≤ boolC (cutF x) (Nat.succ (dep x)) 1 := fun i hi => by
    cases hc : cutF x with
    | true => show i + 1 ≤ Nat.succ (dep x); omega
    | false => have := dep_zero hc; show i + 1 ≤ 1; omega
  have hcy : ∀ i, i ≤ dep y → i + 1 ≤ boolC (cutF y) (Nat.succ (dep y)) 1 := fun i hi => by
    cases hc : cutF y with
    | true => show i + 1 ≤ Nat.succ (dep y); omega
    | false => have := dep_zero hc; show i + 1 ≤ 1; omega
  have hok : (dSs (cutF y) y).ok := ⟨by show 0 + Nat.succ (dep y) ≤ Nat.succ (dep y); omega, by show Nat.succ (dep y) ≤ 1099511627776; omega⟩
  have hB : (!cB (rlsP (twoSs x y))) = false := by rw [cB_true (two_rls.2 ⟨hx, hy⟩)]; rfl
  refine runs_by cfgHOK (heK x y (cutF x) (cutF y)) (heQ x y) (heMu x y) (fun g nm hg => by cases hg) ?_ fun a ha J => ?_
  · refine to_startM (some (1, 3)) 20000 (HeK.O 0) ⟨Nat.zero_le _, fun j hj => by omega⟩ (fun z => he_init x y (cutF x) (cutF y) z) (he_n0 x y _ _) (fun q hq p u hp hu => ?_) (fun e he => by cases he) (all_cons (two_ok x y) (all_cons hB (all_cons hx (all_cons rfl (all_cons hy (all_cons rfl all_nil))))))
    obtain rfl : q = (0, 25, .int .i64 (.lit 0)) := by simpa using hq
    exact tmp_set (he_tmp x y _ _ 0) hp hu (int_impS rfl)
  cases a with
  | O i =>
    obtain ⟨hi, hno⟩ := ha
    show TurnsTo cfgH _ (heK x y (cutF x) (cutF y)) _ _ ((heO x y (cutF x) (cutF y) i).fill J)
    by_cases hin : i ≤ dep x
    · have hL : ∀ t : List Prop, (∀ p ∈ t, p) → ∀ p ∈ ltC x y (cutF y) i t, p := fun t ht => all_cons (decide_eq_true (by omega)) (all_cons ⟨by omega, by omega⟩ (all_cons (by omega) (all_cons (strF_isS _) (all_cons hok ht))))
      have h64 : inI64 ((i : Int) + 1) := ⟨by omega, by omega⟩
      by_cases hm : hasM x y i
      · have hqv := hq_some (bd := cutF y) hm
        have hk := (comK_le hm).1
        have hk2 := hcy _ hk
        have hi2 := hcx _ hin
        refine to_turn (some (2, 2)) 20000 (HeK.A i (hq x y (cutF y) i) ((hq x y (cutF y) i).toNat - 1)) ⟨⟨hin, hm, hno, hqv, by rw [hqv]; omega⟩, by show 400 < (dep x + 1 - i) * 1000 + 500; omega⟩ (fun z => he_body x y _ _ i J z) (he_nA x y _ _ i _ _) (hL _ ?_)
        exact all_cons (decide_eq_false (by omega)) (all_cons h64 (all_cons h64 (all_cons ⟨by omega, by omega⟩ (all_cons ⟨by omega, by omega⟩ (all_cons ⟨by omega, by omega⟩ (all_cons ⟨by omega, by omega⟩ (all_cons ⟨by omega, by omega⟩ all_nil)))))))
      · have hqv := hq_none (bd := cutF y) hm
        exact to_turn (some (1, 3)) 20000 (HeK.O (i + 1)) ⟨⟨by omega, fun j hj => by
          by_cases c : j < i
          · exact hno j c
          · obtain rfl : j = i := by omega
            exact hm⟩, by show (dep x + 1 - (i + 1)) * 1000 + 500 < (dep x + 1 - i) * 1000 + 500; omega⟩ (fun z => he_next x y _ _ i J z) (he_nO x y _ _ i) (hL _ (all_cons (decide_eq_true (by omega)) (all_cons h64 all_nil)))
    · exact to_end none 20000 (fun z => he_none x y _ _ i J z) (all_cons (decide_eq_false (by omega)) all_nil) fun H _ => .inl ⟨com_none fun j hj => hno j (by omega), rfl⟩
  | A i q m =>
    obtain ⟨hin, hm, hno, hq, hmq⟩ := ha
    obtain ⟨hc1, hc2⟩ := com_some hin hm hno
    have hk := (comK_le hm).1
    have hck : cK x y = comK x y i := by unfold cK; rw [hc2]
    show TurnsTo cfgH _ (heK x y (cutF x) (cutF y)) _ _ ((heA x y (cutF x) (cutF y) i q m).fill J)
    by_cases hz : comK x y i = 0
    · refine to_end none 20000 (fun z => he_A0 x y _ _ i J q m z) (all_cons (decide_eq_false (by omega)) all_nil) fun H hH => .inr (.inl ⟨hc1, by rw [hck]; exact hz, by rw [hc2], ?_⟩)
      exact (List.cons.inj (show [H[0]?] = [some (upE (cutF x) x)] from hH)).1
    · refine to_turn (some (2, 2)) 20000 (HeK.B i q (m - 1) (addV (sufV x) (n1 i) (suf y (0 + m.toNat * 1))) (n1 i + 1)) ⟨⟨hin, hm, hno, hq, 1, Nat.le_refl _, by omega, by omega, by rw [n1_eq], fun j hj => ?_⟩, by show (m - 1 + 1).toNat < 400; omega⟩ (fun z => he_A1 x y _ _ i J q m z) (he_nB x y _ _ i _ _ _ _) ?_
      · rw [n1_eq] at hj ⊢
        unfold hieG
        by_cases c : j ≤ i
        · rw [if_pos c, addV_old (by omega)]; rfl
        · obtain rfl : j = i + 1 := by omega
          rw [if_neg c, addV_new, show 0 + m.toNat * 1 = comK x y i - (i + 1 - i) by omega]
      · rw [n1_eq]
        exact all_cons (decide_eq_true (by omega)) (all_cons ⟨by omega, by omega⟩ (all_cons (by omega) (all_cons (Nat.le_refl 1) (all_cons (decide_eq_false (by omega)) (all_cons ⟨by omega, fun j _ => ⟨_, rfl⟩⟩ (all_cons ⟨by omega, by omega⟩ (all_cons ⟨by omega, by omega⟩ all_nil)))))))
  | B i q m V n =>
    obtain ⟨hin, hm, hno, hq, t, ht1, ht2, hmt, hn, hV⟩ := ha
    obtain ⟨hc1, hc2⟩ := com_some hin hm hno
    have hk := (comK_le hm).1
    have hck : cK x y = comK x y i := by unfold cK; rw [hc2]
    show TurnsTo cfgH _ (heK x y (cutF x) (cutF y)) _ _ ((heB x y (cutF x) (cutF y) i q m V n).fill J)
    by_cases hz : t = comK x y i
    · refine to_end none 20000 (fun z => he_B0 x y _ _ i J q m V n z) (all_cons (decide_eq_false (by omega)) all_nil) fun H hH => .inr (.inr ⟨hc1, by rw [hck]; omega, V, ?_, ?_, ?_⟩)
      · rw [show hieN x y = n by unfold hieN; rw [hck, hc2, hn, hz]]
      · rw [show hieN x y = n by unfold hieN; rw [hck, hc2, hn, hz]]
        exact (List.cons.inj (show [H[0]?] = [some (.own (.raw V (n * 1)) false 9)] from hH)).1
      · intro j hj
        rw [show hieN x y = n by unfold hieN; rw [hck, hc2, hn, hz]] at hj
        rw [hV j hj]
        unfold hieS
        rw [hck, hc2]
    · refine to_turn (some (2, 2)) 20000 (HeK.B i q (m - 1) (addV V n (suf y (0 + m.toNat * 1))) (n + 1)) ⟨⟨hin, hm, hno, hq, t + 1, by omega, by omega, by omega, by omega, fun j hj => ?_⟩, by show (m - 1 + 1).toNat < (m + 1).toNat; omega⟩ (fun z => he_B1 x y _ _ i J q m V n z) (he_nB x y _ _ i _ _ _ _) ?_
      · by_cases c : j < n
        · rw [addV_old c]; exact hV j c
        · obtain rfl : j = n := by omega
          rw [addV_new]
          unfold hieG
          rw [if_neg (by omega), show 0 + m.toNat * 1 = comK x y i - (j - i) by omega]
      · exact all_cons (decide_eq_true (by omega)) (all_cons ⟨by omega, by omega⟩ (all_cons (by omega) (all_cons (Nat.le_refl 1) (all_cons (by omega) (all_cons ⟨⟨by omega, by omega⟩, fun j hj => by obtain rfl : j = 0 := (by omega); rfl⟩ (all_cons ⟨by omega, by omega⟩ all_nil))))))
/- The summary. -/
theorem raw_imp {V : Nat → Value} {S : Nat → ByteArray} {n : Nat} (h : ∀ j, j < n → V j = .string (S j)) : (Cells.raw V (n * 1)).Imp (.fn (strF S) n) := fun γ vs hv => by
  obtain ⟨h1, h2⟩ : vs.length = n * 1 ∧ ∀ (i : Nat) (x : Value), vs[i]? = some x → x = V i := hv
  refine ⟨by omega, fun i x hx => ?_⟩
  have hi : i < vs.length := (List.getElem?_eq_some_iff.1 hx).1
  rw [h2 i x hx, h i (by omega)]
  rfl
noncomputable def tupI (v : SV) (n : Int) : SV := .tuple [v, .int .i64 (.lit n)]
noncomputable def h0V (base : Nat) (x y : ByteArray) : SV := .slice ⟨base, .lit 0⟩ (.sym (cI x y + 1)) (.sym (cI x y + 1))
noncomputable def h1V (base : Nat) (x y : ByteArray) : SV := .slice ⟨base, .lit 0⟩ (.sym (hieN x y)) (.rest base 0)
noncomputable def h1E (x y : ByteArray) : SO := .own (.fn (strF (hieS x y)) (hieN x y)) false 9
noncomputable def hieR (base : Nat) (x y : ByteArray) : R SumRes :=
  .fork (rlmB x && rlmB y) (.fork (comB x y) (.fork (decide (cK x y = 0)) (.ok ⟨tupI (h0V base x y) 0, [], [upE (cutF x) x]⟩) (.ok ⟨tupI (h1V base x y) 0, [], [h1E x y]⟩)) (.ok ⟨tupI .nilSlice 9, [], []⟩)) (.ok ⟨tupI .nilSlice 2, [], []⟩)
noncomputable def hieSm : Summ := fun args _ base => args2 args fun v w => optC (strV v) (.stuck 7824) fun x => optC (strV w) (.stuck 7824) fun y => hieR base x.den y.den
theorem and_B {x y : ByteArray} (h : (rlmB x && rlmB y) = true) : rlmP x ∧ rlmP y := by
  rw [Bool.and_eq_true] at h
  exact ⟨cB_iff.1 h.1, cB_iff.1 h.2⟩
theorem nand_B {x y : ByteArray} (h : (rlmB x && rlmB y) = false) : ¬ (rlmP x ∧ rlmP y) := fun ⟨h1, h2⟩ => by
  rw [rlmB_true h1, rlmB_true h2] at h
  cases h
theorem hieOK : SumOK Tryd.prog 8 hieSm := by
  intro glob O w0 β H w base args vs hH hG ha
  refine args2_sat fun v w' hv => optC_only fun x hx => optC_only fun y hy => ?_
  rw [hv, strV_spec hx, strV_spec hy] at ha
  have ha := impL_cons (str_imp (t := .sym x.den) rfl) (impL_cons (str_imp (t := .sym y.den) rfl) impL_nil) _ _ ha
  generalize x.den = x at ha ⊢
  generalize y.den = y at ha ⊢
  let I : Ifc := ⟨[], [], [.str (.sym x), .str (.sym y)]⟩
  have hF : I.FitsQ H := (fits0 rfl).q
  refine ⟨fun hv => ?_, fun hv => ?_⟩
  · obtain ⟨h1, h2⟩ := and_B hv
    have hr := he_runs h1 h2
    refine ⟨fun hc => ⟨fun hk => ?_, fun hk => ?_⟩, fun hc => ?_⟩
    · have hk := of_decide_eq_true hk
      refine sum_runsQ (c := cfgH) hH I (by intro g j hg; cases hg) ha hF [0] (by simp [I]) (by simp) (runs_mono hr fun v H h => ?_)
      rcases h with ⟨h, _⟩ | ⟨_, _, rfl, h⟩ | ⟨_, h, _⟩
      · rw [hc] at h; cases h
      · have hz : ((cI x y : Int) + 1).toNat = cI x y + 1 := by omega
        refine ⟨?_, rfl, trivial, ⟨.inl ⟨_, _, _, _, h, fun _ => rfl, Cells.Imp.refl _, rfl⟩, trivial⟩⟩
        show SV.Imp (tupI (.slice ⟨base, .lit 0⟩ (.sym ((cI x y : Int) + 1).toNat) (.sym ((cI x y : Int) + 1).toNat)) 0) _
        rw [hz]
        exact .refl _
      · exact absurd hk h
    · have hk := of_decide_eq_false hk
      refine sum_runsQ (c := cfgH) hH I (by intro g j hg; cases hg) ha hF [0] (by simp [I]) (by simp) (runs_mono hr fun v H h => ?_)
      rcases h with ⟨h, _⟩ | ⟨_, h, _⟩ | ⟨_, _, V, rfl, h, hV⟩
      · rw [hc] at h; cases h
      · exact absurd h hk
      · exact ⟨.refl _, rfl, trivial, ⟨.inl ⟨_, _, _, _, h, trivial, raw_imp hV, rfl⟩, trivial⟩⟩
    · refine sum_runsQ (c := cfgH) hH I (by intro g j hg; cases hg) ha hF [] (by simp [I]) (by simp) (runs_mono hr fun v H h => ?_)
      rcases h with ⟨_, rfl⟩ | ⟨h, _⟩ | ⟨h, _⟩
      · exact ⟨.refl _, rfl, trivial, trivial⟩
      · rw [hc] at h; cases h
      · rw [hc] at h; cases h
  · refine sum_runQ (cfgHOK.at none) 20000 hH I (by intro g j hg; cases hg) ha hF [] (by simp [I]) (by simp) (outO_ob (he_bad x y) (all_cons (two_ok x y) (all_cons ?_ all_nil)) fun H2 _ => ⟨.refl _, rfl, trivial, trivial⟩)
    rw [cB_false fun h => nand_B hv (two_rls.1 h)]; rfl
end Go.Proofs.YtbhhagnpgkjmgaaDoor.Aes

