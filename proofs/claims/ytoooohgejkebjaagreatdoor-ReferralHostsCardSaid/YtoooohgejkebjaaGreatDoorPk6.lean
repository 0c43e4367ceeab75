/-
  Texts behind one another: the symbolic simulator and what it is told of the program.
-/
import Derived.Test.YtoooohgejkebjaaGreatDoorPk5
import Derived.WideShapes
import Derived.ChangeShapes
import Derived.ChangeSlices
import Derived.Deep.Strs
import Derived.Shelf.SortG.Plain

/-
  The symbolic simulator, thirty-first part: the start of a law: slices of bytes that came in; its end.
-/
namespace Go.Sim
open Go.RowKit
variable {α : Type}

/-- where a slice that came in leads is no spot -/
theorem spot_of {P : Program} {w : World} {r : Reach} {base t e : Nat} {a : Option Addr} {len cap : Nat} (ht : P.underlying t = some (.slice e)) (h : Value.okWide P w r base t (.slice a len cap)) : ∀ x, a = some x → x.spot = none := by
  rintro x rfl
  simp only [Value.okWide, ht, Cell.okWide, Cell.ok] at h
  exact h.2.2.2.1
/-- A LAW THAT RETURNS TRUE, FROM A RUN -/
theorem calls_true {c : Cfg} (hc : CfgOK c) (n : Nat) {w : World} {β : Val} {H : List SO} {f : FuncId} {args : List SV} {vs : List Value} (hH : HeapRel c.P (fun _ => False) w β H w) (hG : GlobRel c.glob β) (ha : SV.denL β args = some vs)
    (hob : (callSim c n f args H).Ob (fun v _ => v = .bool (.lit true)) fun _ => False) : Calls c.P f vs.toArray w fun e w' => e = .returned (.bool true) ∧ Below w.heap.size w w' := by
  refine (calls_of hc hH hG ha hob).mono fun e w' hcame => ?_
  obtain ⟨v, H', x, β', rfl, rfl, _, hv, hH'⟩ := hcame
  cases hv
  exact ⟨rfl, hH'.keep.below⟩
/-- a path's conditions, at each fork the way that is told; its value, some of its entries -/
noncomputable def outO (js : List Nat) (t : Tree) : List Bool → List Prop × Option (SV × List (Option SO)) :=
  Tree.rec (motive := fun _ => List Bool → List Prop × Option (SV × List (Option SO))) (fun v H _ => ([], some (v, mapN (fun j => nth H j) js))) (fun _ _ => ([], none)) (fun p _ ih ds => (p :: (ih ds).1, (ih ds).2))
    (fun b _ _ iht ihf ds => List.rec (motive := fun _ => List Prop × Option (SV × List (Option SO))) ([], none) (fun d r _ => ((b = d) :: (boolC d (iht r) (ihf r)).1, (boolC d (iht r) (ihf r)).2)) ds) (fun _ _ => ([], none)) (fun _ _ _ => ([], none)) t
theorem outO_ob {js : List Nat} {t : Tree} {ds : List Bool} {ps : List Prop} {v : SV} {es : List (Option SO)} (h : outO js t ds = (ps, some (v, es))) (hp : ∀ p ∈ ps, p) {D : SV → List SO → Prop} {S : SS → Prop} (hD : ∀ H : List SO, js.map (fun j => H[j]?) = es → D v H) : t.Ob D S := by
  induction t generalizing ps ds with
  | done v' H =>
    have h' : ([], some (v', mapN (fun j => nth H j) js)) = (ps, some (v, es)) := h
    have h1 := Option.some.inj (Prod.mk.inj h').2
    obtain ⟨h2, h3⟩ := Prod.mk.inj h1
    subst h2
    refine hD H ?_
    rw [mapN_eq] at h3
    rw [← h3]
    exact List.map_congr_left fun j _ => (nth_eq H j).symm
  | stop => cases (Prod.mk.inj (show ([], none) = (ps, some (v, es)) from h)).2
  | need p t ih =>
    have h' : (p :: (outO js t ds).1, (outO js t ds).2) = (ps, some (v, es)) := h
    obtain ⟨h1, h2⟩ := Prod.mk.inj h'
    subst h1
    exact ⟨hp p List.mem_cons_self, ih (ds := ds) (ps := (outO js t ds).1) (by rw [← h2]) fun q hq => hp q (List.mem_cons_of_mem _ hq)⟩
  | fork b t f iht ihf =>
    cases ds with
    | nil => cases (Prod.mk.inj (show ([], none) = (ps, some (v, es)) from h)).2
    | cons d r =>
      have h' : ((b = d) :: (boolC d (outO js t r) (outO js f r)).1, (boolC d (outO js t r) (outO js f r)).2) = (ps, some (v, es)) := h
      obtain ⟨h1, h2⟩ := Prod.mk.inj h'
      subst h1
      have hb := hp _ List.mem_cons_self
      cases d with
      | true => exact ⟨fun _ => iht (ds := r) (ps := (outO js t r).1) (by rw [← h2]; rfl) fun q hq => hp q (List.mem_cons_of_mem _ hq), fun hf => by rw [hf] at hb; cases hb⟩
      | false => exact ⟨fun ht => (by rw [ht] at hb; cases hb), fun _ => ihf (ds := r) (ps := (outO js f r).1) (by rw [← h2]; rfl) fun q hq => hp q (List.mem_cons_of_mem _ hq)⟩
  | stuck => cases (Prod.mk.inj (show ([], none) = (ps, some (v, es)) from h)).2
  | any => cases (Prod.mk.inj (show ([], none) = (ps, some (v, es)) from h)).2
theorem sum_outO {c : Cfg} (hc : CfgOK c) (hgl : c.glob = fun _ => none) (n : Nat) {O : Nat → Prop} {w0 w : World} {β : Val} {H : List SO} {base : Nat} {f : FuncId} {vs : List Value} (hH : HeapRel0 c.P O w0 β H w)
    (I : Ifc) (ha : SV.denL β (SV.renL I.big I.args) = some vs) (hI : I.Fits H) {r : SumRes} (keep : List Nat) (hk : ∀ j ∈ keep, I.names.length ≤ j) (hkn : keep.Nodup)
    {js : List Nat} {ds : List Bool} {ps : List Prop} {v : SV} {es : List (Option SO)} (h : outO js (callSim c n f I.args I.ents) ds = (ps, some (v, es))) (hp : ∀ p ∈ ps, p) (hD : ∀ H2 : List SO, js.map (fun j => H2[j]?) = es → I.Ends base keep r v H2) : SumSem c.P H β w base f vs r :=
  sum_run hc hgl n hH I ha hI keep hk hkn (outO_ob h hp hD)
/-- conditions, one by one -/
theorem all_nil : ∀ p ∈ ([] : List Prop), p := by simp
theorem all_cons {p : Prop} {ps : List Prop} (h : p) (hs : ∀ q ∈ ps, q) : ∀ q ∈ p :: ps, q := by
  intro q hq
  rcases List.mem_cons.1 hq with rfl | hq
  · exact h
  · exact hs q hq
theorem law_by {c : Cfg} (hc : CfgOK c) (n : Nat) {w : World} {β : Val} {H : List SO} {f : FuncId} {args : List SV} {vs : List Value} (hH : HeapRel c.P (fun _ => False) w β H w) (hG : GlobRel c.glob β) (ha : SV.denL β args = some vs) (ds : List Bool)
    {ps : List Prop} (h : outO [] (callSim c n f args H) ds = (ps, some (.bool (.lit true), []))) (hp : ∀ p ∈ ps, p) : Calls c.P f vs.toArray w fun e w' => e = .returned (.bool true) ∧ Below w.heap.size w w' :=
  calls_true hc n hH hG ha (by generalize callSim c n f args H = t at h ⊢; exact outO_ob h hp fun _ _ => rfl)


end Go.Sim


/-
  The symbolic simulator, thirty-second part: loops of any number of rounds.
-/
namespace Go.Sim
variable {α : Type}

/- A state of which some temporaries are known: where a loop's round begins. -/
structure SP where
  fn : FuncId
  tmps : List (Option SV)
  todo : List SItem
  defers : List SD
  roundOf : Option Nat
/-- an entry; a loop's record of which some temporaries are known -/
inductive HP where
  | ent (e : SO)
  | loop (state : LoopState) (pending : Option Code) (fn : FuncId) (tmps : List (Option SV)) (params : Array Tmp) (assign body : Code) (defers : Nat)
structure Cut where
  frames : List SP
  heap : List HP
/-- what nobody looks at -/
structure Junk where
  fr : Nat → Nat → Value
  hp : Nat → Nat → Value
noncomputable def fillT (js : Nat → Value) (T : List (Option SV)) : Nat → List SV :=
  List.rec (motive := fun _ => Nat → List SV) (fun _ => []) (fun o _ ih k => optC o (.val (js k)) (fun v => v) :: ih (Nat.succ k)) T
noncomputable def SP.fill (js : Nat → Value) (p : SP) : SF := ⟨p.fn, fillT js p.tmps 0, p.todo, p.defers, p.roundOf⟩
noncomputable def fillFs (J : Nat → Nat → Value) (l : List SP) : Nat → List SF := List.rec (motive := fun _ => Nat → List SF) (fun _ => []) (fun p _ ih i => p.fill (J i) :: ih (Nat.succ i)) l
noncomputable def HP.fill (js : Nat → Value) (E : HP) : SO := HP.rec (motive := fun _ => SO) (fun e => e) (fun s p f T ps a b d => .loop s p f (fillT js T 0) ps a b d) E
noncomputable def fillHs (J : Nat → Nat → Value) (l : List HP) : Nat → List SO := List.rec (motive := fun _ => Nat → List SO) (fun _ => []) (fun p _ ih i => p.fill (J i) :: ih (Nat.succ i)) l
noncomputable def Cut.fill (J : Junk) (C : Cut) : SS := ⟨fillFs J.fr C.frames 0, fillHs J.hp C.heap 0⟩

/- Names turned. -/
def SItem.ren (f : Nat → Nat) : SItem → SItem
  | .inRF n => .inRF (f n)
  | .endRF n => .endRF (f n)
  | x => x
def SD.ren (f : Nat → Nat) : SD → SD
  | .coll n => .coll (f n)
  | .call g xs ys => .call (g.ren f) (SV.renL f xs) (SV.renL f ys)
theorem ItemRel.ren {β : Val} (f : Nat → Nat) {x : SItem} {y : Item} (h : ItemRel β (x.ren f) y) : ItemRel (fun n => β (f n)) x y := by
  cases x <;> cases y <;> exact h
theorem TodoRel.ren {β : Val} (f : Nat → Nat) : ∀ {x : List SItem} {y : List Item}, TodoRel β (x.map (SItem.ren f)) y → TodoRel (fun n => β (f n)) x y
  | [], [], _ => trivial
  | _ :: _, _ :: _, h => ⟨ItemRel.ren f h.1, TodoRel.ren f h.2⟩
  | [], _ :: _, h => h.elim
  | _ :: _, [], h => h.elim
theorem SD.den_ren (f : Nat → Nat) (β : Val) (d : SD) : (d.ren f).den β = d.den (fun n => β (f n)) := by
  cases d with
  | coll n => rfl
  | call g xs ys => simp only [SD.ren, SD.den, SFn.den_ren, SV.denL_ren]
theorem SD.denL_ren (f : Nat → Nat) (β : Val) : ∀ l : List SD, SD.denL β (l.map (SD.ren f)) = SD.denL (fun n => β (f n)) l
  | [] => rfl
  | d :: l => by simp only [List.map_cons, SD.denL, SD.den_ren, SD.denL_ren f β l]

/- What a state comes to, az a cut with other names. -/
def GenT (f : Nat → Nat) : List SV → List (Option SV) → Prop
  | v :: vs, some u :: us => v.Imp (u.ren f) ∧ GenT f vs us
  | _ :: vs, none :: us => GenT f vs us
  | [], [] => True
  | _, _ => False
structure GenF (f : Nat → Nat) (s : SF) (p : SP) : Prop where
  fn : s.fn = p.fn
  tmps : GenT f s.tmps p.tmps
  todo : s.todo = p.todo.map (SItem.ren f)
  defers : s.defers = p.defers.map (SD.ren f)
  roundOf : s.roundOf = p.roundOf.map f
def GenFs (f : Nat → Nat) : List SF → List SP → Prop
  | s :: ss, p :: ps => GenF f s p ∧ GenFs f ss ps
  | [], [] => True
  | _, _ => False
def GenE (f : Nat → Nat) (e : Option SO) (E : HP) : Prop :=
  match E with
  | .ent (.own c w el) => ∃ c0, e = some (.own c0 w el) ∧ c0.Imp (c.ren f)
  | .ent (.row c) => ∃ c0, e = some (.row c0) ∧ c0.Imp (c.ren f)
  | .ent (.deferred ds) => e = some (.deferred (ds.map (List.map (SD.ren f))))
  | .ent (.obj o) => ∃ o0, e = some (.obj o0) ∧ o0.Imp (o.ren f)
  | .ent .gone => True
  | .ent (.loop ..) => False
  | .loop s p g T ps a b d => ∃ T0, e = some (.loop s p g T0 ps a b (f d)) ∧ GenT f T0 T
/-- the names, and what is beyond -/
noncomputable def nameOf (names : List Nat) (N j : Nat) : Nat := optC (nth names j) (Nat.add N j) fun n => n
structure Gen (k0 : Nat) (s : SS) (C : Cut) (names : List Nat) : Prop where
  keep : ∀ j, j < k0 → names[j]? = some j
  nodup : names.Nodup
  len : names.length = C.heap.length
  frames : GenFs (nameOf names s.heap.length) s.frames C.frames
  heap : ∀ j E, C.heap[j]? = some E → GenE (nameOf names s.heap.length) s.heap[nameOf names s.heap.length j]? E
/-- names that a run has had from its start lie ahead of k0 -/
structure BaseOK (k0 : Nat) (B : Base) : Prop where
  fix : ∀ n, k0 ≤ n → B.fix n = none
  glob : ∀ g nm, B.glob g = some nm → nm < k0

theorem fillT_den {β β' : Val} {f : Nat → Nat} (hβ : β' = fun n => β (f n)) {js : Nat → Value} : ∀ {vs : List SV} {T : List (Option SV)} {xs : List Value} {o : Nat}, SV.denL β vs = some xs → GenT f vs T → (∀ k x, xs[k]? = some x → js (o + k) = x) → SV.denL β' (fillT js T o) = some xs
  | [], [], xs, o, h, _, _ => h
  | v :: vs, u :: us, xs, o, h, hg, hj => by
    obtain ⟨y, ys, hy, hys, rfl⟩ := denL_cons.1 h
    have hj' : ∀ k x, ys[k]? = some x → js (o + 1 + k) = x := fun k x hk => by
      rw [show o + 1 + k = o + (k + 1) from by omega]; exact hj (k + 1) x (by simpa using hk)
    cases u with
    | some u =>
      refine denL_cons.2 ⟨y, ys, ?_, fillT_den hβ hys hg.2 hj', rfl⟩
      show u.den β' = _
      rw [hβ, ← SV.den_ren]; exact hg.1 _ _ hy
    | none =>
      refine denL_cons.2 ⟨y, ys, ?_, fillT_den hβ hys hg hj', rfl⟩
      show some (js o) = _
      rw [show o = o + 0 from rfl, hj 0 y rfl]
  | [], _ :: _, _, _, _, h, _ => h.elim
  | _ :: _, [], _, _, _, h, _ => h.elim

theorem nameOf_lt {names : List Nat} {N j : Nat} (h : j < names.length) : names[j]? = some (nameOf names N j) := by
  unfold nameOf
  rw [nth_eq, List.getElem?_eq_getElem h]; rfl
theorem nameOf_ge {names : List Nat} {N j : Nat} (h : names.length ≤ j) : nameOf names N j = N + j := by
  unfold nameOf
  rw [nth_eq, List.getElem?_eq_none h]; rfl
theorem fillHs_get (J : Nat → Nat → Value) : ∀ (l : List HP) (o i : Nat), (fillHs J l o)[i]? = l[i]?.map (HP.fill (J (o + i)))
  | [], _, _ => by simp [fillHs]
  | _ :: _, _, 0 => rfl
  | _ :: l, o, i + 1 => by
    show (fillHs J l (o + 1))[i]? = _
    rw [fillHs_get J l (o + 1) i, show o + 1 + i = o + (i + 1) from by omega]; simp
theorem fillHs_length (J : Nat → Nat → Value) : ∀ (l : List HP) (o : Nat), (fillHs J l o).length = l.length
  | [], _ => rfl
  | _ :: l, o => congrArg (· + 1) (fillHs_length J l (o + 1))
theorem HP.owned_fill {f : Nat → Nat} {js : Nat → Value} {e : Option SO} {E : HP} (h : GenE f e E) (ho : (E.fill js).owned = true) : ∃ e0, e = some e0 ∧ e0.owned = true := by
  cases E with
  | ent E =>
    cases E with
    | own c w el => obtain ⟨c0, rfl, _⟩ := h; exact ⟨_, rfl, rfl⟩
    | row c => cases ho
    | loop => exact h.elim
    | deferred ds => have h : e = _ := h; subst h; exact ⟨_, rfl, rfl⟩
    | gone => cases ho
    | obj o => obtain ⟨o0, rfl, _⟩ := h; exact ⟨_, rfl, rfl⟩
  | loop s p g T ps a b d => obtain ⟨T0, rfl, _⟩ := h; exact ⟨_, rfl, rfl⟩

theorem framesRel_fill {β β' : Val} {f : Nat → Nat} (hβ : β' = fun n => β (f n)) {J : Nat → Nat → Value} : ∀ {ss : List SF} {ps : List SP} {fs : List Frame} {o : Nat}, FramesRel β ss fs → GenFs f ss ps → (∀ i fr, fs[i]? = some fr → ∀ k x, fr.tmps.toList[k]? = some x → J (o + i) k = x) → FramesRel β' (fillFs J ps o) fs
  | [], [], [], o, _, _, _ => trivial
  | s :: ss, p :: ps, fr :: fs, o, h, hg, hj => by
    have h0 := hj 0 fr rfl
    refine ⟨?_, framesRel_fill hβ h.2 hg.2 fun i fr' hi k x hk => ?_⟩
    · obtain ⟨h1, h2, h3, h4, h5, h6, h7⟩ := h.1
      obtain ⟨g1, g2, g3, g4, g5⟩ := hg.1
      refine ⟨h1.trans g1, ?_, ?_, ?_, h5, h6, ?_⟩
      · exact fillT_den hβ h2 g2 fun k x hk => by rw [Nat.zero_add]; exact h0 k x hk
      · rw [hβ]; rw [g3] at h3; exact TodoRel.ren f h3
      · show SD.denL β' p.defers = _
        rw [hβ, ← SD.denL_ren, ← g4]; exact h4
      · show RoundRel β' p.roundOf fr.roundOf
        rw [hβ]
        rw [g5] at h7
        cases hp : p.roundOf <;> cases hr : fr.roundOf <;> rw [hp, hr] at h7 <;> exact h7
    · rw [show o + 1 + i = o + (i + 1) from by omega]
      exact hj (i + 1) fr' (by simpa using hi) k x hk
  | [], _ :: _, _, _, _, h, _ => h.elim
  | _ :: _, [], _, _, _, h, _ => h.elim
  | [], [], _ :: _, _, h, _, _ => h.elim
  | _ :: _, _ :: _, [], _, h, _, _ => h.elim

theorem Cells.den_ren (f : Nat → Nat) {β : Val} {c : Cells} {vs : List Value} (h : CellsRel β (c.ren f) vs) : CellsRel (fun n => β (f n)) c vs := by
  cases c with
  | lst l =>
    have h : SV.denL β (SV.renL f l) = some vs := h
    rw [SV.denL_ren] at h; exact h
  | fn g n =>
    obtain ⟨h1, h2⟩ := h
    refine ⟨h1, fun i x hx => ?_⟩
    have := h2 i x hx
    rw [SV.den_ren] at this; exact this
  | raw V n => exact h

/-- A STATE IS A CUT, with what nobody looks at filled in -/
theorem gen_rel {B : Base} {k0 : Nat} (hB : BaseOK k0 B) {s : SS} {C : Cut} {names : List Nat} (h : Gen k0 s C names) {m : Machine} (hM : MRel B s m) : ∃ J, MRel B (C.fill J) m := by
  obtain ⟨β, fr, frs, w, rfl, hFs, hH, hG, hl⟩ := hM.ex
  obtain ⟨hkeep, hnd, hlen, hgf, hgh⟩ := h
  generalize hf : nameOf names s.heap.length = f at hgf hgh
  have hlt : ∀ j, j < names.length → names[j]? = some (f j) := fun j hj => by rw [← hf]; exact nameOf_lt hj
  have hge : ∀ j, names.length ≤ j → f j = s.heap.length + j := fun j hj => by rw [← hf]; exact nameOf_ge hj
  have hid : ∀ j, j < k0 → f j = j := fun j hj => by
    have h1 := hkeep j hj
    have h2 := (List.getElem?_eq_some_iff.1 h1).1
    rw [hlt j h2] at h1; exact Option.some.inj h1
  have hinj : ∀ i j, i < names.length → j < names.length → f i = f j → i = j := fun i j hi hj he => by
    have h1 := hlt i hi
    have h2 := hlt j hj
    rw [he] at h1
    exact (List.getElem?_inj hi hnd).1 (h1.trans h2.symm)
  let J : Junk := ⟨fun i k => (((fr :: frs)[i]?).bind fun g => g.tmps.toList[k]?).getD undef, fun j k => ((β (f j)).bind fun l => match w.heap[l.blk]? with | some (.loop r) => r.tmps.toList[k]? | _ => none).getD undef⟩
  have hent : ∀ j e, (fillHs J.hp C.heap 0)[j]? = some e → ∃ E : HP, C.heap[j]? = some E ∧ e = E.fill (J.hp j) := fun j e he => by
    rw [fillHs_get, Nat.zero_add] at he
    cases hE : C.heap[j]? with
    | none => rw [hE] at he; cases he
    | some E => rw [hE] at he; exact ⟨E, rfl, (Option.some.inj he).symm⟩
  have hjl : ∀ j E, C.heap[j]? = some E → j < names.length := fun j E h => by rw [hlen]; exact (List.getElem?_eq_some_iff.1 h).1
  refine ⟨J, ⟨fun n => β (f n), fr, frs, w, rfl, ?_, ⟨⟨?_, ?_, ?_, hH.keep⟩, ?_⟩, ⟨?_, ?_⟩, hl⟩⟩
  · refine framesRel_fill rfl hFs hgf fun i g hi k x hk => ?_
    show (((fr :: frs)[0 + i]?).bind fun g => g.tmps.toList[k]?).getD undef = x
    rw [Nat.zero_add, hi]
    show (g.tmps.toList[k]?).getD undef = x
    rw [hk]; rfl
  · intro j e he
    obtain ⟨E, hE, rfl⟩ := hent j e he
    have hg := hgh j E hE
    have hold := hH.entries (f j)
    cases E with
    | ent E =>
      cases E with
      | own c wh el =>
        obtain ⟨c0, h1, hi⟩ := hg
        obtain ⟨l, vs, rest, lo, hi2, hl2, h0, hc, hh, hz, hw, hcap⟩ := hold _ h1
        exact ⟨l, vs, rest, lo, hi2, hl2, h0, Cells.den_ren f (hi _ _ hc), hh, hz, hw, hcap⟩
      | row c =>
        obtain ⟨c0, h1, hi⟩ := hg
        obtain ⟨l, vs, hl2, hc, hx⟩ := hold _ h1
        exact ⟨l, vs, hl2, Cells.den_ren f (hi _ _ hc), hx⟩
      | loop => exact hg.elim
      | deferred ds =>
        obtain ⟨l, ds', hl2, hd, hh⟩ := hold _ hg
        refine ⟨l, ds', hl2, ?_, hh⟩
        cases ds with
        | none => exact hd
        | some ds =>
          have hd : (SD.denL β (ds.map (SD.ren f))).map some = some ds' := hd
          rw [SD.denL_ren] at hd; exact hd
      | gone => trivial
      | obj o =>
        obtain ⟨o0, h1, hi⟩ := hg
        obtain ⟨l, x, hl2, h0, hd, hh⟩ := hold _ h1
        refine ⟨l, x, hl2, h0, ?_, hh⟩
        rw [← SObj.den_ren]
        exact hi _ _ hd
    | loop st p g T ps a b d =>
      obtain ⟨T0, h1, hT⟩ := hg
      obtain ⟨l, ld, Ts, hl2, hd, hTs, hh⟩ := hold _ h1
      refine ⟨l, ld, Ts, hl2, hd, ?_, hh⟩
      refine fillT_den rfl hTs hT fun k x hk => ?_
      show ((β (f j)).bind fun l => _).getD undef = x
      rw [hl2]
      simp only [Option.bind_some, hh, Nat.zero_add, hk]
      rfl
  · intro i j e e' l l' hi hj ho ho' hij hl1 hl2
    obtain ⟨E, hE, rfl⟩ := hent i e hi
    obtain ⟨E', hE', rfl⟩ := hent j e' hj
    obtain ⟨e0, h1, h2⟩ := HP.owned_fill (hgh i E hE) ho
    obtain ⟨e1, h3, h4⟩ := HP.owned_fill (hgh j E' hE') ho'
    exact hH.sep (f i) (f j) e0 e1 l l' h1 h3 h2 h4 (fun he => hij (hinj i j (hjl i E hE) (hjl j E' hE') he)) hl1 hl2
  · intro j e l he ho hl1
    obtain ⟨E, hE, rfl⟩ := hent j e he
    obtain ⟨e0, h1, h2⟩ := HP.owned_fill (hgh j E hE) ho
    exact hH.fresh (f j) e0 l h1 h2 hl1
  · intro n hn
    have hn : (fillHs J.hp C.heap 0).length ≤ n := hn
    rw [fillHs_length, ← hlen] at hn
    show β (f n) = none
    rw [hge n hn]
    exact hH.bound _ (Nat.le_add_right _ _)
  · intro g nm hg
    obtain ⟨l, h1, h2⟩ := hG.glob g nm hg
    exact ⟨l, by show β (f nm) = some l; rw [hid nm (hB.glob g nm hg)]; exact h1, h2⟩
  · intro n l hn
    show β (f n) = some l
    by_cases hk : n < k0
    · rw [hid n hk]; exact hG.fix n l hn
    · rw [hB.fix n (by omega)] at hn; cases hn

/- The rule. -/
/-- the state is the beginning of a round -/
def Turns {A : Type} (k0 : Nat) (C : A → Cut) (Q : A → Prop) (s : SS) : Prop := ∀ B m, BaseOK k0 B → MRel B s m → ∃ a J, Q a ∧ MRel B ((C a).fill J) m
theorem turns_of {A : Type} {k0 : Nat} {C : A → Cut} {Q : A → Prop} {s : SS} (a : A) (hq : Q a) (names : List Nat) (h : Gen k0 s (C a) names) : Turns k0 C Q s :=
  fun _ _ hB hM => let ⟨J, hJ⟩ := gen_rel hB h hM; ⟨a, J, hq, hJ⟩
/-- the same, with another place to stop -/
def Cfg.at (c : Cfg) (st : Option (Nat × Nat)) : Cfg := { P := c.P, glob := c.glob, sums := c.sums, stopAt := st }
theorem CfgOK.at {c : Cfg} (hc : CfgOK c) (st : Option (Nat × Nat)) : CfgOK (c.at st) := ⟨hc.prog, hc.sums⟩
theorem loop_ends {c : Cfg} (hc : CfgOK c) {B : Base} {k0 : Nat} (hB : BaseOK k0 B) (hP : B.P = c.P) (hgl : B.glob = c.glob) {A : Type} (C : A → Cut) (OK : A → Prop) (μ : A → Nat) {D : SV → List SO → Prop}
    (hs : ∀ a, OK a → ∀ J, ∃ st n, (sim1 (c.at st) n ((C a).fill J)).Ob D (Turns k0 C fun a' => OK a' ∧ μ a' < μ a)) :
    ∀ (k : Nat) (a : A) (J : Junk) (m : Machine), μ a < k → OK a → MRel B ((C a).fill J) m → ∃ m' v H, Steps B.P m m' ∧ D v H ∧ DoneRel B v H m' := by
  intro k
  induction k with
  | zero => intro a J m h; omega
  | succ k ih =>
    intro a J m hk ha hM
    obtain ⟨st, n, hs'⟩ := hs a ha J
    obtain ⟨m1, hst, ⟨v, H, hD, hdone⟩ | ⟨s, hS, hM1⟩⟩ := sim1_sound (B := B) (hc.at st) hP hgl hM hs'
    · exact ⟨m1, v, H, hst, hD, hdone⟩
    · obtain ⟨a', J', ⟨ha', hμ⟩, hM2⟩ := hS B m1 hB hM1
      obtain ⟨m2, v, H, hst2, hD, hdone⟩ := ih a' J' m1 (by omega) ha' hM2
      exact ⟨m2, v, H, hst.trans hst2, hD, hdone⟩

/-- a function comes to its end, with such a value and such entries -/
def Runs (c : Cfg) (f : FuncId) (args : List SV) (H : List SO) (D : SV → List SO → Prop) : Prop :=
  (∃ fn, c.P.funcs[f]? = some fn ∧ fn.body.isSome = true) ∧ ∀ (O : Nat → Prop) (w0 w : World) (β : Val) (vs : List Value), HeapRel c.P O w0 β H w → GlobRel c.glob β → SV.denL β args = some vs → Calls c.P f vs.toArray w (Came c.P O w0 β D)
theorem runs_of {c : Cfg} (hc : CfgOK c) {n : Nat} {f : FuncId} {args : List SV} {H : List SO} {D : SV → List SO → Prop} (hob : (callSim c n f args H).Ob D fun _ => False) : Runs c f args H D := by
  refine ⟨?_, fun O w0 w β vs hH hG ha => calls_of hc hH hG ha hob⟩
  unfold callSim at hob
  cases hg : enterF c.P f args with
  | none => rw [hg] at hob; exact hob.elim
  | some g => exact enterF_body hg
/-- A FUNCTION WITH A LOOP -/
theorem runs_loop {c : Cfg} (hc : CfgOK c) {A : Type} (C : A → Cut) (OK : A → Prop) (μ : A → Nat) {D : SV → List SO → Prop} {f : FuncId} {args : List SV} {H : List SO} (hgl : ∀ g nm, c.glob g = some nm → nm < H.length)
    (h0 : ∃ st n, (callSim (c.at st) n f args H).Ob D (Turns H.length C OK))
    (hs : ∀ a, OK a → ∀ J, ∃ st n, (sim1 (c.at st) n ((C a).fill J)).Ob D (Turns H.length C fun a' => OK a' ∧ μ a' < μ a)) : Runs c f args H D := by
  obtain ⟨st0, n0, h0⟩ := h0
  unfold callSim at h0
  cases hg : enterF (c.at st0).P f args with
  | none => rw [hg] at h0; exact h0.elim
  | some g =>
    rw [hg] at h0
    refine ⟨enterF_body hg, fun O w0 w β vs hH hG ha cs => ?_⟩
    have hB : BaseOK H.length ⟨c.P, c.glob, O, w0, cs, f, β⟩ := ⟨hH.bound, hgl⟩
    have hend : ∀ m v H', Steps c.P (lone (Frame.enter c.P f vs.toArray .normal) cs w) m → D v H' → DoneRel ⟨c.P, c.glob, O, w0, cs, f, β⟩ v H' m →
        ∃ e w' b, Came c.P O w0 β D e w' ∧ Comes c.P (lone (Frame.enter c.P f vs.toArray .normal) cs w) (lone b cs w') e ∧ b.fn = f ∧ b.leaving c.P w' e := by
      intro m v H' hst hD hdone
      obtain ⟨β', fr, x, w', rfl, hfn, hleave, hv, hH', hG'⟩ := hdone.ex
      exact ⟨.returned x, w', fr, ⟨v, H', x, β', rfl, hD, hG'.fix, hv, hH'⟩, hst, hfn, hleave⟩
    obtain ⟨m1, hst, ⟨v, H', hD, hdone⟩ | ⟨s, hS, hM1⟩⟩ := sim_sound (B := ⟨c.P, c.glob, O, w0, cs, f, β⟩) (hc.at st0) rfl rfl n0 _ _ (enter_mrel (c := c) hH hG ha hg cs) h0
    · exact hend m1 v H' hst hD hdone
    · obtain ⟨a, J, ha', hM2⟩ := hS _ _ hB hM1
      obtain ⟨m2, v, H', hst2, hD, hdone⟩ := loop_ends hc hB rfl rfl C OK μ hs (μ a + 1) a J m1 (Nat.lt_succ_self _) ha' hM2
      exact hend m2 v H' (hst.trans hst2) hD hdone

end Go.Sim


/-
  The symbolic simulator, thirty-third part: what a round comes to, told by a closed term.
-/
namespace Go.Sim
variable {α : Type}

/- What is seen of a state: the temporaries and the entries that a cut names. -/
noncomputable def seeT (vs : List SV) : List (Option SV) → List (Option SV) :=
  List.rec (motive := fun _ => List (Option SV) → List (Option SV)) (fun _ => []) (fun v _ ih T => List.rec (motive := fun _ => List (Option SV)) (some v :: ih []) (fun o r _ => optC o none (fun _ => some v) :: ih r) T) vs
noncomputable def seeF (s : SF) (p : SP) : SP := ⟨s.fn, seeT s.tmps p.tmps, s.todo, s.defers, s.roundOf⟩
noncomputable def seeFs (ss : List SF) : List SP → List SP :=
  List.rec (motive := fun _ => List SP → List SP) (fun _ => []) (fun s _ ih ps => List.rec (motive := fun _ => List SP) (⟨s.fn, seeT s.tmps [], s.todo, s.defers, s.roundOf⟩ :: ih []) (fun p r _ => seeF s p :: ih r) ps) ss
noncomputable def seeL (e : SO) (T : List (Option SV)) : HP := SO.rec (motive := fun _ => HP) (fun c w el => .ent (.own c w el)) (fun c => .ent (.row c)) (fun s p f T0 ps a b d => .loop s p f (seeT T0 T) ps a b d) (fun ds => .ent (.deferred ds)) (.ent .gone) (fun o => .ent (.obj o)) e
noncomputable def goneB (e : SO) : Bool := SO.rec (motive := fun _ => Bool) (fun _ _ _ => false) (fun _ => false) (fun _ _ _ _ _ _ _ _ => false) (fun _ => false) true (fun _ => false) e
noncomputable def seeE (e : Option SO) (E : HP) : Option HP := HP.rec (motive := fun _ => Option HP) (fun E0 => boolC (goneB E0) (some (.ent .gone)) (optC e none fun e => some (.ent e))) (fun _ _ _ T _ _ _ _ => optC e none fun e => some (seeL e T)) E
noncomputable def seeHs (H : List SO) (names : List Nat) : List HP → List (Option HP) :=
  List.rec (motive := fun _ => List HP → List (Option HP)) (fun _ => []) (fun n _ ih Es => List.rec (motive := fun _ => List (Option HP)) [] (fun E r _ => seeE (nth H n) E :: ih r) Es) names
abbrev Seen := List SP × Nat × List (Option HP)
noncomputable def viewS (M : Cut) (names : List Nat) (s : SS) : Seen := (seeFs s.frames M.frames, lenN s.heap, seeHs s.heap names M.heap)

/- A cut under other names. -/
noncomputable def renT (f : Nat → Nat) (T : List (Option SV)) : List (Option SV) := mapN (fun o => optC o none fun v => some (v.ren f)) T
noncomputable def SP.ren (f : Nat → Nat) (p : SP) : SP := ⟨p.fn, renT f p.tmps, mapN (SItem.ren f) p.todo, mapN (SD.ren f) p.defers, optC p.roundOf none fun n => some (f n)⟩
noncomputable def HP.ren (f : Nat → Nat) (E : HP) : HP :=
  HP.rec (motive := fun _ => HP) (fun e => SO.rec (motive := fun _ => HP) (fun c w el => .ent (.own (c.ren f) w el)) (fun c => .ent (.row (c.ren f))) (fun s p g T ps a b d => .ent (.loop s p g T ps a b d)) (fun ds => .ent (.deferred (optC ds none fun l => some (mapN (SD.ren f) l)))) (.ent .gone) (fun o => .ent (.obj (o.ren f))) e)
    (fun s p g T ps a b d => .loop s p g (renT f T) ps a b (f d)) E
noncomputable def seenC (names : List Nat) (N : Nat) (C : Cut) : Seen := (mapN (SP.ren (nameOf names N)) C.frames, N, mapN (fun E => some (E.ren (nameOf names N))) C.heap)

/- What is seen bears what the cut says. -/
def ImpT (f : Nat → Nat) : List (Option SV) → List (Option SV) → Prop
  | some v :: vs, some u :: us => v.Imp (u.ren f) ∧ ImpT f vs us
  | none :: vs, none :: us => ImpT f vs us
  | [], [] => True
  | _, _ => False
structure ImpF (f : Nat → Nat) (s p : SP) : Prop where
  fn : s.fn = p.fn
  tmps : ImpT f s.tmps p.tmps
  todo : s.todo = p.todo.map (SItem.ren f)
  defers : s.defers = p.defers.map (SD.ren f)
  roundOf : s.roundOf = p.roundOf.map f
def ImpFs (f : Nat → Nat) : List SP → List SP → Prop
  | s :: ss, p :: ps => ImpF f s p ∧ ImpFs f ss ps
  | [], [] => True
  | _, _ => False
def ImpE (f : Nat → Nat) (e : Option HP) (E : HP) : Prop :=
  match E with
  | .ent (.own c w el) => ∃ c0, e = some (.ent (.own c0 w el)) ∧ c0.Imp (c.ren f)
  | .ent (.row c) => ∃ c0, e = some (.ent (.row c0)) ∧ c0.Imp (c.ren f)
  | .ent (.deferred ds) => e = some (.ent (.deferred (ds.map (List.map (SD.ren f)))))
  | .ent (.obj o) => ∃ o0, e = some (.ent (.obj o0)) ∧ o0.Imp (o.ren f)
  | .ent .gone => True
  | .ent (.loop ..) => False
  | .loop s p g T ps a b d => ∃ T0, e = some (.loop s p g T0 ps a b (f d)) ∧ ImpT f T0 T
def ImpEs (f : Nat → Nat) : List (Option HP) → List HP → Prop
  | e :: es, E :: Es => ImpE f e E ∧ ImpEs f es Es
  | [], [] => True
  | _, _ => False
theorem seeT_gen {f : Nat → Nat} : ∀ {vs : List SV} {Tm T : List (Option SV)}, ImpT f (seeT vs Tm) T → GenT f vs T
  | [], _, [], _ => trivial
  | [], _, _ :: _, h => by cases h
  | v :: vs, [], T, h => by
    have h : ImpT f (some v :: seeT vs []) T := h
    cases T with
    | nil => exact h.elim
    | cons u us => cases u with
      | none => exact h.elim
      | some u => exact ⟨h.1, seeT_gen h.2⟩
  | v :: vs, o :: Tm, T, h => by
    have h : ImpT f (optC o none (fun _ => some v) :: seeT vs Tm) T := h
    cases T with
    | nil => cases o <;> exact h.elim
    | cons u us =>
      cases o with
      | none => cases u with
        | none => exact seeT_gen (Tm := Tm) (T := us) h
        | some u => exact h.elim
      | some o => cases u with
        | none => exact h.elim
        | some u => exact ⟨h.1, seeT_gen (Tm := Tm) (T := us) h.2⟩
theorem seeFs_gen {f : Nat → Nat} : ∀ {ss : List SF} {pm ps : List SP}, ImpFs f (seeFs ss pm) ps → GenFs f ss ps
  | [], _, [], _ => trivial
  | [], _, _ :: _, h => by cases h
  | s :: ss, [], ps, h => by
    have h : ImpFs f (⟨s.fn, seeT s.tmps [], s.todo, s.defers, s.roundOf⟩ :: seeFs ss []) ps := h
    cases ps with
    | nil => exact h.elim
    | cons p ps =>
      obtain ⟨⟨h1, h2, h3, h4, h5⟩, hr⟩ := h
      exact ⟨⟨h1, seeT_gen h2, h3, h4, h5⟩, seeFs_gen hr⟩
  | s :: ss, q :: pm, ps, h => by
    have h : ImpFs f (seeF s q :: seeFs ss pm) ps := h
    cases ps with
    | nil => exact h.elim
    | cons p ps =>
      obtain ⟨⟨h1, h2, h3, h4, h5⟩, hr⟩ := h
      exact ⟨⟨h1, seeT_gen h2, h3, h4, h5⟩, seeFs_gen hr⟩
theorem goneB_iff {e : SO} (h : goneB e = true) : e = .gone := by cases e <;> first | rfl | cases h
theorem seeE_gen {f : Nat → Nat} {e : Option SO} {Em E : HP} (h : ImpE f (seeE e Em) E) : GenE f e E := by
  have hent : ∀ {e : Option SO} {e0 : SO}, e0 ≠ .gone → (∀ s p g T ps a b d, e0 ≠ .loop s p g T ps a b d) → seeE e Em = some (.ent e0) → e = some e0 := by
    intro e e0 hng hnl h
    cases Em with
    | ent Em =>
      have h : boolC (goneB Em) (some (.ent .gone)) (optC e none fun e => some (HP.ent e)) = some (.ent e0) := h
      cases hb : goneB Em with
      | true => rw [hb] at h; exact absurd (HP.ent.inj (Option.some.inj h)).symm hng
      | false =>
        rw [hb] at h
        cases e with
        | none => cases h
        | some e => rw [(HP.ent.inj (Option.some.inj h))]
    | loop s p g T ps a b d =>
      cases e with
      | none => cases h
      | some e =>
        have h : some (seeL e T) = some (HP.ent e0) := h
        have h := Option.some.inj h
        cases e with
        | loop => cases h
        | gone => exact absurd (HP.ent.inj h).symm hng
        | own => rw [← HP.ent.inj h]
        | row => rw [← HP.ent.inj h]
        | deferred => rw [← HP.ent.inj h]
        | obj => rw [← HP.ent.inj h]
  cases E with
  | ent E =>
    cases E with
    | own c w el => obtain ⟨c0, h1, h2⟩ := h; exact ⟨c0, hent (by simp) (by simp) h1, h2⟩
    | row c => obtain ⟨c0, h1, h2⟩ := h; exact ⟨c0, hent (by simp) (by simp) h1, h2⟩
    | deferred ds => exact hent (by simp) (by simp) h
    | obj o => obtain ⟨o0, h1, h2⟩ := h; exact ⟨o0, hent (by simp) (by simp) h1, h2⟩
    | gone => trivial
    | loop => exact h.elim
  | loop s p g T ps a b d =>
    obtain ⟨T0, h1, h2⟩ := h
    cases Em with
    | ent Em =>
      have h : boolC (goneB Em) (some (.ent .gone)) (optC e none fun e => some (HP.ent e)) = some (.loop s p g T0 ps a b (f d)) := h1
      cases hb : goneB Em with
      | true => rw [hb] at h; cases h
      | false => rw [hb] at h; cases e <;> cases h
    | loop s' p' g' Tm ps' a' b' d' =>
      cases e with
      | none => cases h1
      | some e =>
        have h1 : some (seeL e Tm) = some (HP.loop s p g T0 ps a b (f d)) := h1
        have h1 := Option.some.inj h1
        cases e with
        | loop s1 p1 g1 T1 ps1 a1 b1 d1 =>
          have h1 : HP.loop s1 p1 g1 (seeT T1 Tm) ps1 a1 b1 d1 = .loop s p g T0 ps a b (f d) := h1
          injection h1 with e1 e2 e3 e4 e5 e6 e7 e8
          subst e1 e2 e3 e4 e5 e6 e7 e8
          exact ⟨T1, rfl, seeT_gen h2⟩
        | own => cases h1
        | row => cases h1
        | deferred => cases h1
        | gone => cases h1
        | obj => cases h1
theorem seeHs_gen {f : Nat → Nat} {H : List SO} : ∀ {names : List Nat} {Em Es : List HP}, ImpEs f (seeHs H names Em) Es → Em.length = names.length → ∀ (j : Nat) (E : HP) (n : Nat), Es[j]? = some E → names[j]? = some n → GenE f H[n]? E
  | [], _, [], _, _, _, _, _, h, _ => by simp at h
  | [], _, _ :: _, h, _, _, _, _, _, _ => h.elim
  | n :: names, [], _, _, hl, _, _, _, _, _ => by simp at hl
  | n :: names, Em :: Ems, Es, h, hl, j, E, m, hE, hm => by
    have h : ImpEs f (seeE (nth H n) Em :: seeHs H names Ems) Es := h
    cases Es with
    | nil => exact h.elim
    | cons E0 Es =>
      cases j with
      | zero =>
        simp at hE hm
        subst hE hm
        have := seeE_gen h.1
        rwa [nth_eq] at this
      | succ j => exact seeHs_gen h.2 (by simpa using hl) j E m (by simpa using hE) (by simpa using hm)
/- The same under other names. -/
theorem impT_ren (f : Nat → Nat) : ∀ T : List (Option SV), ImpT f (renT f T) T
  | [] => trivial
  | some _ :: T => ⟨.refl _, impT_ren f T⟩
  | none :: T => impT_ren f T
theorem impFs_ren (f : Nat → Nat) : ∀ ps : List SP, ImpFs f (mapN (SP.ren f) ps) ps
  | [] => trivial
  | p :: ps => ⟨⟨rfl, impT_ren f _, by show mapN _ _ = _; rw [mapN_eq], by show mapN _ _ = _; rw [mapN_eq], by show optC p.roundOf none _ = _; cases p.roundOf <;> rfl⟩, impFs_ren f ps⟩
theorem impE_ren (f : Nat → Nat) (E : HP) (h : ∀ s p g T ps a b d, E ≠ .ent (.loop s p g T ps a b d)) : ImpE f (some (E.ren f)) E := by
  cases E with
  | ent e =>
    cases e with
    | own c w el => exact ⟨_, rfl, .refl _⟩
    | row c => exact ⟨_, rfl, .refl _⟩
    | deferred ds =>
      show some (HP.ent (.deferred (optC ds none fun l => some (mapN (SD.ren f) l)))) = _
      cases ds with
      | none => rfl
      | some l => rw [optC_some, mapN_eq]; rfl
    | gone => trivial
    | obj o => exact ⟨_, rfl, fun _ _ h => h⟩
    | loop => exact absurd rfl (h _ _ _ _ _ _ _ _)
  | loop s p g T ps a b d => exact ⟨_, rfl, impT_ren f T⟩
noncomputable def noLoopE (E : HP) : Bool := HP.rec (motive := fun _ => Bool) (fun e => SO.rec (motive := fun _ => Bool) (fun _ _ _ => true) (fun _ => true) (fun _ _ _ _ _ _ _ _ => false) (fun _ => true) true (fun _ => true) e) (fun _ _ _ _ _ _ _ _ => true) E
theorem impEs_ren (f : Nat → Nat) : ∀ Es : List HP, allN noLoopE Es = true → ImpEs f (mapN (fun E => some (E.ren f)) Es) Es
  | [], _ => trivial
  | E :: Es, h => by
    have h' := allN_spec _ _ h
    refine ⟨impE_ren f E fun s p g T ps a b d he => ?_, impEs_ren f Es ?_⟩
    · have := h' E List.mem_cons_self
      rw [he] at this; cases this
    · have h : boolC (noLoopE E) (allN noLoopE Es) false = true := h
      cases hb : noLoopE E with
      | true => rw [hb] at h; exact h
      | false => rw [hb] at h; cases h
/-- the names: those ahead of k0 az they were, none twice -/
noncomputable def nodupN (l : List Nat) : Bool := List.rec (motive := fun _ => Bool) true (fun a r ih => boolC (memN a r) false ih) l
noncomputable def keepN (l : List Nat) : Nat → Nat → Bool := List.rec (motive := fun _ => Nat → Nat → Bool) (fun k i => Nat.ble k i) (fun a _ ih k i => boolC (Nat.ble k i) true (boolC (Nat.beq a i) (ih k (Nat.succ i)) false)) l
noncomputable def namesOK (k0 : Nat) (names : List Nat) (M C : Cut) : Bool := boolC (nodupN names) (boolC (keepN names k0 0) (boolC (Nat.beq (lenN names) (lenN C.heap)) (Nat.beq (lenN names) (lenN M.heap)) false) false) false
theorem nodupN_spec : ∀ l : List Nat, nodupN l = true → l.Nodup
  | [], _ => by simp
  | a :: r, h => by
    have h : boolC (memN a r) false (nodupN r) = true := h
    cases hm : memN a r with
    | true => rw [hm] at h; cases h
    | false =>
      rw [hm] at h
      refine List.nodup_cons.2 ⟨fun hin => ?_, nodupN_spec r h⟩
      rw [memN_iff.2 hin] at hm; cases hm
theorem keepN_spec : ∀ (l : List Nat) (k i : Nat), keepN l k i = true → ∀ j, i + j < k → l[j]? = some (i + j)
  | [], k, i, h, j, hj => by
    have := Nat.le_of_ble_eq_true (show Nat.ble k i = true from h)
    omega
  | a :: r, k, i, h, j, hj => by
    have h : boolC (Nat.ble k i) true (boolC (Nat.beq a i) (keepN r k (i + 1)) false) = true := h
    cases hk : Nat.ble k i with
    | true => have := Nat.le_of_ble_eq_true hk; omega
    | false =>
      rw [hk, boolC_false] at h
      cases ha : Nat.beq a i with
      | false => rw [ha] at h; cases h
      | true =>
        rw [ha] at h
        have := Nat.eq_of_beq_eq_true ha
        subst this
        cases j with
        | zero => rfl
        | succ j =>
          have := keepN_spec r k (a + 1) h j (by omega)
          rw [List.getElem?_cons_succ, this]
          congr 1; omega
theorem boolC3 {b : Bool} {t : Bool} (h : boolC b t false = true) : b = true ∧ t = true := by cases b <;> first | exact ⟨rfl, h⟩ | cases h
theorem gen_view {k0 : Nat} {s : SS} {C M : Cut} {names : List Nat} {F : List SP} {N : Nat} {es : List (Option HP)} (hv : viewS M names s = (F, N, es)) (hn : namesOK k0 names M C = true) (hF : ImpFs (nameOf names N) F C.frames) (hE : ImpEs (nameOf names N) es C.heap) : Gen k0 s C names := by
  obtain ⟨h1, h2⟩ := Prod.mk.inj (show (_, _, _) = (F, N, es) from hv)
  obtain ⟨h2, h3⟩ := Prod.mk.inj h2
  rw [lenN_eq] at h2
  obtain ⟨n1, n2⟩ := boolC3 hn
  obtain ⟨n2, n3⟩ := boolC3 n2
  obtain ⟨n3, n4⟩ := boolC3 n3
  have l1 := Nat.eq_of_beq_eq_true n3
  have l2 := Nat.eq_of_beq_eq_true n4
  rw [lenN_eq, lenN_eq] at l1 l2
  subst h2
  refine ⟨fun j hj => ?_, nodupN_spec _ n1, l1, ?_, fun j E hj => ?_⟩
  · have := keepN_spec names k0 0 n2 j (by omega)
    rwa [Nat.zero_add] at this
  · rw [← h1] at hF; exact seeFs_gen hF
  · rw [← h3] at hE
    have hlt : j < names.length := by rw [l1]; exact (List.getElem?_eq_some_iff.1 hj).1
    exact seeHs_gen hE l2.symm j E _ hj (nameOf_lt hlt)
theorem gen_same {k0 : Nat} {s : SS} {C M : Cut} {names : List Nat} {N : Nat} (hv : viewS M names s = seenC names N C) (hn : boolC (namesOK k0 names M C) (allN noLoopE C.heap) false = true) : Gen k0 s C names :=
  gen_view hv (boolC3 hn).1 (impFs_ren _ _) (impEs_ren _ _ (boolC3 hn).2)

/-- what is seen, but for an entry -/
noncomputable def setSeen (i : Nat) (E : HP) (V : Seen) : Seen := (V.1, V.2.1, setN V.2.2 i (some E))
theorem impEs_set {f : Nat → Nat} : ∀ {es : List (Option HP)} {Es : List HP} (i : Nat) {E : HP}, ImpEs f es Es → (∀ E0, Es[i]? = some E0 → ImpE f (some E) E0) → ImpEs f (setN es i (some E)) Es
  | [], [], _, _, _, _ => trivial
  | e :: es, E0 :: Es, 0, E, h, h0 => ⟨h0 E0 rfl, h.2⟩
  | e :: es, E0 :: Es, i + 1, E, h, h0 => ⟨h.1, impEs_set i h.2 fun E1 h1 => h0 E1 (by simpa using h1)⟩
  | [], _ :: _, _, _, h, _ => h.elim
  | _ :: _, [], _, _, h, _ => h.elim

/-- what is seen, but for some temporaries and entries -/
noncomputable def setF (p : SP) (j : Nat) (v : SV) : SP := ⟨p.fn, setN p.tmps j (some v), p.todo, p.defers, p.roundOf⟩
noncomputable def setTmp (i j : Nat) (v : SV) (V : Seen) : Seen := (optC (nth V.1 i) V.1 fun p => setN V.1 i (setF p j v), V.2.1, V.2.2)
noncomputable def modSeen (ms : List (Nat × Nat × SV)) (es : List (Nat × HP)) (V : Seen) : Seen :=
  List.rec (motive := fun _ => Seen) (List.rec (motive := fun _ => Seen) V (fun m _ ih => setTmp m.1 m.2.1 m.2.2 ih) ms) (fun e _ ih => setSeen e.1 e.2 ih) es
theorem impT_set {f : Nat → Nat} : ∀ {vs us : List (Option SV)} (j : Nat) {v : SV}, ImpT f vs us → (∀ u, us[j]? = some u → ∃ w, u = some w ∧ v.Imp (w.ren f)) → ImpT f (setN vs j (some v)) us
  | some _ :: vs, some u :: us, 0, v, h, h0 => let ⟨w, e, hw⟩ := h0 _ rfl; ⟨by cases e; exact hw, h.2⟩
  | none :: vs, none :: us, 0, v, h, h0 => let ⟨_, e, _⟩ := h0 _ rfl; by cases e
  | some _ :: vs, some u :: us, j + 1, v, h, h0 => ⟨h.1, impT_set j h.2 fun w hw => h0 w (by simpa using hw)⟩
  | none :: vs, none :: us, j + 1, v, h, h0 => impT_set (vs := vs) (us := us) j h fun w hw => h0 w (by simpa using hw)
  | [], [], _, _, _, _ => trivial
  | some _ :: _, none :: _, _, _, h, _ => h.elim
  | none :: _, some _ :: _, _, _, h, _ => h.elim
  | [], _ :: _, _, _, h, _ => h.elim
  | some _ :: _, [], _, _, h, _ => False.elim h
  | none :: _, [], _, _, h, _ => False.elim h
theorem impFs_set {f : Nat → Nat} : ∀ {ss ps : List SP} (i j : Nat) {v : SV} {s : SP}, ImpFs f ss ps → ss[i]? = some s → (∀ p u, ps[i]? = some p → p.tmps[j]? = some u → ∃ w, u = some w ∧ v.Imp (w.ren f)) → ImpFs f (setN ss i (setF s j v)) ps
  | s0 :: ss, p :: ps, 0, j, v, s, h, hs, h0 => by
    simp at hs; subst hs
    obtain ⟨⟨h1, h2, h3, h4, h5⟩, hr⟩ := h
    exact ⟨⟨h1, impT_set j h2 fun u hu => h0 p u rfl hu, h3, h4, h5⟩, hr⟩
  | s0 :: ss, p :: ps, i + 1, j, v, s, h, hs, h0 => ⟨h.1, impFs_set i j h.2 (by simpa using hs) fun q u hq hu => h0 q u (by simpa using hq) hu⟩
  | [], _, _, _, _, _, _, hs, _ => by simp at hs
  | _ :: _, [], _, _, _, _, h, _, _ => h.elim
theorem gen_mod {k0 : Nat} {s : SS} {C M : Cut} {names : List Nat} {N : Nat} (ms : List (Nat × Nat × SV)) (es : List (Nat × HP)) (hv : viewS M names s = modSeen ms es (seenC names N C)) (hn : boolC (namesOK k0 names M C) (allN noLoopE C.heap) false = true)
    (hT : ∀ m ∈ ms, ∀ p u, C.frames[m.1]? = some p → p.tmps[m.2.1]? = some u → ∃ w, u = some w ∧ m.2.2.Imp (w.ren (nameOf names N))) (hE : ∀ e ∈ es, ∀ E0, C.heap[e.1]? = some E0 → ImpE (nameOf names N) (some e.2) E0) : Gen k0 s C names := by
  have key : ∀ ms : List (Nat × Nat × SV), (∀ m ∈ ms, ∀ p u, C.frames[m.1]? = some p → p.tmps[m.2.1]? = some u → ∃ w, u = some w ∧ m.2.2.Imp (w.ren (nameOf names N))) →
      ImpFs (nameOf names N) (List.rec (motive := fun _ => Seen) (seenC names N C) (fun m _ ih => setTmp m.1 m.2.1 m.2.2 ih) ms : Seen).1 C.frames ∧ (List.rec (motive := fun _ => Seen) (seenC names N C) (fun m _ ih => setTmp m.1 m.2.1 m.2.2 ih) ms : Seen).2 = (seenC names N C).2 := by
    intro ms
    induction ms with
    | nil => intro _; exact ⟨impFs_ren _ _, rfl⟩
    | cons m ms ih =>
      intro h
      obtain ⟨h1, h2⟩ := ih fun x hx => h x (List.mem_cons_of_mem _ hx)
      generalize hV : (List.rec (motive := fun _ => Seen) (seenC names N C) (fun m _ ih => setTmp m.1 m.2.1 m.2.2 ih) ms : Seen) = V at h1 h2
      show ImpFs _ (setTmp m.1 m.2.1 m.2.2 (List.rec (motive := fun _ => Seen) (seenC names N C) (fun m _ ih => setTmp m.1 m.2.1 m.2.2 ih) ms : Seen)).1 _ ∧ (setTmp m.1 m.2.1 m.2.2 (List.rec (motive := fun _ => Seen) (seenC names N C) (fun m _ ih => setTmp m.1 m.2.1 m.2.2 ih) ms : Seen)).2 = _
      rw [hV]
      refine ⟨?_, h2⟩
      show ImpFs _ (optC (nth V.1 m.1) V.1 fun p => setN V.1 m.1 (setF p m.2.1 m.2.2)) _
      cases hp : nth V.1 m.1 with
      | none => exact h1
      | some p =>
        rw [nth_eq] at hp
        exact impFs_set m.1 m.2.1 h1 hp fun q u hq hu => h m List.mem_cons_self q u hq hu
  obtain ⟨k1, k2⟩ := key ms hT
  have key2 : ∀ es : List (Nat × HP), (∀ e ∈ es, ∀ E0, C.heap[e.1]? = some E0 → ImpE (nameOf names N) (some e.2) E0) → ∀ V : Seen, V.2 = (seenC names N C).2 →
      (List.rec (motive := fun _ => Seen) V (fun e _ ih => setSeen e.1 e.2 ih) es : Seen).1 = V.1 ∧ (List.rec (motive := fun _ => Seen) V (fun e _ ih => setSeen e.1 e.2 ih) es : Seen).2.1 = N ∧ ImpEs (nameOf names N) (List.rec (motive := fun _ => Seen) V (fun e _ ih => setSeen e.1 e.2 ih) es : Seen).2.2 C.heap := by
    intro es
    induction es with
    | nil =>
      intro _ V hV
      refine ⟨rfl, ?_, ?_⟩
      · show V.2.1 = N; rw [hV]; rfl
      · show ImpEs _ V.2.2 _; rw [hV]; exact impEs_ren _ _ (boolC3 hn).2
    | cons e es ih =>
      intro h V hV
      obtain ⟨h1, h2, h3⟩ := ih (fun x hx => h x (List.mem_cons_of_mem _ hx)) V hV
      exact ⟨h1, h2, impEs_set e.1 h3 (h e List.mem_cons_self)⟩
  obtain ⟨j1, j2, j3⟩ := key2 es hE _ k2
  unfold modSeen at hv
  generalize (List.rec (motive := fun _ => Seen) (List.rec (motive := fun _ => Seen) (seenC names N C) (fun m _ ih => setTmp m.1 m.2.1 m.2.2 ih) ms) (fun e _ ih => setSeen e.1 e.2 ih) es : Seen) = V at hv j1 j2 j3
  obtain ⟨F, N', es'⟩ := V
  have j2 : N' = N := j2
  subst j2
  exact gen_view hv (boolC3 hn).1 (by rw [show F = _ from j1]; exact k1) j3
/- A run's outcome: it ends, or a round begins. -/
abbrev OutL := List Prop × Option ((SV × List (Option SO)) ⊕ Seen)
noncomputable def outL (js : List Nat) (M : Cut) (names : List Nat) (t : Tree) : List Bool → (Nat → Nat → Nat) → OutL :=
  Tree.rec (motive := fun _ => List Bool → (Nat → Nat → Nat) → OutL) (fun v H _ _ => ([], some (.inl (v, mapN (fun j => nth H j) js)))) (fun s _ _ => ([], some (.inr (viewS M names s)))) (fun p _ ih ds z => (p :: (ih ds z).1, (ih ds z).2))
    (fun b _ _ iht ihf ds z => List.rec (motive := fun _ => OutL) ([], none) (fun d r _ => ((b = d) :: (boolC d (iht r z) (ihf r z)).1, (boolC d (iht r z) (ihf r z)).2)) ds) (fun _ _ _ => ([], none)) (fun _ ih ds z => ih (z 0) ds fun i => z (i + 1)) t
theorem outL_ob {js : List Nat} {M : Cut} {names : List Nat} {t : Tree} {ds : List Bool} {ps : (Nat → Nat → Nat) → List Prop} {r : (Nat → Nat → Nat) → (SV × List (Option SO)) ⊕ Seen} (h : ∀ z, outL js M names t ds z = (ps z, some (r z))) (hp : ∀ z, ∀ p ∈ ps z, p) {D : SV → List SO → Prop} {S : SS → Prop}
    (hD : ∀ z v es, r z = .inl (v, es) → ∀ H : List SO, js.map (fun j => H[j]?) = es → D v H) (hS : ∀ z V, r z = .inr V → ∀ s, viewS M names s = V → S s) : t.Ob D S := by
  have z0 : Nat → Nat → Nat := fun _ _ => 0
  induction t generalizing ps r ds with
  | done v' H =>
    have h' : ([], some (.inl (v', mapN (fun j => nth H j) js))) = (ps z0, some (r z0)) := h z0
    have h1 := Option.some.inj (Prod.mk.inj h').2
    refine hD z0 v' _ h1.symm H ?_
    rw [mapN_eq]
    exact List.map_congr_left fun j _ => (nth_eq H j).symm
  | stop s =>
    have h' : ([], some (.inr (viewS M names s))) = (ps z0, some (r z0)) := h z0
    have h1 := Option.some.inj (Prod.mk.inj h').2
    exact hS z0 _ h1.symm s rfl
  | need p t ih =>
    have h' : ∀ z, (p :: (outL js M names t ds z).1, (outL js M names t ds z).2) = (ps z, some (r z)) := h
    refine ⟨?_, ih (ds := ds) (ps := fun z => (outL js M names t ds z).1) (r := r) (fun z => by rw [← (Prod.mk.inj (h' z)).2]) (fun z q hq => hp z q ?_) hD hS⟩
    · have := (Prod.mk.inj (h' z0)).1
      exact hp z0 p (by rw [← this]; exact List.mem_cons_self)
    · rw [← (Prod.mk.inj (h' z)).1]; exact List.mem_cons_of_mem _ hq
  | fork b t f iht ihf =>
    cases ds with
    | nil => cases (Prod.mk.inj (show ([], none) = (ps z0, some (r z0)) from h z0)).2
    | cons d rs =>
      have h' : ∀ z, ((b = d) :: (boolC d (outL js M names t rs z) (outL js M names f rs z)).1, (boolC d (outL js M names t rs z) (outL js M names f rs z)).2) = (ps z, some (r z)) := h
      have hb : b = d := hp z0 _ (by rw [← (Prod.mk.inj (h' z0)).1]; exact List.mem_cons_self)
      have hq : ∀ z, ∀ q ∈ (boolC d (outL js M names t rs z) (outL js M names f rs z)).1, q := fun z q hq => hp z q (by rw [← (Prod.mk.inj (h' z)).1]; exact List.mem_cons_of_mem _ hq)
      cases d with
      | true => exact ⟨fun _ => iht (ds := rs) (ps := fun z => (outL js M names t rs z).1) (r := r) (fun z => by rw [← (Prod.mk.inj (h' z)).2]; rfl) hq hD hS, fun hf => by rw [hf] at hb; cases hb⟩
      | false => exact ⟨fun ht => (by rw [ht] at hb; cases hb), fun _ => ihf (ds := rs) (ps := fun z => (outL js M names f rs z).1) (r := r) (fun z => by rw [← (Prod.mk.inj (h' z)).2]; rfl) hq hD hS⟩
  | stuck => cases (Prod.mk.inj (show ([], none) = (ps z0, some (r z0)) from h z0)).2
  | any k ih =>
    have h' : ∀ z, outL js M names (k (z 0)) ds (fun i => z (i + 1)) = (ps z, some (r z)) := h
    intro y
    let c : (Nat → Nat → Nat) → Nat → Nat → Nat := fun z i => Nat.rec (motive := fun _ => Nat → Nat) y (fun j _ => z j) i
    exact ih y (ds := ds) (ps := fun z => ps (c z)) (r := fun z => r (c z)) (fun z => h' (c z)) (fun z => hp (c z)) (fun z => hD (c z)) (fun z => hS (c z))
/-- a round that ends in the beginning of another -/
theorem outL_turn {A : Type} {k0 : Nat} {C : A → Cut} {Q : A → Prop} {js : List Nat} {M : Cut} {names : List Nat} {t : Tree} {ds : List Bool} {ps : List Prop} {N : Nat} {D : SV → List SO → Prop} (a : A) (hq : Q a)
    (h : ∀ z, outL js M names t ds z = (ps, some (.inr (seenC names N (C a))))) (hn : boolC (namesOK k0 names M (C a)) (allN noLoopE (C a).heap) false = true) (hp : ∀ p ∈ ps, p) : t.Ob D (Turns k0 C Q) :=
  outL_ob h (fun _ => hp) (fun _ v es h => by cases h) fun _ V h s hv => turns_of a hq names (gen_same (N := N) (by cases h; exact hv) hn)
theorem outL_turnM {A : Type} {k0 : Nat} {C : A → Cut} {Q : A → Prop} {js : List Nat} {M : Cut} {names : List Nat} {t : Tree} {ds : List Bool} {ps : List Prop} {N : Nat} {ms : List (Nat × Nat × SV)} {es : List (Nat × HP)} {D : SV → List SO → Prop} (a : A) (hq : Q a)
    (h : ∀ z, outL js M names t ds z = (ps, some (.inr (modSeen ms es (seenC names N (C a)))))) (hn : boolC (namesOK k0 names M (C a)) (allN noLoopE (C a).heap) false = true)
    (hT : ∀ m ∈ ms, ∀ p u, (C a).frames[m.1]? = some p → p.tmps[m.2.1]? = some u → ∃ w, u = some w ∧ m.2.2.Imp (w.ren (nameOf names N))) (hE : ∀ e ∈ es, ∀ E0, (C a).heap[e.1]? = some E0 → ImpE (nameOf names N) (some e.2) E0) (hp : ∀ p ∈ ps, p) : t.Ob D (Turns k0 C Q) :=
  outL_ob h (fun _ => hp) (fun _ v es h => by cases h) fun _ V h s hv => turns_of a hq names (gen_mod (N := N) ms es (by cases h; exact hv) hn hT hE)
/-- a round that ends the run -/
theorem outL_end {js : List Nat} {M : Cut} {names : List Nat} {t : Tree} {ds : List Bool} {ps : List Prop} {v : SV} {es : List (Option SO)} {D : SV → List SO → Prop} {S : SS → Prop}
    (h : ∀ z, outL js M names t ds z = (ps, some (.inl (v, es)))) (hp : ∀ p ∈ ps, p) (hD : ∀ H : List SO, js.map (fun j => H[j]?) = es → D v H) : t.Ob D S :=
  outL_ob h (fun _ => hp) (fun _ v' es' h => by cases h; exact hD) fun _ V h => by cases h

/- The same for a loop's rule, each from closed terms. -/
def TurnsTo {A : Type} (c : Cfg) (k0 : Nat) (C : A → Cut) (Q : A → Prop) (D : SV → List SO → Prop) (s : SS) : Prop := ∃ st n, (sim1 (c.at st) n s).Ob D (Turns k0 C Q)
theorem to_turn {A : Type} {c : Cfg} {k0 : Nat} {C : A → Cut} {Q : A → Prop} {D : SV → List SO → Prop} {s : SS} (st : Option (Nat × Nat)) (n : Nat) {M : Cut} {names : List Nat} {ds : List Bool} {ps : List Prop} {N : Nat} (a : A) (hq : Q a)
    (h : ∀ z, outL [] M names (sim1 (c.at st) n s) ds z = (ps, some (.inr (seenC names N (C a))))) (hn : boolC (namesOK k0 names M (C a)) (allN noLoopE (C a).heap) false = true) (hp : ∀ p ∈ ps, p) : TurnsTo c k0 C Q D s := ⟨st, n, outL_turn a hq h hn hp⟩
theorem to_end {A : Type} {c : Cfg} {k0 : Nat} {C : A → Cut} {Q : A → Prop} {D : SV → List SO → Prop} {s : SS} (st : Option (Nat × Nat)) (n : Nat) {M : Cut} {names js : List Nat} {ds : List Bool} {ps : List Prop} {v : SV} {es : List (Option SO)}
    (h : ∀ z, outL js M names (sim1 (c.at st) n s) ds z = (ps, some (.inl (v, es)))) (hp : ∀ p ∈ ps, p) (hD : ∀ H : List SO, js.map (fun j => H[j]?) = es → D v H) : TurnsTo c k0 C Q D s := ⟨st, n, outL_end h hp hD⟩
theorem to_turnM {A : Type} {c : Cfg} {k0 : Nat} {C : A → Cut} {Q : A → Prop} {D : SV → List SO → Prop} {s : SS} (st : Option (Nat × Nat)) (n : Nat) {M : Cut} {names : List Nat} {ds : List Bool} {ps : List Prop} {N : Nat} {ms : List (Nat × Nat × SV)} {es : List (Nat × HP)} (a : A) (hq : Q a)
    (h : ∀ z, outL [] M names (sim1 (c.at st) n s) ds z = (ps, some (.inr (modSeen ms es (seenC names N (C a)))))) (hn : boolC (namesOK k0 names M (C a)) (allN noLoopE (C a).heap) false = true)
    (hT : ∀ m ∈ ms, ∀ p u, (C a).frames[m.1]? = some p → p.tmps[m.2.1]? = some u → ∃ w, u = some w ∧ m.2.2.Imp (w.ren (nameOf names N))) (hE : ∀ e ∈ es, ∀ E0, (C a).heap[e.1]? = some E0 → ImpE (nameOf names N) (some e.2) E0) (hp : ∀ p ∈ ps, p) : TurnsTo c k0 C Q D s := ⟨st, n, outL_turnM a hq h hn hT hE hp⟩
def Starts {A : Type} (c : Cfg) (k0 : Nat) (C : A → Cut) (Q : A → Prop) (D : SV → List SO → Prop) (f : FuncId) (args : List SV) (H : List SO) : Prop := ∃ st n, (callSim (c.at st) n f args H).Ob D (Turns k0 C Q)
theorem to_start {A : Type} {c : Cfg} {k0 : Nat} {C : A → Cut} {Q : A → Prop} {D : SV → List SO → Prop} {f : FuncId} {args : List SV} {H : List SO} (st : Option (Nat × Nat)) (n : Nat) {M : Cut} {names : List Nat} {ds : List Bool} {ps : List Prop} {N : Nat} (a : A) (hq : Q a)
    (h : ∀ z, outL [] M names (callSim (c.at st) n f args H) ds z = (ps, some (.inr (seenC names N (C a))))) (hn : boolC (namesOK k0 names M (C a)) (allN noLoopE (C a).heap) false = true) (hp : ∀ p ∈ ps, p) : Starts c k0 C Q D f args H := ⟨st, n, outL_turn a hq h hn hp⟩
theorem to_startM {A : Type} {c : Cfg} {k0 : Nat} {C : A → Cut} {Q : A → Prop} {D : SV → List SO → Prop} {f : FuncId} {args : List SV} {H : List SO} (st : Option (Nat × Nat)) (n : Nat) {M : Cut} {names : List Nat} {ds : List Bool} {ps : List Prop} {N : Nat} {ms : List (Nat × Nat × SV)} {es : List (Nat × HP)} (a : A) (hq : Q a)
    (h : ∀ z, outL [] M names (callSim (c.at st) n f args H) ds z = (ps, some (.inr (modSeen ms es (seenC names N (C a)))))) (hn : boolC (namesOK k0 names M (C a)) (allN noLoopE (C a).heap) false = true)
    (hT : ∀ m ∈ ms, ∀ p u, (C a).frames[m.1]? = some p → p.tmps[m.2.1]? = some u → ∃ w, u = some w ∧ m.2.2.Imp (w.ren (nameOf names N))) (hE : ∀ e ∈ es, ∀ E0, (C a).heap[e.1]? = some E0 → ImpE (nameOf names N) (some e.2) E0) (hp : ∀ p ∈ ps, p) : Starts c k0 C Q D f args H := ⟨st, n, outL_turnM a hq h hn hT hE hp⟩
/-- A FUNCTION WITH A LOOP -/
theorem runs_by {c : Cfg} (hc : CfgOK c) {A : Type} (C : A → Cut) (OK : A → Prop) (μ : A → Nat) {D : SV → List SO → Prop} {f : FuncId} {args : List SV} {H : List SO} (hgl : ∀ g nm, c.glob g = some nm → nm < H.length)
    (h0 : Starts c H.length C OK D f args H) (hs : ∀ a, OK a → ∀ J, TurnsTo c H.length C (fun a' => OK a' ∧ μ a' < μ a) D ((C a).fill J)) : Runs c f args H D := runs_loop hc C OK μ hgl h0 hs

/- The skeleton of a cut: the state at which a run stops. -/
noncomputable def stopOf (t : Tree) : List Bool → SS :=
  Tree.rec (motive := fun _ => List Bool → SS) (fun _ _ _ => ⟨[], []⟩) (fun s _ => s) (fun _ _ ih ds => ih ds) (fun _ _ _ iht ihf ds => List.rec (motive := fun _ => SS) ⟨[], []⟩ (fun d r _ => boolC d (iht r) (ihf r)) ds) (fun _ _ => ⟨[], []⟩) (fun _ ih ds => ih (fun _ => 0) ds) t
/-- so many unknown temporaries, of which some are told -/
noncomputable def putsT (T : List (Option SV)) (l : List (Nat × SV)) : List (Option SV) := List.rec (motive := fun _ => List (Option SV) → List (Option SV)) (fun T => T) (fun a _ ih T => ih (setN T a.1 (some a.2))) l T
noncomputable def bareF (s : SF) (l : List (Nat × SV)) : SP := ⟨s.fn, putsT (repN none (lenN s.tmps)) l, s.todo, s.defers, s.roundOf⟩
noncomputable def bareFs (ss : List SF) : List (List (Nat × SV)) → List SP := List.rec (motive := fun _ => List (List (Nat × SV)) → List SP) (fun _ => []) (fun s _ ih ls => List.rec (motive := fun _ => List SP) (bareF s [] :: ih []) (fun l r _ => bareF s l :: ih r) ls) ss
/-- the loop's record az it stands at the stop, of which some temporaries are told -/
noncomputable def bareL (e : Option SO) (l : List (Nat × SV)) : HP := optC e (.ent .gone) fun e => SO.rec (motive := fun _ => HP) (fun c w el => .ent (.own c w el)) (fun c => .ent (.row c)) (fun s p f T ps a b d => .loop s p f (putsT (repN none (lenN T)) l) ps a b d) (fun ds => .ent (.deferred ds)) (.ent .gone) (fun o => .ent (.obj o)) e

/- A summary, a law. -/
theorem law_runs {c : Cfg} {w : World} {β : Val} {H : List SO} {f : FuncId} {args : List SV} {vs : List Value} (hH : HeapRel c.P (fun _ => False) w β H w) (hG : GlobRel c.glob β) (ha : SV.denL β args = some vs)
    (hr : Runs c f args H fun v _ => v = .bool (.lit true)) : Calls c.P f vs.toArray w fun e w' => e = .returned (.bool true) ∧ Go.RowKit.Below w.heap.size w w' := by
  refine (hr.2 _ _ _ _ _ hH hG ha).mono fun e w' hcame => ?_
  obtain ⟨v, H', x, β', rfl, rfl, _, hv, hH'⟩ := hcame
  cases hv
  exact ⟨rfl, hH'.keep.below⟩

end Go.Sim


/-
  The symbolic simulator, thirty-fourth part: a summary that is a run of the function itself, where all is known.
-/
namespace Go.Sim
variable {α : Type}

/-- an entry whose names are these -/
noncomputable def SO.keeps (p : Nat → Bool) (e : SO) : Bool := SO.rec (motive := fun _ => Bool) (fun c _ _ => Cells.rec (motive := fun _ => Bool) (fun l => SV.usesL p l) (fun _ _ => false) (fun _ _ => true) c) (fun c => Cells.rec (motive := fun _ => Bool) (fun l => SV.usesL p l) (fun _ _ => false) (fun _ _ => true) c) (fun _ _ _ _ _ _ _ _ => false) (fun _ => false) false (fun o => o.uses p) e

/-- the heap az the function is to see it -/
noncomputable def maskH (M : List Nat) (H : List SO) : Nat → List SO := List.rec (motive := fun _ => Nat → List SO) (fun _ => []) (fun e _ ih i => boolC (memN i M) e .gone :: ih (Nat.succ i)) H
noncomputable def atE (o : Option SO) : SO := optC o .gone fun e => e



/- All ends of a run, told by a closed term. -/
end Go.Sim


/-
  The symbolic simulator, thirty-fifth part: summaries whose new entries may be maps.
-/
namespace Go.Sim

/- Entries that may be maps. -/
def TakenQ (f : Nat → Nat) (E e : SO) : Prop :=
  match E with
  | .obj o => ∃ o0, e = .obj o0 ∧ o0.Imp (o.ren f)
  | .gone => ∃ l : Option Nat, l = l ∧ (e.placed = true ∨ ∃ o, e = .obj o)
  | E => Taken f E e
def SO.CUsesQ (p : Nat → Bool) (E : SO) : Prop :=
  match E with
  | .obj o => o.uses p = true
  | E => E.CUses p
theorem Taken.q {f : Nat → Nat} {E e : SO} (h : Taken f E e) : TakenQ f E e := by
  cases E with
  | own => exact h
  | row => exact h
  | loop => exact h
  | deferred => exact h
  | gone => exact ⟨none, rfl, .inl h⟩
  | obj => exact h.elim
theorem SO.CUses.q {p : Nat → Bool} {E : SO} (h : E.CUses p) : E.CUsesQ p := by
  cases E with
  | own => exact h
  | row => exact h
  | loop => exact h
  | deferred => exact h
  | gone => exact h
  | obj => exact h.elim
structure Ifc.FitsQ (I : Ifc) (H : List SO) : Prop where
  len : I.ents.length = I.names.length
  nodup : ∀ (i j nm : Nat), I.names[i]? = some nm → I.names[j]? = some nm → i = j
  uargs : SV.usesL I.known I.args = true
  ent : ∀ (j : Nat) (E : SO), I.ents[j]? = some E → ∃ e, H[I.big j]? = some e ∧ TakenQ I.big E e
  uent : ∀ (j : Nat) (E : SO), I.ents[j]? = some E → E.CUsesQ I.known
theorem Ifc.Fits.q {I : Ifc} {H : List SO} (h : I.Fits H) : I.FitsQ H := ⟨h.len, h.nodup, h.uargs, fun j E he => let ⟨e, h1, h2⟩ := h.ent j E he; ⟨e, h1, h2.q⟩, fun j E he => (h.uent j E he).q⟩
def EntsQ (f : Nat → Nat) (p : Nat → Bool) (H : List SO) : List Nat → List SO → Prop
  | n :: ns, E :: Es => ((∃ e, H[n]? = some e ∧ TakenQ f E e) ∧ E.CUsesQ p) ∧ EntsQ f p H ns Es
  | [], [] => True
  | _, _ => False
theorem EntsQ.length {f : Nat → Nat} {p : Nat → Bool} {H : List SO} : ∀ {ns : List Nat} {Es : List SO}, EntsQ f p H ns Es → Es.length = ns.length
  | [], [], _ => rfl
  | _ :: _, _ :: _, h => by simp only [List.length_cons]; rw [EntsQ.length h.2]
  | [], _ :: _, h => h.elim
  | _ :: _, [], h => h.elim
theorem EntsQ.get {f : Nat → Nat} {p : Nat → Bool} {H : List SO} : ∀ {ns : List Nat} {Es : List SO}, EntsQ f p H ns Es → ∀ (j : Nat) (E : SO), Es[j]? = some E → (∃ e, H[(nth ns j).getD 0]? = some e ∧ TakenQ f E e) ∧ E.CUsesQ p
  | [], [], _, j, E, h => by simp at h
  | n :: ns, E' :: Es, h, 0, E, hE => by simp at hE; subst hE; exact h.1
  | n :: ns, E' :: Es, h, j + 1, E, hE => by
    have := EntsQ.get h.2 j E (by simpa using hE)
    rw [nth_eq] at this ⊢
    simpa using this
  | [], _ :: _, h, _, _, _ => h.elim
  | _ :: _, [], h, _, _, _ => h.elim
theorem Ifc.fitsQ {I : Ifc} {H : List SO} (hn : I.names.Nodup) (hu : SV.usesL I.known I.args = true) (he : EntsQ I.big I.known H I.names I.ents) : I.FitsQ H :=
  ⟨he.length, fun _ _ _ hi hj => (List.getElem?_inj (List.getElem?_eq_some_iff.1 hi).1 hn).1 (hi.trans hj.symm), hu, fun j E hE => (he.get j E hE).1, fun j E hE => (he.get j E hE).2⟩
def Ifc.ownsQ (I : Ifc) (β : Val) (b : Nat) : Prop := ∃ (j : Nat) (E : SO) (l : Loc), I.ents[j]? = some E ∧ E.owned = true ∧ β (I.big j) = some l ∧ l.blk = b
/-- what is owned in small is owned in great -/
theorem TakenQ.owned {f : Nat → Nat} {p : Nat → Bool} {E e : SO} (h : TakenQ f E e) (hu : E.CUsesQ p) (ho : E.owned = true) : e.owned = true := by
  cases E with
  | own => obtain ⟨_, rfl, _⟩ := h; rfl
  | row => cases ho
  | loop => exact hu.elim
  | deferred => exact hu.elim
  | gone => cases ho
  | obj => obtain ⟨_, rfl, _⟩ := h; rfl
theorem EntryRel.loc {P : Program} {O : Nat → Prop} {w0 w : World} {β : Val} {n : Nat} {e : SO} (h : EntryRel P O w0 β w n e) (hp : e.placed = true ∨ ∃ o, e = .obj o) : ∃ l, β n = some l := by
  rcases hp with hp | ⟨o, rfl⟩
  · cases e with
    | own cc ww el => obtain ⟨l, _, _, _, _, hl, _⟩ := h; exact ⟨l, hl⟩
    | row cc => obtain ⟨l, _, hl, _⟩ := h; exact ⟨l, hl⟩
    | loop => cases hp
    | deferred => cases hp
    | gone => cases hp
    | obj => cases hp
  · obtain ⟨l, _, hl, _⟩ := h; exact ⟨l, hl⟩
theorem Ifc.heapQ {P : Program} {O : Nat → Prop} {w0 w : World} {β : Val} {H : List SO} {I : Ifc} (h : HeapRel0 P O w0 β H w) (hI : I.FitsQ H) : HeapRel P (I.ownsQ β) w (I.val β) I.ents w := by
  have hj : ∀ (j : Nat) (E : SO), I.ents[j]? = some E → j < I.names.length := fun j E he => by
    rw [← hI.len]; exact (List.getElem?_eq_some_iff.1 he).1
  have hval : ∀ (j : Nat) (E : SO), I.ents[j]? = some E → I.val β j = β (I.big j) := fun j E he => by
    exact (Ifc.val_known j ((I.known_iff j).2 (hj j E he))).symm
  have hne : ∀ (i j : Nat) (E E' : SO), I.ents[i]? = some E → I.ents[j]? = some E' → i ≠ j → I.big i ≠ I.big j := fun i j E E' h1 h2 hij heq =>
    hij (hI.nodup i j (I.big i) (Ifc.big_get (hj i E h1)) (by rw [heq]; exact Ifc.big_get (hj j E' h2)))
  refine ⟨⟨fun n E hn => ?_, fun n m E E' l l' hn hm ho ho' hnm hl hl' => ?_, fun n E l hn ho hl => ?_, ⟨rfl, rfl, rfl, Nat.le_refl _, Nat.le_refl _, fun _ _ _ => rfl⟩⟩, fun n hn => ?_⟩
  · obtain ⟨e, he, ht⟩ := hI.ent n E hn
    have hu := hI.uent n E hn
    have hv := hval n E hn
    have h0 := h.entries _ e he
    cases E with
    | own c wh el =>
      obtain ⟨c0, rfl, himp⟩ := ht
      obtain ⟨l, vs, rest, lo, hi, hl, h0', hc, hh, hfz, hw, hcap⟩ := h0
      exact ⟨l, vs, rest, lo, hi, hv.trans hl, h0', (CellsRel.ren hu Ifc.val_known).1 (himp _ _ hc), hh, hfz, hw, hcap⟩
    | row c =>
      have htake : ∀ (vs : List Value) (k i : Nat) (x : Value), (vs.take k)[i]? = some x → vs[i]? = some x := by
        intro vs k i x h
        rw [List.getElem?_take] at h
        split at h
        · exact h
        · cases h
      obtain ⟨c0, ht, himp⟩ := ht
      rcases ht with rfl | ⟨wh, el, rfl⟩
      · obtain ⟨l, vs, hl, hc, hx⟩ := h0
        obtain ⟨kk, hc⟩ := himp _ _ hc
        refine ⟨l, vs.take kk, hv.trans hl, (CellsRel.ren hu Ifc.val_known).1 hc, fun i x hi => ?_⟩
        obtain ⟨h1, h2, h3⟩ := hx i x (htake _ _ _ _ hi)
        refine ⟨Nat.lt_of_lt_of_le h1 h.keep.size, ?_, ?_⟩
        · rintro ⟨j, E', l', hj', ho', hl', hb⟩
          obtain ⟨e', he', ht'⟩ := hI.ent j _ hj'
          rcases h.fresh _ _ l' he' (ht'.owned (hI.uent j _ hj') ho') hl' with h4 | h4
          · omega
          · exact h2 (hb ▸ h4)
        · rw [World.cell_of_block (h.keep.block _ h1 h2)]; exact h3
      · obtain ⟨l, vs, rest, lo, hi, hl, h0', hc, hh, hfz, hw, hcap⟩ := h0
        obtain ⟨kk, hc⟩ := himp _ _ hc
        refine ⟨l, vs.take kk, hv.trans hl, (CellsRel.ren hu Ifc.val_known).1 hc, fun i x hi0 => ⟨(Array.getElem?_eq_some_iff.1 hh).1, ?_, ?_⟩⟩
        · rintro ⟨j, E', l', hj', ho', hl', hb⟩
          obtain ⟨e', he', ht'⟩ := hI.ent j _ hj'
          by_cases hnj : n = j
          · subst hnj; rw [hn] at hj'; cases hj'; cases ho'
          · exact h.sep _ _ _ _ l l' he he' rfl (ht'.owned (hI.uent j _ hj') ho') (hne n j _ _ hn hj' hnj) hl hl' hb.symm
        · unfold World.cell?
          rw [hh, h0', Nat.zero_add]
          have hi' := htake _ _ _ _ hi0
          have hlt := (List.getElem?_eq_some_iff.1 hi').1
          simp only [List.getElem?_toArray, List.getElem?_append_left hlt, hi']
          rfl
    | loop => exact hu.elim
    | deferred => exact hu.elim
    | gone => trivial
    | obj o =>
      obtain ⟨o0, rfl, himp⟩ := ht
      obtain ⟨l, x, hl, h0', hd, hh⟩ := h0
      refine ⟨l, x, hv.trans hl, h0', ?_, hh⟩
      have := himp _ _ hd
      rw [SObj.den_ren, SObj.den_uses (β := fun n => β (I.big n)) (β' := I.val β) Ifc.val_known hu] at this
      exact this
  · obtain ⟨e, he, ht⟩ := hI.ent n E hn
    obtain ⟨e', he', ht'⟩ := hI.ent m E' hm
    rw [hval n E hn] at hl
    rw [hval m E' hm] at hl'
    exact h.sep _ _ _ _ l l' he he' (ht.owned (hI.uent n E hn) ho) (ht'.owned (hI.uent m E' hm) ho') (hne n m _ _ hn hm hnm) hl hl'
  · rw [hval n E hn] at hl
    exact .inr ⟨n, E, l, hn, ho, hl, rfl⟩
  · unfold Ifc.val
    rw [if_neg]
    rw [I.known_iff, ← hI.len]; omega
/-- the small entry is the great one's, at last; a map, too -/
def GivenO (p : Nat → Bool) (g : Nat → Nat) (E : Option SO) (e : SO) : Prop := Given p g E e ∨ ∃ o, E = some (.obj o) ∧ o.uses p = true ∧ e = .obj (o.ren g)
def GivenQ (p : Nat → Bool) (g : Nat → Nat) (E : Option SO) (e : SO) : Prop := Given p g E e ∨ ∃ o o', E = some (.obj o) ∧ o.uses p = true ∧ (o.ren g).Imp o' ∧ e = .obj o'
structure Ifc.OutQ (I : Ifc) (base : Nat) (turn keep : List Nat) (r : SumRes) (v : SV) (H : List SO) : Prop where
  val : (v.ren (I.out base keep)).Imp r.v
  uv : v.uses (I.seen keep) = true
  setsLen : r.sets.length = turn.length
  sets : ∀ (i j : Nat), turn[i]? = some j → ∃ e, r.sets[i]? = some (I.big j, e) ∧ GivenQ (I.seen keep) (I.out base keep) H[j]? e
  newsLen : r.news.length = keep.length
  news : ∀ (i j : Nat), keep[i]? = some j → ∃ e, r.news[i]? = some e ∧ GivenQ (I.seen keep) (I.out base keep) H[j]? e
/-- A SUMMARY FROM A SMALL RUN -/
theorem sum_smallCQ {c : Cfg} {O : Nat → Prop} {w0 w : World} {β : Val} {H : List SO} {base : Nat} {f : FuncId} {vs : List Value} (hH : HeapRel0 c.P O w0 β H w)
    (I : Ifc) (hgl : ∀ g j, c.glob g = some j → I.known j = true ∧ ∃ l, β (I.big j) = some l ∧ l.blk = g ∧ l.off = 0) (ha : SV.denL β (SV.renL I.big I.args) = some vs) (hI : I.FitsQ H) {r : SumRes} (turn keep : List Nat) (ht1 : ∀ (j : Nat) E, I.ents[j]? = some E → E.owned = true → j ∈ turn) (ht2 : ∀ j ∈ turn, ∃ E, I.ents[j]? = some E ∧ E.owned = true) (hk : ∀ j ∈ keep, I.names.length ≤ j) (hkn : keep.Nodup) (htn : turn.Nodup := by simp)
    (hbody : ∃ fn, c.P.funcs[f]? = some fn ∧ fn.body.isSome = true)
    (hrun : HeapRel c.P (I.ownsQ β) w (I.val β) I.ents w → GlobRel c.glob (I.val β) → SV.denL (I.val β) I.args = some vs → Calls c.P f vs.toArray w (Came c.P (I.ownsQ β) w (I.val β) (I.OutQ base turn keep r))) : SumSem c.P H β w base f vs r := by
  intro hfree
  have hH' := Ifc.heapQ hH hI
  have ha' : SV.denL (I.val β) I.args = some vs := by
    rw [SV.denL_ren, SV.denL_uses Ifc.val_known _ hI.uargs] at ha; exact ha
  have hcalls := hrun hH' (fun g j hg => let ⟨hk, l, h1, h2⟩ := hgl g j hg; ⟨l, by rw [← Ifc.val_known j hk]; exact h1, h2⟩) ha'
  have hown : ∀ j ∈ turn, ∃ e l, H[I.big j]? = some e ∧ e.owned = true ∧ β (I.big j) = some l ∧ I.val β j = some l ∧ j < I.names.length := by
    intro j hj
    obtain ⟨E, he, ho⟩ := ht2 j hj
    obtain ⟨e, he', ht⟩ := hI.ent j _ he
    have hu := hI.uent j _ he
    have hjl : j < I.names.length := by rw [← hI.len]; exact (List.getElem?_eq_some_iff.1 he).1
    have hpl : e.placed = true ∨ ∃ o, e = .obj o := by
      cases E with
      | own => obtain ⟨_, rfl, _⟩ := ht; exact .inl rfl
      | row => cases ho
      | loop => exact hu.elim
      | deferred => exact hu.elim
      | gone => cases ho
      | obj => obtain ⟨_, rfl, _⟩ := ht; exact .inr ⟨_, rfl⟩
    obtain ⟨l, hl⟩ := (hH.entries _ _ he').loc hpl
    exact ⟨e, l, he', ht.owned hu ho, hl, by rw [← Ifc.val_known j ((I.known_iff j).2 hjl)]; exact hl, hjl⟩
  -- what is turned
  have hsets : ∀ (v : SV) (H'' : List SO), I.OutQ base turn keep r v H'' → ∀ m e, (m, e) ∈ r.sets → ∃ j ∈ turn, m = I.big j ∧ GivenQ (I.seen keep) (I.out base keep) H''[j]? e ∧ ∃ i : Nat, turn[i]? = some j ∧ r.sets[i]? = some (m, e) := by
    intro v H'' hout m e hm
    obtain ⟨i, hi⟩ := List.mem_iff_getElem?.1 hm
    have hil := (List.getElem?_eq_some_iff.1 hi).1
    rw [hout.setsLen] at hil
    obtain ⟨e', h1, h2⟩ := hout.sets i _ (List.getElem?_eq_getElem hil)
    rw [hi] at h1
    cases h1
    exact ⟨_, List.getElem_mem hil, rfl, h2, i, List.getElem?_eq_getElem hil, hi⟩
  refine ⟨?_, .inl ⟨hbody, ?_⟩⟩
  · intro m e hm
    obtain ⟨e', w', fr, hcame, _⟩ := hcalls []
    obtain ⟨v, H'', x, β'', _, hout, _⟩ := hcame
    obtain ⟨j, hj, rfl, _⟩ := hsets v H'' hout m e hm
    obtain ⟨e0, l, h1, h2, _⟩ := hown j hj
    exact ⟨_, h1, h2⟩
  · intro cs
    obtain ⟨e', w', fr, hcame, hst⟩ := hcalls cs
    refine ⟨e', w', fr, ?_, hst⟩
    obtain ⟨v, H'', x, β'', rfl, hout, hle, hv, hH2⟩ := hcame
    -- the great valuation behind the call
    let βb : Val := fun n => if base ≤ n ∧ n < base + keep.length then (keep[n - base]?).bind β'' else β n
    have hlenn : r.news.length = keep.length := hout.newsLen
    have hfree' : ∀ i, i < keep.length → β (base + i) = none := fun i hi => hfree i (by rw [hlenn]; exact hi)
    have hβle : β.le βb := by
      intro n l hn
      show (if _ then _ else _) = _
      rw [if_neg]
      · exact hn
      · rintro ⟨h1, h2⟩
        have := hfree' (n - base) (by omega)
        rw [show base + (n - base) = n from by omega, hn] at this; cases this
    have hseen : ∀ j, I.seen keep j = true → βb (I.out base keep j) = β'' j := by
      intro j hj
      unfold Ifc.seen at hj
      unfold Ifc.out
      cases hkn' : I.known j with
      | true =>
        rw [boolC_true]
        have hjl := (I.known_iff j).1 hkn'
        obtain ⟨E, hE⟩ : ∃ E, I.ents[j]? = some E := ⟨_, List.getElem?_eq_getElem (by rw [hI.len]; exact hjl)⟩
        obtain ⟨e, he, htk⟩ := hI.ent j E hE
        have hu := hI.uent j E hE
        have hpl : e.placed = true ∨ ∃ o, e = .obj o := by
          cases E with
          | own cc ww el => obtain ⟨c1, rfl, _⟩ := htk; exact .inl rfl
          | row cc => obtain ⟨c1, rfl | ⟨ww, el, rfl⟩, _⟩ := htk <;> exact .inl rfl
          | loop => exact hu.elim
          | deferred => exact hu.elim
          | gone => obtain ⟨_, _, h⟩ := htk; exact h
          | obj => obtain ⟨_, rfl, _⟩ := htk; exact .inr ⟨_, rfl⟩
        obtain ⟨l, hl⟩ := (hH.entries _ _ he).loc hpl
        rw [hβle _ _ hl]
        have : I.val β j = some l := by rw [← Ifc.val_known j hkn']; exact hl
        rw [hle _ _ this]
      | false =>
        rw [hkn', boolC_false, memN_iff] at hj
        rw [boolC_false]
        have h1 := idxN_spec hj
        have h2 := (List.getElem?_eq_some_iff.1 h1).1
        show (if _ then _ else _) = _
        rw [if_pos (by omega), show base + idxN j keep - base = idxN j keep from by omega, h1]; rfl
    have hrenOwn : ∀ (j : Nat) (e : SO), GivenQ (I.seen keep) (I.out base keep) H''[j]? e → I.seen keep j = true → e.owned = true ∧ OwnRel c.P βb w' (I.out base keep j) e := by
      intro j e hg hs
      rcases hg with ⟨cc, ww, el, c', he, hu, himp, rfl⟩ | ⟨o, o', he, hu, himp, rfl⟩
      · obtain ⟨l, vs, rest, lo, hi, hl, h0, hcl, hh, hfz, hw, hcap⟩ := hH2.entries j _ he
        exact ⟨rfl, l, vs, rest, lo, hi, (hseen j hs).trans hl, h0, himp _ _ ((CellsRel.ren hu hseen).2 hcl), hh, hfz, hw, hcap⟩
      · obtain ⟨l, y, hl, h0, hd, hh⟩ := hH2.entries j _ he
        exact ⟨rfl, l, y, (hseen j hs).trans hl, h0, himp _ _ (by rw [SObj.den_ren, SObj.den_uses (β := fun n => βb (I.out base keep n)) (β' := β'') hseen hu]; exact hd), hh⟩
    have hatJ : ∀ (j : Nat) (e : SO), GivenQ (I.seen keep) (I.out base keep) H''[j]? e → ∃ e0 l, H''[j]? = some e0 ∧ e0.owned = true ∧ β'' j = some l := by
      intro j e hg
      rcases hg with ⟨cc, ww, el, c', he, _⟩ | ⟨o, o', he, _⟩
      · obtain ⟨l, vs2, rest, lo, hi2, hl, _⟩ := hH2.entries j _ he
        exact ⟨_, l, he, rfl, hl⟩
      · obtain ⟨l, y, hl, _⟩ := hH2.entries j _ he
        exact ⟨_, l, he, rfl, hl⟩
    have hseenT : ∀ j ∈ turn, I.seen keep j = true ∧ I.out base keep j = I.big j := by
      intro j hj
      obtain ⟨_, _, _, _, _, _, hjl⟩ := hown j hj
      have := (I.known_iff j).2 hjl
      unfold Ifc.seen Ifc.out
      rw [this]; exact ⟨rfl, rfl⟩
    have hseenK : ∀ j ∈ keep, I.seen keep j = true ∧ I.known j = false := by
      intro j hj
      have hnk : I.known j = false := by
        cases hx : I.known j with
        | false => rfl
        | true => have := (I.known_iff j).1 hx; have := hk j hj; omega
      unfold Ifc.seen
      rw [hnk]; exact ⟨memN_spec hj, rfl⟩
    have hnewsAt : ∀ (i : Nat) (e : SO), r.news[i]? = some e → ∃ j, keep[i]? = some j ∧ GivenQ (I.seen keep) (I.out base keep) H''[j]? e := by
      intro i e hi
      have hil := (List.getElem?_eq_some_iff.1 hi).1
      rw [hlenn] at hil
      obtain ⟨e', h1, h2⟩ := hout.news i _ (List.getElem?_eq_getElem hil)
      rw [hi] at h1; cases h1
      exact ⟨_, List.getElem?_eq_getElem hil, h2⟩
    refine ⟨x, βb, rfl, ?_, ⟨hβle, hH2.keep.os, hH2.keep.tape, hH2.keep.output, hH2.keep.drawn, hH2.keep.size, ?_, ?_, ?_, ?_, ?_, ?_⟩⟩
    · refine hout.val _ _ ?_
      rw [SV.den_ren, SV.den_uses hseen _ hout.uv]; exact hv
    · intro n hn
      rw [hlenn] at hn
      show (if _ then _ else _) = _
      rw [if_neg (by omega)]
    · intro b hb hno
      refine hH2.keep.block b hb ?_
      rintro ⟨j, E, l, hj, ho, hl, rfl⟩
      have hjt := ht1 j E hj ho
      obtain ⟨i, hi⟩ := List.mem_iff_getElem?.1 hjt
      obtain ⟨e, he, _⟩ := hout.sets i j hi
      exact hno (I.big j) e l (List.mem_of_getElem? he) hl rfl
    · intro m e e' h1 h2
      obtain ⟨j, hj, hm1, hg1, i1, ht1', hs1⟩ := hsets v H'' hout m e h1
      obtain ⟨k, hk', hm2, hg2, i2, ht2', hs2⟩ := hsets v H'' hout m e' h2
      obtain ⟨_, _, _, _, _, _, hjl⟩ := hown j hj
      obtain ⟨_, _, _, _, _, _, hkl⟩ := hown k hk'
      have hjk : k = j := hI.nodup k j (I.big k) (Ifc.big_get hkl) (by rw [← hm2, hm1]; exact Ifc.big_get hjl)
      subst hjk
      have : i1 = i2 := (List.getElem?_inj (List.getElem?_eq_some_iff.1 ht1').1 htn).1 (ht1'.trans ht2'.symm)
      subst this
      rw [hs1] at hs2
      exact (Prod.mk.inj (Option.some.inj hs2)).2
    · intro m e hm
      obtain ⟨j, hj, rfl, hg, _⟩ := hsets v H'' hout m e hm
      obtain ⟨hs, hb⟩ := hseenT j hj
      rw [← hb]
      exact (hrenOwn j e hg hs).2
    · intro i e hi
      obtain ⟨j, hj, hg⟩ := hnewsAt i e hi
      have hjm := List.mem_of_getElem? hj
      obtain ⟨hs, hnk⟩ := hseenK j hjm
      have hout' : I.out base keep j = base + i := by
        unfold Ifc.out
        rw [hnk, boolC_false]
        have h1 := idxN_spec hjm
        have : idxN j keep = i := (List.getElem?_inj (List.getElem?_eq_some_iff.1 h1).1 hkn).1 (h1.trans hj.symm)
        rw [this]
      obtain ⟨ho, hor⟩ := hrenOwn j e hg hs
      refine ⟨ho, hout' ▸ hor, ?_⟩
      obtain ⟨e0, l, he, he0, hl⟩ := hatJ j e hg
      refine ⟨l, by rw [← hout', hseen j hs]; exact hl, .inl ?_⟩
      rcases hH2.fresh j _ l he he0 hl with h1 | ⟨k, E, lk, hk1, hko, hk2, hk3⟩
      · exact h1
      · exfalso
        -- a block that was given is still its own
        have hkt := ht1 k E hk1 hko
        obtain ⟨i3, hi3⟩ := List.mem_iff_getElem?.1 hkt
        obtain ⟨e3, _, hg3⟩ := hout.sets i3 k hi3
        obtain ⟨e4, l4, he4, ho4, hl4⟩ := hatJ k e3 hg3
        obtain ⟨_, l2, _, _, hb2, hv2, hkl⟩ := hown k hkt
        rw [hb2] at hk2; cases hk2
        rw [hle _ _ hv2] at hl4; cases hl4
        refine hH2.sep k j _ _ lk l he4 he ho4 he0 ?_ (hle _ _ hv2) hl hk3
        have := hk j hjm; omega
    · intro i j l l' hij hi hj hl hl'
      rw [hlenn] at hi hj
      have hone : ∀ i, i < keep.length → ∀ l, βb (base + i) = some l → ∃ k, keep[i]? = some k ∧ β'' k = some l := by
        intro i hi l hl
        have hl : (if base ≤ base + i ∧ base + i < base + keep.length then (keep[base + i - base]?).bind β'' else β (base + i)) = some l := hl
        rw [if_pos (by omega), show base + i - base = i from by omega, List.getElem?_eq_getElem hi] at hl
        exact ⟨_, List.getElem?_eq_getElem hi, hl⟩
      obtain ⟨k1, hk1, hb1⟩ := hone i hi l hl
      obtain ⟨k2, hk2, hb2⟩ := hone j hj l' hl'
      obtain ⟨n1, _, hg1⟩ := hout.news i k1 hk1
      obtain ⟨n2, _, hg2⟩ := hout.news j k2 hk2
      obtain ⟨e1, _, he1, ho1, _⟩ := hatJ k1 n1 hg1
      obtain ⟨e2, _, he2, ho2, _⟩ := hatJ k2 n2 hg2
      refine hH2.sep k1 k2 _ _ l l' he1 he2 ho1 ho2 (fun h => ?_) hb1 hb2
      subst h
      exact hij ((List.getElem?_inj (List.getElem?_eq_some_iff.1 hk1).1 hkn).1 (hk1.trans hk2.symm))
/- In short words. -/
/-- the places of what may be written -/
def ownedOf : List SO → Nat → List Nat
  | [], _ => []
  | E :: Es, k => if E.owned then k :: ownedOf Es (k + 1) else ownedOf Es (k + 1)
theorem ownedOf_spec : ∀ (Es : List SO) (k j : Nat), j ∈ ownedOf Es k ↔ ∃ i E, j = k + i ∧ Es[i]? = some E ∧ E.owned = true
  | [], k, j => by simp [ownedOf]
  | E :: Es, k, j => by
    have ih := ownedOf_spec Es (k + 1) j
    have hstep : (∃ i E', j = k + 1 + i ∧ Es[i]? = some E' ∧ E'.owned = true) → ∃ i E', j = k + i ∧ (E :: Es)[i]? = some E' ∧ E'.owned = true := fun ⟨i, E', h, h', h3⟩ => ⟨i + 1, E', by omega, by simpa using h', h3⟩
    unfold ownedOf
    split
    · rename_i ho
      rw [List.mem_cons, ih]
      constructor
      · rintro (rfl | h)
        · exact ⟨0, _, rfl, rfl, ho⟩
        · exact hstep h
      · rintro ⟨i, E', h, h', h3⟩
        cases i with
        | zero => exact .inl h
        | succ i => exact .inr ⟨i, E', by omega, by simpa using h', h3⟩
    · rename_i ho
      rw [ih]
      constructor
      · exact hstep
      · rintro ⟨i, E', h, h', h3⟩
        cases i with
        | zero => simp at h'; subst h'; exact absurd h3 ho
        | succ i => exact ⟨i, E', by omega, by simpa using h', h3⟩
theorem ownedOf_nodup : ∀ (Es : List SO) (k : Nat), (ownedOf Es k).Nodup
  | [], k => by simp [ownedOf]
  | E :: Es, k => by
    unfold ownedOf
    split
    · refine List.nodup_cons.2 ⟨fun h => ?_, ownedOf_nodup Es (k + 1)⟩
      obtain ⟨i, _, h, _⟩ := (ownedOf_spec Es (k + 1) k).1 h
      omega
    · exact ownedOf_nodup Es (k + 1)
def SetsQ (big : Nat → Nat) (p : Nat → Bool) (g : Nat → Nat) (H : List SO) : List Nat → List (Nat × SO) → Prop
  | j :: js, x :: rs => (x.1 = big j ∧ GivenQ p g H[j]? x.2) ∧ SetsQ big p g H js rs
  | [], [] => True
  | _, _ => False
def NewsQ (p : Nat → Bool) (g : Nat → Nat) (H : List SO) : List Nat → List SO → Prop
  | j :: js, e :: rs => GivenQ p g H[j]? e ∧ NewsQ p g H js rs
  | [], [] => True
  | _, _ => False
theorem SetsQ.length {big p g H} : ∀ {js : List Nat} {rs : List (Nat × SO)}, SetsQ big p g H js rs → rs.length = js.length
  | [], [], _ => rfl
  | _ :: _, _ :: _, h => by simp only [List.length_cons]; rw [SetsQ.length h.2]
  | [], _ :: _, h => h.elim
  | _ :: _, [], h => h.elim
theorem SetsQ.get {big p g H} : ∀ {js : List Nat} {rs : List (Nat × SO)}, SetsQ big p g H js rs → ∀ (i j : Nat), js[i]? = some j → ∃ e, rs[i]? = some (big j, e) ∧ GivenQ p g H[j]? e
  | [], [], _, i, j, h => by simp at h
  | j' :: js, x :: rs, h, 0, j, hE => by simp at hE; subst hE; exact ⟨x.2, by simp [← h.1.1], h.1.2⟩
  | j' :: js, x :: rs, h, i + 1, j, hE => by
    obtain ⟨e, a, b⟩ := SetsQ.get h.2 i j (by simpa using hE)
    exact ⟨e, by simpa using a, b⟩
  | [], _ :: _, h, _, _, _ => h.elim
  | _ :: _, [], h, _, _, _ => h.elim
theorem NewsQ.length {p g H} : ∀ {js : List Nat} {rs : List SO}, NewsQ p g H js rs → rs.length = js.length
  | [], [], _ => rfl
  | _ :: _, _ :: _, h => by simp only [List.length_cons]; rw [NewsQ.length h.2]
  | [], _ :: _, h => h.elim
  | _ :: _, [], h => h.elim
theorem NewsQ.get {p g H} : ∀ {js : List Nat} {rs : List SO}, NewsQ p g H js rs → ∀ (i j : Nat), js[i]? = some j → ∃ e, rs[i]? = some e ∧ GivenQ p g H[j]? e
  | [], [], _, i, j, h => by simp at h
  | j' :: js, x :: rs, h, 0, j, hE => by simp at hE; subst hE; exact ⟨x, by simp, h.1⟩
  | j' :: js, x :: rs, h, i + 1, j, hE => by
    obtain ⟨e, a, b⟩ := NewsQ.get h.2 i j (by simpa using hE)
    exact ⟨e, by simpa using a, b⟩
  | [], _ :: _, h, _, _, _ => h.elim
  | _ :: _, [], h, _, _, _ => h.elim
/-- what a small run comes to -/
structure Ifc.EndsQ (I : Ifc) (base : Nat) (keep : List Nat) (r : SumRes) (v : SV) (H : List SO) : Prop where
  val : (v.ren (I.out base keep)).Imp r.v
  uv : v.uses (I.seen keep) = true
  sets : SetsQ I.big (I.seen keep) (I.out base keep) H (ownedOf I.ents 0) r.sets
  news : NewsQ (I.seen keep) (I.out base keep) H keep r.news
/-- A SUMMARY FROM RUNS -/
theorem sum_runsQ {c : Cfg} {O : Nat → Prop} {w0 w : World} {β : Val} {H : List SO} {base : Nat} {f : FuncId} {vs : List Value} (hH : HeapRel0 c.P O w0 β H w)
    (I : Ifc) (hgl : ∀ g j, c.glob g = some j → I.known j = true ∧ ∃ l, β (I.big j) = some l ∧ l.blk = g ∧ l.off = 0) (ha : SV.denL β (SV.renL I.big I.args) = some vs) (hI : I.FitsQ H) {r : SumRes} (keep : List Nat) (hk : ∀ j ∈ keep, I.names.length ≤ j) (hkn : keep.Nodup)
    (hr : Runs c f I.args I.ents (I.EndsQ base keep r)) : SumSem c.P H β w base f vs r := by
  refine sum_smallCQ hH I hgl ha hI (ownedOf I.ents 0) keep (fun j E h ho => (ownedOf_spec _ _ _).2 ⟨j, E, by omega, h, ho⟩) (fun j hj => ?_) hk hkn (ownedOf_nodup _ _) hr.1 fun hH' hG ha' => (hr.2 _ _ _ _ _ hH' hG ha').mono fun e w' hcame => ?_
  · obtain ⟨i, E, h, h', ho⟩ := (ownedOf_spec _ _ _).1 hj
    exact ⟨E, by rw [h, Nat.zero_add]; exact h', ho⟩
  · obtain ⟨v, H', x, β', he, h, hle, hv, hH2⟩ := hcame
    exact ⟨v, H', x, β', he, ⟨h.val, h.uv, h.sets.length, h.sets.get, h.news.length, h.news.get⟩, hle, hv, hH2⟩
/-- A SUMMARY FROM A SMALL RUN -/
theorem sum_runQ {c : Cfg} (hc : CfgOK c) (n : Nat) {O : Nat → Prop} {w0 w : World} {β : Val} {H : List SO} {base : Nat} {f : FuncId} {vs : List Value} (hH : HeapRel0 c.P O w0 β H w)
    (I : Ifc) (hgl : ∀ g j, c.glob g = some j → I.known j = true ∧ ∃ l, β (I.big j) = some l ∧ l.blk = g ∧ l.off = 0) (ha : SV.denL β (SV.renL I.big I.args) = some vs) (hI : I.FitsQ H) {r : SumRes} (keep : List Nat) (hk : ∀ j ∈ keep, I.names.length ≤ j) (hkn : keep.Nodup)
    (hob : (callSim c n f I.args I.ents).Ob (I.EndsQ base keep r) fun _ => False) : SumSem c.P H β w base f vs r := sum_runsQ hH I hgl ha hI keep hk hkn (runs_of hc hob)
/-- the older forms -/
structure Ifc.OutO (I : Ifc) (base : Nat) (turn keep : List Nat) (r : SumRes) (v : SV) (H : List SO) : Prop where
  val : (v.ren (I.out base keep)).Imp r.v
  uv : v.uses (I.seen keep) = true
  setsLen : r.sets.length = turn.length
  sets : ∀ (i j : Nat), turn[i]? = some j → ∃ e, r.sets[i]? = some (I.big j, e) ∧ Given (I.seen keep) (I.out base keep) H[j]? e
  newsLen : r.news.length = keep.length
  news : ∀ (i j : Nat), keep[i]? = some j → ∃ e, r.news[i]? = some e ∧ GivenO (I.seen keep) (I.out base keep) H[j]? e

/- For whatever numbers that nobody knows: the directions may go by them. -/
end Go.Sim


/-
  The symbolic simulator, thirty-sixth part: the loop rule where a round goes by numbers that nobody knows.
-/
namespace Go.Sim
/-- for whatever numbers that nobody knows: some directions lead to an outcome of a kind -/
theorem outLz_ob {js : List Nat} {M : Cut} {names : List Nat} {t : Tree} {K : (SV × List (Option SO)) ⊕ Seen → Prop} (h : ∀ z : Nat → Nat → Nat, ∃ ds ps r, outL js M names t ds z = (ps, some r) ∧ (∀ p ∈ ps, p) ∧ K r) {D : SV → List SO → Prop} {S : SS → Prop}
    (hD : ∀ v es, K (.inl (v, es)) → ∀ H : List SO, js.map (fun j => H[j]?) = es → D v H) (hS : ∀ V, K (.inr V) → ∀ s, viewS M names s = V → S s) : t.Ob D S := by
  have z0 : Nat → Nat → Nat := fun _ _ => 0
  induction t with
  | done v' H =>
    obtain ⟨ds, ps, r, h, _, hk⟩ := h z0
    have h' : ([], some (.inl (v', mapN (fun j => nth H j) js))) = (ps, some r) := h
    have h1 := Option.some.inj (Prod.mk.inj h').2
    rw [← h1] at hk
    refine hD v' _ hk H ?_
    rw [mapN_eq]
    exact List.map_congr_left fun j _ => (nth_eq H j).symm
  | stop s =>
    obtain ⟨ds, ps, r, h, _, hk⟩ := h z0
    have h' : ([], some (.inr (viewS M names s))) = (ps, some r) := h
    have h1 := Option.some.inj (Prod.mk.inj h').2
    rw [← h1] at hk
    exact hS _ hk s rfl
  | need p t ih =>
    have h' : ∀ z, ∃ ds ps r, (p :: (outL js M names t ds z).1, (outL js M names t ds z).2) = (ps, some r) ∧ (∀ p ∈ ps, p) ∧ K r := h
    refine ⟨?_, ih fun z => ?_⟩
    · obtain ⟨ds, ps, r, h1, h2, _⟩ := h' z0
      exact h2 p (by rw [← (Prod.mk.inj h1).1]; exact List.mem_cons_self)
    · obtain ⟨ds, ps, r, h1, h2, h3⟩ := h' z
      exact ⟨ds, _, r, Prod.ext rfl (Prod.mk.inj h1).2, fun q hq => h2 q (by rw [← (Prod.mk.inj h1).1]; exact List.mem_cons_of_mem _ hq), h3⟩
  | fork b t f iht ihf =>
    have key : ∀ z, ∃ rs ps r, ((boolC b (outL js M names t rs z) (outL js M names f rs z)) = (ps, some r)) ∧ (∀ p ∈ ps, p) ∧ K r := by
      intro z
      obtain ⟨ds, ps, r, h1, h2, h3⟩ := h z
      cases ds with
      | nil => cases (Prod.mk.inj (show ([], none) = (ps, some r) from h1)).2
      | cons d rs =>
        have h1 : ((b = d) :: (boolC d (outL js M names t rs z) (outL js M names f rs z)).1, (boolC d (outL js M names t rs z) (outL js M names f rs z)).2) = (ps, some r) := h1
        have hb : b = d := h2 _ (by rw [← (Prod.mk.inj h1).1]; exact List.mem_cons_self)
        exact ⟨rs, _, r, Prod.ext rfl (by rw [hb]; exact (Prod.mk.inj h1).2), fun q hq => h2 q (by rw [← (Prod.mk.inj h1).1]; refine List.mem_cons_of_mem _ ?_; rw [hb] at hq; exact hq), h3⟩
    refine ⟨fun ht => iht fun z => ?_, fun hf => ihf fun z => ?_⟩
    · obtain ⟨rs, ps, r, h1, h2⟩ := key z
      rw [ht] at h1
      exact ⟨rs, ps, r, h1, h2⟩
    · obtain ⟨rs, ps, r, h1, h2⟩ := key z
      rw [hf] at h1
      exact ⟨rs, ps, r, h1, h2⟩
  | stuck =>
    obtain ⟨ds, ps, r, h1, _⟩ := h z0
    cases (Prod.mk.inj (show ([], none) = (ps, some r) from h1)).2
  | any k ih =>
    intro y
    let c : (Nat → Nat → Nat) → Nat → Nat → Nat := fun z i => Nat.rec (motive := fun _ => Nat → Nat) y (fun j _ => z j) i
    exact ih y fun z => h (c z)
/-- what is seen is the beginning of another round -/
def SeenTurn {A : Type} (k0 : Nat) (C : A → Cut) (Q : A → Prop) (M : Cut) (names : List Nat) (V : Seen) : Prop :=
  ∃ (a : A) (N : Nat) (ms : List (Nat × Nat × SV)) (es : List (Nat × HP)), Q a ∧ V = modSeen ms es (seenC names N (C a)) ∧ boolC (namesOK k0 names M (C a)) (allN noLoopE (C a).heap) false = true ∧
    (∀ m ∈ ms, ∀ (p : SP) (u : Option SV), (C a).frames[m.1]? = some p → p.tmps[m.2.1]? = some u → ∃ w, u = some w ∧ m.2.2.Imp (w.ren (nameOf names N))) ∧ (∀ e ∈ es, ∀ E0, (C a).heap[e.1]? = some E0 → ImpE (nameOf names N) (some e.2) E0)
theorem SeenTurn.of {A : Type} {k0 : Nat} {C : A → Cut} {Q : A → Prop} {M : Cut} {names : List Nat} {N : Nat} (a : A) (hq : Q a) (hn : boolC (namesOK k0 names M (C a)) (allN noLoopE (C a).heap) false = true) : SeenTurn k0 C Q M names (seenC names N (C a)) :=
  ⟨a, N, [], [], hq, rfl, hn, by simp, by simp⟩
theorem to_turnZ {A : Type} {c : Cfg} {k0 : Nat} {C : A → Cut} {Q : A → Prop} {D : SV → List SO → Prop} {s : SS} (st : Option (Nat × Nat)) (n : Nat) {M : Cut} {js names : List Nat} {K : SV × List (Option SO) → Prop}
    (h : ∀ z, ∃ ds ps r, outL js M names (sim1 (c.at st) n s) ds z = (ps, some r) ∧ (∀ p ∈ ps, p) ∧ Sum.rec (motive := fun _ => Prop) K (SeenTurn k0 C Q M names) r)
    (hD : ∀ v es, K (v, es) → ∀ H : List SO, js.map (fun j => H[j]?) = es → D v H) : TurnsTo c k0 C Q D s :=
  ⟨st, n, outLz_ob h (fun v es hk H hH => hD v es hk H hH) fun V hk s hv => by
    obtain ⟨a, N, ms, es, hq, e, hn, hT, hE⟩ := (hk : SeenTurn k0 C Q M names V)
    exact turns_of a hq names (gen_mod (N := N) ms es (by rw [hv]; exact e) hn hT hE)⟩
end Go.Sim


/-
  Strings in order: cmp.Compare.
-/
namespace Go.Proofs.YtoooohgejkebjaaGreatDoor.Aes
open Go.Sim
open Go.Proofs
variable {α : Type}

def cmpZ (a b : ByteArray) : Int := if Op.bytesLess a.data.toList b.data.toList then -1 else if Op.bytesLess a.data.toList b.data.toList || decide (a = b) then 0 else 1
noncomputable def cmpL (a b : ByteArray) : Int := boolC (Op.bytesLess a.data.toList b.data.toList) (-1) (boolC (a.data.toList == b.data.toList) 0 1)
theorem cmpL_eq (a b : ByteArray) : cmpL a b = cmpZ a b := by
  unfold cmpL cmpZ
  have h : (a.data.toList == b.data.toList) = decide (a = b) := by rw [← beq_data, beq_bytes]
  rw [h]
  cases Op.bytesLess a.data.toList b.data.toList with
  | true => rfl
  | false => cases h2 : decide (a = b) <;> simp [boolC]
noncomputable def cmpI (s t : SStr) : SI := SStr.rec (motive := fun _ => SI) (fun a => SStr.rec (motive := fun _ => SI) (fun b => .lit (cmpL a b)) (fun b => .sym (cmpZ a b)) (fun l => .sym (cmpZ a (bytesOf l))) t) (fun a => .sym (cmpZ a t.den)) (fun l => .sym (cmpZ (bytesOf l) t.den)) s
theorem cmpI_den (s t : SStr) : (cmpI s t).den = cmpZ s.den t.den := by
  cases s <;> cases t <;> first | rfl | exact cmpL_eq _ _
noncomputable def cmpS : Summ := fun args _ _ => args2 args fun s t => optC (strV s) (.stuck 681) fun s => optC (strV t) (.stuck 681) fun t => .ok ⟨SV.int .i64 (cmpI s t), [], []⟩
theorem cmp_run1 (a b : ByteArray) : outO [] (callSim cfgX 400 173 [.str (.sym a), .str (.sym b)] []) [false, false, true] = ([(!decide (a = a)) = false, (!decide (b = b)) = false, Op.bytesLess a.data.toList b.data.toList = true], some (.int .i64 (.lit (-1)), [])) := by kernel_rfl
theorem cmp_run2 (a b : ByteArray) : outO [] (callSim cfgX 400 173 [.str (.sym a), .str (.sym b)] []) [false, false, false, true] = ([(!decide (a = a)) = false, (!decide (b = b)) = false, Op.bytesLess a.data.toList b.data.toList = false, (!(Op.bytesLess a.data.toList b.data.toList || decide (a = b))) = true], some (.int .i64 (.lit 1), [])) := by kernel_rfl
theorem cmp_run3 (a b : ByteArray) : outO [] (callSim cfgX 400 173 [.str (.sym a), .str (.sym b)] []) [false, false, false, false] = ([(!decide (a = a)) = false, (!decide (b = b)) = false, Op.bytesLess a.data.toList b.data.toList = false, (!(Op.bytesLess a.data.toList b.data.toList || decide (a = b))) = false], some (.int .i64 (.lit 0), [])) := by kernel_rfl
theorem str_imp {s t : SStr} (h : s.den = t.den) : (SV.str s).Imp (.str t) := fun _ _ hx => by
  simp only [SV.den] at hx ⊢
  rw [← h]; exact hx
theorem int_impS {k : IntKind} {a b : SI} (h : a.den = b.den) : (SV.int k a).Imp (.int k b) := fun _ _ hx => by
  simp only [SV.den] at hx ⊢
  rw [← h]; exact hx
theorem cmpOK : SumOK Tryz.prog 173 cmpS := by
  intro glob O w0 β H w base args vs hH hG ha
  refine args2_sat fun v1 v2 hv => optC_only fun s hs => optC_only fun t ht => ?_
  rw [hv, strV_spec hs, strV_spec ht] at ha
  have ha := impL_cons (str_imp (t := .sym s.den) rfl) (impL_cons (str_imp (t := .sym t.den) rfl) impL_nil) _ _ ha
  have hE : ∀ (n : Int), cmpZ s.den t.den = n → ∀ H2 : List SO, (⟨[], [], [.str (.sym s.den), .str (.sym t.den)]⟩ : Ifc).Ends base [] ⟨SV.int .i64 (cmpI s t), [], []⟩ (SV.int .i64 (.lit n)) H2 := fun n hn H2 => ⟨int_impS (by rw [cmpI_den, hn]; rfl), rfl, trivial, trivial⟩
  have h1 : ∀ a : ByteArray, (!decide (a = a)) = false := fun a => by simp
  cases hb : Op.bytesLess s.den.data.toList t.den.data.toList with
  | true => exact sum_outO cfgXOK rfl 400 hH ⟨[], [], [.str (.sym s.den), .str (.sym t.den)]⟩ ha (fits0 rfl) [] (by simp) (by simp) (cmp_run1 s.den t.den) (all_cons (h1 _) (all_cons (h1 _) (all_cons hb all_nil))) fun H2 _ => hE _ (by unfold cmpZ; rw [hb]; rfl) H2
  | false =>
    cases he : decide (s.den = t.den) with
    | true => exact sum_outO cfgXOK rfl 400 hH ⟨[], [], [.str (.sym s.den), .str (.sym t.den)]⟩ ha (fits0 rfl) [] (by simp) (by simp) (cmp_run3 s.den t.den) (all_cons (h1 _) (all_cons (h1 _) (all_cons hb (all_cons (by rw [hb, he]; rfl) all_nil)))) fun H2 _ => hE _ (by unfold cmpZ; rw [hb, he]; rfl) H2
    | false => exact sum_outO cfgXOK rfl 400 hH ⟨[], [], [.str (.sym s.den), .str (.sym t.den)]⟩ ha (fits0 rfl) [] (by simp) (by simp) (cmp_run2 s.den t.den) (all_cons (h1 _) (all_cons (h1 _) (all_cons hb (all_cons (by rw [hb, he]; rfl) all_nil)))) fun H2 _ => hE _ (by unfold cmpZ; rw [hb, he]; rfl) H2
noncomputable def cfgR0 : Cfg := cfgOf (sumsOf [(161, idxS), (173, cmpS)])
theorem cfgR0OK : CfgOK cfgR0 := sumsOf_ok (allC idxOK (all1 cmpOK))
end Go.Proofs.YtoooohgejkebjaaGreatDoor.Aes


/-
  Functions of one string, told for some strings.
-/
namespace Go.Proofs.YtoooohgejkebjaaGreatDoor.Aes
open Go.Sim
open Go.Proofs
variable {α : Type}

set_option maxRecDepth 1000000
def bAs (l : List UInt8) : ByteArray := ⟨l.toArray⟩
def strIs (v : SV) (l : List UInt8) : Bool := match v with | .str (.lit s) => s.data.toList == l | _ => false
theorem strIs_spec {v : SV} {l : List UInt8} (h : strIs v l = true) : v = .str (.lit (bAs l)) := by
  unfold strIs at h
  split at h
  · rename_i s
    have h := eq_of_beq h
    obtain ⟨⟨x⟩⟩ := s
    have h : x = l := h
    rw [h]; rfl
  · cases h
/-- what a table says of a string -/
noncomputable def litTab (T : List (List UInt8 × Bool)) (v : SV) : Option Bool := List.rec (motive := fun _ => Option Bool) none (fun a _ ih => boolC (strIs v a.1) (some a.2) ih) T
theorem litTab_spec {v : SV} {b : Bool} : ∀ {T : List (List UInt8 × Bool)}, litTab T v = some b → ∃ l, (l, b) ∈ T ∧ v = .str (.lit (bAs l))
  | [], h => by cases h
  | a :: T, h => by
    have h : boolC (strIs v a.1) (some a.2) (litTab T v) = some b := h
    cases hb : strIs v a.1 with
    | true =>
      rw [hb] at h
      cases h
      exact ⟨a.1, List.mem_cons_self, strIs_spec hb⟩
    | false =>
      rw [hb] at h
      obtain ⟨l, hl, e⟩ := litTab_spec h
      exact ⟨l, List.mem_cons_of_mem _ hl, e⟩
noncomputable def tabS (T : List (List UInt8 × Bool)) : Summ := fun args _ _ => args1 args fun v => optC (litTab T v) (.stuck 690) fun b => .ok ⟨.bool (.lit b), [], []⟩
/-- a table is right, from its runs -/
theorem tabOK {g : FuncId → Option Summ} (hc : CfgOK (cfgOf g)) {f : FuncId} {n : Nat} {T : List (List UInt8 × Bool)}
    (h : mapN (fun p : List UInt8 × Bool => outO [] (callSim (cfgOf g) n f [.str (.lit (bAs p.1))] []) []) T = mapN (fun p : List UInt8 × Bool => (([], some (.bool (.lit p.2), [])) : List Prop × Option (SV × List (Option SO)))) T) : SumOK Tryz.prog f (tabS T) := by
  intro glob O w0 β H w base args vs hH hG ha
  refine args1_sat fun v hv => optC_only fun b hb => ?_
  obtain ⟨l, hl, rfl⟩ := litTab_spec hb
  rw [hv] at ha
  rw [mapN_eq, mapN_eq, List.map_inj_left] at h
  exact sum_outO hc rfl n hH ⟨[], [], [.str (.lit (bAs l))]⟩ ha (fits0 rfl) [] (by simp) (by simp) (h _ hl) all_nil fun H2 _ => ends0 rfl rfl rfl
end Go.Proofs.YtoooohgejkebjaaGreatDoor.Aes


/-
  The symbolic simulator, thirty-seventh part: a run az its own summary, where all is known: with what it makes, without conditions.
-/
namespace Go.Sim
variable {α : Type}

/- The names in a value, an entry. -/
def SC.nms : SC → List Nat
  | .rest nm _ => [nm]
  | _ => []
def SFn.nms : SFn → List Nat
  | .yield nm => [nm]
  | _ => []
mutual
noncomputable def SV.nms : SV → List Nat
  | .ptr a => [a.nm]
  | .slice a _ c => a.nm :: c.nms
  | .tail a _ _ c => a.nm :: c.nms
  | .map nm => [nm]
  | .func g xs ys => app g.nms (app (SV.nmsL xs) (SV.nmsL ys))
  | .iface _ v => v.nms
  | .agg l => SV.nmsL l
  | .tuple l => SV.nmsL l
  | _ => []
noncomputable def SV.nmsL : List SV → List Nat
  | [] => []
  | v :: l => app v.nms (SV.nmsL l)
end
noncomputable def nmsC (c : Cells) : List Nat := Cells.rec (motive := fun _ => List Nat) (fun l => SV.nmsL l) (fun _ _ => []) (fun _ _ => []) c
noncomputable def nmsEs (es : List (SV × SV × Nat)) : List Nat := List.rec (motive := fun _ => List Nat) [] (fun e _ ih => app e.1.nms (app e.2.1.nms ih)) es
noncomputable def nmsO (o : SObj) : List Nat := SObj.rec (motive := fun _ => List Nat) (fun es _ => nmsEs es) (fun m _ _ _ => optC m [] fun n => [n]) (fun _ _ => []) (fun _ _ _ _ => []) o
noncomputable def nmsE (e : SO) : List Nat := SO.rec (motive := fun _ => List Nat) (fun c _ _ => nmsC c) (fun c => nmsC c) (fun _ _ _ _ _ _ _ _ => []) (fun _ => []) [] (fun o => nmsO o) e
/-- all that can be reached -/
noncomputable def reachN (H : List SO) (n : Nat) : List Nat → List Nat → List Nat :=
  Nat.rec (motive := fun _ => List Nat → List Nat → List Nat) (fun _ seen => seen)
    (fun _ ih todo seen => List.rec (motive := fun _ => List Nat) seen (fun a r _ => boolC (memN a seen) (ih r seen) (ih (app (optC (nth H a) [] nmsE) r) (a :: seen))) todo) n
noncomputable def renO (f : Nat → Nat) (e : SO) : SO := SO.rec (motive := fun _ => SO) (fun c w el => .own (c.ren f) w el) (fun c => .row (c.ren f)) (fun _ _ _ _ _ _ _ _ => .gone) (fun _ => .gone) .gone (fun o => .obj (o.ren f)) e
/-- what is read alone -/
noncomputable def rowO (ro : Bool) (e : SO) : SO := boolC ro (SO.rec (motive := fun _ => SO) (fun c _ _ => .row c) (fun c => .row c) (fun _ _ _ _ _ _ _ _ => .gone) (fun _ => .gone) .gone (fun o => .obj o) e) e
/-- how it ends, where that is certain -/
noncomputable def detT (t : Tree) : Option (SV × List SO) :=
  Tree.rec (motive := fun _ => Option (SV × List SO)) (fun v H => some (v, H)) (fun _ => none) (fun _ _ _ => none) (fun b _ _ iht ihf => boolC b iht ihf) (fun _ => none) (fun _ _ => none) t
theorem detT_ob {v : SV} {H : List SO} : ∀ {t : Tree}, detT t = some (v, H) → t.Ob (fun v' H' => v' = v ∧ H' = H) fun _ => False := by
  intro t
  induction t with
  | done v' H' => intro h; cases h; exact ⟨rfl, rfl⟩
  | stop => intro h; cases h
  | need => intro h; cases h
  | fork b t f iht ihf =>
    intro h
    have h : boolC b (detT t) (detT f) = some (v, H) := h
    exact ⟨fun hb => iht (by rw [hb] at h; exact h), fun hb => ihf (by rw [hb] at h; exact h)⟩
  | stuck => intro h; cases h
  | any => intro h; cases h
noncomputable def notKnown (n : Nat) (l : List Nat) : List Nat := filterN (fun j => Nat.ble n j) l
noncomputable def keepsAt (p : Nat → Bool) (H : List SO) (js : List Nat) : Bool := allN (fun m => optC (nth H m) false fun e => e.keeps p) js
noncomputable def smallI (ro : Bool) (M : List Nat) (args : List SV) (H : List SO) : Ifc := ⟨M, mapN (fun m => rowO ro (renO (fun n => idxN n M) (atE (nth H m)))) M, SV.renL (fun n => idxN n M) args⟩
noncomputable def outM (I : Ifc) (base : Nat) (turn keep : List Nat) (v : SV) (H2 : List SO) : R SumRes :=
  boolC (boolC (nodupN keep) (boolC (allN (fun j => Nat.ble (lenN I.names) j) keep) (boolC (v.uses (I.seen keep)) (boolC (keepsAt (I.seen keep) H2 turn) (boolC (keepsAt (I.seen keep) H2 keep) (allN (fun m => optC (nth H2 m) false SO.owned) (app turn keep)) false) false) false) false) false)
    (.ok ⟨v.ren (I.out base keep), mapN (fun j => (I.big j, renO (I.out base keep) (atE (nth H2 j)))) turn, mapN (fun j => renO (I.out base keep) (atE (nth H2 j))) keep⟩) (.stuck 7782)
noncomputable def runI (c : Cfg) (n : Nat) (f : FuncId) (I : Ifc) (base : Nat) (turn : List Nat) : R SumRes :=
  optC (detT (callSim c n f I.args I.ents)) (.stuck 7781) fun r => outM I base turn (notKnown (lenN I.names) (reachN r.2 400 (app r.1.nms turn) [])) r.1 r.2
noncomputable def runM (ro : Bool) (c : Cfg) (n : Nat) (f : FuncId) (args : List SV) (H : List SO) (base : Nat) (M : List Nat) : R SumRes :=
  boolC (boolC (nodupN M) (boolC (keepsAt (fun n => memN n M) H M) (boolC (SV.usesL (fun n => memN n M) args) (boolC (SV.usesL (smallI ro M args H).known (smallI ro M args H).args) (allN (fun e => e.keeps (smallI ro M args H).known) (smallI ro M args H).ents) false) false) false) false)
    (runI c n f (smallI ro M args H) base (ownedOf (smallI ro M args H).ents 0)) (.stuck 7783)
/-- A RUN AS A SUMMARY -/
noncomputable def ownRun (ro : Bool) (fl : Nat) (c : Cfg) (n : Nat) (f : FuncId) : Summ := fun args H base => List.rec (motive := fun _ => R SumRes) (.stuck fl) (fun _ _ _ => runM ro c n f args H base (reachN H 400 (SV.nmsL args) [])) args

theorem SO.keeps_cuses {p : Nat → Bool} {e : SO} (h : e.keeps p = true) : e.CUsesQ p := by
  cases e with
  | own c w el => cases c with
    | lst l => exact h
    | fn => cases h
    | raw => trivial
  | row c => cases c with
    | lst l => exact h
    | fn => cases h
    | raw => trivial
  | loop => cases h
  | deferred => cases h
  | gone => cases h
  | obj o => exact h
theorem cells_round {p : Nat → Bool} {q g : Nat → Nat} (hq : ∀ n, p n = true → g (q n) = n) {c : Cells} (h : (match c with | .lst l => SV.usesL p l | .fn _ _ => false | .raw _ _ => true) = true) : c.Imp ((c.ren q).ren g) := by
  intro β vs hr
  cases c with
  | lst l =>
    show SV.denL β (SV.renL g (SV.renL q l)) = some vs
    rw [SV.denL_ren, SV.denL_ren]
    rw [← SV.denL_uses (p := p) (β := β) (fun n hn => by show β n = β (g (q n)); rw [hq n hn]) l h]
    exact hr
  | fn => cases h
  | raw => exact hr
theorem taken_round {p : Nat → Bool} {q g : Nat → Nat} (hq : ∀ n, p n = true → g (q n) = n) {e : SO} (h : e.keeps p = true) : TakenQ g (renO q e) e := by
  cases e with
  | own c w el => exact ⟨c, rfl, cells_round hq (by cases c <;> exact h)⟩
  | row c => exact ⟨c, .inl rfl, (cells_round hq (by cases c <;> exact h)).front⟩
  | loop => cases h
  | deferred => cases h
  | gone => cases h
  | obj o =>
    refine ⟨o, rfl, fun β x hx => ?_⟩
    rw [SObj.den_ren, SObj.den_ren]
    rw [← SObj.den_uses (p := p) (β := β) (fun n hn => by show β n = β (g (q n)); rw [hq n hn]) h]
    exact hx
theorem taken_ro (ro : Bool) {g : Nat → Nat} {E e : SO} (h : TakenQ g E e) : TakenQ g (rowO ro E) e := by
  cases ro with
  | false => exact h
  | true =>
    cases E with
    | own c w el => obtain ⟨c0, rfl, h⟩ := h; exact ⟨c0, .inr ⟨w, el, rfl⟩, h.front⟩
    | row c => exact h
    | loop => exact h.elim
    | deferred => exact h.elim
    | gone => exact h
    | obj o => exact h
theorem given_of {p : Nat → Bool} {g : Nat → Nat} {e : SO} (h : e.keeps p = true) (ho : e.owned = true) : GivenQ p g (some e) (renO g e) := by
  cases e with
  | own c w el =>
    refine .inl ⟨c, w, el, c.ren g, rfl, ?_, Cells.Imp.refl _, rfl⟩
    cases c with
    | lst l => exact h
    | fn => cases h
    | raw => trivial
  | row => cases ho
  | loop => cases h
  | deferred => cases h
  | gone => cases h
  | obj o => exact .inr ⟨o, o.ren g, rfl, h, fun _ _ x => x, rfl⟩
theorem keepsAt_get {p : Nat → Bool} {H : List SO} {js : List Nat} (h : keepsAt p H js = true) {j : Nat} (hj : j ∈ js) : ∃ e, H[j]? = some e ∧ e.keeps p = true := by
  have := allN_mem h j hj
  rw [nth_eq] at this
  cases hx : H[j]? with
  | none => rw [hx] at this; cases this
  | some e => rw [hx] at this; exact ⟨e, rfl, this⟩
theorem setsQ_of {big : Nat → Nat} {p : Nat → Bool} {g : Nat → Nat} {H : List SO} : ∀ {js : List Nat}, (∀ j ∈ js, ∃ e, H[j]? = some e ∧ e.keeps p = true ∧ e.owned = true) → SetsQ big p g H js (mapN (fun j => (big j, renO g (atE (nth H j)))) js)
  | [], _ => trivial
  | j :: js, h => by
    obtain ⟨e, he, hk, ho⟩ := h j List.mem_cons_self
    refine ⟨⟨rfl, ?_⟩, setsQ_of fun k hk => h k (List.mem_cons_of_mem _ hk)⟩
    show GivenQ p g H[j]? (renO g (atE (nth H j)))
    rw [nth_eq, he]
    exact given_of hk ho
theorem newsQ_of {p : Nat → Bool} {g : Nat → Nat} {H : List SO} : ∀ {js : List Nat}, (∀ j ∈ js, ∃ e, H[j]? = some e ∧ e.keeps p = true ∧ e.owned = true) → NewsQ p g H js (mapN (fun j => renO g (atE (nth H j))) js)
  | [], _ => trivial
  | j :: js, h => by
    obtain ⟨e, he, hk, ho⟩ := h j List.mem_cons_self
    refine ⟨?_, newsQ_of fun k hk => h k (List.mem_cons_of_mem _ hk)⟩
    show GivenQ p g H[j]? (renO g (atE (nth H j)))
    rw [nth_eq, he]
    exact given_of hk ho
theorem boolC_two {a b : Bool} (h : boolC a b false = true) : a = true ∧ b = true := by cases a <;> first | exact ⟨rfl, h⟩ | cases h
theorem runM_sat {ro : Bool} {c : Cfg} (hc : CfgOK c) (hg : ∀ g, c.glob g = none) {n : Nat} {f : FuncId} {O : Nat → Prop} {w0 w : World} {β : Val} {H : List SO} {base : Nat} {args : List SV} {vs : List Value} (M : List Nat)
    (hH : HeapRel0 c.P O w0 β H w) (ha : SV.denL β args = some vs) : (runM ro c n f args H base M).Sat (SumSem c.P H β w base f vs) := by
  unfold runM
  cases hok : boolC (nodupN M) (boolC (keepsAt (fun n => memN n M) H M) (boolC (SV.usesL (fun n => memN n M) args) (boolC (SV.usesL (smallI ro M args H).known (smallI ro M args H).args) (allN (fun e => e.keeps (smallI ro M args H).known) (smallI ro M args H).ents) false) false) false) false with
  | false => trivial
  | true =>
    obtain ⟨h1, hok⟩ := boolC_two hok
    obtain ⟨h2, hok⟩ := boolC_two hok
    obtain ⟨h3, hok⟩ := boolC_two hok
    obtain ⟨h4, h5⟩ := boolC_two hok
    rw [boolC_true]
    have hM : M.Nodup := nodupN_spec M h1
    have hround : ∀ n, memN n M = true → (smallI ro M args H).big (idxN n M) = n := by
      intro n hn
      show (nth M (idxN n M)).getD 0 = n
      rw [nth_eq, idxN_spec (memN_iff.1 hn)]
      rfl
    have hget : ∀ (j : Nat) (E : SO), (smallI ro M args H).ents[j]? = some E → ∃ m e, M[j]? = some m ∧ H[m]? = some e ∧ E = rowO ro (renO (fun n => idxN n M) e) ∧ e.keeps (fun n => memN n M) = true := by
      intro j E hE
      have hE : (mapN (fun m => rowO ro (renO (fun n => idxN n M) (atE (nth H m)))) M)[j]? = some E := hE
      rw [mapN_eq, List.getElem?_map] at hE
      cases hm : M[j]? with
      | none => rw [hm] at hE; cases hE
      | some m =>
        rw [hm] at hE
        obtain ⟨e, he, hk⟩ := keepsAt_get h2 (List.mem_of_getElem? hm)
        have hE : rowO ro (renO (fun n => idxN n M) (atE (nth H m))) = E := Option.some.inj hE
        rw [nth_eq, he] at hE
        exact ⟨m, e, rfl, he, hE.symm, hk⟩
    have hI : (smallI ro M args H).FitsQ H := by
      refine ⟨?_, fun i j nm hi hj => ?_, h4, fun j E hE => ?_, fun j E hE => ?_⟩
      · show (mapN _ M).length = M.length
        rw [mapN_eq, List.length_map]
      · exact (List.getElem?_inj (List.getElem?_eq_some_iff.1 hi).1 hM).1 (hi.trans hj.symm)
      · obtain ⟨m, e, hm, he, rfl, hk⟩ := hget j E hE
        have hb : (smallI ro M args H).big j = m := by
          show (nth M j).getD 0 = m
          rw [nth_eq, hm]; rfl
        exact ⟨e, by rw [hb]; exact he, taken_ro ro (taken_round hround hk)⟩
      · exact SO.keeps_cuses (allN_mem h5 E (List.mem_of_getElem? hE))
    have ha' : SV.denL β (SV.renL (smallI ro M args H).big (smallI ro M args H).args) = some vs := by
      show SV.denL β (SV.renL (smallI ro M args H).big (SV.renL (fun n => idxN n M) args)) = some vs
      rw [SV.denL_ren, SV.denL_ren]
      rw [← SV.denL_uses (p := fun n => memN n M) (β := β) (fun n hn => by show β n = β ((smallI ro M args H).big (idxN n M)); rw [hround n hn]) args h3]
      exact ha
    generalize smallI ro M args H = I at hI ha' ⊢
    unfold runI
    cases hd : detT (callSim c n f I.args I.ents) with
    | none => trivial
    | some r =>
      obtain ⟨v, H2⟩ := r
      rw [optC_some]
      show (outM I base (ownedOf I.ents 0) (notKnown (lenN I.names) (reachN H2 400 (app v.nms (ownedOf I.ents 0)) [])) v H2).Sat _
      generalize notKnown (lenN I.names) (reachN H2 400 (app v.nms (ownedOf I.ents 0)) []) = keep
      unfold outM
      cases hk : boolC (nodupN keep) (boolC (allN (fun j => Nat.ble (lenN I.names) j) keep) (boolC (v.uses (I.seen keep)) (boolC (keepsAt (I.seen keep) H2 (ownedOf I.ents 0)) (boolC (keepsAt (I.seen keep) H2 keep) (allN (fun m => optC (nth H2 m) false SO.owned) (app (ownedOf I.ents 0) keep)) false) false) false) false) false with
      | false => trivial
      | true =>
        obtain ⟨k1, hk⟩ := boolC_two hk
        obtain ⟨k2, hk⟩ := boolC_two hk
        obtain ⟨k3, hk⟩ := boolC_two hk
        obtain ⟨k4, hk⟩ := boolC_two hk
        obtain ⟨k5, k6⟩ := boolC_two hk
        rw [boolC_true]
        have hown : ∀ j ∈ ownedOf I.ents 0 ++ keep, ∀ e, H2[j]? = some e → e.owned = true := by
          intro j hj e he
          have := allN_mem k6 j (by rw [app_eq]; exact hj)
          rw [nth_eq, he] at this
          exact this
        show SumSem c.P H β w base f vs _
        refine sum_runQ hc n hH I (fun g j h => by rw [hg g] at h; cases h) ha' hI keep (fun j hj => ?_) (nodupN_spec keep k1) ((detT_ob hd).mono fun v' H' h => ?_)
        · have := allN_mem k2 j hj
          rw [← lenN_eq]
          exact Nat.le_of_ble_eq_true this
        · obtain ⟨rfl, rfl⟩ := h
          refine ⟨SV.Imp.refl _, k3, setsQ_of fun j hj => ?_, newsQ_of fun j hj => ?_⟩
          · obtain ⟨e, he, hk⟩ := keepsAt_get k4 hj
            exact ⟨e, he, hk, hown j (List.mem_append_left _ hj) e he⟩
          · obtain ⟨e, he, hk⟩ := keepsAt_get k5 hj
            exact ⟨e, he, hk, hown j (List.mem_append_right _ hj) e he⟩
theorem ownRun_ok (ro : Bool) (fl : Nat) {c : Cfg} (hc : CfgOK c) (hg : ∀ g, c.glob g = none) (n : Nat) (f : FuncId) : SumOK c.P f (ownRun ro fl c n f) := by
  intro glob O w0 β H w base args vs hH hG ha
  unfold ownRun
  cases args with
  | nil => trivial
  | cons a r => exact runM_sat hc hg _ hH ha
end Go.Sim


/-
  The symbolic simulator, thirty-eighth part: functions that answer true or false: the run's own answer, whatever it is.
-/
namespace Go.Sim
variable {α : Type}

theorem bool_ends {base : Nat} {I : Ifc} {t : Bool} {v : SV} {H : List SO} (ho : ownedOf I.ents 0 = []) (h : ∃ b, v = .bool b ∧ b.den = t) : I.EndsQ base [] ⟨.bool (.sym t), [], []⟩ v H := by
  obtain ⟨b, rfl, rfl⟩ := h
  refine ⟨fun β x hx => hx, rfl, ?_, trivial⟩
  rw [ho]
  trivial
end Go.Sim


/-
  Principals and events that came in: their cells.
-/
namespace Go.Proofs.YtoooohgejkebjaaGreatDoor.Aes
open Go.Sim Go.WideShapes Go.ChangeShapes

section
variable {H : Type} {enc : TypeId × Value → H} {P : Program} {w : World} {r : Reach} {b0 base : Nat} {held : Bool}

theorem cell_int {ti : TypeId} {n : Nat} {c : Value} {y : DataW H × List MemPlace} (hi : P.underlying ti = some (.int .i64)) (k : DataW.trod enc P w base (fun _ => true) held n ti [c] = some y) : ∃ z, c = .int .i64 z := by
  obtain ⟨z, e, _, _⟩ := DataW.trod_int hi k
  exact ⟨z, by simpa using e⟩
theorem cell_str {ti : TypeId} {n : Nat} {c : Value} {y : DataW H × List MemPlace} (hi : P.underlying ti = some .string) (k : DataW.trod enc P w base (fun _ => true) held n ti [c] = some y) : ∃ s, c = .string s := by
  obtain ⟨z, e, _, _⟩ := DataW.trod_string hi k
  exact ⟨z, by simpa using e⟩
end
end Go.Proofs.YtoooohgejkebjaaGreatDoor.Aes


/-
  Runs az summaries at this program; what ends in true; principals' values.
-/
namespace Go.Proofs.YtoooohgejkebjaaGreatDoor.Aes
open Go.Sim
open Go.Proofs
variable {α : Type}

set_option maxRecDepth 1000000
theorem runOfOK (ro : Bool) (fl : Nat) {g : FuncId → Option Summ} (hc : CfgOK (cfgOf g)) (n : Nat) (f : FuncId) : SumOK Tryz.prog f (ownRun ro fl (cfgOf g) n f) := ownRun_ok ro fl hc (fun _ => rfl) n f
noncomputable def roL (c : Cfg) (l : List FuncId) (r : List (FuncId × Summ)) : List (FuncId × Summ) := List.rec (motive := fun _ => List (FuncId × Summ)) r (fun f _ ih => (f, ownRun true 0 c 4000 f) :: ih) l
theorem roL_ok {g : FuncId → Option Summ} (hc : CfgOK (cfgOf g)) {r : List (FuncId × Summ)} (hr : ∀ y ∈ r, SumOK Tryz.prog y.1 y.2) : ∀ l : List FuncId, ∀ y ∈ roL (cfgOf g) l r, SumOK Tryz.prog y.1 y.2
  | [] => hr
  | f :: l => allC (runOfOK true 0 hc 4000 f) (roL_ok hc hr l)
theorem det_ends {o : Option (SV × List SO)} {v : SV} (h : (Option.rec none (fun r => some r.1) o : Option SV) = some v) : ∃ H, o = some (v, H) := by
  cases o with
  | none => cases h
  | some r => cases h; exact ⟨r.2, rfl⟩
noncomputable def fstO (o : Option (SV × List SO)) : Option SV := Option.rec none (fun r => some r.1) o
noncomputable def arg0 (args : List SV) (r : R α) : R α := List.rec (motive := fun _ => R α) r (fun _ _ _ => .stuck 700) args
theorem arg0_sat {args : List SV} {r : R α} {φ : α → Prop} (h : args = [] → r.Sat φ) : (arg0 args r).Sat φ := by
  cases args with
  | nil => exact h rfl
  | cons => trivial
noncomputable def trueS : Summ := fun args _ _ => arg0 args (.ok ⟨.bool (.lit true), [], []⟩)
theorem exOf {g : FuncId → Option Summ} (hc : CfgOK (cfgOf g)) {n : Nat} {f : FuncId} (hr : fstO (detT (callSim (cfgOf g) n f [] [])) = some (.bool (.lit true))) : SumOK Tryz.prog f trueS := by
  intro glob O w0 β H w base args vs hH hG ha
  refine arg0_sat fun hv => ?_
  rw [hv] at ha
  obtain ⟨H', hd⟩ := det_ends hr
  show SumSem Tryz.prog H β w base f vs _
  exact sum_runQ hc n hH ⟨[], [], []⟩ (by intro g j hg; cases hg) ha (fits0 rfl).q [] (by simp) (by simp) ((detT_ob hd).mono fun v H h => by
    obtain ⟨rfl, rfl⟩ := h
    exact ⟨SV.Imp.refl _, rfl, trivial, trivial⟩)
theorem rep_all {p : Prop} (h : p) (n : Nat) : ∀ q ∈ repN p n, q := by
  intro q hq
  rw [repN_eq] at hq
  rw [List.eq_of_mem_replicate hq]
  exact h
theorem app_all {l m : List Prop} (h : ∀ p ∈ l, p) (h' : ∀ p ∈ m, p) : ∀ p ∈ app l m, p := by
  intro p hp
  rw [app_eq] at hp
  rcases List.mem_append.1 hp with hp | hp
  · exact h p hp
  · exact h' p hp
theorem tmp_set {C : Cut} {i j : Nat} {v : SV} (h : ((C.frames[i]?).bind fun p => p.tmps[j]?) = some (some v)) {p : SP} {u : Option SV} (hp : C.frames[i]? = some p) (hu : p.tmps[j]? = some u) {w : SV} {f : Nat → Nat} (hi : w.Imp (v.ren f)) : ∃ x, u = some x ∧ w.Imp (x.ren f) := by
  rw [hp] at h
  simp only [Option.bind_some, hu, Option.some.injEq] at h
  exact ⟨v, h, hi⟩
theorem runs_mono {c : Cfg} {f : FuncId} {args : List SV} {H : List SO} {D E : SV → List SO → Prop} (h : Runs c f args H D) (hde : ∀ v H, D v H → E v H) : Runs c f args H E :=
  ⟨h.1, fun O w0 w β vs hH hG ha => (h.2 O w0 w β vs hH hG ha).mono fun e w' ⟨v, H', x, β', h1, h2, h3⟩ => ⟨v, H', x, β', h1, hde _ _ h2, h3⟩⟩
end Go.Proofs.YtoooohgejkebjaaGreatDoor.Aes


/-
  slices.Sort of strings: the kit's contract az a fact on heaps.
-/
namespace Go.Sim
open Go.Proofs Go.Shelf Go.RowKit Go.Sort

noncomputable def baL (l : List UInt8) : ByteArray := ⟨l.toArray⟩
/-- strings in order -/
noncomputable def srtB (D : List ByteArray) : List ByteArray := ((D.map fun x => x.data.toList).mergeSort fun x y => decide (x ≤ y)).map baL
theorem baL_of (x : ByteArray) : baL x.data.toList = x := by cases x; rfl
theorem srtB_perm (D : List ByteArray) : (srtB D).Perm D := by
  unfold srtB
  have h := (List.mergeSort_perm (D.map fun x => x.data.toList) (fun x y => decide (x ≤ y))).map baL
  rw [List.map_map] at h
  have e : (D.map (baL ∘ fun x => x.data.toList)) = D := by
    conv => rhs; rw [← List.map_id D]
    exact List.map_congr_left fun x _ => baL_of x
  rwa [e] at h
theorem srtB_length (D : List ByteArray) : (srtB D).length = D.length := (srtB_perm D).length_eq
theorem srtB_sorted (D : List ByteArray) : (srtB D).Pairwise fun a b => ¬ b.data.toList < a.data.toList := by
  unfold srtB
  have h := List.pairwise_mergeSort (le := fun x y : List UInt8 => decide (x ≤ y)) (fun a b c h1 h2 => by
    simp only [decide_eq_true_eq] at h1 h2 ⊢
    exact List.le_trans h1 h2) (fun a b => by
    simp only [Bool.or_eq_true, decide_eq_true_eq]
    exact List.le_total a b) (D.map fun x => x.data.toList)
  rw [List.pairwise_map]
  refine h.imp fun {a b} hab => ?_
  simp only [decide_eq_true_eq] at hab
  show ¬ (baL b).data.toList < (baL a).data.toList
  have e : ∀ l, (baL l).data.toList = l := fun l => by unfold baL; rfl
  rw [e, e]
  exact List.not_lt.2 hab
/-- strings, one behind another -/
noncomputable def ssV (D : List ByteArray) (j : Nat) : Value := .string (D[j]?.getD default)
section
variable {P : Program}
theorem heap_putB {w : World} {blk : Nat} {vs rest : List Value} {el : TypeId} {fr : Nat × Nat} {d : Array (List UInt8)} {m : Nat} {os : Array Obj} (hb : w.heap[blk]? = some (.cells (vs ++ rest).toArray el fr)) (hd : d.size = vs.length) :
    (grow (putRow encStr (Sort.ahead w m) blk 0 d) os).heap[blk]? = some (.cells ((d.toList.map encStr) ++ rest).toArray el fr) := by
  have hlt : blk < w.heap.size := (Array.getElem?_eq_some_iff.1 hb).1
  show ((putRow encStr (Sort.ahead w m) blk 0 d).heap ++ os)[blk]? = _
  have hp : (putRow encStr (Sort.ahead w m) blk 0 d).heap = w.heap.modify blk (onCells (putCells encStr 0 d)) := rfl
  rw [Array.getElem?_append_left (by rw [hp, Array.size_modify]; exact hlt), hp, Array.getElem?_modify, if_pos rfl, hb]
  show some (Obj.cells (putCells encStr 0 d (vs ++ rest).toArray) el fr) = _
  congr 2
  apply Array.ext_getElem?
  intro j
  unfold putCells
  rw [Array.getElem?_mapIdx]
  simp only [List.getElem?_toArray]
  by_cases c : j < vs.length
  · have hl : j < (d.toList.map encStr).length := by simpa [hd] using c
    rw [List.getElem?_append_left c, List.getElem?_append_left hl, List.getElem?_eq_getElem c, Option.map_some, if_pos ⟨Nat.zero_le _, by omega⟩, List.getElem?_eq_getElem hl]
    simp only [Nat.sub_zero]
    rw [getElem!_pos _ j (by omega)]
    simp
  · have hl : (d.toList.map encStr).length = vs.length := by simpa using hd
    rw [List.getElem?_append_right (by omega), List.getElem?_append_right (by omega), hl]
    cases hr : rest[j - vs.length]? with
    | none => rfl
    | some y => simp only [Option.map_some]; rw [if_neg (by omega)]
theorem heap_putB_other {w : World} {blk b : Nat} {d : Array (List UInt8)} {m : Nat} {os : Array Obj} (hb : b < w.heap.size) (hne : b ≠ blk) : (grow (putRow encStr (Sort.ahead w m) blk 0 d) os).heap[b]? = w.heap[b]? := by
  show ((putRow encStr (Sort.ahead w m) blk 0 d).heap ++ os)[b]? = _
  have hp : (putRow encStr (Sort.ahead w m) blk 0 d).heap = w.heap.modify blk (onCells (putCells encStr 0 d)) := rfl
  rw [Array.getElem?_append_left (by rw [hp, Array.size_modify]; exact hb), hp, Array.getElem?_modify, if_neg (Ne.symm hne)]
theorem size_putB {w : World} {blk : Nat} {d : Array (List UInt8)} {m : Nat} {os : Array Obj} : w.heap.size ≤ (grow (putRow encStr (Sort.ahead w m) blk 0 d) os).heap.size := by
  show _ ≤ ((putRow encStr (Sort.ahead w m) blk 0 d).heap ++ os).size
  have hp : (putRow encStr (Sort.ahead w m) blk 0 d).heap = w.heap.modify blk (onCells (putCells encStr 0 d)) := rfl
  rw [Array.size_append, hp, Array.size_modify]
  exact Nat.le_add_right _ _
theorem holdsB_of {w : World} {blk : Nat} {vs rest : List Value} {el : TypeId} {lo hi : Nat} {D : List ByteArray} (hb : w.heap[blk]? = some (.cells (vs ++ rest).toArray el (lo, hi))) (hu : Unfz lo hi (vs ++ rest).length) (hv : vs = D.map .string) : Holds encStr w blk 0 (D.map fun x => x.data.toList).toArray := by
  intro j hj
  rw [Nat.zero_add]
  have hj : j < D.length := by simpa using hj
  have hl : j < vs.length := by rw [hv]; simpa using hj
  constructor
  · unfold World.cell?
    rw [hb]
    show (vs ++ rest).toArray[j]? = _
    rw [List.getElem?_toArray, List.getElem?_append_left hl, List.getElem?_eq_getElem hl]
    congr 1
    rw [getElem!_pos _ j (by simpa using hj)]
    simp only [hv, List.getElem_map, List.getElem_toArray]
  · unfold World.frozen?
    rw [hb]
    simp only
    have := hu.at j (by rw [List.length_append]; omega)
    simp only [Bool.and_eq_false_iff, decide_eq_false_iff_not]
    omega
/-- SORTED: the row holds its strings in order -/
theorem sortB_sem {ρ : Ren} (L : SlLaysN.n54 P ρ) (hs6 : ∃ fn, P.funcs[ρ.f 54]? = some fn ∧ fn.body.isSome = true)
    {O : Nat → Prop} {w0 w : World} {β : Val} {H : List SO} {base nm : Nat} {wh : Bool} {el : TypeId} {V : Nat → Value} {D : List ByteArray} {c : SC} {l : SN} {vs : List Value} (hH : HeapRel0 P O w0 β H w) (he : H[nm]? = some (.own (.raw V D.length) wh el)) (hl : l.den = D.length)
    (hV : ∀ j, j < D.length → V j = ssV D j) (hsz : D.length < 4611686018427387904) (ha : SV.denL β [.slice ⟨nm, .lit 0⟩ l c] = some vs) :
    SumSem P H β w base (ρ.f 54) vs ⟨.tuple [], [(nm, .own (.raw (ssV (srtB D)) D.length) wh el)], []⟩ := by
  obtain ⟨x, ys, hx, hys, rfl⟩ := denL_cons.1 ha
  cases hys
  obtain ⟨A, C, hA, hC, hle, rfl⟩ := den_slice.1 hx
  obtain ⟨lo, ws, rest, f1, f2, hβ, hoff, hcr, hh, hu, hw, hi⟩ : OwnRel P β w nm (.own (.raw V D.length) wh el) := (hH.entries nm _ he).toOwn rfl
  obtain ⟨hlen, hcr⟩ : ws.length = D.length ∧ ∀ (i : Nat) (x : Value), ws[i]? = some x → x = V i := hcr
  have hA : (β nm).map (fun l => (⟨l.blk, l.off + 0, none⟩ : Addr)) = some A := hA
  rw [hβ] at hA
  have hA : (⟨lo.blk, lo.off + 0, none⟩ : Addr) = A := Option.some.inj hA
  rw [hoff] at hA
  subst hA
  rw [hl]
  have hws : ws = D.map .string := by
    apply List.ext_getElem (by simpa using hlen)
    intro i h1 h2
    have hi : i < D.length := by omega
    rw [hcr i _ (List.getElem?_eq_getElem h1), hV i hi, List.getElem_map]
    unfold ssV
    rw [List.getElem?_eq_getElem hi]; rfl
  have hHd := holdsB_of hh hu hws
  have hblk : lo.blk < w.heap.size := (Array.getElem?_eq_some_iff.1 hh).1
  have hcon := AnyG.slices_Sort_string L lo.blk 0 C (D.map fun x => x.data.toList) w hHd hblk (by simpa using hsz)
  rw [List.length_map] at hcon
  refine fun hnew => ⟨fun n e hm => ?_, .inl ⟨hs6, ?_⟩⟩
  · simp at hm
    obtain ⟨rfl, rfl⟩ := hm
    exact ⟨_, he, rfl⟩
  refine hcon.mono fun e w' ⟨hret, n, os, hw'⟩ => ⟨.tuple #[], β, hret, rfl, ?_⟩
  generalize hd : ((D.map fun x => x.data.toList).mergeSort fun x y => decide (x ≤ y)) = d at hw'
  have hdl : d.length = D.length := by rw [← hd]; simp
  have hdV : d.map encStr = (srtB D).map .string := by
    unfold srtB
    rw [hd, List.map_map]
    exact List.map_congr_left fun x _ => rfl
  subst hw'
  have hh' := heap_putB (m := n) (os := os) (d := d.toArray) hh (by simp [hdl, hlen])
  rw [show d.toArray.toList.map encStr = (srtB D).map .string from hdV] at hh'
  refine ⟨fun n l h => h, rfl, rfl, rfl, Nat.le_add_right _ _, size_putB, fun _ _ => rfl, fun b hb hne => heap_putB_other hb fun e => ?_, fun n e e' h h' => ?_, fun n e hm => ?_, fun i e h => by simp at h, fun i j l l' _ h => by simp at h⟩
  · exact hne nm (.own (.raw (ssV (srtB D)) D.length) wh el) lo (by simp) hβ e.symm
  · simp at h h'
    rw [h.2, h'.2]
  · simp at hm
    obtain ⟨rfl, rfl⟩ := hm
    refine ⟨lo, _, rest, f1, f2, hβ, hoff, ⟨by simp [srtB_length], fun i x hx => ?_⟩, hh', ?_, hw, fun i' hi' => ?_⟩
    · unfold ssV
      rw [List.getElem?_map] at hx
      cases hg : (srtB D)[i]? with
      | none => rw [hg] at hx; cases hx
      | some y => rw [hg] at hx; cases hx; rfl
    · rw [List.length_append] at hu ⊢
      simpa [srtB_length, hlen] using hu
    · have := hi i' hi'
      rw [List.length_append] at this ⊢
      simpa [srtB_length, hlen] using this
end
end Go.Sim


/-
  Strings: their bytes, their parts, the first place of a byte.
-/
namespace Go.Proofs.YtoooohgejkebjaaGreatDoor.Aes
open Go.Sim
open Go.Proofs
variable {α : Type}

/-- a byte of a string, az a number -/
noncomputable def bytN (s : ByteArray) (i : Nat) : Int := ((s.data.getD i 0).toBitVec.toNat : Int)
theorem ext_size (s : ByteArray) (a b : Nat) : (s.extract a b).size = min b s.size - a := by
  show (s.extract a b).data.size = _
  rw [ByteArray.data_extract, Array.size_extract]
  rfl
theorem ext_byt {s : ByteArray} {a b i : Nat} (h : a + i < min b s.size) : bytN (s.extract a b) i = bytN s (a + i) := by
  have h2 : min b s.data.size = min b s.size := rfl
  unfold bytN
  rw [ByteArray.data_extract, Array.getD_eq_getD_getElem?, Array.getD_eq_getD_getElem?, Array.getElem?_extract, if_pos (by omega)]
theorem ext_ext {s : ByteArray} {k a : Nat} (hk : k ≤ s.size) : (s.extract k s.size).extract a (s.extract k s.size).size = s.extract (k + a) s.size := by
  apply ByteArray.ext
  rw [ByteArray.data_extract, ByteArray.data_extract, ByteArray.data_extract, Array.extract_extract, ext_size]
  congr 1
  omega
theorem ext_all (s : ByteArray) : s.extract 0 s.size = s := by
  apply ByteArray.ext
  rw [ByteArray.data_extract]
  show s.data.extract 0 s.data.size = _
  rw [Array.extract_size]
theorem byt_at {s : ByteArray} {i : Nat} (h : i < s.size) (c : UInt8) : (s[i]! == c) = true ↔ bytN s i = (c.toNat : Int) := by
  have hd : i < s.data.size := h
  have e1 : s[i]! = s.data[i] := by
    rw [getElem!_pos s i h]; rfl
  have e2 : s.data.getD i 0 = s.data[i] := by
    rw [Array.getD_eq_getD_getElem?, Array.getElem?_eq_getElem hd]; rfl
  unfold bytN
  rw [e1, e2]
  constructor
  · intro he
    rw [eq_of_beq he]; rfl
  · intro he
    have : (s.data[i]).toNat = c.toNat := by
      have he : (((s.data[i]).toNat : Nat) : Int) = (c.toNat : Int) := he
      omega
    rw [UInt8.toNat_inj.1 this]
    exact beq_self_eq_true c
theorem fi_cases (r : ByteArray) (c : UInt8) : (firstIdx r c = -1 ∧ ∀ i, i < r.size → bytN r i ≠ (c.toNat : Int)) ∨ ∃ m : Nat, firstIdx r c = (m : Int) ∧ m < r.size ∧ bytN r m = (c.toNat : Int) ∧ ∀ j : Nat, j < m → bytN r j ≠ (c.toNat : Int) := by
  unfold firstIdx
  cases h : (List.range r.size).find? fun i => r[i]! == c with
  | none =>
    refine .inl ⟨rfl, fun i hi he => ?_⟩
    have := List.find?_eq_none.1 h i (List.mem_range.2 hi)
    exact this ((byt_at hi c).2 he)
  | some m =>
    obtain ⟨h1, h2, h3⟩ := List.find?_range_eq_some.1 h
    have h2 := List.mem_range.1 h2
    refine .inr ⟨m, rfl, h2, (byt_at h2 c).1 h1, fun j hj he => ?_⟩
    have h4 := h3 j hj
    rw [(byt_at (by omega) c).2 he] at h4
    cases h4
theorem size_zero {s : ByteArray} (h : s.size = 0) : s = ⟨#[]⟩ := by
  apply ByteArray.ext
  exact Array.eq_empty_of_size_eq_zero h
end Go.Proofs.YtoooohgejkebjaaGreatDoor.Aes


/-
  Which strings are realms: the runs of name.Realm, of any string.
-/
namespace Go.Proofs.YtoooohgejkebjaaGreatDoor.Aes
open Go.Sim
open Go.Proofs
variable {α : Type}

set_option maxRecDepth 1000000
noncomputable def rmT (st : Option (Nat × Nat)) (s : ByteArray) : Tree := callSim (cfgX.at st) 20000 28 [.str (.sym s)] []
noncomputable def rmS1 (s : ByteArray) : SS := stopOf (rmT (some (2, 3)) s) [true, false]
noncomputable def rmS2 (s : ByteArray) : SS := stopOf (rmT (some (3, 3)) s) [true, false, false, false, false]
noncomputable def rmS3 (s : ByteArray) : SS := stopOf (rmT (some (3, 3)) s) [true, false, false, true, false]
def dotB : ByteArray := ⟨#[46]⟩
def nilB : ByteArray := ⟨#[]⟩
noncomputable def rmB (s lab : ByteArray) (i : Nat) : List (Nat × SV) := [(0, .str (.sym s)), (2, .ptr ⟨0, .lit 0⟩), (3, .str (.sym lab)), (15, .int .i64 (.sym (lab.size : Int))), (16, .int .i64 (.sym i))]
noncomputable def rmO : List (Nat × SV) := [(0, .func (.yield 5) [] []), (1, .ptr ⟨2, .lit 0⟩), (2, .ptr ⟨1, .lit 0⟩), (3, .ptr ⟨3, .lit 0⟩), (9, .str (.lit dotB)), (10, .int .i64 (.lit 1)), (11, .bool (.lit false))]
noncomputable def rmR (s : ByteArray) : List (Nat × SV) := [(0, .str (.sym s)), (2, .ptr ⟨0, .lit 0⟩)]
noncomputable def rmE (S : SS) (j : Nat) : HP := optC (nth S.heap j) (.ent .gone) HP.ent
noncomputable def rmH (S : SS) (s r : ByteArray) : List HP := [rmE S 0, .ent (.own (.lst [.str (.sym r)]) true 9), rmE S 2, rmE S 3, rmE S 4, bareL (nth S.heap 5) (rmR s)]
noncomputable def rmCO (s r : ByteArray) : Cut := ⟨bareFs (rmS1 s).frames [rmO, rmR s], rmH (rmS1 s) s r⟩
noncomputable def rmCI (s r lab : ByteArray) (n : Int) (i : Nat) : Cut := ⟨bareFs (rmS2 s).frames [rmB s lab i, (7, .int .i64 (.sym n)) :: rmO, rmR s], rmH (rmS2 s) s r⟩
noncomputable def rmCF (s r : ByteArray) (i : Nat) : Cut := ⟨bareFs (rmS3 s).frames [rmB s r i, rmO, rmR s], rmH (rmS3 s) s r⟩
noncomputable def rmN : List Nat := [0, 1, 2, 3, 4, 5]
noncomputable def fiI (r : ByteArray) : Int := firstIdx r 46
noncomputable def labR (r : ByteArray) : ByteArray := r.extract 0 (fiI r + 0).toNat
noncomputable def noR : Option ((SV × List (Option SO)) ⊕ Seen) := some (.inl (.bool (.lit false), []))
noncomputable def yesR : Option ((SV × List (Option SO)) ⊕ Seen) := some (.inl (.bool (.lit true), []))
/-- a byte: in order, and not -/
noncomputable def chC (c : Int) (k : Nat) : List Prop := match k with
  | 0 => (decide (c < 65) = false) :: repN (decide (c > 90) = false) 5
  | 1 => app (repN (decide (c < 65) = true) 3) ((decide (c < 48) = false) :: repN (decide (c > 57) = false) 3)
  | 2 => app (repN (decide (c < 65) = true) 3) (app (repN (decide (c < 48) = true) 3) [(c != 45) = false])
  | 3 => app (repN (decide (c < 65) = true) 3) (app (repN (decide (c < 48) = true) 3) [(c != 45) = true])
  | 4 => app (repN (decide (c < 65) = true) 3) [decide (c < 48) = false, decide (c > 57) = true, (c != 45) = true]
  | _ => [decide (c < 65) = false, decide (c > 90) = true, decide (c < 48) = false, decide (c > 57) = true, (c != 45) = true]
def chD (k : Nat) : List Bool := match k with
  | 0 => [false, false, false, false, false, false]
  | 1 => [true, true, true, false, false, false, false]
  | 2 => [true, true, true, true, true, true, false]
  | 3 => [true, true, true, true, true, true, true]
  | 4 => [true, true, true, false, true, true]
  | _ => [false, true, false, true, true]
noncomputable def inC (r : ByteArray) (i : Nat) (q : List Prop) : List Prop := (decide ((i : Int) < (r.size : Int)) = true) :: ((0 : Int) ≤ (i : Int) ∧ (i : Int) < (r.size : Int)) :: q
noncomputable def nxC (r : ByteArray) (b : Bool) : List Prop := [decide (dotB = r) = false, decide (fiI r < 0) = false, inI64 (fiI r + 0), 0 ≤ fiI r + 0 ∧ fiI r + 0 ≤ (r.size : Int), decide (labR r = nilB) = b]
section
variable (s r lab : ByteArray) (n : Int) (i : Nat)
theorem rm_few : outO [] (rmT none s) (repN false 4) = (repN (decide ((s.size : Int) ≥ 1) = false) 4, some (.bool (.lit false), [])) := by kernel_rfl
theorem rm_many : outO [] (rmT none s) [true, true] = ([decide ((s.size : Int) ≥ 1) = true, (!decide ((s.size : Int) ≤ 32)) = true], some (.bool (.lit false), [])) := by kernel_rfl
theorem rm_init (z : Nat → Nat → Nat) : outL [] (rmCO s s) rmN (rmT (some (2, 3)) s) [true, false] z = ([decide ((s.size : Int) ≥ 1) = true, (!decide ((s.size : Int) ≤ 32)) = false], some (.inr (seenC rmN 6 (rmCO s s)))) := by kernel_rfl
theorem rm_in (J : Junk) (z : Nat → Nat → Nat) : outL [] (rmCI s r (labR r) (fiI r) 0) rmN (sim1 (cfgX.at (some (3, 3))) 20000 ((rmCO s r).fill J)) [false, false, false] z = (nxC r false, some (.inr (modSeen [(0, 16, .int .i64 (.lit 0))] [] (seenC rmN 6 (rmCI s r (labR r) (fiI r) 0))))) := by kernel_rfl
theorem rm_fin (J : Junk) (z : Nat → Nat → Nat) : outL [] (rmCF s r 0) rmN (sim1 (cfgX.at (some (3, 3))) 20000 ((rmCO s r).fill J)) [false, true, false] z = ([decide (dotB = r) = false, decide (fiI r < 0) = true, decide (r = nilB) = false], some (.inr (modSeen [(0, 16, .int .i64 (.lit 0))] [] (seenC rmN 6 (rmCF s r 0))))) := by kernel_rfl
theorem rm_dot (J : Junk) (z : Nat → Nat → Nat) : outL [] (rmCO s r) rmN (sim1 (cfgX.at none) 20000 ((rmCO s r).fill J)) [true, true] z = ([decide (dotB = r) = true, 0 ≤ r.size, decide (r.extract 0 (0 + 0) = nilB) = true], noR) := by kernel_rfl
theorem rm_nolab (J : Junk) (z : Nat → Nat → Nat) : outL [] (rmCO s r) rmN (sim1 (cfgX.at none) 20000 ((rmCO s r).fill J)) [false, false, true] z = (nxC r true, noR) := by kernel_rfl
theorem rm_none (J : Junk) (z : Nat → Nat → Nat) : outL [] (rmCO s r) rmN (sim1 (cfgX.at none) 20000 ((rmCO s r).fill J)) [false, true, true] z = ([decide (dotB = r) = false, decide (fiI r < 0) = true, decide (r = nilB) = true], noR) := by kernel_rfl
theorem rm_i0 (J : Junk) (z : Nat → Nat → Nat) : outL [] (rmCI s r lab n i) rmN (sim1 (cfgX.at (some (3, 3))) 20000 ((rmCI s r lab n i).fill J)) (true :: chD 0) z = (inC lab i (app (chC (bytN lab i) 0) [inI64 ((i : Int) + 1)]), some (.inr (seenC rmN 6 (rmCI s r lab n (i + 1))))) := by kernel_rfl
theorem rm_i1 (J : Junk) (z : Nat → Nat → Nat) : outL [] (rmCI s r lab n i) rmN (sim1 (cfgX.at (some (3, 3))) 20000 ((rmCI s r lab n i).fill J)) (true :: chD 1) z = (inC lab i (app (chC (bytN lab i) 1) [inI64 ((i : Int) + 1)]), some (.inr (seenC rmN 6 (rmCI s r lab n (i + 1))))) := by kernel_rfl
theorem rm_i2 (J : Junk) (z : Nat → Nat → Nat) : outL [] (rmCI s r lab n i) rmN (sim1 (cfgX.at (some (3, 3))) 20000 ((rmCI s r lab n i).fill J)) (true :: chD 2) z = (inC lab i (app (chC (bytN lab i) 2) [inI64 ((i : Int) + 1)]), some (.inr (seenC rmN 6 (rmCI s r lab n (i + 1))))) := by kernel_rfl
theorem rm_i3 (J : Junk) (z : Nat → Nat → Nat) : outL [] (rmCI s r lab n i) rmN (sim1 (cfgX.at none) 20000 ((rmCI s r lab n i).fill J)) (true :: chD 3) z = (inC lab i (chC (bytN lab i) 3), noR) := by kernel_rfl
theorem rm_i4 (J : Junk) (z : Nat → Nat → Nat) : outL [] (rmCI s r lab n i) rmN (sim1 (cfgX.at none) 20000 ((rmCI s r lab n i).fill J)) (true :: chD 4) z = (inC lab i (chC (bytN lab i) 4), noR) := by kernel_rfl
theorem rm_i5 (J : Junk) (z : Nat → Nat → Nat) : outL [] (rmCI s r lab n i) rmN (sim1 (cfgX.at none) 20000 ((rmCI s r lab n i).fill J)) (true :: chD 5) z = (inC lab i (chC (bytN lab i) 5), noR) := by kernel_rfl
theorem rm_io (J : Junk) (z : Nat → Nat → Nat) : outL [] (rmCO s (r.extract (n + 1).toNat r.size)) rmN (sim1 (cfgX.at (some (2, 3))) 20000 ((rmCI s r lab n i).fill J)) [false] z = ([decide ((i : Int) < (lab.size : Int)) = false, inI64 (n + 1), 0 ≤ n + 1 ∧ n + 1 ≤ (r.size : Int)], some (.inr (seenC rmN 6 (rmCO s (r.extract (n + 1).toNat r.size))))) := by kernel_rfl
theorem rm_f0 (J : Junk) (z : Nat → Nat → Nat) : outL [] (rmCF s r i) rmN (sim1 (cfgX.at (some (3, 3))) 20000 ((rmCF s r i).fill J)) (true :: chD 0) z = (inC r i (app (chC (bytN r i) 0) [inI64 ((i : Int) + 1)]), some (.inr (seenC rmN 6 (rmCF s r (i + 1))))) := by kernel_rfl
theorem rm_f1 (J : Junk) (z : Nat → Nat → Nat) : outL [] (rmCF s r i) rmN (sim1 (cfgX.at (some (3, 3))) 20000 ((rmCF s r i).fill J)) (true :: chD 1) z = (inC r i (app (chC (bytN r i) 1) [inI64 ((i : Int) + 1)]), some (.inr (seenC rmN 6 (rmCF s r (i + 1))))) := by kernel_rfl
theorem rm_f2 (J : Junk) (z : Nat → Nat → Nat) : outL [] (rmCF s r i) rmN (sim1 (cfgX.at (some (3, 3))) 20000 ((rmCF s r i).fill J)) (true :: chD 2) z = (inC r i (app (chC (bytN r i) 2) [inI64 ((i : Int) + 1)]), some (.inr (seenC rmN 6 (rmCF s r (i + 1))))) := by kernel_rfl
theorem rm_f3 (J : Junk) (z : Nat → Nat → Nat) : outL [] (rmCF s r i) rmN (sim1 (cfgX.at none) 20000 ((rmCF s r i).fill J)) (true :: chD 3) z = (inC r i (chC (bytN r i) 3), noR) := by kernel_rfl
theorem rm_f4 (J : Junk) (z : Nat → Nat → Nat) : outL [] (rmCF s r i) rmN (sim1 (cfgX.at none) 20000 ((rmCF s r i).fill J)) (true :: chD 4) z = (inC r i (chC (bytN r i) 4), noR) := by kernel_rfl
theorem rm_f5 (J : Junk) (z : Nat → Nat → Nat) : outL [] (rmCF s r i) rmN (sim1 (cfgX.at none) 20000 ((rmCF s r i).fill J)) (true :: chD 5) z = (inC r i (chC (bytN r i) 5), noR) := by kernel_rfl
theorem rm_end (J : Junk) (z : Nat → Nat → Nat) : outL [] (rmCF s r i) rmN (sim1 (cfgX.at none) 20000 ((rmCF s r i).fill J)) [false] z = ([decide ((i : Int) < (r.size : Int)) = false], yesR) := by kernel_rfl
theorem rm_nO : boolC (namesOK 0 rmN (rmCO s r) (rmCO s r)) (allN noLoopE (rmCO s r).heap) false = true := by kernel_rfl
theorem rm_nI : boolC (namesOK 0 rmN (rmCI s r lab n i) (rmCI s r lab n i)) (allN noLoopE (rmCI s r lab n i).heap) false = true := by kernel_rfl
theorem rm_nII (j : Nat) : boolC (namesOK 0 rmN (rmCI s r lab n i) (rmCI s r lab n j)) (allN noLoopE (rmCI s r lab n j).heap) false = true := by kernel_rfl
theorem rm_nF (j : Nat) : boolC (namesOK 0 rmN (rmCF s r i) (rmCF s r j)) (allN noLoopE (rmCF s r j).heap) false = true := by kernel_rfl
theorem rm_tI : (((rmCI s r lab n i).frames[0]?).bind fun p => p.tmps[16]?) = some (some (.int .i64 (.sym i))) := by kernel_rfl
theorem rm_tF : (((rmCF s r i).frames[0]?).bind fun p => p.tmps[16]?) = some (some (.int .i64 (.sym i))) := by kernel_rfl
end
end Go.Proofs.YtoooohgejkebjaaGreatDoor.Aes


/-
  Which strings are realms: the summary of name.Realm.
-/
namespace Go.Proofs.YtoooohgejkebjaaGreatDoor.Aes
open Go.Sim
open Go.Proofs
variable {α : Type}

set_option maxRecDepth 100000
def okc (c : Int) : Prop := (65 ≤ c ∧ c ≤ 90) ∨ (48 ≤ c ∧ c ≤ 57) ∨ c = 45
def chP (s : ByteArray) (i : Nat) : Prop := okc (bytN s i) ∨ (bytN s i = 46 ∧ i ≠ 0 ∧ i + 1 ≠ s.size ∧ bytN s (i - 1) ≠ 46)
/-- a realm -/
def rlmP (s : ByteArray) : Prop := 1 ≤ s.size ∧ s.size ≤ 32 ∧ ∀ i, i < s.size → chP s i
noncomputable def rlmB (s : ByteArray) : Bool := @decide (rlmP s) (Classical.propDecidable _)
theorem rlmB_true {s : ByteArray} (h : rlmP s) : rlmB s = true := @decide_eq_true _ (Classical.propDecidable _) h
theorem rlmB_false {s : ByteArray} (h : ¬ rlmP s) : rlmB s = false := @decide_eq_false _ (Classical.propDecidable _) h
theorem okc_dot {c : Int} (h : okc c) : c ≠ 46 := by rcases h with h | h | h <;> omega
/-- the labels up to a place are in order -/
def rmInv (s : ByteArray) (k : Nat) : Prop := k ≤ s.size ∧ (k = 0 ∨ (1 ≤ k ∧ bytN s (k - 1) = 46)) ∧ ∀ i, i < k → okc (bytN s i) ∨ (bytN s i = 46 ∧ i ≠ 0 ∧ bytN s (i - 1) ≠ 46)
theorem dot_bad {s : ByteArray} {k : Nat} (h : rmInv s k) (hk : k < s.size) (hd : bytN s k = 46) : ¬ rlmP s := by
  rintro ⟨_, _, ha⟩
  rcases ha k hk with h1 | ⟨_, h2, _, h4⟩
  · exact okc_dot h1 hd
  · rcases h.2.1 with h5 | ⟨_, h5⟩
    · exact h2 h5
    · exact h4 h5
theorem end_bad {s : ByteArray} (h1 : 1 ≤ s.size) {k : Nat} (h : rmInv s k) (hk : k = s.size) : ¬ rlmP s := by
  rintro ⟨_, _, ha⟩
  rcases h.2.1 with h5 | ⟨h6, h5⟩
  · omega
  · rcases ha (k - 1) (by omega) with h7 | ⟨_, _, h7, _⟩
    · exact okc_dot h7 h5
    · exact h7 (by omega)
theorem ch_bad {s : ByteArray} {i : Nat} (hi : i < s.size) (h1 : ¬ okc (bytN s i)) (h2 : bytN s i ≠ 46) : ¬ rlmP s := fun h => by
  rcases h.2.2 i hi with h3 | ⟨h3, _⟩
  · exact h1 h3
  · exact h2 h3
theorem inv_next {s : ByteArray} {k m : Nat} (h : rmInv s k) (hm : 1 ≤ m) (hk : k + m < s.size) (hd : bytN s (k + m) = 46) (ho : ∀ j, j < m → okc (bytN s (k + j))) : rmInv s (k + (m + 1)) := by
  refine ⟨by omega, .inr ⟨by omega, by rw [show k + (m + 1) - 1 = k + m by omega]; exact hd⟩, fun i hi => ?_⟩
  by_cases c1 : i < k
  · exact h.2.2 i c1
  · by_cases c2 : i < k + m
    · have := ho (i - k) (by omega)
      rw [show k + (i - k) = i by omega] at this
      exact .inl this
    · have e : i = k + m := by omega
      subst e
      refine .inr ⟨hd, by omega, ?_⟩
      have := ho (m - 1) (by omega)
      rw [show k + (m - 1) = k + m - 1 by omega] at this
      exact okc_dot this
theorem fin_good {s : ByteArray} {k : Nat} (h1 : 1 ≤ s.size) (h32 : s.size ≤ 32) (h : rmInv s k) (hk : k < s.size) (ho : ∀ j, j < s.size - k → okc (bytN s (k + j))) : rlmP s := by
  refine ⟨h1, h32, fun i hi => ?_⟩
  by_cases c1 : i < k
  · rcases h.2.2 i c1 with h2 | ⟨h2, h3, h4⟩
    · exact .inl h2
    · exact .inr ⟨h2, h3, by omega, h4⟩
  · have := ho (i - k) (by omega)
    rw [show k + (i - k) = i by omega] at this
    exact .inl this
inductive Rm where
  | out (r : ByteArray)
  | inn (r lab : ByteArray) (n : Int) (i : Nat)
  | fin (r : ByteArray) (i : Nat)
noncomputable def rmC (s : ByteArray) : Rm → Cut
  | .out r => rmCO s r
  | .inn r lab n i => rmCI s r lab n i
  | .fin r i => rmCF s r i
def rmQ (s : ByteArray) : Rm → Prop
  | .out r => ∃ k, rmInv s k ∧ r = s.extract k s.size
  | .inn r lab n i => ∃ k m : Nat, rmInv s k ∧ r = s.extract k s.size ∧ 1 ≤ m ∧ k + m < s.size ∧ n = m ∧ lab = r.extract 0 m ∧ bytN s (k + m) = 46 ∧ (∀ j, j < m → bytN s (k + j) ≠ 46) ∧ (∀ j, j < i → okc (bytN s (k + j))) ∧ i ≤ m
  | .fin r i => ∃ k, rmInv s k ∧ r = s.extract k s.size ∧ 1 ≤ r.size ∧ (∀ j, j < r.size → bytN s (k + j) ≠ 46) ∧ (∀ j, j < i → okc (bytN s (k + j))) ∧ i ≤ r.size
def rmMu : Rm → Nat
  | .out r => 100 * r.size + 99
  | .inn r lab _ i => 100 * r.size + (lab.size - i)
  | .fin r i => 100 * r.size + (r.size - i)
theorem chC0_all {c : Int} (h : 65 ≤ c ∧ c ≤ 90) : ∀ p ∈ chC c 0, p := all_cons (decide_eq_false (by omega)) (rep_all (decide_eq_false (by omega)) 5)
theorem chC1_all {c : Int} (h : 48 ≤ c ∧ c ≤ 57) : ∀ p ∈ chC c 1, p := app_all (rep_all (decide_eq_true (by omega)) 3) (all_cons (decide_eq_false (by omega)) (rep_all (decide_eq_false (by omega)) 3))
theorem chC2_all {c : Int} (h : c = 45) : ∀ p ∈ chC c 2, p := app_all (rep_all (decide_eq_true (by omega)) 3) (app_all (rep_all (decide_eq_true (by omega)) 3) (all_cons (by subst h; rfl) all_nil))
theorem chC3_all {c : Int} (h : c < 48) (h2 : c ≠ 45) : ∀ p ∈ chC c 3, p := app_all (rep_all (decide_eq_true (by omega)) 3) (app_all (rep_all (decide_eq_true (by omega)) 3) (all_cons (bne_iff_ne.2 h2) all_nil))
theorem chC4_all {c : Int} (h : 57 < c) (h2 : c < 65) : ∀ p ∈ chC c 4, p := app_all (rep_all (decide_eq_true (by omega)) 3) (all_cons (decide_eq_false (by omega)) (all_cons (decide_eq_true (by omega)) (all_cons (bne_iff_ne.2 (by omega)) all_nil)))
theorem chC5_all {c : Int} (h : 90 < c) : ∀ p ∈ chC c 5, p := all_cons (decide_eq_false (by omega)) (all_cons (decide_eq_true (by omega)) (all_cons (decide_eq_false (by omega)) (all_cons (decide_eq_true (by omega)) (all_cons (bne_iff_ne.2 (by omega)) all_nil))))
theorem inC_all {r : ByteArray} {i : Nat} (h : i < r.size) {q : List Prop} (hq : ∀ p ∈ q, p) : ∀ p ∈ inC r i q, p := all_cons (decide_eq_true (by omega)) (all_cons ⟨by omega, by omega⟩ hq)
theorem rm_runs (s : ByteArray) (h1 : 1 ≤ s.size) (h32 : s.size ≤ 32) : Runs cfgX 28 [.str (.sym s)] [] fun v _ => ∃ b, v = .bool b ∧ b.den = rlmB s := by
  have hno : ¬ rlmP s → ∀ H : List SO, (fun (v : SV) (_ : List SO) => ∃ b, v = .bool b ∧ b.den = rlmB s) (.bool (.lit false)) H := fun hn _ => ⟨_, rfl, (rlmB_false hn).symm⟩
  refine runs_by cfgXOK (rmC s) (rmQ s) rmMu (fun g nm hg => by cases hg) ?_ fun a ha J => ?_
  · exact to_start (some (2, 3)) 20000 (.out s) ⟨0, ⟨by omega, .inl rfl, fun i hi => by omega⟩, (ext_all s).symm⟩ (rm_init s) (rm_nO s s) (all_cons (decide_eq_true (by omega)) (all_cons (by rw [decide_eq_true (show ((s.size : Nat) : Int) ≤ 32 by omega)]; rfl) all_nil))
  cases a with
  | out r =>
    obtain ⟨k, hI, hr⟩ := ha
    have hk := hI.1
    have hsz : r.size = s.size - k := by rw [hr, ext_size]; omega
    have hb : ∀ j, j < r.size → bytN r j = bytN s (k + j) := fun j hj => by rw [hr]; exact ext_byt (by omega)
    show TurnsTo cfgX _ (rmC s) _ _ ((rmCO s r).fill J)
    by_cases hd : dotB = r
    · have hs1 : r.size = 1 := by rw [← hd]; rfl
      have hb0 : bytN s k = 46 := by
        have := hb 0 (by omega)
        rw [Nat.add_zero] at this
        rw [← this, ← hd]; rfl
      exact to_end none 20000 (rm_dot s r J) (all_cons (decide_eq_true hd) (all_cons (Nat.zero_le _) (all_cons (decide_eq_true (size_zero (by rw [ext_size]; omega))) all_nil))) fun H _ => hno (dot_bad hI (by omega) hb0) H
    · have hd' : decide (dotB = r) = false := decide_eq_false hd
      rcases fi_cases r 46 with ⟨h0, hnd⟩ | ⟨m, hm, hlt, hdot, hmin⟩
      · have h0' : fiI r = -1 := h0
        have hneg : decide (fiI r < 0) = true := decide_eq_true (by omega)
        by_cases hr0 : r.size = 0
        · exact to_end none 20000 (rm_none s r J) (all_cons hd' (all_cons hneg (all_cons (decide_eq_true (size_zero hr0)) all_nil))) fun H _ => hno (end_bad h1 hI (by omega)) H
        · refine to_turnM (some (3, 3)) 20000 (.fin r 0) ⟨⟨k, hI, hr, by omega, fun j hj => by rw [← hb j hj]; exact hnd j hj, fun j hj => by omega, by omega⟩, by show 100 * r.size + (r.size - 0) < 100 * r.size + 99; omega⟩ (rm_fin s r J) (rm_nF s r 0 0) (fun q hq p u hp hu => ?_) (fun e he => by cases he) (all_cons hd' (all_cons hneg (all_cons (decide_eq_false (fun e => hr0 (by rw [e]; rfl))) all_nil)))
          obtain rfl : q = (0, 16, .int .i64 (.lit 0)) := by simpa using hq
          exact tmp_set (rm_tF s r 0) hp hu (int_impS rfl)
      · have hm' : fiI r = (m : Int) := hm
        have hle : (fiI r + 0).toNat = m := by omega
        have hlab : labR r = r.extract 0 m := by unfold labR; rw [hle]
        have hdm : bytN s (k + m) = 46 := by rw [← hb m hlt]; exact hdot
        have c1 : decide (fiI r < 0) = false := decide_eq_false (by omega)
        have c2 : inI64 (fiI r + 0) := ⟨by omega, by omega⟩
        have c3 : 0 ≤ fiI r + 0 ∧ fiI r + 0 ≤ (r.size : Int) := ⟨by omega, by omega⟩
        have hls : (labR r).size = m := by rw [hlab, ext_size]; omega
        by_cases hm0 : m = 0
        · exact to_end none 20000 (rm_nolab s r J) (all_cons hd' (all_cons c1 (all_cons c2 (all_cons c3 (all_cons (decide_eq_true (size_zero (by omega))) all_nil))))) fun H _ => hno (dot_bad hI (by omega) (by rw [hm0, Nat.add_zero] at hdm; exact hdm)) H
        · refine to_turnM (some (3, 3)) 20000 (.inn r (labR r) (fiI r) 0) ⟨⟨k, m, hI, hr, by omega, by omega, hm', hlab, hdm, fun j hj => by rw [← hb j (by omega)]; exact hmin j hj, fun j hj => by omega, by omega⟩, by show 100 * r.size + ((labR r).size - 0) < 100 * r.size + 99; omega⟩ (rm_in s r J) (rm_nI s r (labR r) (fiI r) 0) (fun q hq p u hp hu => ?_) (fun e he => by cases he)
            (all_cons hd' (all_cons c1 (all_cons c2 (all_cons c3 (all_cons (decide_eq_false (fun e => hm0 (by rw [← hls, e]; rfl))) all_nil)))))
          obtain rfl : q = (0, 16, .int .i64 (.lit 0)) := by simpa using hq
          exact tmp_set (rm_tI s r (labR r) (fiI r) 0) hp hu (int_impS rfl)
  | inn r lab n i =>
    obtain ⟨k, m, hI, hr, hm1, hkm, hn, hlab, hdm, hmin, ho, him⟩ := ha
    have hk := hI.1
    have hsz : r.size = s.size - k := by rw [hr, ext_size]; omega
    have hls : lab.size = m := by rw [hlab, ext_size]; omega
    have hb : ∀ j, j < m → bytN lab j = bytN s (k + j) := fun j hj => by
      rw [hlab, ext_byt (by omega), Nat.zero_add, hr]
      exact ext_byt (by omega)
    show TurnsTo cfgX _ (rmC s) _ _ ((rmCI s r lab n i).fill J)
    by_cases hi : i < m
    · have hc := hb i hi
      have hne := hmin i hi
      have hq : okc (bytN s (k + i)) → (rmQ s (.inn r lab n (i + 1))) ∧ rmMu (.inn r lab n (i + 1)) < rmMu (.inn r lab n i) := fun hok => ⟨⟨k, m, hI, hr, hm1, hkm, hn, hlab, hdm, hmin, fun j hj => by
        by_cases c : j < i
        · exact ho j c
        · obtain rfl : j = i := by omega
          exact hok, by omega⟩, by show 100 * r.size + (lab.size - (i + 1)) < 100 * r.size + (lab.size - i); omega⟩
      have hin : ∀ q : List Prop, (∀ p ∈ q, p) → ∀ p ∈ inC lab i q, p := fun q hq => inC_all (by omega) hq
      have h64 : inI64 ((i : Int) + 1) := ⟨by omega, by omega⟩
      by_cases a1 : 65 ≤ bytN s (k + i) ∧ bytN s (k + i) ≤ 90
      · exact to_turn (some (3, 3)) 20000 (.inn r lab n (i + 1)) (hq (.inl a1)) (rm_i0 s r lab n i J) (rm_nII s r lab n i (i + 1)) (hin _ (app_all (by rw [hc]; exact chC0_all a1) (all_cons h64 all_nil)))
      by_cases a2 : 48 ≤ bytN s (k + i) ∧ bytN s (k + i) ≤ 57
      · exact to_turn (some (3, 3)) 20000 (.inn r lab n (i + 1)) (hq (.inr (.inl a2))) (rm_i1 s r lab n i J) (rm_nII s r lab n i (i + 1)) (hin _ (app_all (by rw [hc]; exact chC1_all a2) (all_cons h64 all_nil)))
      by_cases a3 : bytN s (k + i) = 45
      · exact to_turn (some (3, 3)) 20000 (.inn r lab n (i + 1)) (hq (.inr (.inr a3))) (rm_i2 s r lab n i J) (rm_nII s r lab n i (i + 1)) (hin _ (app_all (by rw [hc]; exact chC2_all a3) (all_cons h64 all_nil)))
      have hbad : ¬ rlmP s := ch_bad (i := k + i) (by omega) (fun h => by rcases h with h | h | h; exact a1 h; exact a2 h; exact a3 h) hne
      by_cases a4 : bytN s (k + i) < 48
      · exact to_end none 20000 (rm_i3 s r lab n i J) (hin _ (by rw [hc]; exact chC3_all a4 a3)) fun H _ => hno hbad H
      by_cases a5 : bytN s (k + i) < 65
      · exact to_end none 20000 (rm_i4 s r lab n i J) (hin _ (by rw [hc]; exact chC4_all (by omega) a5)) fun H _ => hno hbad H
      · exact to_end none 20000 (rm_i5 s r lab n i J) (hin _ (by rw [hc]; exact chC5_all (by omega))) fun H _ => hno hbad H
    · have e : i = m := by omega
      subst e
      have hnt : (n + 1).toNat = i + 1 := by omega
      have hr' : r.extract (n + 1).toNat r.size = s.extract (k + (i + 1)) s.size := by
        rw [hnt, hr]
        exact ext_ext hk
      have hsz' : (r.extract (n + 1).toNat r.size).size = s.size - (k + (i + 1)) := by rw [hr', ext_size]; omega
      exact to_turn (some (2, 3)) 20000 (.out (r.extract (n + 1).toNat r.size)) ⟨⟨k + (i + 1), inv_next hI hm1 hkm hdm ho, hr'⟩, by show 100 * (r.extract (n + 1).toNat r.size).size + 99 < 100 * r.size + (lab.size - i); omega⟩ (rm_io s r lab n i J) (rm_nO s _)
        (all_cons (decide_eq_false (by omega)) (all_cons ⟨by omega, by omega⟩ (all_cons ⟨by omega, by omega⟩ all_nil)))
  | fin r i =>
    obtain ⟨k, hI, hr, hr1, hnd, ho, hir⟩ := ha
    have hk := hI.1
    have hsz : r.size = s.size - k := by rw [hr, ext_size]; omega
    have hb : ∀ j, j < r.size → bytN r j = bytN s (k + j) := fun j hj => by rw [hr]; exact ext_byt (by omega)
    show TurnsTo cfgX _ (rmC s) _ _ ((rmCF s r i).fill J)
    by_cases hi : i < r.size
    · have hc := hb i hi
      have hne := hnd i hi
      have hq : okc (bytN s (k + i)) → (rmQ s (.fin r (i + 1))) ∧ rmMu (.fin r (i + 1)) < rmMu (.fin r i) := fun hok => ⟨⟨k, hI, hr, hr1, hnd, fun j hj => by
        by_cases c : j < i
        · exact ho j c
        · obtain rfl : j = i := by omega
          exact hok, by omega⟩, by show 100 * r.size + (r.size - (i + 1)) < 100 * r.size + (r.size - i); omega⟩
      have hin : ∀ q : List Prop, (∀ p ∈ q, p) → ∀ p ∈ inC r i q, p := fun q hq => inC_all hi hq
      have h64 : inI64 ((i : Int) + 1) := ⟨by omega, by omega⟩
      by_cases a1 : 65 ≤ bytN s (k + i) ∧ bytN s (k + i) ≤ 90
      · exact to_turn (some (3, 3)) 20000 (.fin r (i + 1)) (hq (.inl a1)) (rm_f0 s r i J) (rm_nF s r i (i + 1)) (hin _ (app_all (by rw [hc]; exact chC0_all a1) (all_cons h64 all_nil)))
      by_cases a2 : 48 ≤ bytN s (k + i) ∧ bytN s (k + i) ≤ 57
      · exact to_turn (some (3, 3)) 20000 (.fin r (i + 1)) (hq (.inr (.inl a2))) (rm_f1 s r i J) (rm_nF s r i (i + 1)) (hin _ (app_all (by rw [hc]; exact chC1_all a2) (all_cons h64 all_nil)))
      by_cases a3 : bytN s (k + i) = 45
      · exact to_turn (some (3, 3)) 20000 (.fin r (i + 1)) (hq (.inr (.inr a3))) (rm_f2 s r i J) (rm_nF s r i (i + 1)) (hin _ (app_all (by rw [hc]; exact chC2_all a3) (all_cons h64 all_nil)))
      have hbad : ¬ rlmP s := ch_bad (i := k + i) (by omega) (fun h => by rcases h with h | h | h; exact a1 h; exact a2 h; exact a3 h) hne
      by_cases a4 : bytN s (k + i) < 48
      · exact to_end none 20000 (rm_f3 s r i J) (hin _ (by rw [hc]; exact chC3_all a4 a3)) fun H _ => hno hbad H
      by_cases a5 : bytN s (k + i) < 65
      · exact to_end none 20000 (rm_f4 s r i J) (hin _ (by rw [hc]; exact chC4_all (by omega) a5)) fun H _ => hno hbad H
      · exact to_end none 20000 (rm_f5 s r i J) (hin _ (by rw [hc]; exact chC5_all (by omega))) fun H _ => hno hbad H
    · have e : i = r.size := by omega
      exact to_end none 20000 (rm_end s r i J) (all_cons (decide_eq_false (by omega)) all_nil) fun H _ => ⟨_, rfl, (rlmB_true (fin_good h1 h32 hI (by omega) fun j hj => ho j (by omega))).symm⟩
noncomputable def rlmS : Summ := fun args _ _ => args1 args fun v => optC (strV v) (.stuck 7796) fun s => .ok ⟨.bool (.sym (rlmB s.den)), [], []⟩
theorem rlmOK : SumOK Tryz.prog 28 rlmS := by
  intro glob O w0 β H w base args vs hH hG ha
  refine args1_sat fun v hv => optC_only fun s hs => ?_
  rw [hv, strV_spec hs] at ha
  have ha := impL_cons (str_imp (t := .sym s.den) rfl) impL_nil _ _ ha
  show SumSem Tryz.prog H β w base _ vs ⟨.bool (.sym (rlmB s.den)), [], []⟩
  generalize s.den = s at ha ⊢
  let I : Ifc := ⟨[], [], [.str (.sym s)]⟩
  have hb : ∀ b : SB, b.den = rlmB s → ∀ H2 : List SO, I.EndsQ base [] ⟨.bool (.sym (rlmB s)), [], []⟩ (.bool b) H2 := fun b hb H2 => bool_ends rfl ⟨b, rfl, hb⟩
  by_cases h1 : 1 ≤ s.size
  · by_cases h32 : s.size ≤ 32
    · exact sum_runsQ (c := cfgX) hH I (by intro g j hg; cases hg) ha (fits0 rfl).q [] (by simp) (by simp) (runs_mono (rm_runs s h1 h32) fun v H h => bool_ends rfl h)
    · refine sum_runQ cfgXOK 20000 hH I (by intro g j hg; cases hg) ha (fits0 rfl).q [] (by simp) (by simp) (outO_ob (rm_many s) (all_cons (decide_eq_true (by omega)) (all_cons (by rw [decide_eq_false (show ¬ ((s.size : Nat) : Int) ≤ 32 by omega)]; rfl) all_nil)) fun H2 _ => hb (.lit false) (rlmB_false fun h => h32 h.2.1).symm H2)
  · refine sum_runQ cfgXOK 20000 hH I (by intro g j hg; cases hg) ha (fits0 rfl).q [] (by simp) (by simp) (outO_ob (rm_few s) (rep_all (decide_eq_false (by omega)) 4) fun H2 _ => hb (.lit false) (rlmB_false fun h => h1 h.1).symm H2)
end Go.Proofs.YtoooohgejkebjaaGreatDoor.Aes


/-
  Which strings are realms: the reference's answer is the same.
-/
namespace Go.Proofs.YtoooohgejkebjaaGreatDoor.Aes
open Go.Sim
open Go.Proofs
variable {α : Type}

set_option maxRecDepth 1000000
section
variable (s : ByteArray) (i : Nat)
noncomputable def rdT (st : Option (Nat × Nat)) : Tree := callSim (cfgX.at st) 4000 44 [.str (.sym s)] []
noncomputable def rdC : Cut := ⟨bareFs (stopOf (rdT s (some (1, 3))) []).frames [[(0, .str (.sym s)), (3, .int .i64 (.sym i))]], []⟩
noncomputable def prevN : Int := ((s.data.getD ((i : Int) - 1).toNat 0).toBitVec.toNat : Int)
noncomputable def rdI (q : List Prop) : List Prop := (decide ((i : Int) < (s.size : Int)) = true) :: ((0 : Int) ≤ (i : Int) ∧ (i : Int) < (s.size : Int)) :: q
noncomputable def dotC (q : List Prop) : List Prop := ((bytN s i == 46) = true) :: q
noncomputable def dot2C (b : Bool) (q : List Prop) : List Prop := dotC s i ((((i : Int) == 0) = false) :: inI64 ((s.size : Int) - 1) :: (((i : Int) == (s.size : Int) - 1) = false) :: inI64 ((i : Int) - 1) :: ((0 : Int) ≤ (i : Int) - 1 ∧ (i : Int) - 1 < (s.size : Int)) :: ((prevN s i == 46) = b) :: q)
noncomputable def chrC (q : List Prop) : List Prop := app (repN ((bytN s i == 46) = false) 7) (((bytN s i != 46) = true) :: q)
noncomputable def lowC (q : List Prop) : List Prop := chrC s i (((bytN s i != 45) = true) :: app (repN (decide (bytN s i ≥ 65) = false) 3) q)
noncomputable def rdN (J : Junk) (ds : List Bool) (z : Nat → Nat → Nat) : OutL := outL [] (rdC s i) [] (sim1 (cfgX.at (some (1, 3))) 4000 ((rdC s i).fill J)) (true :: ds) z
noncomputable def rdE (J : Junk) (ds : List Bool) (z : Nat → Nat → Nat) : OutL := outL [] (rdC s i) [] (sim1 (cfgX.at none) 4000 ((rdC s i).fill J)) ds z
noncomputable def rdX : Option ((SV × List (Option SO)) ⊕ Seen) := some (.inr (seenC [] 0 (rdC s (i + 1))))
variable (J : Junk) (z : Nat → Nat → Nat)
theorem rd_init : outL [] (rdC s 0) [] (rdT s (some (1, 3))) [] z = ([], some (.inr (modSeen [(0, 3, .int .i64 (.lit 0))] [] (seenC [] 0 (rdC s 0))))) := by kernel_rfl
theorem rd_t0 : rdN s i J [true, false, false, false, false, false, false] z = (rdI s i (dot2C s i false (app (repN ((bytN s i != 46) = false) 3) [inI64 ((i : Int) + 1)])), rdX s i) := by kernel_rfl
theorem rd_ta : rdN s i J (app (repN false 7) (true :: repN false 6)) z = (rdI s i (chrC s i (app (repN ((bytN s i != 45) = false) 6) [inI64 ((i : Int) + 1)])), rdX s i) := by kernel_rfl
theorem rd_tb : rdN s i J (app (repN false 7) (true :: true :: true :: repN false 6)) z = (rdI s i (chrC s i (((bytN s i != 45) = true) :: (decide (bytN s i ≥ 65) = true) :: app (repN ((!decide (bytN s i ≤ 90)) = false) 6) [inI64 ((i : Int) + 1)])), rdX s i) := by kernel_rfl
theorem rd_tc : rdN s i J (app (repN false 7) (true :: true :: app (repN false 3) [true, false])) z = (rdI s i (lowC s i [decide (bytN s i ≥ 48) = true, (!decide (bytN s i ≤ 57)) = false, inI64 ((i : Int) + 1)]), rdX s i) := by kernel_rfl
theorem rd_x1 : rdE s i J (true :: true :: repN true 6) z = (rdI s i (dotC s i (repN (((i : Int) == 0) = true) 6)), noR) := by kernel_rfl
theorem rd_x2 : rdE s i J (true :: true :: false :: repN true 6) z = (rdI s i (dotC s i ((((i : Int) == 0) = false) :: inI64 ((s.size : Int) - 1) :: repN (((i : Int) == (s.size : Int) - 1) = true) 6)), noR) := by kernel_rfl
theorem rd_x3 : rdE s i J [true, true, false, false, true] z = (rdI s i (dot2C s i true []), noR) := by kernel_rfl
theorem rd_n1 : rdE s i J (true :: app (repN false 7) (true :: true :: repN false 6)) z = (rdI s i (lowC s i (repN (decide (bytN s i ≥ 48) = false) 3)), noR) := by kernel_rfl
theorem rd_n2 : rdE s i J (true :: app (repN false 7) (true :: true :: app (repN false 3) [true, true])) z = (rdI s i (lowC s i [decide (bytN s i ≥ 48) = true, (!decide (bytN s i ≤ 57)) = true]), noR) := by kernel_rfl
theorem rd_n3 : rdE s i J (true :: app (repN false 7) [true, true, true, true, true, true]) z = (rdI s i (chrC s i [(bytN s i != 45) = true, decide (bytN s i ≥ 65) = true, (!decide (bytN s i ≤ 90)) = true, decide (bytN s i ≥ 48) = true, (!decide (bytN s i ≤ 57)) = true]), noR) := by kernel_rfl
theorem rd_end : rdE s i J [false, true] z = ([decide ((i : Int) < (s.size : Int)) = false, decide ((s.size : Int) ≥ 1) = true], some (.inl (.bool (.sym (decide ((s.size : Int) ≤ 32))), []))) := by kernel_rfl
theorem rd_few : rdE s i J (repN false 5) z = ((decide ((i : Int) < (s.size : Int)) = false) :: repN (decide ((s.size : Int) ≥ 1) = false) 4, noR) := by kernel_rfl
theorem rd_names (j : Nat) : boolC (namesOK 0 [] (rdC s i) (rdC s j)) (allN noLoopE (rdC s j).heap) false = true := by kernel_rfl
theorem rd_tmp : (((rdC s i).frames[0]?).bind fun p => p.tmps[3]?) = some (some (.int .i64 (.sym i))) := by kernel_rfl
end
theorem beqI {a b : Int} (h : a ≠ b) : (a == b) = false := beq_eq_false_iff_ne.2 h
theorem bneF {a b : Int} (h : a = b) : (a != b) = false := by subst h; simp
theorem bneT {a b : Int} (h : a ≠ b) : (a != b) = true := bne_iff_ne.2 h
theorem eqT {a b : Int} (h : a = b) : (a == b) = true := by subst h; simp
theorem notT {p : Prop} [Decidable p] (h : ¬ p) : (!decide p) = true := by rw [decide_eq_false h]; rfl
theorem notF {p : Prop} [Decidable p] (h : p) : (!decide p) = false := by rw [decide_eq_true h]; rfl
theorem rd_runs (s : ByteArray) (hbig : s.size ≤ 9223372036854775807) : Runs cfgX 44 [.str (.sym s)] [] fun v _ => ∃ b, v = .bool b ∧ b.den = rlmB s := by
  have hno : ¬ rlmP s → ∀ H : List SO, (fun (v : SV) (_ : List SO) => ∃ b, v = .bool b ∧ b.den = rlmB s) (.bool (.lit false)) H := fun hn _ => ⟨_, rfl, (rlmB_false hn).symm⟩
  refine runs_by cfgXOK (rdC s) (fun i => i ≤ s.size ∧ ∀ j, j < i → chP s j) (fun i => s.size - i) (fun g nm hg => by cases hg) ?_ fun i hi J => ?_
  · refine to_startM (some (1, 3)) 4000 0 ⟨Nat.zero_le _, fun j hj => by omega⟩ (rd_init s) (rd_names s 0 0) (fun m hm p u hp hu => ?_) (by simp) all_nil
    obtain rfl : m = (0, 3, .int .i64 (.lit 0)) := by simpa using hm
    exact tmp_set (rd_tmp s 0) hp hu (int_impS rfl)
  obtain ⟨hi1, hi2⟩ := hi
  by_cases hin : i < s.size
  · have hI : ∀ q : List Prop, (∀ p ∈ q, p) → ∀ p ∈ rdI s i q, p := fun q hq => all_cons (decide_eq_true (by omega)) (all_cons ⟨by omega, by omega⟩ hq)
    have h64 : inI64 ((i : Int) + 1) := ⟨by omega, by omega⟩
    have hnext : chP s i → (i + 1 ≤ s.size ∧ ∀ j, j < i + 1 → chP s j) ∧ s.size - (i + 1) < s.size - i := fun hc => ⟨⟨by omega, fun j hj => by
      by_cases hj' : j < i
      · exact hi2 j hj'
      · obtain rfl : j = i := by omega
        exact hc⟩, by omega⟩
    have hbad : ¬ chP s i → ¬ rlmP s := fun hc h => hc (h.2.2 i hin)
    have hprev : i ≠ 0 → prevN s i = bytN s (i - 1) := fun h0 => by
      unfold prevN bytN
      rw [show ((i : Int) - 1).toNat = i - 1 by omega]
    by_cases hd : bytN s i = 46
    · have hdT := eqT hd
      have hok : okc (bytN s i) → False := fun h => okc_dot h hd
      by_cases h0 : i = 0
      · exact to_end none 4000 (rd_x1 s i J) (hI _ (all_cons hdT (rep_all (eqT (by omega)) 6))) fun H _ => hno (hbad fun h => by rcases h with h | h; exact hok h; exact h.2.1 h0) H
      have h0F : ((i : Int) == 0) = false := beqI (by omega)
      have c1 : inI64 ((s.size : Int) - 1) := ⟨by omega, by omega⟩
      by_cases hl : i + 1 = s.size
      · exact to_end none 4000 (rd_x2 s i J) (hI _ (all_cons hdT (all_cons h0F (all_cons c1 (rep_all (eqT (by omega)) 6))))) fun H _ => hno (hbad fun h => by rcases h with h | h; exact hok h; exact h.2.2.1 hl) H
      have hlF : ((i : Int) == (s.size : Int) - 1) = false := beqI (by omega)
      have c2 : inI64 ((i : Int) - 1) := ⟨by omega, by omega⟩
      have c3 : (0 : Int) ≤ (i : Int) - 1 ∧ (i : Int) - 1 < (s.size : Int) := ⟨by omega, by omega⟩
      by_cases hp : bytN s (i - 1) = 46
      · exact to_end none 4000 (rd_x3 s i J) (hI _ (all_cons hdT (all_cons h0F (all_cons c1 (all_cons hlF (all_cons c2 (all_cons c3 (all_cons (eqT (by rw [hprev h0]; exact hp)) all_nil)))))))) fun H _ => hno (hbad fun h => by rcases h with h | h; exact hok h; exact h.2.2.2 hp) H
      · exact to_turn (some (1, 3)) 4000 (i + 1) (hnext (.inr ⟨hd, h0, hl, hp⟩)) (rd_t0 s i J) (rd_names s i (i + 1)) (hI _ (all_cons hdT (all_cons h0F (all_cons c1 (all_cons hlF (all_cons c2 (all_cons c3 (all_cons (beqI (by rw [hprev h0]; exact hp)) (app_all (rep_all (bneF hd) 3) (all_cons h64 all_nil))))))))))
    · have hC : ∀ q : List Prop, (∀ p ∈ q, p) → ∀ p ∈ chrC s i q, p := fun q hq => app_all (rep_all (beqI hd) 7) (all_cons (bneT hd) hq)
      have hbad' : ¬ okc (bytN s i) → ¬ rlmP s := fun hc => hbad fun h => by rcases h with h | h; exact hc h; exact hd h.1
      by_cases a3 : bytN s i = 45
      · exact to_turn (some (1, 3)) 4000 (i + 1) (hnext (.inl (.inr (.inr a3)))) (rd_ta s i J) (rd_names s i (i + 1)) (hI _ (hC _ (app_all (rep_all (bneF a3) 6) (all_cons h64 all_nil))))
      have a3T := bneT a3
      have hL : bytN s i < 65 → ∀ q : List Prop, (∀ p ∈ q, p) → ∀ p ∈ lowC s i q, p := fun hl q hq => hC _ (all_cons a3T (app_all (rep_all (decide_eq_false (by omega)) 3) hq))
      by_cases a1 : 65 ≤ bytN s i
      · by_cases a2 : bytN s i ≤ 90
        · exact to_turn (some (1, 3)) 4000 (i + 1) (hnext (.inl (.inl ⟨a1, a2⟩))) (rd_tb s i J) (rd_names s i (i + 1)) (hI _ (hC _ (all_cons a3T (all_cons (decide_eq_true a1) (app_all (rep_all (notF a2) 6) (all_cons h64 all_nil))))))
        · exact to_end none 4000 (rd_n3 s i J) (hI _ (hC _ (all_cons a3T (all_cons (decide_eq_true a1) (all_cons (notT a2) (all_cons (decide_eq_true (by omega)) (all_cons (notT (by omega)) all_nil))))))) fun H _ => hno (hbad' fun h => by rcases h with h | h | h <;> omega) H
      · by_cases a4 : 48 ≤ bytN s i
        · by_cases a5 : bytN s i ≤ 57
          · exact to_turn (some (1, 3)) 4000 (i + 1) (hnext (.inl (.inr (.inl ⟨a4, a5⟩)))) (rd_tc s i J) (rd_names s i (i + 1)) (hI _ (hL (by omega) _ (all_cons (decide_eq_true a4) (all_cons (notF a5) (all_cons h64 all_nil)))))
          · exact to_end none 4000 (rd_n2 s i J) (hI _ (hL (by omega) _ (all_cons (decide_eq_true a4) (all_cons (notT a5) all_nil)))) fun H _ => hno (hbad' fun h => by rcases h with h | h | h <;> omega) H
        · exact to_end none 4000 (rd_n1 s i J) (hI _ (hL (by omega) _ (rep_all (decide_eq_false (by omega)) 3))) fun H _ => hno (hbad' fun h => by rcases h with h | h | h <;> omega) H
  · have e : i = s.size := by omega
    by_cases h1 : 1 ≤ s.size
    · refine to_end none 4000 (rd_end s i J) (all_cons (decide_eq_false (by omega)) (all_cons (decide_eq_true (by omega)) all_nil)) fun H _ => ⟨_, rfl, ?_⟩
      show decide ((s.size : Int) ≤ 32) = _
      by_cases h32 : s.size ≤ 32
      · rw [rlmB_true ⟨h1, h32, fun j hj => hi2 j (by omega)⟩]
        exact decide_eq_true (by omega)
      · rw [rlmB_false fun h => h32 h.2.1]
        exact decide_eq_false (by omega)
    · exact to_end none 4000 (rd_few s i J) (all_cons (decide_eq_false (by omega)) (rep_all (decide_eq_false (by omega)) 4)) fun H _ => hno (fun h => h1 h.1) H
noncomputable def rldS : Summ := fun args _ _ => args1 args fun v => optC (strV v) (.stuck 7795) fun s => .need (s.den.size ≤ 9223372036854775807) (.ok ⟨.bool (.sym (rlmB s.den)), [], []⟩)
theorem rldOK : SumOK Tryz.prog 44 rldS := by
  intro glob O w0 β H w base args vs hH hG ha
  refine args1_sat fun v hv => optC_only fun s hs => fun hb => ?_
  rw [hv, strV_spec hs] at ha
  have ha := impL_cons (str_imp (t := .sym s.den) rfl) impL_nil _ _ ha
  show SumSem Tryz.prog H β w base _ vs ⟨.bool (.sym (rlmB s.den)), [], []⟩
  generalize s.den = s at ha hb ⊢
  let I : Ifc := ⟨[], [], [.str (.sym s)]⟩
  exact sum_runsQ (c := cfgX) hH I (by intro g j hg; cases hg) ha (fits0 rfl).q [] (by simp) (by simp) (runs_mono (rd_runs s hb) fun v H h => bool_ends rfl h)
end Go.Proofs.YtoooohgejkebjaaGreatDoor.Aes


/-
  Slices of strings, wherever they lie.
-/
namespace Go.Proofs.YtoooohgejkebjaaGreatDoor.Aes
open Go.Sim
open Go.Proofs
variable {α : Type}

noncomputable def strF (S : Nat → ByteArray) : Nat → SV := fun i => .str (.sym (S i))
noncomputable def uns (l : List SV) : Option (List ByteArray) := List.rec (motive := fun _ => Option (List ByteArray)) (some []) (fun v _ ih => optC (strV v) none fun s => optC ih none fun xs => some (s.den :: xs)) l
noncomputable def strAt (l : List ByteArray) (i : Nat) : ByteArray := (l[i]?).getD .empty
noncomputable def sx (l : List ByteArray) : List SV := mapN (fun s => SV.str (.sym s)) l
theorem optC_optS {β γ : Type} {o : Option β} {f : β → Option γ} {r : γ} (h : optC o none f = some r) : ∃ x, o = some x ∧ f x = some r := by
  cases o with
  | none => cases h
  | some x => exact ⟨x, rfl, h⟩
theorem uns_imp : ∀ {l : List SV} {xs : List ByteArray}, uns l = some xs → SV.ImpL l (sx xs)
  | [], xs, h => by cases h; exact SV.ImpL.refl _
  | v :: l, xs, h => by
    obtain ⟨s, hs, h⟩ := optC_optS (show (optC (strV v) none fun s => optC (uns l) none fun xs => some (s.den :: xs)) = some xs from h)
    obtain ⟨ys, hy, h⟩ := optC_optS h
    cases h
    rw [strV_spec hs]
    exact impL_cons (str_imp (t := .sym s.den) rfl) (uns_imp hy)
theorem sx_rel {γ : Val} : ∀ {xs : List ByteArray} {vs : List Value}, SV.denL γ (sx xs) = some vs → CellsRel γ (.fn (strF (strAt xs)) xs.length) vs
  | [], vs, h => by cases h; exact ⟨rfl, fun i x hx => by simp at hx⟩
  | x :: xs, vs, h => by
    obtain ⟨v, us, hv, hu, rfl⟩ := denL_cons.1 (show SV.denL γ (.str (.sym x) :: sx xs) = some vs from h)
    obtain ⟨h1, h2⟩ := sx_rel hu
    refine ⟨by simp [h1], fun i y hy => ?_⟩
    cases i with
    | zero =>
      simp at hy; subst hy
      cases hv; rfl
    | succ i => exact h2 i y (by simpa using hy)
/-- a slice of strings: those of its block, their number; the place, the length; the capacity: a number, or what there is -/
structure Ss where
  S : Nat → ByteArray
  N : Nat
  o : Nat
  n : Nat
  b : Bool
  k : Nat
end Go.Proofs.YtoooohgejkebjaaGreatDoor.Aes


/-
  Pairs of strings, rows of them: plain facts, without the library's sort (for seats that sort no pairs; the names are those of Srt2 and Srt3).
-/
namespace Go.Proofs.YtoooohgejkebjaaGreatDoor.Aes
open Go.Sim
open Go.Proofs
variable {α : Type}

theorem data_eq {x y : ByteArray} (h : x.data.toList = y.data.toList) : x = y := by
  cases x; cases y
  simp only at h
  congr 1
  exact Array.toList_inj.1 h
/-- the order of strings -/
def strLt (x y : ByteArray) : Prop := x.data.toList < y.data.toList
theorem strLt_irrefl (x : ByteArray) : ¬ strLt x x := List.lt_irrefl _
theorem strLt_trans {x y z : ByteArray} (h : strLt x y) (h' : strLt y z) : strLt x z := List.lt_trans h h'
theorem strLt_tri (x y : ByteArray) : strLt x y ∨ x = y ∨ strLt y x := by
  by_cases h : x.data.toList < y.data.toList
  · exact .inl h
  · by_cases h2 : y.data.toList < x.data.toList
    · exact .inr (.inr h2)
    · exact .inr (.inl (data_eq (List.le_antisymm (List.not_lt.1 h2) (List.not_lt.1 h))))
abbrev Pr := ByteArray × ByteArray
noncomputable instance : Inhabited Pr := ⟨(.empty, .empty)⟩
/-- the pairs of a row -/
noncomputable def prAt (V : Nat → Value) (i : Nat) : Pr := (vStr (V (i * 2)), vStr (V (i * 2 + 1)))
noncomputable def prL (V : Nat → Value) (n : Nat) : List Pr := (List.range n).map (prAt V)
def PrV (V : Nat → Value) (n : Nat) : Prop := ∀ i, i < n → V (i * 2) = .string (prAt V i).1 ∧ V (i * 2 + 1) = .string (prAt V i).2
theorem prL_length (V : Nat → Value) (n : Nat) : (prL V n).length = n := by simp [prL]
theorem prL_get {V : Nat → Value} {n j : Nat} (h : j < (prL V n).length) : (prL V n)[j] = prAt V j := by simp [prL]
/-- a row of these pairs -/
noncomputable def rowP (l : List Pr) (j : Nat) : Value := if j % 2 = 0 then .string ((l[j / 2]?).getD default).1 else .string ((l[j / 2]?).getD default).2
theorem rowP_at {l : List Pr} {i : Nat} (h : i < l.length) : rowP l (i * 2) = .string l[i].1 ∧ rowP l (i * 2 + 1) = .string l[i].2 := by
  unfold rowP
  rw [if_pos (by omega), if_neg (by omega), show i * 2 / 2 = i by omega, show (i * 2 + 1) / 2 = i by omega, List.getElem?_eq_getElem h]
  exact ⟨rfl, rfl⟩
theorem row_ok (l : List Pr) : PrV (rowP l) l.length ∧ prL (rowP l) l.length = l := by
  have hp : ∀ i (h : i < l.length), prAt (rowP l) i = l[i] := fun i h => by
    obtain ⟨h1, h2⟩ := rowP_at h
    unfold prAt
    rw [h1, h2]; rfl
  refine ⟨fun i hi => ?_, List.ext_getElem (by rw [prL_length]) fun i h1 h2 => ?_⟩
  · rw [hp i hi]; exact rowP_at hi
  · rw [prL_get, hp i h2]
theorem row_eq {V : Nat → Value} {n : Nat} (h : PrV V n) : ∀ j, j < n * 2 → V j = rowP (prL V n) j := fun j hj => by
  have hi : j / 2 < (prL V n).length := by rw [prL_length]; omega
  obtain ⟨h1, h2⟩ := rowP_at hi
  obtain ⟨h3, h4⟩ := h (j / 2) (by omega)
  rw [prL_get] at h1 h2
  rcases (show j = j / 2 * 2 ∨ j = j / 2 * 2 + 1 by omega) with c | c
  · rw [c, h1, h3]
  · rw [c, h2, h4]
end Go.Proofs.YtoooohgejkebjaaGreatDoor.Aes


/-
  The symbolic simulator, thirty-ninth part: summaries of runs of which the new names depend on what is drawn.
-/
namespace Go.Sim
open Go.RowKit

theorem sum_smallCX {c : Cfg} {O : Nat → Prop} {w0 w : World} {β : Val} {H : List SO} {base : Nat} {f : FuncId} {vs : List Value} (hH : HeapRel0 c.P O w0 β H w)
    (I : Ifc) (hgl : ∀ g j, c.glob g = some j → I.known j = true ∧ ∃ l, β (I.big j) = some l ∧ l.blk = g ∧ l.off = 0) (ha : SV.denL β (SV.renL I.big I.args) = some vs) (hI : I.FitsQ H) {r : SumRes} (turn : List Nat) (ht1 : ∀ (j : Nat) E, I.ents[j]? = some E → E.owned = true → j ∈ turn) (ht2 : ∀ j ∈ turn, ∃ E, I.ents[j]? = some E ∧ E.owned = true) (htn : turn.Nodup := by simp)
    (hbody : ∃ fn, c.P.funcs[f]? = some fn ∧ fn.body.isSome = true)
    (hrun : HeapRel c.P (I.ownsQ β) w (I.val β) I.ents w → GlobRel c.glob (I.val β) → SV.denL (I.val β) I.args = some vs → Calls c.P f vs.toArray w (Came c.P (I.ownsQ β) w (I.val β) fun v H2 => ∃ keep : List Nat, (∀ j ∈ keep, I.names.length ≤ j) ∧ keep.Nodup ∧ I.OutQ base turn keep r v H2)) : SumSem c.P H β w base f vs r := by
  intro hfree
  have hH' := Ifc.heapQ hH hI
  have ha' : SV.denL (I.val β) I.args = some vs := by
    rw [SV.denL_ren, SV.denL_uses Ifc.val_known _ hI.uargs] at ha; exact ha
  have hcalls := hrun hH' (fun g j hg => let ⟨hk, l, h1, h2⟩ := hgl g j hg; ⟨l, by rw [← Ifc.val_known j hk]; exact h1, h2⟩) ha'
  have hown : ∀ j ∈ turn, ∃ e l, H[I.big j]? = some e ∧ e.owned = true ∧ β (I.big j) = some l ∧ I.val β j = some l ∧ j < I.names.length := by
    intro j hj
    obtain ⟨E, he, ho⟩ := ht2 j hj
    obtain ⟨e, he', ht⟩ := hI.ent j _ he
    have hu := hI.uent j _ he
    have hjl : j < I.names.length := by rw [← hI.len]; exact (List.getElem?_eq_some_iff.1 he).1
    have hpl : e.placed = true ∨ ∃ o, e = .obj o := by
      cases E with
      | own => obtain ⟨_, rfl, _⟩ := ht; exact .inl rfl
      | row => cases ho
      | loop => exact hu.elim
      | deferred => exact hu.elim
      | gone => cases ho
      | obj => obtain ⟨_, rfl, _⟩ := ht; exact .inr ⟨_, rfl⟩
    obtain ⟨l, hl⟩ := (hH.entries _ _ he').loc hpl
    exact ⟨e, l, he', ht.owned hu ho, hl, by rw [← Ifc.val_known j ((I.known_iff j).2 hjl)]; exact hl, hjl⟩
  -- what is turned
  have hsets : ∀ (keep : List Nat) (v : SV) (H'' : List SO), I.OutQ base turn keep r v H'' → ∀ m e, (m, e) ∈ r.sets → ∃ j ∈ turn, m = I.big j ∧ GivenQ (I.seen keep) (I.out base keep) H''[j]? e ∧ ∃ i : Nat, turn[i]? = some j ∧ r.sets[i]? = some (m, e) := by
    intro keep v H'' hout m e hm
    obtain ⟨i, hi⟩ := List.mem_iff_getElem?.1 hm
    have hil := (List.getElem?_eq_some_iff.1 hi).1
    rw [hout.setsLen] at hil
    obtain ⟨e', h1, h2⟩ := hout.sets i _ (List.getElem?_eq_getElem hil)
    rw [hi] at h1
    cases h1
    exact ⟨_, List.getElem_mem hil, rfl, h2, i, List.getElem?_eq_getElem hil, hi⟩
  refine ⟨?_, .inl ⟨hbody, ?_⟩⟩
  · intro m e hm
    obtain ⟨e', w', fr, hcame, _⟩ := hcalls []
    obtain ⟨v, H'', x, β'', _, ⟨keep, hk, hkn, hout⟩, _⟩ := hcame
    obtain ⟨j, hj, rfl, _⟩ := hsets keep v H'' hout m e hm
    obtain ⟨e0, l, h1, h2, _⟩ := hown j hj
    exact ⟨_, h1, h2⟩
  · intro cs
    obtain ⟨e', w', fr, hcame, hst⟩ := hcalls cs
    refine ⟨e', w', fr, ?_, hst⟩
    obtain ⟨v, H'', x, β'', rfl, ⟨keep, hk, hkn, hout⟩, hle, hv, hH2⟩ := hcame
    -- the great valuation behind the call
    let βb : Val := fun n => if base ≤ n ∧ n < base + keep.length then (keep[n - base]?).bind β'' else β n
    have hlenn : r.news.length = keep.length := hout.newsLen
    have hfree' : ∀ i, i < keep.length → β (base + i) = none := fun i hi => hfree i (by rw [hlenn]; exact hi)
    have hβle : β.le βb := by
      intro n l hn
      show (if _ then _ else _) = _
      rw [if_neg]
      · exact hn
      · rintro ⟨h1, h2⟩
        have := hfree' (n - base) (by omega)
        rw [show base + (n - base) = n from by omega, hn] at this; cases this
    have hseen : ∀ j, I.seen keep j = true → βb (I.out base keep j) = β'' j := by
      intro j hj
      unfold Ifc.seen at hj
      unfold Ifc.out
      cases hkn' : I.known j with
      | true =>
        rw [boolC_true]
        have hjl := (I.known_iff j).1 hkn'
        obtain ⟨E, hE⟩ : ∃ E, I.ents[j]? = some E := ⟨_, List.getElem?_eq_getElem (by rw [hI.len]; exact hjl)⟩
        obtain ⟨e, he, htk⟩ := hI.ent j E hE
        have hu := hI.uent j E hE
        have hpl : e.placed = true ∨ ∃ o, e = .obj o := by
          cases E with
          | own cc ww el => obtain ⟨c1, rfl, _⟩ := htk; exact .inl rfl
          | row cc => obtain ⟨c1, rfl | ⟨ww, el, rfl⟩, _⟩ := htk <;> exact .inl rfl
          | loop => exact hu.elim
          | deferred => exact hu.elim
          | gone => obtain ⟨_, _, h⟩ := htk; exact h
          | obj => obtain ⟨_, rfl, _⟩ := htk; exact .inr ⟨_, rfl⟩
        obtain ⟨l, hl⟩ := (hH.entries _ _ he).loc hpl
        rw [hβle _ _ hl]
        have : I.val β j = some l := by rw [← Ifc.val_known j hkn']; exact hl
        rw [hle _ _ this]
      | false =>
        rw [hkn', boolC_false, memN_iff] at hj
        rw [boolC_false]
        have h1 := idxN_spec hj
        have h2 := (List.getElem?_eq_some_iff.1 h1).1
        show (if _ then _ else _) = _
        rw [if_pos (by omega), show base + idxN j keep - base = idxN j keep from by omega, h1]; rfl
    have hrenOwn : ∀ (j : Nat) (e : SO), GivenQ (I.seen keep) (I.out base keep) H''[j]? e → I.seen keep j = true → e.owned = true ∧ OwnRel c.P βb w' (I.out base keep j) e := by
      intro j e hg hs
      rcases hg with ⟨cc, ww, el, c', he, hu, himp, rfl⟩ | ⟨o, o', he, hu, himp, rfl⟩
      · obtain ⟨l, vs, rest, lo, hi, hl, h0, hcl, hh, hfz, hw, hcap⟩ := hH2.entries j _ he
        exact ⟨rfl, l, vs, rest, lo, hi, (hseen j hs).trans hl, h0, himp _ _ ((CellsRel.ren hu hseen).2 hcl), hh, hfz, hw, hcap⟩
      · obtain ⟨l, y, hl, h0, hd, hh⟩ := hH2.entries j _ he
        exact ⟨rfl, l, y, (hseen j hs).trans hl, h0, himp _ _ (by rw [SObj.den_ren, SObj.den_uses (β := fun n => βb (I.out base keep n)) (β' := β'') hseen hu]; exact hd), hh⟩
    have hatJ : ∀ (j : Nat) (e : SO), GivenQ (I.seen keep) (I.out base keep) H''[j]? e → ∃ e0 l, H''[j]? = some e0 ∧ e0.owned = true ∧ β'' j = some l := by
      intro j e hg
      rcases hg with ⟨cc, ww, el, c', he, _⟩ | ⟨o, o', he, _⟩
      · obtain ⟨l, vs2, rest, lo, hi2, hl, _⟩ := hH2.entries j _ he
        exact ⟨_, l, he, rfl, hl⟩
      · obtain ⟨l, y, hl, _⟩ := hH2.entries j _ he
        exact ⟨_, l, he, rfl, hl⟩
    have hseenT : ∀ j ∈ turn, I.seen keep j = true ∧ I.out base keep j = I.big j := by
      intro j hj
      obtain ⟨_, _, _, _, _, _, hjl⟩ := hown j hj
      have := (I.known_iff j).2 hjl
      unfold Ifc.seen Ifc.out
      rw [this]; exact ⟨rfl, rfl⟩
    have hseenK : ∀ j ∈ keep, I.seen keep j = true ∧ I.known j = false := by
      intro j hj
      have hnk : I.known j = false := by
        cases hx : I.known j with
        | false => rfl
        | true => have := (I.known_iff j).1 hx; have := hk j hj; omega
      unfold Ifc.seen
      rw [hnk]; exact ⟨memN_spec hj, rfl⟩
    have hnewsAt : ∀ (i : Nat) (e : SO), r.news[i]? = some e → ∃ j, keep[i]? = some j ∧ GivenQ (I.seen keep) (I.out base keep) H''[j]? e := by
      intro i e hi
      have hil := (List.getElem?_eq_some_iff.1 hi).1
      rw [hlenn] at hil
      obtain ⟨e', h1, h2⟩ := hout.news i _ (List.getElem?_eq_getElem hil)
      rw [hi] at h1; cases h1
      exact ⟨_, List.getElem?_eq_getElem hil, h2⟩
    refine ⟨x, βb, rfl, ?_, ⟨hβle, hH2.keep.os, hH2.keep.tape, hH2.keep.output, hH2.keep.drawn, hH2.keep.size, ?_, ?_, ?_, ?_, ?_, ?_⟩⟩
    · refine hout.val _ _ ?_
      rw [SV.den_ren, SV.den_uses hseen _ hout.uv]; exact hv
    · intro n hn
      rw [hlenn] at hn
      show (if _ then _ else _) = _
      rw [if_neg (by omega)]
    · intro b hb hno
      refine hH2.keep.block b hb ?_
      rintro ⟨j, E, l, hj, ho, hl, rfl⟩
      have hjt := ht1 j E hj ho
      obtain ⟨i, hi⟩ := List.mem_iff_getElem?.1 hjt
      obtain ⟨e, he, _⟩ := hout.sets i j hi
      exact hno (I.big j) e l (List.mem_of_getElem? he) hl rfl
    · intro m e e' h1 h2
      obtain ⟨j, hj, hm1, hg1, i1, ht1', hs1⟩ := hsets keep v H'' hout m e h1
      obtain ⟨k, hk', hm2, hg2, i2, ht2', hs2⟩ := hsets keep v H'' hout m e' h2
      obtain ⟨_, _, _, _, _, _, hjl⟩ := hown j hj
      obtain ⟨_, _, _, _, _, _, hkl⟩ := hown k hk'
      have hjk : k = j := hI.nodup k j (I.big k) (Ifc.big_get hkl) (by rw [← hm2, hm1]; exact Ifc.big_get hjl)
      subst hjk
      have : i1 = i2 := (List.getElem?_inj (List.getElem?_eq_some_iff.1 ht1').1 htn).1 (ht1'.trans ht2'.symm)
      subst this
      rw [hs1] at hs2
      exact (Prod.mk.inj (Option.some.inj hs2)).2
    · intro m e hm
      obtain ⟨j, hj, rfl, hg, _⟩ := hsets keep v H'' hout m e hm
      obtain ⟨hs, hb⟩ := hseenT j hj
      rw [← hb]
      exact (hrenOwn j e hg hs).2
    · intro i e hi
      obtain ⟨j, hj, hg⟩ := hnewsAt i e hi
      have hjm := List.mem_of_getElem? hj
      obtain ⟨hs, hnk⟩ := hseenK j hjm
      have hout' : I.out base keep j = base + i := by
        unfold Ifc.out
        rw [hnk, boolC_false]
        have h1 := idxN_spec hjm
        have : idxN j keep = i := (List.getElem?_inj (List.getElem?_eq_some_iff.1 h1).1 hkn).1 (h1.trans hj.symm)
        rw [this]
      obtain ⟨ho, hor⟩ := hrenOwn j e hg hs
      refine ⟨ho, hout' ▸ hor, ?_⟩
      obtain ⟨e0, l, he, he0, hl⟩ := hatJ j e hg
      refine ⟨l, by rw [← hout', hseen j hs]; exact hl, .inl ?_⟩
      rcases hH2.fresh j _ l he he0 hl with h1 | ⟨k, E, lk, hk1, hko, hk2, hk3⟩
      · exact h1
      · exfalso
        -- a block that was given is still its own
        have hkt := ht1 k E hk1 hko
        obtain ⟨i3, hi3⟩ := List.mem_iff_getElem?.1 hkt
        obtain ⟨e3, _, hg3⟩ := hout.sets i3 k hi3
        obtain ⟨e4, l4, he4, ho4, hl4⟩ := hatJ k e3 hg3
        obtain ⟨_, l2, _, _, hb2, hv2, hkl⟩ := hown k hkt
        rw [hb2] at hk2; cases hk2
        rw [hle _ _ hv2] at hl4; cases hl4
        refine hH2.sep k j _ _ lk l he4 he ho4 he0 ?_ (hle _ _ hv2) hl hk3
        have := hk j hjm; omega
    · intro i j l l' hij hi hj hl hl'
      rw [hlenn] at hi hj
      have hone : ∀ i, i < keep.length → ∀ l, βb (base + i) = some l → ∃ k, keep[i]? = some k ∧ β'' k = some l := by
        intro i hi l hl
        have hl : (if base ≤ base + i ∧ base + i < base + keep.length then (keep[base + i - base]?).bind β'' else β (base + i)) = some l := hl
        rw [if_pos (by omega), show base + i - base = i from by omega, List.getElem?_eq_getElem hi] at hl
        exact ⟨_, List.getElem?_eq_getElem hi, hl⟩
      obtain ⟨k1, hk1, hb1⟩ := hone i hi l hl
      obtain ⟨k2, hk2, hb2⟩ := hone j hj l' hl'
      obtain ⟨n1, _, hg1⟩ := hout.news i k1 hk1
      obtain ⟨n2, _, hg2⟩ := hout.news j k2 hk2
      obtain ⟨e1, _, he1, ho1, _⟩ := hatJ k1 n1 hg1
      obtain ⟨e2, _, he2, ho2, _⟩ := hatJ k2 n2 hg2
      refine hH2.sep k1 k2 _ _ l l' he1 he2 ho1 ho2 (fun h => ?_) hb1 hb2
      subst h
      exact hij ((List.getElem?_inj (List.getElem?_eq_some_iff.1 hk1).1 hkn).1 (hk1.trans hk2.symm))
/- In short words. -/
/-- what a small run comes to, under whatever names -/
def Ifc.EndsX (I : Ifc) (base : Nat) (r : SumRes) (v : SV) (H : List SO) : Prop := ∃ keep : List Nat, (∀ j ∈ keep, I.names.length ≤ j) ∧ keep.Nodup ∧ I.EndsQ base keep r v H
theorem sum_runX {c : Cfg} (hc : CfgOK c) (n : Nat) {O : Nat → Prop} {w0 w : World} {β : Val} {H : List SO} {base : Nat} {f : FuncId} {vs : List Value} (hH : HeapRel0 c.P O w0 β H w)
    (I : Ifc) (hgl : ∀ g j, c.glob g = some j → I.known j = true ∧ ∃ l, β (I.big j) = some l ∧ l.blk = g ∧ l.off = 0) (ha : SV.denL β (SV.renL I.big I.args) = some vs) (hI : I.FitsQ H) {r : SumRes}
    (hob : (callSim c n f I.args I.ents).Ob (I.EndsX base r) fun _ => False) : SumSem c.P H β w base f vs r := by
  have hr := runs_of hc hob
  refine sum_smallCX hH I hgl ha hI (ownedOf I.ents 0) (fun j E h ho => (ownedOf_spec _ _ _).2 ⟨j, E, by omega, h, ho⟩) (fun j hj => ?_) (ownedOf_nodup _ _) hr.1 fun hH' hG ha' => (hr.2 _ _ _ _ _ hH' hG ha').mono fun e w' hcame => ?_
  · obtain ⟨i, E, h, h', ho⟩ := (ownedOf_spec _ _ _).1 hj
    exact ⟨E, by rw [h, Nat.zero_add]; exact h', ho⟩
  · obtain ⟨v, H', x, β', he, ⟨keep, hk, hkn, h⟩, hle, hv, hH2⟩ := hcame
    exact ⟨v, H', x, β', he, ⟨keep, hk, hkn, h.val, h.uv, h.sets.length, h.sets.get, h.news.length, h.news.get⟩, hle, hv, hH2⟩
end Go.Sim


/-
  Slices of pairs of strings, wherever they lie (for seats without the library's sort; out of Rmt1, Rmt2, Rmt3, Rmt4).
-/
namespace Go.Sim
theorem sum_runsX {c : Cfg} {O : Nat → Prop} {w0 w : World} {β : Val} {H : List SO} {base : Nat} {f : FuncId} {vs : List Value} (hH : HeapRel0 c.P O w0 β H w)
    (I : Ifc) (hgl : ∀ g j, c.glob g = some j → I.known j = true ∧ ∃ l, β (I.big j) = some l ∧ l.blk = g ∧ l.off = 0) (ha : SV.denL β (SV.renL I.big I.args) = some vs) (hI : I.FitsQ H) {r : SumRes}
    (hr : Runs c f I.args I.ents (I.EndsX base r)) : SumSem c.P H β w base f vs r := by
  refine sum_smallCX hH I hgl ha hI (ownedOf I.ents 0) (fun j E h ho => (ownedOf_spec _ _ _).2 ⟨j, E, by omega, h, ho⟩) (fun j hj => ?_) (ownedOf_nodup _ _) hr.1 fun hH' hG ha' => (hr.2 _ _ _ _ _ hH' hG ha').mono fun e w' hcame => ?_
  · obtain ⟨i, E, h, h', ho⟩ := (ownedOf_spec _ _ _).1 hj
    exact ⟨E, by rw [h, Nat.zero_add]; exact h', ho⟩
  · obtain ⟨v, H', x, β', he, ⟨keep, hk, hkn, h⟩, hle, hv, hH2⟩ := hcame
    exact ⟨v, H', x, β', he, ⟨keep, hk, hkn, h.val, h.uv, h.sets.length, h.sets.get, h.news.length, h.news.get⟩, hle, hv, hH2⟩
end Go.Sim
namespace Go.Proofs.YtoooohgejkebjaaGreatDoor.Aes
open Go.Sim
open Go.Proofs
variable {α : Type}

set_option maxRecDepth 1000000
def is0 (n : SN) : Bool := match n with
  | .lit 0 => true
  | _ => false
theorem is0_spec {n : SN} (h : is0 n = true) : n = .lit 0 := by
  unfold is0 at h
  split at h
  · rfl
  · cases h
/-- a loop that asks the same of all -/
theorem all_loop {c : Cfg} (hc : CfgOK c) (C : Nat → Cut) (p : Nat → Prop) (n : Nat) {D : SV → List SO → Prop} {f : FuncId} {args : List SV} {H : List SO} (hgl : ∀ g nm, c.glob g = some nm → nm < H.length)
    (h0 : ∀ Q : Nat → Prop, Q 0 → Starts c H.length C Q D f args H)
    (h1 : ∀ i, i < n → p i → ∀ J (Q : Nat → Prop), Q (i + 1) → TurnsTo c H.length C Q D ((C i).fill J))
    (h2 : ∀ i, i < n → ¬ p i → ∀ J (Q : Nat → Prop), TurnsTo c H.length C Q D ((C i).fill J))
    (h3 : (∀ j, j < n → p j) → ∀ J (Q : Nat → Prop), TurnsTo c H.length C Q D ((C n).fill J)) : Runs c f args H D := by
  refine runs_by hc C (fun i => i ≤ n ∧ ∀ j, j < i → p j) (fun i => n - i) hgl (h0 _ ⟨Nat.zero_le _, fun j hj => by omega⟩) fun i hi J => ?_
  by_cases hin : i < n
  · by_cases hp : p i
    · refine h1 i hin hp J _ ⟨⟨by omega, fun j hj => ?_⟩, by omega⟩
      by_cases c : j < i
      · exact hi.2 j c
      · obtain rfl : j = i := by omega
        exact hp
    · exact h2 i hin hp J _
  · have e : i = n := by have := hi.1; omega
    subst e
    exact h3 hi.2 J _
noncomputable def cB (p : Prop) : Bool := @decide p (Classical.propDecidable _)
theorem cB_true {p : Prop} (h : p) : cB p = true := @decide_eq_true _ (Classical.propDecidable _) h
theorem cB_false {p : Prop} (h : ¬ p) : cB p = false := @decide_eq_false _ (Classical.propDecidable _) h
def isBool (t : Bool) (v : SV) : Prop := ∃ b, v = .bool b ∧ b.den = t
theorem cBi {p : Prop} : cB p = true ↔ p := by
  constructor
  · intro h
    by_cases hp : p
    · exact hp
    · rw [cB_false hp] at h; cases h
  · exact cB_true
theorem cB_no {p : Prop} (h : ¬ p) : (!cB p) = true := by rw [cB_false h]; rfl
theorem cB_ok {p : Prop} (h : p) : (!cB p) = false := by rw [cB_true h]; rfl
noncomputable def bR (p : Prop) : SumRes := ⟨.bool (.sym (cB p)), [], []⟩
theorem i0_sem {g : FuncId → Option Summ} (hc : CfgOK (cfgOf g)) {f : FuncId} {O : Nat → Prop} {w0 w : World} {β : Val} {H : List SO} {base : Nat} {vs : List Value} (hH : HeapRel0 Tryz.prog O w0 β H w) {args : List SV} (ha : SV.denL β args = some vs) (hr : ∀ f, SV.renL f args = args) (hu : ∀ p, SV.usesL p args = true)
    {b t : Bool} {ds : List Bool} {ps : List Prop} {n : Nat} (hrun : outO [] (callSim (cfgOf g) n f args []) ds = (ps, some (.bool (.lit b), []))) (hp : ∀ p ∈ ps, p) (hb : b = t) : SumSem Tryz.prog H β w base f vs ⟨.bool (.sym t), [], []⟩ := by
  subst hb
  refine sum_runQ hc n hH ⟨[], [], args⟩ (by intro g j hg; cases hg) ?_ (Ifc.fitsQ (by simp) (hu _) trivial) [] (by simp) (by simp) (outO_ob hrun hp fun H2 _ => bool_ends rfl ⟨_, rfl, rfl⟩)
  show SV.denL β (SV.renL _ args) = _
  rw [hr]; exact ha
noncomputable def i64V (v : SV) : Option SI := v.asInt none fun k n => boolC (i64K k) (some n) none
theorem i64V_spec {v : SV} {n : SI} (h : i64V v = some n) : v = .int .i64 n := by
  cases v <;> first | (cases h; done) | skip
  rename_i k m
  cases k <;> first | (cases h; rfl) | (cases h; done)
noncomputable def cfgP0 : Cfg := cfgOf fun _ => none
theorem cfgP0OK : CfgOK cfgP0 := ⟨cfgXOK.prog, fun f s h => by cases h⟩
/-- a row of pairs that is read alone; a slice of it -/
noncomputable def rwV (V : Nat → Value) (N : Nat) : SO := .row (.raw V (N * 2))
noncomputable def slP (nm n k : Nat) : SV := .slice ⟨nm, .lit 0⟩ (.sym n) (.sym k)
noncomputable def fit2 (V : Nat → Value) (a : Nat) : Prop := fitK .s (V (a + 0)) ∧ fitK .s (V (a + 1)) ∧ True
theorem fitS (s : ByteArray) : fitK .s (.string s) := fun _ => rfl
theorem fit2_of {V : Nat → Value} {n i : Nat} (h : PrV V n) (hi : i < n) : fit2 V (0 + i * 2) := by
  obtain ⟨h1, h2⟩ := h i hi
  unfold fit2
  rw [Nat.zero_add, Nat.add_zero, h1, h2]
  exact ⟨fitS _, fitS _, trivial⟩
/-- a slice of pairs: what lies in its row, how much; how many of them -/
structure Pw where
  V : Nat → Value
  N : Nat
  n : Nat
def Pw.ok (t : Pw) : Prop := t.n ≤ t.N ∧ t.n ≤ 1000000 ∧ PrV t.V t.n
noncomputable def Pw.list (t : Pw) : List Pr := prL t.V t.n
/-- a list's cells -/
noncomputable def lsV (xs : List ByteArray) (j : Nat) : Value := .string (strAt xs j)
noncomputable def pwC (c : Cells) (f : (Nat → Value) → Nat → R α) : R α :=
  Cells.rec (motive := fun _ => R α) (fun l => optC (uns l) (.stuck 7860) fun xs => .need (lenN xs = lenN xs / 2 * 2) (f (lsV xs) (lenN xs / 2))) (fun _ _ => .stuck 7861) (fun V m => .need (m = m / 2 * 2) (f V (m / 2))) c
theorem pwC_sat {c : Cells} {f : (Nat → Value) → Nat → R α} {φ : α → Prop} (h : ∀ V N, c.Imp (.raw V (N * 2)) → (f V N).Sat φ) : (pwC c f).Sat φ := by
  cases c with
  | lst l =>
    refine optC_only fun xs hx he => h _ _ fun γ vs hv => ?_
    rw [← he, lenN_eq]
    obtain ⟨h1, h2⟩ := sx_rel (uns_imp hx _ _ hv)
    refine ⟨h1, fun i x hi => ?_⟩
    have := h2 i x hi
    have : some (Value.string (strAt xs i)) = some x := this
    exact (Option.some.inj this).symm
  | fn g n => trivial
  | raw V m => exact fun he => h _ _ (by rw [← he]; exact .refl _)
noncomputable def pwE (e : Option SO) (f : (Nat → Value) → Nat → R α) : R α :=
  optC e (.stuck 7862) fun e => SO.rec (motive := fun _ => R α) (fun c _ _ => pwC c f) (fun c => pwC c f) (fun _ _ _ _ _ _ _ _ => .stuck 7863) (fun _ => .stuck 7863) (.stuck 7863) (fun _ => .stuck 7863) e
theorem pwE_sat {e : Option SO} {f : (Nat → Value) → Nat → R α} {φ : α → Prop} (h : ∀ V N, (∀ g, ∃ e', e = some e' ∧ Taken g (rwV V N) e') → (f V N).Sat φ) : (pwE e f).Sat φ := by
  refine optC_only fun e' he => ?_
  cases e' with
  | own c w el => exact pwC_sat fun V N hi => h V N fun g => ⟨_, he, taken_row (c0 := c) (.inr ⟨w, el, rfl⟩) hi.front⟩
  | row c => exact pwC_sat fun V N hi => h V N fun g => ⟨_, he, taken_row (c0 := c) (.inl rfl) hi.front⟩
  | loop => trivial
  | deferred => trivial
  | gone => trivial
  | obj => trivial
noncomputable def Pw.row (t : Pw) : SO := rwV t.V t.N
theorem Pw.row_uses (t : Pw) (p : Nat → Bool) : t.row.CUses p := trivial
noncomputable def slQ (nm n : Nat) (b : Bool) (k : Nat) : SV := .slice ⟨nm, .lit 0⟩ (.sym n) (boolC b (.rest nm k) (.sym k))
noncomputable def oneR (m : Nat) (Y : Nat → Value) : Prop := ∀ j, j < m → (Y j).oneCell' = true
theorem one_of {V : Nat → Value} {n i m : Nat} (hV : PrV V n) (h : i * 2 + m ≤ n * 2) : oneR m fun j => V (0 + i * 2 + j) := by
  intro j hj
  have hi : (i * 2 + j) / 2 < n := by omega
  obtain ⟨h1, h2⟩ := hV _ hi
  show (V (0 + i * 2 + j)).oneCell' = true
  rcases (show 0 + i * 2 + j = (i * 2 + j) / 2 * 2 ∨ 0 + i * 2 + j = (i * 2 + j) / 2 * 2 + 1 by omega) with c | c
  · rw [c, h1]; rfl
  · rw [c, h2]; rfl
theorem half2 (N : Nat) : N * 2 / 2 = N := by omega
noncomputable def capQ (nm : Nat) (c : SC) : Option (Bool × Nat) := SC.rec (motive := fun _ => Option (Bool × Nat)) (fun m => some (false, m)) (fun m => some (false, m)) (fun q k => boolC (Nat.beq q nm) (some (true, k)) none) c
theorem capQ_den {nm : Nat} {c : SC} {bk : Bool × Nat} (h : capQ nm c = some bk) (γ : Val) : c.den γ = (boolC bk.1 (.rest nm bk.2) (.sym bk.2) : SC).den γ := by
  cases c with
  | lit m => cases h; rfl
  | sym m => cases h; rfl
  | rest q k =>
    have h : boolC (Nat.beq q nm) (some (true, k)) none = some bk := h
    cases hq : Nat.beq q nm with
    | false => rw [hq] at h; cases h
    | true =>
      rw [hq] at h
      cases h
      rw [Nat.eq_of_beq_eq_true hq]; rfl
noncomputable def partQ (H : List SO) (v : SV) (f : Pw → Nat → Bool → Nat → R α) : R α := v.asSlice (.stuck 7870) fun a l c => boolC (is0 a.off) (optC (capQ a.nm c) (.stuck 7871) fun bk => pwE (nth H a.nm) fun V N => f ⟨V, N, l.den⟩ a.nm bk.1 bk.2) (.stuck 7872)
theorem partQ_sat {H : List SO} {v : SV} {f : Pw → Nat → Bool → Nat → R α} {φ : α → Prop} (h : ∀ t nm b k, (∀ g, ∃ e', H[nm]? = some e' ∧ Taken g t.row e') → v.Imp (slQ nm t.n b k) → (f t nm b k).Sat φ) : (partQ H v f).Sat φ := by
  unfold partQ
  rcases asSlice_cases v with ⟨a, l, c, rfl⟩ | hv
  · refine boolC_only fun h0 => optC_only fun bk hbk => pwE_sat fun V N ht => h ⟨V, N, l.den⟩ a.nm bk.1 bk.2 (fun g => by rw [← nth_eq]; exact ht g) fun γ x hx => ?_
    obtain ⟨nm, off⟩ := a
    obtain rfl := is0_spec h0
    obtain ⟨A, C, hA, hC, hle, rfl⟩ := den_slice.1 hx
    exact den_slice.2 ⟨A, C, hA, by rw [← capQ_den hbk]; exact hC, hle, rfl⟩
  · rw [hv]; trivial
theorem slQ_ren (f : Nat → Nat) (nm n : Nat) (b : Bool) (k : Nat) : (slQ nm n b k).ren f = slQ (f nm) n b k := by cases b <;> rfl
theorem slQ_uses (p : Nat → Bool) (nm n : Nat) (b : Bool) (k : Nat) (h : p nm = true) : (slQ nm n b k).uses p = true := by
  cases b with
  | false => show (p nm && true) = true; rw [h]; rfl
  | true => show (p nm && p nm) = true; rw [h]; rfl
noncomputable def tupQ (v : SV) (m : Int) : SV := .tuple [v, .int .i64 (.lit m)]
theorem list_length (t : Pw) : t.list.length = t.n := prL_length _ _
theorem raw_list {W : Nat → Value} {l : List Pr} {m : Nat} (_ : l.length = m) (h1 : PrV W m) (h2 : prL W m = l) : (Cells.raw W (m * 2)).Imp (.raw (rowP l) (m * 2)) := fun γ vs hv => by
  obtain ⟨h3, h4⟩ : vs.length = m * 2 ∧ ∀ (i : Nat) (x : Value), vs[i]? = some x → x = W i := hv
  refine ⟨h3, fun i x hx => ?_⟩
  have hi := (List.getElem?_eq_some_iff.1 hx).1
  rw [h4 i x hx, ← h2]
  exact row_eq h1 i (by omega)
end Go.Proofs.YtoooohgejkebjaaGreatDoor.Aes

