/-
  Texts behind one another: the symbolic simulator and what it is told of the program.
-/
import Derived.Test.YtmekechnnfhhkaaDoorPk5
import Derived.WideShapes
import Derived.ChangeShapes
import Derived.ChangeSlices
import Derived.Deep.Strs
import Derived.Shelf.SlSortCmp.WholeK
import Derived.Ground.SlsfProg

/-
  The symbolic simulator, thirty-second part: loops of any number of rounds.
-/
namespace Go.Sim
variable {α : Type}

/- A state of which some temporaries are known: where a loop's round begins. -/
structure SP where
  fn : FuncId
  tmps : List (Option SV)
  todo : List SItem
  defers : List SD
  roundOf : Option Nat
/-- an entry; a loop's record of which some temporaries are known -/
inductive HP where
  | ent (e : SO)
  | loop (state : LoopState) (pending : Option Code) (fn : FuncId) (tmps : List (Option SV)) (params : Array Tmp) (assign body : Code) (defers : Nat)
structure Cut where
  frames : List SP
  heap : List HP
/-- what nobody looks at -/
structure Junk where
  fr : Nat → Nat → Value
  hp : Nat → Nat → Value
noncomputable def fillT (js : Nat → Value) (T : List (Option SV)) : Nat → List SV :=
  List.rec (motive := fun _ => Nat → List SV) (fun _ => []) (fun o _ ih k => optC o (.val (js k)) (fun v => v) :: ih (Nat.succ k)) T
noncomputable def SP.fill (js : Nat → Value) (p : SP) : SF := ⟨p.fn, fillT js p.tmps 0, p.todo, p.defers, p.roundOf⟩
noncomputable def fillFs (J : Nat → Nat → Value) (l : List SP) : Nat → List SF := List.rec (motive := fun _ => Nat → List SF) (fun _ => []) (fun p _ ih i => p.fill (J i) :: ih (Nat.succ i)) l
noncomputable def HP.fill (js : Nat → Value) (E : HP) : SO := HP.rec (motive := fun _ => SO) (fun e => e) (fun s p f T ps a b d => .loop s p f (fillT js T 0) ps a b d) E
noncomputable def fillHs (J : Nat → Nat → Value) (l : List HP) : Nat → List SO := List.rec (motive := fun _ => Nat → List SO) (fun _ => []) (fun p _ ih i => p.fill (J i) :: ih (Nat.succ i)) l
noncomputable def Cut.fill (J : Junk) (C : Cut) : SS := ⟨fillFs J.fr C.frames 0, fillHs J.hp C.heap 0⟩

/- Names turned. -/
def SItem.ren (f : Nat → Nat) : SItem → SItem
  | .inRF n => .inRF (f n)
  | .endRF n => .endRF (f n)
  | x => x
def SD.ren (f : Nat → Nat) : SD → SD
  | .coll n => .coll (f n)
  | .call g xs ys => .call (g.ren f) (SV.renL f xs) (SV.renL f ys)
theorem ItemRel.ren {β : Val} (f : Nat → Nat) {x : SItem} {y : Item} (h : ItemRel β (x.ren f) y) : ItemRel (fun n => β (f n)) x y := by
  cases x <;> cases y <;> exact h
theorem TodoRel.ren {β : Val} (f : Nat → Nat) : ∀ {x : List SItem} {y : List Item}, TodoRel β (x.map (SItem.ren f)) y → TodoRel (fun n => β (f n)) x y
  | [], [], _ => trivial
  | _ :: _, _ :: _, h => ⟨ItemRel.ren f h.1, TodoRel.ren f h.2⟩
  | [], _ :: _, h => h.elim
  | _ :: _, [], h => h.elim
theorem SD.den_ren (f : Nat → Nat) (β : Val) (d : SD) : (d.ren f).den β = d.den (fun n => β (f n)) := by
  cases d with
  | coll n => rfl
  | call g xs ys => simp only [SD.ren, SD.den, SFn.den_ren, SV.denL_ren]
theorem SD.denL_ren (f : Nat → Nat) (β : Val) : ∀ l : List SD, SD.denL β (l.map (SD.ren f)) = SD.denL (fun n => β (f n)) l
  | [] => rfl
  | d :: l => by simp only [List.map_cons, SD.denL, SD.den_ren, SD.denL_ren f β l]

/- What a state comes to, az a cut with other names. -/
def GenT (f : Nat → Nat) : List SV → List (Option SV) → Prop
  | v :: vs, some u :: us => v.Imp (u.ren f) ∧ GenT f vs us
  | _ :: vs, none :: us => GenT f vs us
  | [], [] => True
  | _, _ => False
structure GenF (f : Nat → Nat) (s : SF) (p : SP) : Prop where
  fn : s.fn = p.fn
  tmps : GenT f s.tmps p.tmps
  todo : s.todo = p.todo.map (SItem.ren f)
  defers : s.defers = p.defers.map (SD.ren f)
  roundOf : s.roundOf = p.roundOf.map f
def GenFs (f : Nat → Nat) : List SF → List SP → Prop
  | s :: ss, p :: ps => GenF f s p ∧ GenFs f ss ps
  | [], [] => True
  | _, _ => False
def GenE (f : Nat → Nat) (e : Option SO) (E : HP) : Prop :=
  match E with
  | .ent (.own c w el) => ∃ c0, e = some (.own c0 w el) ∧ c0.Imp (c.ren f)
  | .ent (.row c) => ∃ c0, e = some (.row c0) ∧ c0.Imp (c.ren f)
  | .ent (.deferred ds) => e = some (.deferred (ds.map (List.map (SD.ren f))))
  | .ent (.obj o) => ∃ o0, e = some (.obj o0) ∧ o0.Imp (o.ren f)
  | .ent .gone => True
  | .ent (.loop ..) => False
  | .loop s p g T ps a b d => ∃ T0, e = some (.loop s p g T0 ps a b (f d)) ∧ GenT f T0 T
/-- the names, and what is beyond -/
noncomputable def nameOf (names : List Nat) (N j : Nat) : Nat := optC (nth names j) (Nat.add N j) fun n => n
structure Gen (k0 : Nat) (s : SS) (C : Cut) (names : List Nat) : Prop where
  keep : ∀ j, j < k0 → names[j]? = some j
  nodup : names.Nodup
  len : names.length = C.heap.length
  frames : GenFs (nameOf names s.heap.length) s.frames C.frames
  heap : ∀ j E, C.heap[j]? = some E → GenE (nameOf names s.heap.length) s.heap[nameOf names s.heap.length j]? E
/-- names that a run has had from its start lie ahead of k0 -/
structure BaseOK (k0 : Nat) (B : Base) : Prop where
  fix : ∀ n, k0 ≤ n → B.fix n = none
  glob : ∀ g nm, B.glob g = some nm → nm < k0

theorem fillT_den {β β' : Val} {f : Nat → Nat} (hβ : β' = fun n => β (f n)) {js : Nat → Value} : ∀ {vs : List SV} {T : List (Option SV)} {xs : List Value} {o : Nat}, SV.denL β vs = some xs → GenT f vs T → (∀ k x, xs[k]? = some x → js (o + k) = x) → SV.denL β' (fillT js T o) = some xs
  | [], [], xs, o, h, _, _ => h
  | v :: vs, u :: us, xs, o, h, hg, hj => by
    obtain ⟨y, ys, hy, hys, rfl⟩ := denL_cons.1 h
    have hj' : ∀ k x, ys[k]? = some x → js (o + 1 + k) = x := fun k x hk => by
      rw [show o + 1 + k = o + (k + 1) from by omega]; exact hj (k + 1) x (by simpa using hk)
    cases u with
    | some u =>
      refine denL_cons.2 ⟨y, ys, ?_, fillT_den hβ hys hg.2 hj', rfl⟩
      show u.den β' = _
      rw [hβ, ← SV.den_ren]; exact hg.1 _ _ hy
    | none =>
      refine denL_cons.2 ⟨y, ys, ?_, fillT_den hβ hys hg hj', rfl⟩
      show some (js o) = _
      rw [show o = o + 0 from rfl, hj 0 y rfl]
  | [], _ :: _, _, _, _, h, _ => h.elim
  | _ :: _, [], _, _, _, h, _ => h.elim

theorem nameOf_lt {names : List Nat} {N j : Nat} (h : j < names.length) : names[j]? = some (nameOf names N j) := by
  unfold nameOf
  rw [nth_eq, List.getElem?_eq_getElem h]; rfl
theorem nameOf_ge {names : List Nat} {N j : Nat} (h : names.length ≤ j) : nameOf names N j = N + j := by
  unfold nameOf
  rw [nth_eq, List.getElem?_eq_none h]; rfl
theorem fillHs_get (J : Nat → Nat → Value) : ∀ (l : List HP) (o i : Nat), (fillHs J l o)[i]? = l[i]?.map (HP.fill (J (o + i)))
  | [], _, _ => by simp [fillHs]
  | _ :: _, _, 0 => rfl
  | _ :: l, o, i + 1 => by
    show (fillHs J l (o + 1))[i]? = _
    rw [fillHs_get J l (o + 1) i, show o + 1 + i = o + (i + 1) from by omega]; simp
theorem fillHs_length (J : Nat → Nat → Value) : ∀ (l : List HP) (o : Nat), (fillHs J l o).length = l.length
  | [], _ => rfl
  | _ :: l, o => congrArg (· + 1) (fillHs_length J l (o + 1))
theorem HP.owned_fill {f : Nat → Nat} {js : Nat → Value} {e : Option SO} {E : HP} (h : GenE f e E) (ho : (E.fill js).owned = true) : ∃ e0, e = some e0 ∧ e0.owned = true := by
  cases E with
  | ent E =>
    cases E with
    | own c w el => obtain ⟨c0, rfl, _⟩ := h; exact ⟨_, rfl, rfl⟩
    | row c => cases ho
    | loop => exact h.elim
    | deferred ds => have h : e = _ := h; subst h; exact ⟨_, rfl, rfl⟩
    | gone => cases ho
    | obj o => obtain ⟨o0, rfl, _⟩ := h; exact ⟨_, rfl, rfl⟩
  | loop s p g T ps a b d => obtain ⟨T0, rfl, _⟩ := h; exact ⟨_, rfl, rfl⟩

theorem framesRel_fill {β β' : Val} {f : Nat → Nat} (hβ : β' = fun n => β (f n)) {J : Nat → Nat → Value} : ∀ {ss : List SF} {ps : List SP} {fs : List Frame} {o : Nat}, FramesRel β ss fs → GenFs f ss ps → (∀ i fr, fs[i]? = some fr → ∀ k x, fr.tmps.toList[k]? = some x → J (o + i) k = x) → FramesRel β' (fillFs J ps o) fs
  | [], [], [], o, _, _, _ => trivial
  | s :: ss, p :: ps, fr :: fs, o, h, hg, hj => by
    have h0 := hj 0 fr rfl
    refine ⟨?_, framesRel_fill hβ h.2 hg.2 fun i fr' hi k x hk => ?_⟩
    · obtain ⟨h1, h2, h3, h4, h5, h6, h7⟩ := h.1
      obtain ⟨g1, g2, g3, g4, g5⟩ := hg.1
      refine ⟨h1.trans g1, ?_, ?_, ?_, h5, h6, ?_⟩
      · exact fillT_den hβ h2 g2 fun k x hk => by rw [Nat.zero_add]; exact h0 k x hk
      · rw [hβ]; rw [g3] at h3; exact TodoRel.ren f h3
      · show SD.denL β' p.defers = _
        rw [hβ, ← SD.denL_ren, ← g4]; exact h4
      · show RoundRel β' p.roundOf fr.roundOf
        rw [hβ]
        rw [g5] at h7
        cases hp : p.roundOf <;> cases hr : fr.roundOf <;> rw [hp, hr] at h7 <;> exact h7
    · rw [show o + 1 + i = o + (i + 1) from by omega]
      exact hj (i + 1) fr' (by simpa using hi) k x hk
  | [], _ :: _, _, _, _, h, _ => h.elim
  | _ :: _, [], _, _, _, h, _ => h.elim
  | [], [], _ :: _, _, h, _, _ => h.elim
  | _ :: _, _ :: _, [], _, h, _, _ => h.elim

theorem Cells.den_ren (f : Nat → Nat) {β : Val} {c : Cells} {vs : List Value} (h : CellsRel β (c.ren f) vs) : CellsRel (fun n => β (f n)) c vs := by
  cases c with
  | lst l =>
    have h : SV.denL β (SV.renL f l) = some vs := h
    rw [SV.denL_ren] at h; exact h
  | fn g n =>
    obtain ⟨h1, h2⟩ := h
    refine ⟨h1, fun i x hx => ?_⟩
    have := h2 i x hx
    rw [SV.den_ren] at this; exact this
  | raw V n => exact h

/-- A STATE IS A CUT, with what nobody looks at filled in -/
theorem gen_rel {B : Base} {k0 : Nat} (hB : BaseOK k0 B) {s : SS} {C : Cut} {names : List Nat} (h : Gen k0 s C names) {m : Machine} (hM : MRel B s m) : ∃ J, MRel B (C.fill J) m := by
  obtain ⟨β, fr, frs, w, rfl, hFs, hH, hG, hl⟩ := hM.ex
  obtain ⟨hkeep, hnd, hlen, hgf, hgh⟩ := h
  generalize hf : nameOf names s.heap.length = f at hgf hgh
  have hlt : ∀ j, j < names.length → names[j]? = some (f j) := fun j hj => by rw [← hf]; exact nameOf_lt hj
  have hge : ∀ j, names.length ≤ j → f j = s.heap.length + j := fun j hj => by rw [← hf]; exact nameOf_ge hj
  have hid : ∀ j, j < k0 → f j = j := fun j hj => by
    have h1 := hkeep j hj
    have h2 := (List.getElem?_eq_some_iff.1 h1).1
    rw [hlt j h2] at h1; exact Option.some.inj h1
  have hinj : ∀ i j, i < names.length → j < names.length → f i = f j → i = j := fun i j hi hj he => by
    have h1 := hlt i hi
    have h2 := hlt j hj
    rw [he] at h1
    exact (List.getElem?_inj hi hnd).1 (h1.trans h2.symm)
  let J : Junk := ⟨fun i k => (((fr :: frs)[i]?).bind fun g => g.tmps.toList[k]?).getD undef, fun j k => ((β (f j)).bind fun l => match w.heap[l.blk]? with | some (.loop r) => r.tmps.toList[k]? | _ => none).getD undef⟩
  have hent : ∀ j e, (fillHs J.hp C.heap 0)[j]? = some e → ∃ E : HP, C.heap[j]? = some E ∧ e = E.fill (J.hp j) := fun j e he => by
    rw [fillHs_get, Nat.zero_add] at he
    cases hE : C.heap[j]? with
    | none => rw [hE] at he; cases he
    | some E => rw [hE] at he; exact ⟨E, rfl, (Option.some.inj he).symm⟩
  have hjl : ∀ j E, C.heap[j]? = some E → j < names.length := fun j E h => by rw [hlen]; exact (List.getElem?_eq_some_iff.1 h).1
  refine ⟨J, ⟨fun n => β (f n), fr, frs, w, rfl, ?_, ⟨⟨?_, ?_, ?_, hH.keep⟩, ?_⟩, ⟨?_, ?_⟩, hl⟩⟩
  · refine framesRel_fill rfl hFs hgf fun i g hi k x hk => ?_
    show (((fr :: frs)[0 + i]?).bind fun g => g.tmps.toList[k]?).getD undef = x
    rw [Nat.zero_add, hi]
    show (g.tmps.toList[k]?).getD undef = x
    rw [hk]; rfl
  · intro j e he
    obtain ⟨E, hE, rfl⟩ := hent j e he
    have hg := hgh j E hE
    have hold := hH.entries (f j)
    cases E with
    | ent E =>
      cases E with
      | own c wh el =>
        obtain ⟨c0, h1, hi⟩ := hg
        obtain ⟨l, vs, rest, lo, hi2, hl2, h0, hc, hh, hz, hw, hcap⟩ := hold _ h1
        exact ⟨l, vs, rest, lo, hi2, hl2, h0, Cells.den_ren f (hi _ _ hc), hh, hz, hw, hcap⟩
      | row c =>
        obtain ⟨c0, h1, hi⟩ := hg
        obtain ⟨l, vs, hl2, hc, hx⟩ := hold _ h1
        exact ⟨l, vs, hl2, Cells.den_ren f (hi _ _ hc), hx⟩
      | loop => exact hg.elim
      | deferred ds =>
        obtain ⟨l, ds', hl2, hd, hh⟩ := hold _ hg
        refine ⟨l, ds', hl2, ?_, hh⟩
        cases ds with
        | none => exact hd
        | some ds =>
          have hd : (SD.denL β (ds.map (SD.ren f))).map some = some ds' := hd
          rw [SD.denL_ren] at hd; exact hd
      | gone => trivial
      | obj o =>
        obtain ⟨o0, h1, hi⟩ := hg
        obtain ⟨l, x, hl2, h0, hd, hh⟩ := hold _ h1
        refine ⟨l, x, hl2, h0, ?_, hh⟩
        rw [← SObj.den_ren]
        exact hi _ _ hd
    | loop st p g T ps a b d =>
      obtain ⟨T0, h1, hT⟩ := hg
      obtain ⟨l, ld, Ts, hl2, hd, hTs, hh⟩ := hold _ h1
      refine ⟨l, ld, Ts, hl2, hd, ?_, hh⟩
      refine fillT_den rfl hTs hT fun k x hk => ?_
      show ((β (f j)).bind fun l => _).getD undef = x
      rw [hl2]
      simp only [Option.bind_some, hh, Nat.zero_add, hk]
      rfl
  · intro i j e e' l l' hi hj ho ho' hij hl1 hl2
    obtain ⟨E, hE, rfl⟩ := hent i e hi
    obtain ⟨E', hE', rfl⟩ := hent j e' hj
    obtain ⟨e0, h1, h2⟩ := HP.owned_fill (hgh i E hE) ho
    obtain ⟨e1, h3, h4⟩ := HP.owned_fill (hgh j E' hE') ho'
    exact hH.sep (f i) (f j) e0 e1 l l' h1 h3 h2 h4 (fun he => hij (hinj i j (hjl i E hE) (hjl j E' hE') he)) hl1 hl2
  · intro j e l he ho hl1
    obtain ⟨E, hE, rfl⟩ := hent j e he
    obtain ⟨e0, h1, h2⟩ := HP.owned_fill (hgh j E hE) ho
    exact hH.fresh (f j) e0 l h1 h2 hl1
  · intro n hn
    have hn : (fillHs J.hp C.heap 0).length ≤ n := hn
    rw [fillHs_length, ← hlen] at hn
    show β (f n) = none
    rw [hge n hn]
    exact hH.bound _ (Nat.le_add_right _ _)
  · intro g nm hg
    obtain ⟨l, h1, h2⟩ := hG.glob g nm hg
    exact ⟨l, by show β (f nm) = some l; rw [hid nm (hB.glob g nm hg)]; exact h1, h2⟩
  · intro n l hn
    show β (f n) = some l
    by_cases hk : n < k0
    · rw [hid n hk]; exact hG.fix n l hn
    · rw [hB.fix n (by omega)] at hn; cases hn

/- The rule. -/
/-- the state is the beginning of a round -/
def Turns {A : Type} (k0 : Nat) (C : A → Cut) (Q : A → Prop) (s : SS) : Prop := ∀ B m, BaseOK k0 B → MRel B s m → ∃ a J, Q a ∧ MRel B ((C a).fill J) m
theorem turns_of {A : Type} {k0 : Nat} {C : A → Cut} {Q : A → Prop} {s : SS} (a : A) (hq : Q a) (names : List Nat) (h : Gen k0 s (C a) names) : Turns k0 C Q s :=
  fun _ _ hB hM => let ⟨J, hJ⟩ := gen_rel hB h hM; ⟨a, J, hq, hJ⟩
/-- the same, with another place to stop -/
def Cfg.at (c : Cfg) (st : Option (Nat × Nat)) : Cfg := { P := c.P, glob := c.glob, sums := c.sums, stopAt := st }
theorem CfgOK.at {c : Cfg} (hc : CfgOK c) (st : Option (Nat × Nat)) : CfgOK (c.at st) := ⟨hc.prog, hc.sums⟩
theorem loop_ends {c : Cfg} (hc : CfgOK c) {B : Base} {k0 : Nat} (hB : BaseOK k0 B) (hP : B.P = c.P) (hgl : B.glob = c.glob) {A : Type} (C : A → Cut) (OK : A → Prop) (μ : A → Nat) {D : SV → List SO → Prop}
    (hs : ∀ a, OK a → ∀ J, ∃ st n, (sim1 (c.at st) n ((C a).fill J)).Ob D (Turns k0 C fun a' => OK a' ∧ μ a' < μ a)) :
    ∀ (k : Nat) (a : A) (J : Junk) (m : Machine), μ a < k → OK a → MRel B ((C a).fill J) m → ∃ m' v H, Steps B.P m m' ∧ D v H ∧ DoneRel B v H m' := by
  intro k
  induction k with
  | zero => intro a J m h; omega
  | succ k ih =>
    intro a J m hk ha hM
    obtain ⟨st, n, hs'⟩ := hs a ha J
    obtain ⟨m1, hst, ⟨v, H, hD, hdone⟩ | ⟨s, hS, hM1⟩⟩ := sim1_sound (B := B) (hc.at st) hP hgl hM hs'
    · exact ⟨m1, v, H, hst, hD, hdone⟩
    · obtain ⟨a', J', ⟨ha', hμ⟩, hM2⟩ := hS B m1 hB hM1
      obtain ⟨m2, v, H, hst2, hD, hdone⟩ := ih a' J' m1 (by omega) ha' hM2
      exact ⟨m2, v, H, hst.trans hst2, hD, hdone⟩

/-- a function comes to its end, with such a value and such entries -/
def Runs (c : Cfg) (f : FuncId) (args : List SV) (H : List SO) (D : SV → List SO → Prop) : Prop :=
  (∃ fn, c.P.funcs[f]? = some fn ∧ fn.body.isSome = true) ∧ ∀ (O : Nat → Prop) (w0 w : World) (β : Val) (vs : List Value), HeapRel c.P O w0 β H w → GlobRel c.glob β → SV.denL β args = some vs → Calls c.P f vs.toArray w (Came c.P O w0 β D)
theorem runs_of {c : Cfg} (hc : CfgOK c) {n : Nat} {f : FuncId} {args : List SV} {H : List SO} {D : SV → List SO → Prop} (hob : (callSim c n f args H).Ob D fun _ => False) : Runs c f args H D := by
  refine ⟨?_, fun O w0 w β vs hH hG ha => calls_of hc hH hG ha hob⟩
  unfold callSim at hob
  cases hg : enterF c.P f args with
  | none => rw [hg] at hob; exact hob.elim
  | some g => exact enterF_body hg
/-- A FUNCTION WITH A LOOP -/
theorem runs_loop {c : Cfg} (hc : CfgOK c) {A : Type} (C : A → Cut) (OK : A → Prop) (μ : A → Nat) {D : SV → List SO → Prop} {f : FuncId} {args : List SV} {H : List SO} (hgl : ∀ g nm, c.glob g = some nm → nm < H.length)
    (h0 : ∃ st n, (callSim (c.at st) n f args H).Ob D (Turns H.length C OK))
    (hs : ∀ a, OK a → ∀ J, ∃ st n, (sim1 (c.at st) n ((C a).fill J)).Ob D (Turns H.length C fun a' => OK a' ∧ μ a' < μ a)) : Runs c f args H D := by
  obtain ⟨st0, n0, h0⟩ := h0
  unfold callSim at h0
  cases hg : enterF (c.at st0).P f args with
  | none => rw [hg] at h0; exact h0.elim
  | some g =>
    rw [hg] at h0
    refine ⟨enterF_body hg, fun O w0 w β vs hH hG ha cs => ?_⟩
    have hB : BaseOK H.length ⟨c.P, c.glob, O, w0, cs, f, β⟩ := ⟨hH.bound, hgl⟩
    have hend : ∀ m v H', Steps c.P (lone (Frame.enter c.P f vs.toArray .normal) cs w) m → D v H' → DoneRel ⟨c.P, c.glob, O, w0, cs, f, β⟩ v H' m →
        ∃ e w' b, Came c.P O w0 β D e w' ∧ Comes c.P (lone (Frame.enter c.P f vs.toArray .normal) cs w) (lone b cs w') e ∧ b.fn = f ∧ b.leaving c.P w' e := by
      intro m v H' hst hD hdone
      obtain ⟨β', fr, x, w', rfl, hfn, hleave, hv, hH', hG'⟩ := hdone.ex
      exact ⟨.returned x, w', fr, ⟨v, H', x, β', rfl, hD, hG'.fix, hv, hH'⟩, hst, hfn, hleave⟩
    obtain ⟨m1, hst, ⟨v, H', hD, hdone⟩ | ⟨s, hS, hM1⟩⟩ := sim_sound (B := ⟨c.P, c.glob, O, w0, cs, f, β⟩) (hc.at st0) rfl rfl n0 _ _ (enter_mrel (c := c) hH hG ha hg cs) h0
    · exact hend m1 v H' hst hD hdone
    · obtain ⟨a, J, ha', hM2⟩ := hS _ _ hB hM1
      obtain ⟨m2, v, H', hst2, hD, hdone⟩ := loop_ends hc hB rfl rfl C OK μ hs (μ a + 1) a J m1 (Nat.lt_succ_self _) ha' hM2
      exact hend m2 v H' (hst.trans hst2) hD hdone

end Go.Sim


/-
  The symbolic simulator, thirty-third part: what a round comes to, told by a closed term.
-/
namespace Go.Sim
variable {α : Type}

/- What is seen of a state: the temporaries and the entries that a cut names. -/
noncomputable def seeT (vs : List SV) : List (Option SV) → List (Option SV) :=
  List.rec (motive := fun _ => List (Option SV) → List (Option SV)) (fun _ => []) (fun v _ ih T => List.rec (motive := fun _ => List (Option SV)) (some v :: ih []) (fun o r _ => optC o none (fun _ => some v) :: ih r) T) vs
noncomputable def seeF (s : SF) (p : SP) : SP := ⟨s.fn, seeT s.tmps p.tmps, s.todo, s.defers, s.roundOf⟩
noncomputable def seeFs (ss : List SF) : List SP → List SP :=
  List.rec (motive := fun _ => List SP → List SP) (fun _ => []) (fun s _ ih ps => List.rec (motive := fun _ => List SP) (⟨s.fn, seeT s.tmps [], s.todo, s.defers, s.roundOf⟩ :: ih []) (fun p r _ => seeF s p :: ih r) ps) ss
noncomputable def seeL (e : SO) (T : List (Option SV)) : HP := SO.rec (motive := fun _ => HP) (fun c w el => .ent (.own c w el)) (fun c => .ent (.row c)) (fun s p f T0 ps a b d => .loop s p f (seeT T0 T) ps a b d) (fun ds => .ent (.deferred ds)) (.ent .gone) (fun o => .ent (.obj o)) e
noncomputable def goneB (e : SO) : Bool := SO.rec (motive := fun _ => Bool) (fun _ _ _ => false) (fun _ => false) (fun _ _ _ _ _ _ _ _ => false) (fun _ => false) true (fun _ => false) e
noncomputable def seeE (e : Option SO) (E : HP) : Option HP := HP.rec (motive := fun _ => Option HP) (fun E0 => boolC (goneB E0) (some (.ent .gone)) (optC e none fun e => some (.ent e))) (fun _ _ _ T _ _ _ _ => optC e none fun e => some (seeL e T)) E
noncomputable def seeHs (H : List SO) (names : List Nat) : List HP → List (Option HP) :=
  List.rec (motive := fun _ => List HP → List (Option HP)) (fun _ => []) (fun n _ ih Es => List.rec (motive := fun _ => List (Option HP)) [] (fun E r _ => seeE (nth H n) E :: ih r) Es) names
abbrev Seen := List SP × Nat × List (Option HP)
noncomputable def viewS (M : Cut) (names : List Nat) (s : SS) : Seen := (seeFs s.frames M.frames, lenN s.heap, seeHs s.heap names M.heap)

/- A cut under other names. -/
noncomputable def renT (f : Nat → Nat) (T : List (Option SV)) : List (Option SV) := mapN (fun o => optC o none fun v => some (v.ren f)) T
noncomputable def SP.ren (f : Nat → Nat) (p : SP) : SP := ⟨p.fn, renT f p.tmps, mapN (SItem.ren f) p.todo, mapN (SD.ren f) p.defers, optC p.roundOf none fun n => some (f n)⟩
noncomputable def HP.ren (f : Nat → Nat) (E : HP) : HP :=
  HP.rec (motive := fun _ => HP) (fun e => SO.rec (motive := fun _ => HP) (fun c w el => .ent (.own (c.ren f) w el)) (fun c => .ent (.row (c.ren f))) (fun s p g T ps a b d => .ent (.loop s p g T ps a b d)) (fun ds => .ent (.deferred (optC ds none fun l => some (mapN (SD.ren f) l)))) (.ent .gone) (fun o => .ent (.obj (o.ren f))) e)
    (fun s p g T ps a b d => .loop s p g (renT f T) ps a b (f d)) E
noncomputable def seenC (names : List Nat) (N : Nat) (C : Cut) : Seen := (mapN (SP.ren (nameOf names N)) C.frames, N, mapN (fun E => some (E.ren (nameOf names N))) C.heap)

/- What is seen bears what the cut says. -/
def ImpT (f : Nat → Nat) : List (Option SV) → List (Option SV) → Prop
  | some v :: vs, some u :: us => v.Imp (u.ren f) ∧ ImpT f vs us
  | none :: vs, none :: us => ImpT f vs us
  | [], [] => True
  | _, _ => False
structure ImpF (f : Nat → Nat) (s p : SP) : Prop where
  fn : s.fn = p.fn
  tmps : ImpT f s.tmps p.tmps
  todo : s.todo = p.todo.map (SItem.ren f)
  defers : s.defers = p.defers.map (SD.ren f)
  roundOf : s.roundOf = p.roundOf.map f
def ImpFs (f : Nat → Nat) : List SP → List SP → Prop
  | s :: ss, p :: ps => ImpF f s p ∧ ImpFs f ss ps
  | [], [] => True
  | _, _ => False
def ImpE (f : Nat → Nat) (e : Option HP) (E : HP) : Prop :=
  match E with
  | .ent (.own c w el) => ∃ c0, e = some (.ent (.own c0 w el)) ∧ c0.Imp (c.ren f)
  | .ent (.row c) => ∃ c0, e = some (.ent (.row c0)) ∧ c0.Imp (c.ren f)
  | .ent (.deferred ds) => e = some (.ent (.deferred (ds.map (List.map (SD.ren f)))))
  | .ent (.obj o) => ∃ o0, e = some (.ent (.obj o0)) ∧ o0.Imp (o.ren f)
  | .ent .gone => True
  | .ent (.loop ..) => False
  | .loop s p g T ps a b d => ∃ T0, e = some (.loop s p g T0 ps a b (f d)) ∧ ImpT f T0 T
def ImpEs (f : Nat → Nat) : List (Option HP) → List HP → Prop
  | e :: es, E :: Es => ImpE f e E ∧ ImpEs f es Es
  | [], [] => True
  | _, _ => False
theorem seeT_gen {f : Nat → Nat} : ∀ {vs : List SV} {Tm T : List (Option SV)}, ImpT f (seeT vs Tm) T → GenT f vs T
  | [], _, [], _ => trivial
  | [], _, _ :: _, h => by cases h
  | v :: vs, [], T, h => by
    have h : ImpT f (some v :: seeT vs []) T := h
    cases T with
    | nil => exact h.elim
    | cons u us => cases u with
      | none => exact h.elim
      | some u => exact ⟨h.1, seeT_gen h.2⟩
  | v :: vs, o :: Tm, T, h => by
    have h : ImpT f (optC o none (fun _ => some v) :: seeT vs Tm) T := h
    cases T with
    | nil => cases o <;> exact h.elim
    | cons u us =>
      cases o with
      | none => cases u with
        | none => exact seeT_gen (Tm := Tm) (T := us) h
        | some u => exact h.elim
      | some o => cases u with
        | none => exact h.elim
        | some u => exact ⟨h.1, seeT_gen (Tm := Tm) (T := us) h.2⟩
theorem seeFs_gen {f : Nat → Nat} : ∀ {ss : List SF} {pm ps : List SP}, ImpFs f (seeFs ss pm) ps → GenFs f ss ps
  | [], _, [], _ => trivial
  | [], _, _ :: _, h => by cases h
  | s :: ss, [], ps, h => by
    have h : ImpFs f (⟨s.fn, seeT s.tmps [], s.todo, s.defers, s.roundOf⟩ :: seeFs ss []) ps := h
    cases ps with
    | nil => exact h.elim
    | cons p ps =>
      obtain ⟨⟨h1, h2, h3, h4, h5⟩, hr⟩ := h
      exact ⟨⟨h1, seeT_gen h2, h3, h4, h5⟩, seeFs_gen hr⟩
  | s :: ss, q :: pm, ps, h => by
    have h : ImpFs f (seeF s q :: seeFs ss pm) ps := h
    cases ps with
    | nil => exact h.elim
    | cons p ps =>
      obtain ⟨⟨h1, h2, h3, h4, h5⟩, hr⟩ := h
      exact ⟨⟨h1, seeT_gen h2, h3, h4, h5⟩, seeFs_gen hr⟩
theorem seeE_gen {f : Nat → Nat} {e : Option SO} {Em E : HP} (h : ImpE f (seeE e Em) E) : GenE f e E := by
  have hent : ∀ {e : Option SO} {e0 : SO}, e0 ≠ .gone → (∀ s p g T ps a b d, e0 ≠ .loop s p g T ps a b d) → seeE e Em = some (.ent e0) → e = some e0 := by
    intro e e0 hng hnl h
    cases Em with
    | ent Em =>
      have h : boolC (goneB Em) (some (.ent .gone)) (optC e none fun e => some (HP.ent e)) = some (.ent e0) := h
      cases hb : goneB Em with
      | true => rw [hb] at h; exact absurd (HP.ent.inj (Option.some.inj h)).symm hng
      | false =>
        rw [hb] at h
        cases e with
        | none => cases h
        | some e => rw [(HP.ent.inj (Option.some.inj h))]
    | loop s p g T ps a b d =>
      cases e with
      | none => cases h
      | some e =>
        have h : some (seeL e T) = some (HP.ent e0) := h
        have h := Option.some.inj h
        cases e with
        | loop => cases h
        | gone => exact absurd (HP.ent.inj h).symm hng
        | own => rw [← HP.ent.inj h]
        | row => rw [← HP.ent.inj h]
        | deferred => rw [← HP.ent.inj h]
        | obj => rw [← HP.ent.inj h]
  cases E with
  | ent E =>
    cases E with
    | own c w el => obtain ⟨c0, h1, h2⟩ := h; exact ⟨c0, hent (by simp) (by simp) h1, h2⟩
    | row c => obtain ⟨c0, h1, h2⟩ := h; exact ⟨c0, hent (by simp) (by simp) h1, h2⟩
    | deferred ds => exact hent (by simp) (by simp) h
    | obj o => obtain ⟨o0, h1, h2⟩ := h; exact ⟨o0, hent (by simp) (by simp) h1, h2⟩
    | gone => trivial
    | loop => exact h.elim
  | loop s p g T ps a b d =>
    obtain ⟨T0, h1, h2⟩ := h
    cases Em with
    | ent Em =>
      have h : boolC (goneB Em) (some (.ent .gone)) (optC e none fun e => some (HP.ent e)) = some (.loop s p g T0 ps a b (f d)) := h1
      cases hb : goneB Em with
      | true => rw [hb] at h; cases h
      | false => rw [hb] at h; cases e <;> cases h
    | loop s' p' g' Tm ps' a' b' d' =>
      cases e with
      | none => cases h1
      | some e =>
        have h1 : some (seeL e Tm) = some (HP.loop s p g T0 ps a b (f d)) := h1
        have h1 := Option.some.inj h1
        cases e with
        | loop s1 p1 g1 T1 ps1 a1 b1 d1 =>
          have h1 : HP.loop s1 p1 g1 (seeT T1 Tm) ps1 a1 b1 d1 = .loop s p g T0 ps a b (f d) := h1
          injection h1 with e1 e2 e3 e4 e5 e6 e7 e8
          subst e1 e2 e3 e4 e5 e6 e7 e8
          exact ⟨T1, rfl, seeT_gen h2⟩
        | own => cases h1
        | row => cases h1
        | deferred => cases h1
        | gone => cases h1
        | obj => cases h1
theorem seeHs_gen {f : Nat → Nat} {H : List SO} : ∀ {names : List Nat} {Em Es : List HP}, ImpEs f (seeHs H names Em) Es → Em.length = names.length → ∀ (j : Nat) (E : HP) (n : Nat), Es[j]? = some E → names[j]? = some n → GenE f H[n]? E
  | [], _, [], _, _, _, _, _, h, _ => by simp at h
  | [], _, _ :: _, h, _, _, _, _, _, _ => h.elim
  | n :: names, [], _, _, hl, _, _, _, _, _ => by simp at hl
  | n :: names, Em :: Ems, Es, h, hl, j, E, m, hE, hm => by
    have h : ImpEs f (seeE (nth H n) Em :: seeHs H names Ems) Es := h
    cases Es with
    | nil => exact h.elim
    | cons E0 Es =>
      cases j with
      | zero =>
        simp at hE hm
        subst hE hm
        have := seeE_gen h.1
        rwa [nth_eq] at this
      | succ j => exact seeHs_gen h.2 (by simpa using hl) j E m (by simpa using hE) (by simpa using hm)
/- The same under other names. -/
theorem impT_ren (f : Nat → Nat) : ∀ T : List (Option SV), ImpT f (renT f T) T
  | [] => trivial
  | some _ :: T => ⟨.refl _, impT_ren f T⟩
  | none :: T => impT_ren f T
theorem impFs_ren (f : Nat → Nat) : ∀ ps : List SP, ImpFs f (mapN (SP.ren f) ps) ps
  | [] => trivial
  | p :: ps => ⟨⟨rfl, impT_ren f _, by show mapN _ _ = _; rw [mapN_eq], by show mapN _ _ = _; rw [mapN_eq], by show optC p.roundOf none _ = _; cases p.roundOf <;> rfl⟩, impFs_ren f ps⟩
theorem impE_ren (f : Nat → Nat) (E : HP) (h : ∀ s p g T ps a b d, E ≠ .ent (.loop s p g T ps a b d)) : ImpE f (some (E.ren f)) E := by
  cases E with
  | ent e =>
    cases e with
    | own c w el => exact ⟨_, rfl, .refl _⟩
    | row c => exact ⟨_, rfl, .refl _⟩
    | deferred ds =>
      show some (HP.ent (.deferred (optC ds none fun l => some (mapN (SD.ren f) l)))) = _
      cases ds with
      | none => rfl
      | some l => rw [optC_some, mapN_eq]; rfl
    | gone => trivial
    | obj o => exact ⟨_, rfl, fun _ _ h => h⟩
    | loop => exact absurd rfl (h _ _ _ _ _ _ _ _)
  | loop s p g T ps a b d => exact ⟨_, rfl, impT_ren f T⟩
noncomputable def noLoopE (E : HP) : Bool := HP.rec (motive := fun _ => Bool) (fun e => SO.rec (motive := fun _ => Bool) (fun _ _ _ => true) (fun _ => true) (fun _ _ _ _ _ _ _ _ => false) (fun _ => true) true (fun _ => true) e) (fun _ _ _ _ _ _ _ _ => true) E
theorem impEs_ren (f : Nat → Nat) : ∀ Es : List HP, allN noLoopE Es = true → ImpEs f (mapN (fun E => some (E.ren f)) Es) Es
  | [], _ => trivial
  | E :: Es, h => by
    have h' := allN_spec _ _ h
    refine ⟨impE_ren f E fun s p g T ps a b d he => ?_, impEs_ren f Es ?_⟩
    · have := h' E List.mem_cons_self
      rw [he] at this; cases this
    · have h : boolC (noLoopE E) (allN noLoopE Es) false = true := h
      cases hb : noLoopE E with
      | true => rw [hb] at h; exact h
      | false => rw [hb] at h; cases h
/-- the names: those ahead of k0 az they were, none twice -/
noncomputable def nodupN (l : List Nat) : Bool := List.rec (motive := fun _ => Bool) true (fun a r ih => boolC (memN a r) false ih) l
noncomputable def keepN (l : List Nat) : Nat → Nat → Bool := List.rec (motive := fun _ => Nat → Nat → Bool) (fun k i => Nat.ble k i) (fun a _ ih k i => boolC (Nat.ble k i) true (boolC (Nat.beq a i) (ih k (Nat.succ i)) false)) l
noncomputable def namesOK (k0 : Nat) (names : List Nat) (M C : Cut) : Bool := boolC (nodupN names) (boolC (keepN names k0 0) (boolC (Nat.beq (lenN names) (lenN C.heap)) (Nat.beq (lenN names) (lenN M.heap)) false) false) false
theorem nodupN_spec : ∀ l : List Nat, nodupN l = true → l.Nodup
  | [], _ => by simp
  | a :: r, h => by
    have h : boolC (memN a r) false (nodupN r) = true := h
    cases hm : memN a r with
    | true => rw [hm] at h; cases h
    | false =>
      rw [hm] at h
      refine List.nodup_cons.2 ⟨fun hin => ?_, nodupN_spec r h⟩
      rw [memN_iff.2 hin] at hm; cases hm
theorem keepN_spec : ∀ (l : List Nat) (k i : Nat), keepN l k i = true → ∀ j, i + j < k → l[j]? = some (i + j)
  | [], k, i, h, j, hj => by
    have := Nat.le_of_ble_eq_true (show Nat.ble k i = true from h)
    omega
  | a :: r, k, i, h, j, hj => by
    have h : boolC (Nat.ble k i) true (boolC (Nat.beq a i) (keepN r k (i + 1)) false) = true := h
    cases hk : Nat.ble k i with
    | true => have := Nat.le_of_ble_eq_true hk; omega
    | false =>
      rw [hk, boolC_false] at h
      cases ha : Nat.beq a i with
      | false => rw [ha] at h; cases h
      | true =>
        rw [ha] at h
        have := Nat.eq_of_beq_eq_true ha
        subst this
        cases j with
        | zero => rfl
        | succ j =>
          have := keepN_spec r k (a + 1) h j (by omega)
          rw [List.getElem?_cons_succ, this]
          congr 1; omega
theorem boolC3 {b : Bool} {t : Bool} (h : boolC b t false = true) : b = true ∧ t = true := by cases b <;> first | exact ⟨rfl, h⟩ | cases h
theorem gen_view {k0 : Nat} {s : SS} {C M : Cut} {names : List Nat} {F : List SP} {N : Nat} {es : List (Option HP)} (hv : viewS M names s = (F, N, es)) (hn : namesOK k0 names M C = true) (hF : ImpFs (nameOf names N) F C.frames) (hE : ImpEs (nameOf names N) es C.heap) : Gen k0 s C names := by
  obtain ⟨h1, h2⟩ := Prod.mk.inj (show (_, _, _) = (F, N, es) from hv)
  obtain ⟨h2, h3⟩ := Prod.mk.inj h2
  rw [lenN_eq] at h2
  obtain ⟨n1, n2⟩ := boolC3 hn
  obtain ⟨n2, n3⟩ := boolC3 n2
  obtain ⟨n3, n4⟩ := boolC3 n3
  have l1 := Nat.eq_of_beq_eq_true n3
  have l2 := Nat.eq_of_beq_eq_true n4
  rw [lenN_eq, lenN_eq] at l1 l2
  subst h2
  refine ⟨fun j hj => ?_, nodupN_spec _ n1, l1, ?_, fun j E hj => ?_⟩
  · have := keepN_spec names k0 0 n2 j (by omega)
    rwa [Nat.zero_add] at this
  · rw [← h1] at hF; exact seeFs_gen hF
  · rw [← h3] at hE
    have hlt : j < names.length := by rw [l1]; exact (List.getElem?_eq_some_iff.1 hj).1
    exact seeHs_gen hE l2.symm j E _ hj (nameOf_lt hlt)
theorem gen_same {k0 : Nat} {s : SS} {C M : Cut} {names : List Nat} {N : Nat} (hv : viewS M names s = seenC names N C) (hn : boolC (namesOK k0 names M C) (allN noLoopE C.heap) false = true) : Gen k0 s C names :=
  gen_view hv (boolC3 hn).1 (impFs_ren _ _) (impEs_ren _ _ (boolC3 hn).2)

/-- what is seen, but for an entry -/
noncomputable def setSeen (i : Nat) (E : HP) (V : Seen) : Seen := (V.1, V.2.1, setN V.2.2 i (some E))
theorem impEs_set {f : Nat → Nat} : ∀ {es : List (Option HP)} {Es : List HP} (i : Nat) {E : HP}, ImpEs f es Es → (∀ E0, Es[i]? = some E0 → ImpE f (some E) E0) → ImpEs f (setN es i (some E)) Es
  | [], [], _, _, _, _ => trivial
  | e :: es, E0 :: Es, 0, E, h, h0 => ⟨h0 E0 rfl, h.2⟩
  | e :: es, E0 :: Es, i + 1, E, h, h0 => ⟨h.1, impEs_set i h.2 fun E1 h1 => h0 E1 (by simpa using h1)⟩
  | [], _ :: _, _, _, h, _ => h.elim
  | _ :: _, [], _, _, h, _ => h.elim

/-- what is seen, but for some temporaries and entries -/
noncomputable def setF (p : SP) (j : Nat) (v : SV) : SP := ⟨p.fn, setN p.tmps j (some v), p.todo, p.defers, p.roundOf⟩
noncomputable def setTmp (i j : Nat) (v : SV) (V : Seen) : Seen := (optC (nth V.1 i) V.1 fun p => setN V.1 i (setF p j v), V.2.1, V.2.2)
noncomputable def modSeen (ms : List (Nat × Nat × SV)) (es : List (Nat × HP)) (V : Seen) : Seen :=
  List.rec (motive := fun _ => Seen) (List.rec (motive := fun _ => Seen) V (fun m _ ih => setTmp m.1 m.2.1 m.2.2 ih) ms) (fun e _ ih => setSeen e.1 e.2 ih) es
theorem impT_set {f : Nat → Nat} : ∀ {vs us : List (Option SV)} (j : Nat) {v : SV}, ImpT f vs us → (∀ u, us[j]? = some u → ∃ w, u = some w ∧ v.Imp (w.ren f)) → ImpT f (setN vs j (some v)) us
  | some _ :: vs, some u :: us, 0, v, h, h0 => let ⟨w, e, hw⟩ := h0 _ rfl; ⟨by cases e; exact hw, h.2⟩
  | none :: vs, none :: us, 0, v, h, h0 => let ⟨_, e, _⟩ := h0 _ rfl; by cases e
  | some _ :: vs, some u :: us, j + 1, v, h, h0 => ⟨h.1, impT_set j h.2 fun w hw => h0 w (by simpa using hw)⟩
  | none :: vs, none :: us, j + 1, v, h, h0 => impT_set (vs := vs) (us := us) j h fun w hw => h0 w (by simpa using hw)
  | [], [], _, _, _, _ => trivial
  | some _ :: _, none :: _, _, _, h, _ => h.elim
  | none :: _, some _ :: _, _, _, h, _ => h.elim
  | [], _ :: _, _, _, h, _ => h.elim
  | some _ :: _, [], _, _, h, _ => False.elim h
  | none :: _, [], _, _, h, _ => False.elim h
theorem impFs_set {f : Nat → Nat} : ∀ {ss ps : List SP} (i j : Nat) {v : SV} {s : SP}, ImpFs f ss ps → ss[i]? = some s → (∀ p u, ps[i]? = some p → p.tmps[j]? = some u → ∃ w, u = some w ∧ v.Imp (w.ren f)) → ImpFs f (setN ss i (setF s j v)) ps
  | s0 :: ss, p :: ps, 0, j, v, s, h, hs, h0 => by
    simp at hs; subst hs
    obtain ⟨⟨h1, h2, h3, h4, h5⟩, hr⟩ := h
    exact ⟨⟨h1, impT_set j h2 fun u hu => h0 p u rfl hu, h3, h4, h5⟩, hr⟩
  | s0 :: ss, p :: ps, i + 1, j, v, s, h, hs, h0 => ⟨h.1, impFs_set i j h.2 (by simpa using hs) fun q u hq hu => h0 q u (by simpa using hq) hu⟩
  | [], _, _, _, _, _, _, hs, _ => by simp at hs
  | _ :: _, [], _, _, _, _, h, _, _ => h.elim
theorem gen_mod {k0 : Nat} {s : SS} {C M : Cut} {names : List Nat} {N : Nat} (ms : List (Nat × Nat × SV)) (es : List (Nat × HP)) (hv : viewS M names s = modSeen ms es (seenC names N C)) (hn : boolC (namesOK k0 names M C) (allN noLoopE C.heap) false = true)
    (hT : ∀ m ∈ ms, ∀ p u, C.frames[m.1]? = some p → p.tmps[m.2.1]? = some u → ∃ w, u = some w ∧ m.2.2.Imp (w.ren (nameOf names N))) (hE : ∀ e ∈ es, ∀ E0, C.heap[e.1]? = some E0 → ImpE (nameOf names N) (some e.2) E0) : Gen k0 s C names := by
  have key : ∀ ms : List (Nat × Nat × SV), (∀ m ∈ ms, ∀ p u, C.frames[m.1]? = some p → p.tmps[m.2.1]? = some u → ∃ w, u = some w ∧ m.2.2.Imp (w.ren (nameOf names N))) →
      ImpFs (nameOf names N) (List.rec (motive := fun _ => Seen) (seenC names N C) (fun m _ ih => setTmp m.1 m.2.1 m.2.2 ih) ms : Seen).1 C.frames ∧ (List.rec (motive := fun _ => Seen) (seenC names N C) (fun m _ ih => setTmp m.1 m.2.1 m.2.2 ih) ms : Seen).2 = (seenC names N C).2 := by
    intro ms
    induction ms with
    | nil => intro _; exact ⟨impFs_ren _ _, rfl⟩
    | cons m ms ih =>
      intro h
      obtain ⟨h1, h2⟩ := ih fun x hx => h x (List.mem_cons_of_mem _ hx)
      generalize hV : (List.rec (motive := fun _ => Seen) (seenC names N C) (fun m _ ih => setTmp m.1 m.2.1 m.2.2 ih) ms : Seen) = V at h1 h2
      show ImpFs _ (setTmp m.1 m.2.1 m.2.2 (List.rec (motive := fun _ => Seen) (seenC names N C) (fun m _ ih => setTmp m.1 m.2.1 m.2.2 ih) ms : Seen)).1 _ ∧ (setTmp m.1 m.2.1 m.2.2 (List.rec (motive := fun _ => Seen) (seenC names N C) (fun m _ ih => setTmp m.1 m.2.1 m.2.2 ih) ms : Seen)).2 = _
      rw [hV]
      refine ⟨?_, h2⟩
      show ImpFs _ (optC (nth V.1 m.1) V.1 fun p => setN V.1 m.1 (setF p m.2.1 m.2.2)) _
      cases hp : nth V.1 m.1 with
      | none => exact h1
      | some p =>
        rw [nth_eq] at hp
        exact impFs_set m.1 m.2.1 h1 hp fun q u hq hu => h m List.mem_cons_self q u hq hu
  obtain ⟨k1, k2⟩ := key ms hT
  have key2 : ∀ es : List (Nat × HP), (∀ e ∈ es, ∀ E0, C.heap[e.1]? = some E0 → ImpE (nameOf names N) (some e.2) E0) → ∀ V : Seen, V.2 = (seenC names N C).2 →
      (List.rec (motive := fun _ => Seen) V (fun e _ ih => setSeen e.1 e.2 ih) es : Seen).1 = V.1 ∧ (List.rec (motive := fun _ => Seen) V (fun e _ ih => setSeen e.1 e.2 ih) es : Seen).2.1 = N ∧ ImpEs (nameOf names N) (List.rec (motive := fun _ => Seen) V (fun e _ ih => setSeen e.1 e.2 ih) es : Seen).2.2 C.heap := by
    intro es
    induction es with
    | nil =>
      intro _ V hV
      refine ⟨rfl, ?_, ?_⟩
      · show V.2.1 = N; rw [hV]; rfl
      · show ImpEs _ V.2.2 _; rw [hV]; exact impEs_ren _ _ (boolC3 hn).2
    | cons e es ih =>
      intro h V hV
      obtain ⟨h1, h2, h3⟩ := ih (fun x hx => h x (List.mem_cons_of_mem _ hx)) V hV
      exact ⟨h1, h2, impEs_set e.1 h3 (h e List.mem_cons_self)⟩
  obtain ⟨j1, j2, j3⟩ := key2 es hE _ k2
  unfold modSeen at hv
  generalize (List.rec (motive := fun _ => Seen) (List.rec (motive := fun _ => Seen) (seenC names N C) (fun m _ ih => setTmp m.1 m.2.1 m.2.2 ih) ms) (fun e _ ih => setSeen e.1 e.2 ih) es : Seen) = V at hv j1 j2 j3
  obtain ⟨F, N', es'⟩ := V
  have j2 : N' = N := j2
  subst j2
  exact gen_view hv (boolC3 hn).1 (by rw [show F = _ from j1]; exact k1) j3
/- A run's outcome: it ends, or a round begins. -/
abbrev OutL := List Prop × Option ((SV × List (Option SO)) ⊕ Seen)
noncomputable def outL (js : List Nat) (M : Cut) (names : List Nat) (t : Tree) : List Bool → (Nat → Nat → Nat) → OutL :=
  Tree.rec (motive := fun _ => List Bool → (Nat → Nat → Nat) → OutL) (fun v H _ _ => ([], some (.inl (v, mapN (fun j => nth H j) js)))) (fun s _ _ => ([], some (.inr (viewS M names s)))) (fun p _ ih ds z => (p :: (ih ds z).1, (ih ds z).2))
    (fun b _ _ iht ihf ds z => List.rec (motive := fun _ => OutL) ([], none) (fun d r _ => ((b = d) :: (boolC d (iht r z) (ihf r z)).1, (boolC d (iht r z) (ihf r z)).2)) ds) (fun _ _ _ => ([], none)) (fun _ ih ds z => ih (z 0) ds fun i => z (i + 1)) t
theorem outL_ob {js : List Nat} {M : Cut} {names : List Nat} {t : Tree} {ds : List Bool} {ps : (Nat → Nat → Nat) → List Prop} {r : (Nat → Nat → Nat) → (SV × List (Option SO)) ⊕ Seen} (h : ∀ z, outL js M names t ds z = (ps z, some (r z))) (hp : ∀ z, ∀ p ∈ ps z, p) {D : SV → List SO → Prop} {S : SS → Prop}
    (hD : ∀ z v es, r z = .inl (v, es) → ∀ H : List SO, js.map (fun j => H[j]?) = es → D v H) (hS : ∀ z V, r z = .inr V → ∀ s, viewS M names s = V → S s) : t.Ob D S := by
  have z0 : Nat → Nat → Nat := fun _ _ => 0
  induction t generalizing ps r ds with
  | done v' H =>
    have h' : ([], some (.inl (v', mapN (fun j => nth H j) js))) = (ps z0, some (r z0)) := h z0
    have h1 := Option.some.inj (Prod.mk.inj h').2
    refine hD z0 v' _ h1.symm H ?_
    rw [mapN_eq]
    exact List.map_congr_left fun j _ => (nth_eq H j).symm
  | stop s =>
    have h' : ([], some (.inr (viewS M names s))) = (ps z0, some (r z0)) := h z0
    have h1 := Option.some.inj (Prod.mk.inj h').2
    exact hS z0 _ h1.symm s rfl
  | need p t ih =>
    have h' : ∀ z, (p :: (outL js M names t ds z).1, (outL js M names t ds z).2) = (ps z, some (r z)) := h
    refine ⟨?_, ih (ds := ds) (ps := fun z => (outL js M names t ds z).1) (r := r) (fun z => by rw [← (Prod.mk.inj (h' z)).2]) (fun z q hq => hp z q ?_) hD hS⟩
    · have := (Prod.mk.inj (h' z0)).1
      exact hp z0 p (by rw [← this]; exact List.mem_cons_self)
    · rw [← (Prod.mk.inj (h' z)).1]; exact List.mem_cons_of_mem _ hq
  | fork b t f iht ihf =>
    cases ds with
    | nil => cases (Prod.mk.inj (show ([], none) = (ps z0, some (r z0)) from h z0)).2
    | cons d rs =>
      have h' : ∀ z, ((b = d) :: (boolC d (outL js M names t rs z) (outL js M names f rs z)).1, (boolC d (outL js M names t rs z) (outL js M names f rs z)).2) = (ps z, some (r z)) := h
      have hb : b = d := hp z0 _ (by rw [← (Prod.mk.inj (h' z0)).1]; exact List.mem_cons_self)
      have hq : ∀ z, ∀ q ∈ (boolC d (outL js M names t rs z) (outL js M names f rs z)).1, q := fun z q hq => hp z q (by rw [← (Prod.mk.inj (h' z)).1]; exact List.mem_cons_of_mem _ hq)
      cases d with
      | true => exact ⟨fun _ => iht (ds := rs) (ps := fun z => (outL js M names t rs z).1) (r := r) (fun z => by rw [← (Prod.mk.inj (h' z)).2]; rfl) hq hD hS, fun hf => by rw [hf] at hb; cases hb⟩
      | false => exact ⟨fun ht => (by rw [ht] at hb; cases hb), fun _ => ihf (ds := rs) (ps := fun z => (outL js M names f rs z).1) (r := r) (fun z => by rw [← (Prod.mk.inj (h' z)).2]; rfl) hq hD hS⟩
  | stuck => cases (Prod.mk.inj (show ([], none) = (ps z0, some (r z0)) from h z0)).2
  | any k ih =>
    have h' : ∀ z, outL js M names (k (z 0)) ds (fun i => z (i + 1)) = (ps z, some (r z)) := h
    intro y
    let c : (Nat → Nat → Nat) → Nat → Nat → Nat := fun z i => Nat.rec (motive := fun _ => Nat → Nat) y (fun j _ => z j) i
    exact ih y (ds := ds) (ps := fun z => ps (c z)) (r := fun z => r (c z)) (fun z => h' (c z)) (fun z => hp (c z)) (fun z => hD (c z)) (fun z => hS (c z))
/-- a round that ends in the beginning of another -/
theorem outL_turn {A : Type} {k0 : Nat} {C : A → Cut} {Q : A → Prop} {js : List Nat} {M : Cut} {names : List Nat} {t : Tree} {ds : List Bool} {ps : List Prop} {N : Nat} {D : SV → List SO → Prop} (a : A) (hq : Q a)
    (h : ∀ z, outL js M names t ds z = (ps, some (.inr (seenC names N (C a))))) (hn : boolC (namesOK k0 names M (C a)) (allN noLoopE (C a).heap) false = true) (hp : ∀ p ∈ ps, p) : t.Ob D (Turns k0 C Q) :=
  outL_ob h (fun _ => hp) (fun _ v es h => by cases h) fun _ V h s hv => turns_of a hq names (gen_same (N := N) (by cases h; exact hv) hn)
theorem outL_turnM {A : Type} {k0 : Nat} {C : A → Cut} {Q : A → Prop} {js : List Nat} {M : Cut} {names : List Nat} {t : Tree} {ds : List Bool} {ps : List Prop} {N : Nat} {ms : List (Nat × Nat × SV)} {es : List (Nat × HP)} {D : SV → List SO → Prop} (a : A) (hq : Q a)
    (h : ∀ z, outL js M names t ds z = (ps, some (.inr (modSeen ms es (seenC names N (C a)))))) (hn : boolC (namesOK k0 names M (C a)) (allN noLoopE (C a).heap) false = true)
    (hT : ∀ m ∈ ms, ∀ p u, (C a).frames[m.1]? = some p → p.tmps[m.2.1]? = some u → ∃ w, u = some w ∧ m.2.2.Imp (w.ren (nameOf names N))) (hE : ∀ e ∈ es, ∀ E0, (C a).heap[e.1]? = some E0 → ImpE (nameOf names N) (some e.2) E0) (hp : ∀ p ∈ ps, p) : t.Ob D (Turns k0 C Q) :=
  outL_ob h (fun _ => hp) (fun _ v es h => by cases h) fun _ V h s hv => turns_of a hq names (gen_mod (N := N) ms es (by cases h; exact hv) hn hT hE)
/-- a round that ends the run -/
theorem outL_end {js : List Nat} {M : Cut} {names : List Nat} {t : Tree} {ds : List Bool} {ps : List Prop} {v : SV} {es : List (Option SO)} {D : SV → List SO → Prop} {S : SS → Prop}
    (h : ∀ z, outL js M names t ds z = (ps, some (.inl (v, es)))) (hp : ∀ p ∈ ps, p) (hD : ∀ H : List SO, js.map (fun j => H[j]?) = es → D v H) : t.Ob D S :=
  outL_ob h (fun _ => hp) (fun _ v' es' h => by cases h; exact hD) fun _ V h => by cases h

/- The same for a loop's rule, each from closed terms. -/
def TurnsTo {A : Type} (c : Cfg) (k0 : Nat) (C : A → Cut) (Q : A → Prop) (D : SV → List SO → Prop) (s : SS) : Prop := ∃ st n, (sim1 (c.at st) n s).Ob D (Turns k0 C Q)
theorem to_turn {A : Type} {c : Cfg} {k0 : Nat} {C : A → Cut} {Q : A → Prop} {D : SV → List SO → Prop} {s : SS} (st : Option (Nat × Nat)) (n : Nat) {M : Cut} {names : List Nat} {ds : List Bool} {ps : List Prop} {N : Nat} (a : A) (hq : Q a)
    (h : ∀ z, outL [] M names (sim1 (c.at st) n s) ds z = (ps, some (.inr (seenC names N (C a))))) (hn : boolC (namesOK k0 names M (C a)) (allN noLoopE (C a).heap) false = true) (hp : ∀ p ∈ ps, p) : TurnsTo c k0 C Q D s := ⟨st, n, outL_turn a hq h hn hp⟩
theorem to_end {A : Type} {c : Cfg} {k0 : Nat} {C : A → Cut} {Q : A → Prop} {D : SV → List SO → Prop} {s : SS} (st : Option (Nat × Nat)) (n : Nat) {M : Cut} {names js : List Nat} {ds : List Bool} {ps : List Prop} {v : SV} {es : List (Option SO)}
    (h : ∀ z, outL js M names (sim1 (c.at st) n s) ds z = (ps, some (.inl (v, es)))) (hp : ∀ p ∈ ps, p) (hD : ∀ H : List SO, js.map (fun j => H[j]?) = es → D v H) : TurnsTo c k0 C Q D s := ⟨st, n, outL_end h hp hD⟩
theorem to_turnM {A : Type} {c : Cfg} {k0 : Nat} {C : A → Cut} {Q : A → Prop} {D : SV → List SO → Prop} {s : SS} (st : Option (Nat × Nat)) (n : Nat) {M : Cut} {names : List Nat} {ds : List Bool} {ps : List Prop} {N : Nat} {ms : List (Nat × Nat × SV)} {es : List (Nat × HP)} (a : A) (hq : Q a)
    (h : ∀ z, outL [] M names (sim1 (c.at st) n s) ds z = (ps, some (.inr (modSeen ms es (seenC names N (C a)))))) (hn : boolC (namesOK k0 names M (C a)) (allN noLoopE (C a).heap) false = true)
    (hT : ∀ m ∈ ms, ∀ p u, (C a).frames[m.1]? = some p → p.tmps[m.2.1]? = some u → ∃ w, u = some w ∧ m.2.2.Imp (w.ren (nameOf names N))) (hE : ∀ e ∈ es, ∀ E0, (C a).heap[e.1]? = some E0 → ImpE (nameOf names N) (some e.2) E0) (hp : ∀ p ∈ ps, p) : TurnsTo c k0 C Q D s := ⟨st, n, outL_turnM a hq h hn hT hE hp⟩
def Starts {A : Type} (c : Cfg) (k0 : Nat) (C : A → Cut) (Q : A → Prop) (D : SV → List SO → Prop) (f : FuncId) (args : List SV) (H : List SO) : Prop := ∃ st n, (callSim (c.at st) n f args H).Ob D (Turns k0 C Q)
theorem to_start {A : Type} {c : Cfg} {k0 : Nat} {C : A → Cut} {Q : A → Prop} {D : SV → List SO → Prop} {f : FuncId} {args : List SV} {H : List SO} (st : Option (Nat × Nat)) (n : Nat) {M : Cut} {names : List Nat} {ds : List Bool} {ps : List Prop} {N : Nat} (a : A) (hq : Q a)
    (h : ∀ z, outL [] M names (callSim (c.at st) n f args H) ds z = (ps, some (.inr (seenC names N (C a))))) (hn : boolC (namesOK k0 names M (C a)) (allN noLoopE (C a).heap) false = true) (hp : ∀ p ∈ ps, p) : Starts c k0 C Q D f args H := ⟨st, n, outL_turn a hq h hn hp⟩
theorem to_startM {A : Type} {c : Cfg} {k0 : Nat} {C : A → Cut} {Q : A → Prop} {D : SV → List SO → Prop} {f : FuncId} {args : List SV} {H : List SO} (st : Option (Nat × Nat)) (n : Nat) {M : Cut} {names : List Nat} {ds : List Bool} {ps : List Prop} {N : Nat} {ms : List (Nat × Nat × SV)} {es : List (Nat × HP)} (a : A) (hq : Q a)
    (h : ∀ z, outL [] M names (callSim (c.at st) n f args H) ds z = (ps, some (.inr (modSeen ms es (seenC names N (C a)))))) (hn : boolC (namesOK k0 names M (C a)) (allN noLoopE (C a).heap) false = true)
    (hT : ∀ m ∈ ms, ∀ p u, (C a).frames[m.1]? = some p → p.tmps[m.2.1]? = some u → ∃ w, u = some w ∧ m.2.2.Imp (w.ren (nameOf names N))) (hE : ∀ e ∈ es, ∀ E0, (C a).heap[e.1]? = some E0 → ImpE (nameOf names N) (some e.2) E0) (hp : ∀ p ∈ ps, p) : Starts c k0 C Q D f args H := ⟨st, n, outL_turnM a hq h hn hT hE hp⟩
theorem start_end {A : Type} {c : Cfg} {k0 : Nat} {C : A → Cut} {Q : A → Prop} {D : SV → List SO → Prop} {f : FuncId} {args : List SV} {H : List SO} (st : Option (Nat × Nat)) (n : Nat) {M : Cut} {names js : List Nat} {ds : List Bool} {ps : List Prop} {v : SV} {es : List (Option SO)}
    (h : ∀ z, outL js M names (callSim (c.at st) n f args H) ds z = (ps, some (.inl (v, es)))) (hp : ∀ p ∈ ps, p) (hD : ∀ H : List SO, js.map (fun j => H[j]?) = es → D v H) : Starts c k0 C Q D f args H := ⟨st, n, outL_end h hp hD⟩
/-- A FUNCTION WITH A LOOP -/
theorem runs_by {c : Cfg} (hc : CfgOK c) {A : Type} (C : A → Cut) (OK : A → Prop) (μ : A → Nat) {D : SV → List SO → Prop} {f : FuncId} {args : List SV} {H : List SO} (hgl : ∀ g nm, c.glob g = some nm → nm < H.length)
    (h0 : Starts c H.length C OK D f args H) (hs : ∀ a, OK a → ∀ J, TurnsTo c H.length C (fun a' => OK a' ∧ μ a' < μ a) D ((C a).fill J)) : Runs c f args H D := runs_loop hc C OK μ hgl h0 hs

/- The skeleton of a cut: the state at which a run stops. -/
noncomputable def stopOf (t : Tree) : List Bool → SS :=
  Tree.rec (motive := fun _ => List Bool → SS) (fun _ _ _ => ⟨[], []⟩) (fun s _ => s) (fun _ _ ih ds => ih ds) (fun _ _ _ iht ihf ds => List.rec (motive := fun _ => SS) ⟨[], []⟩ (fun d r _ => boolC d (iht r) (ihf r)) ds) (fun _ _ => ⟨[], []⟩) (fun _ ih ds => ih (fun _ => 0) ds) t
/-- so many unknown temporaries, of which some are told -/
noncomputable def putsT (T : List (Option SV)) (l : List (Nat × SV)) : List (Option SV) := List.rec (motive := fun _ => List (Option SV) → List (Option SV)) (fun T => T) (fun a _ ih T => ih (setN T a.1 (some a.2))) l T
noncomputable def bareF (s : SF) (l : List (Nat × SV)) : SP := ⟨s.fn, putsT (repN none (lenN s.tmps)) l, s.todo, s.defers, s.roundOf⟩
noncomputable def bareFs (ss : List SF) : List (List (Nat × SV)) → List SP := List.rec (motive := fun _ => List (List (Nat × SV)) → List SP) (fun _ => []) (fun s _ ih ls => List.rec (motive := fun _ => List SP) (bareF s [] :: ih []) (fun l r _ => bareF s l :: ih r) ls) ss
/-- the loop's record az it stands at the stop, of which some temporaries are told -/
noncomputable def bareL (e : Option SO) (l : List (Nat × SV)) : HP := optC e (.ent .gone) fun e => SO.rec (motive := fun _ => HP) (fun c w el => .ent (.own c w el)) (fun c => .ent (.row c)) (fun s p f T ps a b d => .loop s p f (putsT (repN none (lenN T)) l) ps a b d) (fun ds => .ent (.deferred ds)) (.ent .gone) (fun o => .ent (.obj o)) e

/- A summary, a law. -/
theorem law_runs {c : Cfg} {w : World} {β : Val} {H : List SO} {f : FuncId} {args : List SV} {vs : List Value} (hH : HeapRel c.P (fun _ => False) w β H w) (hG : GlobRel c.glob β) (ha : SV.denL β args = some vs)
    (hr : Runs c f args H fun v _ => v = .bool (.lit true)) : Calls c.P f vs.toArray w fun e w' => e = .returned (.bool true) ∧ Go.RowKit.Below w.heap.size w w' := by
  refine (hr.2 _ _ _ _ _ hH hG ha).mono fun e w' hcame => ?_
  obtain ⟨v, H', x, β', rfl, rfl, _, hv, hH'⟩ := hcame
  cases hv
  exact ⟨rfl, hH'.keep.below⟩

end Go.Sim


/-
  The symbolic simulator, thirty-fourth part: a summary that is a run of the function itself, where all is known.
-/
namespace Go.Sim
variable {α : Type}

/-- an entry whose names are these -/
noncomputable def SO.keeps (p : Nat → Bool) (e : SO) : Bool := SO.rec (motive := fun _ => Bool) (fun c _ _ => Cells.rec (motive := fun _ => Bool) (fun l => SV.usesL p l) (fun _ _ => false) (fun _ _ => true) c) (fun c => Cells.rec (motive := fun _ => Bool) (fun l => SV.usesL p l) (fun _ _ => false) (fun _ _ => true) c) (fun _ _ _ _ _ _ _ _ => false) (fun _ => false) false (fun o => o.uses p) e

/-- the heap az the function is to see it -/
noncomputable def maskH (M : List Nat) (H : List SO) : Nat → List SO := List.rec (motive := fun _ => Nat → List SO) (fun _ => []) (fun e _ ih i => boolC (memN i M) e .gone :: ih (Nat.succ i)) H
noncomputable def atE (o : Option SO) : SO := optC o .gone fun e => e



/- All ends of a run, told by a closed term. -/
end Go.Sim


/-
  The symbolic simulator, thirty-fifth part: summaries whose new entries may be maps.
-/
namespace Go.Sim

/- Entries that may be maps. -/
def TakenQ (f : Nat → Nat) (E e : SO) : Prop :=
  match E with
  | .obj o => ∃ o0, e = .obj o0 ∧ o0.Imp (o.ren f)
  | .gone => ∃ l : Option Nat, l = l ∧ (e.placed = true ∨ ∃ o, e = .obj o)
  | E => Taken f E e
def SO.CUsesQ (p : Nat → Bool) (E : SO) : Prop :=
  match E with
  | .obj o => o.uses p = true
  | E => E.CUses p
theorem Taken.q {f : Nat → Nat} {E e : SO} (h : Taken f E e) : TakenQ f E e := by
  cases E with
  | own => exact h
  | row => exact h
  | loop => exact h
  | deferred => exact h
  | gone => exact ⟨none, rfl, .inl h⟩
  | obj => exact h.elim
theorem SO.CUses.q {p : Nat → Bool} {E : SO} (h : E.CUses p) : E.CUsesQ p := by
  cases E with
  | own => exact h
  | row => exact h
  | loop => exact h
  | deferred => exact h
  | gone => exact h
  | obj => exact h.elim
structure Ifc.FitsQ (I : Ifc) (H : List SO) : Prop where
  len : I.ents.length = I.names.length
  nodup : ∀ (i j nm : Nat), I.names[i]? = some nm → I.names[j]? = some nm → i = j
  uargs : SV.usesL I.known I.args = true
  ent : ∀ (j : Nat) (E : SO), I.ents[j]? = some E → ∃ e, H[I.big j]? = some e ∧ TakenQ I.big E e
  uent : ∀ (j : Nat) (E : SO), I.ents[j]? = some E → E.CUsesQ I.known
theorem Ifc.Fits.q {I : Ifc} {H : List SO} (h : I.Fits H) : I.FitsQ H := ⟨h.len, h.nodup, h.uargs, fun j E he => let ⟨e, h1, h2⟩ := h.ent j E he; ⟨e, h1, h2.q⟩, fun j E he => (h.uent j E he).q⟩
def EntsQ (f : Nat → Nat) (p : Nat → Bool) (H : List SO) : List Nat → List SO → Prop
  | n :: ns, E :: Es => ((∃ e, H[n]? = some e ∧ TakenQ f E e) ∧ E.CUsesQ p) ∧ EntsQ f p H ns Es
  | [], [] => True
  | _, _ => False
theorem EntsQ.length {f : Nat → Nat} {p : Nat → Bool} {H : List SO} : ∀ {ns : List Nat} {Es : List SO}, EntsQ f p H ns Es → Es.length = ns.length
  | [], [], _ => rfl
  | _ :: _, _ :: _, h => by simp only [List.length_cons]; rw [EntsQ.length h.2]
  | [], _ :: _, h => h.elim
  | _ :: _, [], h => h.elim
theorem EntsQ.get {f : Nat → Nat} {p : Nat → Bool} {H : List SO} : ∀ {ns : List Nat} {Es : List SO}, EntsQ f p H ns Es → ∀ (j : Nat) (E : SO), Es[j]? = some E → (∃ e, H[(nth ns j).getD 0]? = some e ∧ TakenQ f E e) ∧ E.CUsesQ p
  | [], [], _, j, E, h => by simp at h
  | n :: ns, E' :: Es, h, 0, E, hE => by simp at hE; subst hE; exact h.1
  | n :: ns, E' :: Es, h, j + 1, E, hE => by
    have := EntsQ.get h.2 j E (by simpa using hE)
    rw [nth_eq] at this ⊢
    simpa using this
  | [], _ :: _, h, _, _, _ => h.elim
  | _ :: _, [], h, _, _, _ => h.elim
theorem Ifc.fitsQ {I : Ifc} {H : List SO} (hn : I.names.Nodup) (hu : SV.usesL I.known I.args = true) (he : EntsQ I.big I.known H I.names I.ents) : I.FitsQ H :=
  ⟨he.length, fun _ _ _ hi hj => (List.getElem?_inj (List.getElem?_eq_some_iff.1 hi).1 hn).1 (hi.trans hj.symm), hu, fun j E hE => (he.get j E hE).1, fun j E hE => (he.get j E hE).2⟩
def Ifc.ownsQ (I : Ifc) (β : Val) (b : Nat) : Prop := ∃ (j : Nat) (E : SO) (l : Loc), I.ents[j]? = some E ∧ E.owned = true ∧ β (I.big j) = some l ∧ l.blk = b
/-- what is owned in small is owned in great -/
theorem TakenQ.owned {f : Nat → Nat} {p : Nat → Bool} {E e : SO} (h : TakenQ f E e) (hu : E.CUsesQ p) (ho : E.owned = true) : e.owned = true := by
  cases E with
  | own => obtain ⟨_, rfl, _⟩ := h; rfl
  | row => cases ho
  | loop => exact hu.elim
  | deferred => exact hu.elim
  | gone => cases ho
  | obj => obtain ⟨_, rfl, _⟩ := h; rfl
theorem EntryRel.loc {P : Program} {O : Nat → Prop} {w0 w : World} {β : Val} {n : Nat} {e : SO} (h : EntryRel P O w0 β w n e) (hp : e.placed = true ∨ ∃ o, e = .obj o) : ∃ l, β n = some l := by
  rcases hp with hp | ⟨o, rfl⟩
  · cases e with
    | own cc ww el => obtain ⟨l, _, _, _, _, hl, _⟩ := h; exact ⟨l, hl⟩
    | row cc => obtain ⟨l, _, hl, _⟩ := h; exact ⟨l, hl⟩
    | loop => cases hp
    | deferred => cases hp
    | gone => cases hp
    | obj => cases hp
  · obtain ⟨l, _, hl, _⟩ := h; exact ⟨l, hl⟩
theorem Ifc.heapQ {P : Program} {O : Nat → Prop} {w0 w : World} {β : Val} {H : List SO} {I : Ifc} (h : HeapRel0 P O w0 β H w) (hI : I.FitsQ H) : HeapRel P (I.ownsQ β) w (I.val β) I.ents w := by
  have hj : ∀ (j : Nat) (E : SO), I.ents[j]? = some E → j < I.names.length := fun j E he => by
    rw [← hI.len]; exact (List.getElem?_eq_some_iff.1 he).1
  have hval : ∀ (j : Nat) (E : SO), I.ents[j]? = some E → I.val β j = β (I.big j) := fun j E he => by
    exact (Ifc.val_known j ((I.known_iff j).2 (hj j E he))).symm
  have hne : ∀ (i j : Nat) (E E' : SO), I.ents[i]? = some E → I.ents[j]? = some E' → i ≠ j → I.big i ≠ I.big j := fun i j E E' h1 h2 hij heq =>
    hij (hI.nodup i j (I.big i) (Ifc.big_get (hj i E h1)) (by rw [heq]; exact Ifc.big_get (hj j E' h2)))
  refine ⟨⟨fun n E hn => ?_, fun n m E E' l l' hn hm ho ho' hnm hl hl' => ?_, fun n E l hn ho hl => ?_, ⟨rfl, rfl, rfl, Nat.le_refl _, Nat.le_refl _, fun _ _ _ => rfl⟩⟩, fun n hn => ?_⟩
  · obtain ⟨e, he, ht⟩ := hI.ent n E hn
    have hu := hI.uent n E hn
    have hv := hval n E hn
    have h0 := h.entries _ e he
    cases E with
    | own c wh el =>
      obtain ⟨c0, rfl, himp⟩ := ht
      obtain ⟨l, vs, rest, lo, hi, hl, h0', hc, hh, hfz, hw, hcap⟩ := h0
      exact ⟨l, vs, rest, lo, hi, hv.trans hl, h0', (CellsRel.ren hu Ifc.val_known).1 (himp _ _ hc), hh, hfz, hw, hcap⟩
    | row c =>
      have htake : ∀ (vs : List Value) (k i : Nat) (x : Value), (vs.take k)[i]? = some x → vs[i]? = some x := by
        intro vs k i x h
        rw [List.getElem?_take] at h
        split at h
        · exact h
        · cases h
      obtain ⟨c0, ht, himp⟩ := ht
      rcases ht with rfl | ⟨wh, el, rfl⟩
      · obtain ⟨l, vs, hl, hc, hx⟩ := h0
        obtain ⟨kk, hc⟩ := himp _ _ hc
        refine ⟨l, vs.take kk, hv.trans hl, (CellsRel.ren hu Ifc.val_known).1 hc, fun i x hi => ?_⟩
        obtain ⟨h1, h2, h3⟩ := hx i x (htake _ _ _ _ hi)
        refine ⟨Nat.lt_of_lt_of_le h1 h.keep.size, ?_, ?_⟩
        · rintro ⟨j, E', l', hj', ho', hl', hb⟩
          obtain ⟨e', he', ht'⟩ := hI.ent j _ hj'
          rcases h.fresh _ _ l' he' (ht'.owned (hI.uent j _ hj') ho') hl' with h4 | h4
          · omega
          · exact h2 (hb ▸ h4)
        · rw [World.cell_of_block (h.keep.block _ h1 h2)]; exact h3
      · obtain ⟨l, vs, rest, lo, hi, hl, h0', hc, hh, hfz, hw, hcap⟩ := h0
        obtain ⟨kk, hc⟩ := himp _ _ hc
        refine ⟨l, vs.take kk, hv.trans hl, (CellsRel.ren hu Ifc.val_known).1 hc, fun i x hi0 => ⟨(Array.getElem?_eq_some_iff.1 hh).1, ?_, ?_⟩⟩
        · rintro ⟨j, E', l', hj', ho', hl', hb⟩
          obtain ⟨e', he', ht'⟩ := hI.ent j _ hj'
          by_cases hnj : n = j
          · subst hnj; rw [hn] at hj'; cases hj'; cases ho'
          · exact h.sep _ _ _ _ l l' he he' rfl (ht'.owned (hI.uent j _ hj') ho') (hne n j _ _ hn hj' hnj) hl hl' hb.symm
        · unfold World.cell?
          rw [hh, h0', Nat.zero_add]
          have hi' := htake _ _ _ _ hi0
          have hlt := (List.getElem?_eq_some_iff.1 hi').1
          simp only [List.getElem?_toArray, List.getElem?_append_left hlt, hi']
          rfl
    | loop => exact hu.elim
    | deferred => exact hu.elim
    | gone => trivial
    | obj o =>
      obtain ⟨o0, rfl, himp⟩ := ht
      obtain ⟨l, x, hl, h0', hd, hh⟩ := h0
      refine ⟨l, x, hv.trans hl, h0', ?_, hh⟩
      have := himp _ _ hd
      rw [SObj.den_ren, SObj.den_uses (β := fun n => β (I.big n)) (β' := I.val β) Ifc.val_known hu] at this
      exact this
  · obtain ⟨e, he, ht⟩ := hI.ent n E hn
    obtain ⟨e', he', ht'⟩ := hI.ent m E' hm
    rw [hval n E hn] at hl
    rw [hval m E' hm] at hl'
    exact h.sep _ _ _ _ l l' he he' (ht.owned (hI.uent n E hn) ho) (ht'.owned (hI.uent m E' hm) ho') (hne n m _ _ hn hm hnm) hl hl'
  · rw [hval n E hn] at hl
    exact .inr ⟨n, E, l, hn, ho, hl, rfl⟩
  · unfold Ifc.val
    rw [if_neg]
    rw [I.known_iff, ← hI.len]; omega
/-- the small entry is the great one's, at last; a map, too -/
def GivenO (p : Nat → Bool) (g : Nat → Nat) (E : Option SO) (e : SO) : Prop := Given p g E e ∨ ∃ o, E = some (.obj o) ∧ o.uses p = true ∧ e = .obj (o.ren g)
def GivenQ (p : Nat → Bool) (g : Nat → Nat) (E : Option SO) (e : SO) : Prop := Given p g E e ∨ ∃ o o', E = some (.obj o) ∧ o.uses p = true ∧ (o.ren g).Imp o' ∧ e = .obj o'
structure Ifc.OutQ (I : Ifc) (base : Nat) (turn keep : List Nat) (r : SumRes) (v : SV) (H : List SO) : Prop where
  val : (v.ren (I.out base keep)).Imp r.v
  uv : v.uses (I.seen keep) = true
  setsLen : r.sets.length = turn.length
  sets : ∀ (i j : Nat), turn[i]? = some j → ∃ e, r.sets[i]? = some (I.big j, e) ∧ GivenQ (I.seen keep) (I.out base keep) H[j]? e
  newsLen : r.news.length = keep.length
  news : ∀ (i j : Nat), keep[i]? = some j → ∃ e, r.news[i]? = some e ∧ GivenQ (I.seen keep) (I.out base keep) H[j]? e
/-- A SUMMARY FROM A SMALL RUN -/
theorem sum_smallCQ {c : Cfg} {O : Nat → Prop} {w0 w : World} {β : Val} {H : List SO} {base : Nat} {f : FuncId} {vs : List Value} (hH : HeapRel0 c.P O w0 β H w)
    (I : Ifc) (hgl : ∀ g j, c.glob g = some j → I.known j = true ∧ ∃ l, β (I.big j) = some l ∧ l.blk = g ∧ l.off = 0) (ha : SV.denL β (SV.renL I.big I.args) = some vs) (hI : I.FitsQ H) {r : SumRes} (turn keep : List Nat) (ht1 : ∀ (j : Nat) E, I.ents[j]? = some E → E.owned = true → j ∈ turn) (ht2 : ∀ j ∈ turn, ∃ E, I.ents[j]? = some E ∧ E.owned = true) (hk : ∀ j ∈ keep, I.names.length ≤ j) (hkn : keep.Nodup) (htn : turn.Nodup := by simp)
    (hbody : ∃ fn, c.P.funcs[f]? = some fn ∧ fn.body.isSome = true)
    (hrun : HeapRel c.P (I.ownsQ β) w (I.val β) I.ents w → GlobRel c.glob (I.val β) → SV.denL (I.val β) I.args = some vs → Calls c.P f vs.toArray w (Came c.P (I.ownsQ β) w (I.val β) (I.OutQ base turn keep r))) : SumSem c.P H β w base f vs r := by
  intro hfree
  have hH' := Ifc.heapQ hH hI
  have ha' : SV.denL (I.val β) I.args = some vs := by
    rw [SV.denL_ren, SV.denL_uses Ifc.val_known _ hI.uargs] at ha; exact ha
  have hcalls := hrun hH' (fun g j hg => let ⟨hk, l, h1, h2⟩ := hgl g j hg; ⟨l, by rw [← Ifc.val_known j hk]; exact h1, h2⟩) ha'
  have hown : ∀ j ∈ turn, ∃ e l, H[I.big j]? = some e ∧ e.owned = true ∧ β (I.big j) = some l ∧ I.val β j = some l ∧ j < I.names.length := by
    intro j hj
    obtain ⟨E, he, ho⟩ := ht2 j hj
    obtain ⟨e, he', ht⟩ := hI.ent j _ he
    have hu := hI.uent j _ he
    have hjl : j < I.names.length := by rw [← hI.len]; exact (List.getElem?_eq_some_iff.1 he).1
    have hpl : e.placed = true ∨ ∃ o, e = .obj o := by
      cases E with
      | own => obtain ⟨_, rfl, _⟩ := ht; exact .inl rfl
      | row => cases ho
      | loop => exact hu.elim
      | deferred => exact hu.elim
      | gone => cases ho
      | obj => obtain ⟨_, rfl, _⟩ := ht; exact .inr ⟨_, rfl⟩
    obtain ⟨l, hl⟩ := (hH.entries _ _ he').loc hpl
    exact ⟨e, l, he', ht.owned hu ho, hl, by rw [← Ifc.val_known j ((I.known_iff j).2 hjl)]; exact hl, hjl⟩
  -- what is turned
  have hsets : ∀ (v : SV) (H'' : List SO), I.OutQ base turn keep r v H'' → ∀ m e, (m, e) ∈ r.sets → ∃ j ∈ turn, m = I.big j ∧ GivenQ (I.seen keep) (I.out base keep) H''[j]? e ∧ ∃ i : Nat, turn[i]? = some j ∧ r.sets[i]? = some (m, e) := by
    intro v H'' hout m e hm
    obtain ⟨i, hi⟩ := List.mem_iff_getElem?.1 hm
    have hil := (List.getElem?_eq_some_iff.1 hi).1
    rw [hout.setsLen] at hil
    obtain ⟨e', h1, h2⟩ := hout.sets i _ (List.getElem?_eq_getElem hil)
    rw [hi] at h1
    cases h1
    exact ⟨_, List.getElem_mem hil, rfl, h2, i, List.getElem?_eq_getElem hil, hi⟩
  refine ⟨?_, .inl ⟨hbody, ?_⟩⟩
  · intro m e hm
    obtain ⟨e', w', fr, hcame, _⟩ := hcalls []
    obtain ⟨v, H'', x, β'', _, hout, _⟩ := hcame
    obtain ⟨j, hj, rfl, _⟩ := hsets v H'' hout m e hm
    obtain ⟨e0, l, h1, h2, _⟩ := hown j hj
    exact ⟨_, h1, h2⟩
  · intro cs
    obtain ⟨e', w', fr, hcame, hst⟩ := hcalls cs
    refine ⟨e', w', fr, ?_, hst⟩
    obtain ⟨v, H'', x, β'', rfl, hout, hle, hv, hH2⟩ := hcame
    -- the great valuation behind the call
    let βb : Val := fun n => if base ≤ n ∧ n < base + keep.length then (keep[n - base]?).bind β'' else β n
    have hlenn : r.news.length = keep.length := hout.newsLen
    have hfree' : ∀ i, i < keep.length → β (base + i) = none := fun i hi => hfree i (by rw [hlenn]; exact hi)
    have hβle : β.le βb := by
      intro n l hn
      show (if _ then _ else _) = _
      rw [if_neg]
      · exact hn
      · rintro ⟨h1, h2⟩
        have := hfree' (n - base) (by omega)
        rw [show base + (n - base) = n from by omega, hn] at this; cases this
    have hseen : ∀ j, I.seen keep j = true → βb (I.out base keep j) = β'' j := by
      intro j hj
      unfold Ifc.seen at hj
      unfold Ifc.out
      cases hkn' : I.known j with
      | true =>
        rw [boolC_true]
        have hjl := (I.known_iff j).1 hkn'
        obtain ⟨E, hE⟩ : ∃ E, I.ents[j]? = some E := ⟨_, List.getElem?_eq_getElem (by rw [hI.len]; exact hjl)⟩
        obtain ⟨e, he, htk⟩ := hI.ent j E hE
        have hu := hI.uent j E hE
        have hpl : e.placed = true ∨ ∃ o, e = .obj o := by
          cases E with
          | own cc ww el => obtain ⟨c1, rfl, _⟩ := htk; exact .inl rfl
          | row cc => obtain ⟨c1, rfl | ⟨ww, el, rfl⟩, _⟩ := htk <;> exact .inl rfl
          | loop => exact hu.elim
          | deferred => exact hu.elim
          | gone => obtain ⟨_, _, h⟩ := htk; exact h
          | obj => obtain ⟨_, rfl, _⟩ := htk; exact .inr ⟨_, rfl⟩
        obtain ⟨l, hl⟩ := (hH.entries _ _ he).loc hpl
        rw [hβle _ _ hl]
        have : I.val β j = some l := by rw [← Ifc.val_known j hkn']; exact hl
        rw [hle _ _ this]
      | false =>
        rw [hkn', boolC_false, memN_iff] at hj
        rw [boolC_false]
        have h1 := idxN_spec hj
        have h2 := (List.getElem?_eq_some_iff.1 h1).1
        show (if _ then _ else _) = _
        rw [if_pos (by omega), show base + idxN j keep - base = idxN j keep from by omega, h1]; rfl
    have hrenOwn : ∀ (j : Nat) (e : SO), GivenQ (I.seen keep) (I.out base keep) H''[j]? e → I.seen keep j = true → e.owned = true ∧ OwnRel c.P βb w' (I.out base keep j) e := by
      intro j e hg hs
      rcases hg with ⟨cc, ww, el, c', he, hu, himp, rfl⟩ | ⟨o, o', he, hu, himp, rfl⟩
      · obtain ⟨l, vs, rest, lo, hi, hl, h0, hcl, hh, hfz, hw, hcap⟩ := hH2.entries j _ he
        exact ⟨rfl, l, vs, rest, lo, hi, (hseen j hs).trans hl, h0, himp _ _ ((CellsRel.ren hu hseen).2 hcl), hh, hfz, hw, hcap⟩
      · obtain ⟨l, y, hl, h0, hd, hh⟩ := hH2.entries j _ he
        exact ⟨rfl, l, y, (hseen j hs).trans hl, h0, himp _ _ (by rw [SObj.den_ren, SObj.den_uses (β := fun n => βb (I.out base keep n)) (β' := β'') hseen hu]; exact hd), hh⟩
    have hatJ : ∀ (j : Nat) (e : SO), GivenQ (I.seen keep) (I.out base keep) H''[j]? e → ∃ e0 l, H''[j]? = some e0 ∧ e0.owned = true ∧ β'' j = some l := by
      intro j e hg
      rcases hg with ⟨cc, ww, el, c', he, _⟩ | ⟨o, o', he, _⟩
      · obtain ⟨l, vs2, rest, lo, hi2, hl, _⟩ := hH2.entries j _ he
        exact ⟨_, l, he, rfl, hl⟩
      · obtain ⟨l, y, hl, _⟩ := hH2.entries j _ he
        exact ⟨_, l, he, rfl, hl⟩
    have hseenT : ∀ j ∈ turn, I.seen keep j = true ∧ I.out base keep j = I.big j := by
      intro j hj
      obtain ⟨_, _, _, _, _, _, hjl⟩ := hown j hj
      have := (I.known_iff j).2 hjl
      unfold Ifc.seen Ifc.out
      rw [this]; exact ⟨rfl, rfl⟩
    have hseenK : ∀ j ∈ keep, I.seen keep j = true ∧ I.known j = false := by
      intro j hj
      have hnk : I.known j = false := by
        cases hx : I.known j with
        | false => rfl
        | true => have := (I.known_iff j).1 hx; have := hk j hj; omega
      unfold Ifc.seen
      rw [hnk]; exact ⟨memN_spec hj, rfl⟩
    have hnewsAt : ∀ (i : Nat) (e : SO), r.news[i]? = some e → ∃ j, keep[i]? = some j ∧ GivenQ (I.seen keep) (I.out base keep) H''[j]? e := by
      intro i e hi
      have hil := (List.getElem?_eq_some_iff.1 hi).1
      rw [hlenn] at hil
      obtain ⟨e', h1, h2⟩ := hout.news i _ (List.getElem?_eq_getElem hil)
      rw [hi] at h1; cases h1
      exact ⟨_, List.getElem?_eq_getElem hil, h2⟩
    refine ⟨x, βb, rfl, ?_, ⟨hβle, hH2.keep.os, hH2.keep.tape, hH2.keep.output, hH2.keep.drawn, hH2.keep.size, ?_, ?_, ?_, ?_, ?_, ?_⟩⟩
    · refine hout.val _ _ ?_
      rw [SV.den_ren, SV.den_uses hseen _ hout.uv]; exact hv
    · intro n hn
      rw [hlenn] at hn
      show (if _ then _ else _) = _
      rw [if_neg (by omega)]
    · intro b hb hno
      refine hH2.keep.block b hb ?_
      rintro ⟨j, E, l, hj, ho, hl, rfl⟩
      have hjt := ht1 j E hj ho
      obtain ⟨i, hi⟩ := List.mem_iff_getElem?.1 hjt
      obtain ⟨e, he, _⟩ := hout.sets i j hi
      exact hno (I.big j) e l (List.mem_of_getElem? he) hl rfl
    · intro m e e' h1 h2
      obtain ⟨j, hj, hm1, hg1, i1, ht1', hs1⟩ := hsets v H'' hout m e h1
      obtain ⟨k, hk', hm2, hg2, i2, ht2', hs2⟩ := hsets v H'' hout m e' h2
      obtain ⟨_, _, _, _, _, _, hjl⟩ := hown j hj
      obtain ⟨_, _, _, _, _, _, hkl⟩ := hown k hk'
      have hjk : k = j := hI.nodup k j (I.big k) (Ifc.big_get hkl) (by rw [← hm2, hm1]; exact Ifc.big_get hjl)
      subst hjk
      have : i1 = i2 := (List.getElem?_inj (List.getElem?_eq_some_iff.1 ht1').1 htn).1 (ht1'.trans ht2'.symm)
      subst this
      rw [hs1] at hs2
      exact (Prod.mk.inj (Option.some.inj hs2)).2
    · intro m e hm
      obtain ⟨j, hj, rfl, hg, _⟩ := hsets v H'' hout m e hm
      obtain ⟨hs, hb⟩ := hseenT j hj
      rw [← hb]
      exact (hrenOwn j e hg hs).2
    · intro i e hi
      obtain ⟨j, hj, hg⟩ := hnewsAt i e hi
      have hjm := List.mem_of_getElem? hj
      obtain ⟨hs, hnk⟩ := hseenK j hjm
      have hout' : I.out base keep j = base + i := by
        unfold Ifc.out
        rw [hnk, boolC_false]
        have h1 := idxN_spec hjm
        have : idxN j keep = i := (List.getElem?_inj (List.getElem?_eq_some_iff.1 h1).1 hkn).1 (h1.trans hj.symm)
        rw [this]
      obtain ⟨ho, hor⟩ := hrenOwn j e hg hs
      refine ⟨ho, hout' ▸ hor, ?_⟩
      obtain ⟨e0, l, he, he0, hl⟩ := hatJ j e hg
      refine ⟨l, by rw [← hout', hseen j hs]; exact hl, .inl ?_⟩
      rcases hH2.fresh j _ l he he0 hl with h1 | ⟨k, E, lk, hk1, hko, hk2, hk3⟩
      · exact h1
      · exfalso
        -- a block that was given is still its own
        have hkt := ht1 k E hk1 hko
        obtain ⟨i3, hi3⟩ := List.mem_iff_getElem?.1 hkt
        obtain ⟨e3, _, hg3⟩ := hout.sets i3 k hi3
        obtain ⟨e4, l4, he4, ho4, hl4⟩ := hatJ k e3 hg3
        obtain ⟨_, l2, _, _, hb2, hv2, hkl⟩ := hown k hkt
        rw [hb2] at hk2; cases hk2
        rw [hle _ _ hv2] at hl4; cases hl4
        refine hH2.sep k j _ _ lk l he4 he ho4 he0 ?_ (hle _ _ hv2) hl hk3
        have := hk j hjm; omega
    · intro i j l l' hij hi hj hl hl'
      rw [hlenn] at hi hj
      have hone : ∀ i, i < keep.length → ∀ l, βb (base + i) = some l → ∃ k, keep[i]? = some k ∧ β'' k = some l := by
        intro i hi l hl
        have hl : (if base ≤ base + i ∧ base + i < base + keep.length then (keep[base + i - base]?).bind β'' else β (base + i)) = some l := hl
        rw [if_pos (by omega), show base + i - base = i from by omega, List.getElem?_eq_getElem hi] at hl
        exact ⟨_, List.getElem?_eq_getElem hi, hl⟩
      obtain ⟨k1, hk1, hb1⟩ := hone i hi l hl
      obtain ⟨k2, hk2, hb2⟩ := hone j hj l' hl'
      obtain ⟨n1, _, hg1⟩ := hout.news i k1 hk1
      obtain ⟨n2, _, hg2⟩ := hout.news j k2 hk2
      obtain ⟨e1, _, he1, ho1, _⟩ := hatJ k1 n1 hg1
      obtain ⟨e2, _, he2, ho2, _⟩ := hatJ k2 n2 hg2
      refine hH2.sep k1 k2 _ _ l l' he1 he2 ho1 ho2 (fun h => ?_) hb1 hb2
      subst h
      exact hij ((List.getElem?_inj (List.getElem?_eq_some_iff.1 hk1).1 hkn).1 (hk1.trans hk2.symm))
/- In short words. -/
/-- the places of what may be written -/
def ownedOf : List SO → Nat → List Nat
  | [], _ => []
  | E :: Es, k => if E.owned then k :: ownedOf Es (k + 1) else ownedOf Es (k + 1)
theorem ownedOf_spec : ∀ (Es : List SO) (k j : Nat), j ∈ ownedOf Es k ↔ ∃ i E, j = k + i ∧ Es[i]? = some E ∧ E.owned = true
  | [], k, j => by simp [ownedOf]
  | E :: Es, k, j => by
    have ih := ownedOf_spec Es (k + 1) j
    have hstep : (∃ i E', j = k + 1 + i ∧ Es[i]? = some E' ∧ E'.owned = true) → ∃ i E', j = k + i ∧ (E :: Es)[i]? = some E' ∧ E'.owned = true := fun ⟨i, E', h, h', h3⟩ => ⟨i + 1, E', by omega, by simpa using h', h3⟩
    unfold ownedOf
    split
    · rename_i ho
      rw [List.mem_cons, ih]
      constructor
      · rintro (rfl | h)
        · exact ⟨0, _, rfl, rfl, ho⟩
        · exact hstep h
      · rintro ⟨i, E', h, h', h3⟩
        cases i with
        | zero => exact .inl h
        | succ i => exact .inr ⟨i, E', by omega, by simpa using h', h3⟩
    · rename_i ho
      rw [ih]
      constructor
      · exact hstep
      · rintro ⟨i, E', h, h', h3⟩
        cases i with
        | zero => simp at h'; subst h'; exact absurd h3 ho
        | succ i => exact ⟨i, E', by omega, by simpa using h', h3⟩
theorem ownedOf_nodup : ∀ (Es : List SO) (k : Nat), (ownedOf Es k).Nodup
  | [], k => by simp [ownedOf]
  | E :: Es, k => by
    unfold ownedOf
    split
    · refine List.nodup_cons.2 ⟨fun h => ?_, ownedOf_nodup Es (k + 1)⟩
      obtain ⟨i, _, h, _⟩ := (ownedOf_spec Es (k + 1) k).1 h
      omega
    · exact ownedOf_nodup Es (k + 1)
def SetsQ (big : Nat → Nat) (p : Nat → Bool) (g : Nat → Nat) (H : List SO) : List Nat → List (Nat × SO) → Prop
  | j :: js, x :: rs => (x.1 = big j ∧ GivenQ p g H[j]? x.2) ∧ SetsQ big p g H js rs
  | [], [] => True
  | _, _ => False
def NewsQ (p : Nat → Bool) (g : Nat → Nat) (H : List SO) : List Nat → List SO → Prop
  | j :: js, e :: rs => GivenQ p g H[j]? e ∧ NewsQ p g H js rs
  | [], [] => True
  | _, _ => False
theorem SetsQ.length {big p g H} : ∀ {js : List Nat} {rs : List (Nat × SO)}, SetsQ big p g H js rs → rs.length = js.length
  | [], [], _ => rfl
  | _ :: _, _ :: _, h => by simp only [List.length_cons]; rw [SetsQ.length h.2]
  | [], _ :: _, h => h.elim
  | _ :: _, [], h => h.elim
theorem SetsQ.get {big p g H} : ∀ {js : List Nat} {rs : List (Nat × SO)}, SetsQ big p g H js rs → ∀ (i j : Nat), js[i]? = some j → ∃ e, rs[i]? = some (big j, e) ∧ GivenQ p g H[j]? e
  | [], [], _, i, j, h => by simp at h
  | j' :: js, x :: rs, h, 0, j, hE => by simp at hE; subst hE; exact ⟨x.2, by simp [← h.1.1], h.1.2⟩
  | j' :: js, x :: rs, h, i + 1, j, hE => by
    obtain ⟨e, a, b⟩ := SetsQ.get h.2 i j (by simpa using hE)
    exact ⟨e, by simpa using a, b⟩
  | [], _ :: _, h, _, _, _ => h.elim
  | _ :: _, [], h, _, _, _ => h.elim
theorem NewsQ.length {p g H} : ∀ {js : List Nat} {rs : List SO}, NewsQ p g H js rs → rs.length = js.length
  | [], [], _ => rfl
  | _ :: _, _ :: _, h => by simp only [List.length_cons]; rw [NewsQ.length h.2]
  | [], _ :: _, h => h.elim
  | _ :: _, [], h => h.elim
theorem NewsQ.get {p g H} : ∀ {js : List Nat} {rs : List SO}, NewsQ p g H js rs → ∀ (i j : Nat), js[i]? = some j → ∃ e, rs[i]? = some e ∧ GivenQ p g H[j]? e
  | [], [], _, i, j, h => by simp at h
  | j' :: js, x :: rs, h, 0, j, hE => by simp at hE; subst hE; exact ⟨x, by simp, h.1⟩
  | j' :: js, x :: rs, h, i + 1, j, hE => by
    obtain ⟨e, a, b⟩ := NewsQ.get h.2 i j (by simpa using hE)
    exact ⟨e, by simpa using a, b⟩
  | [], _ :: _, h, _, _, _ => h.elim
  | _ :: _, [], h, _, _, _ => h.elim
/-- what a small run comes to -/
structure Ifc.EndsQ (I : Ifc) (base : Nat) (keep : List Nat) (r : SumRes) (v : SV) (H : List SO) : Prop where
  val : (v.ren (I.out base keep)).Imp r.v
  uv : v.uses (I.seen keep) = true
  sets : SetsQ I.big (I.seen keep) (I.out base keep) H (ownedOf I.ents 0) r.sets
  news : NewsQ (I.seen keep) (I.out base keep) H keep r.news
/-- A SUMMARY FROM RUNS -/
theorem sum_runsQ {c : Cfg} {O : Nat → Prop} {w0 w : World} {β : Val} {H : List SO} {base : Nat} {f : FuncId} {vs : List Value} (hH : HeapRel0 c.P O w0 β H w)
    (I : Ifc) (hgl : ∀ g j, c.glob g = some j → I.known j = true ∧ ∃ l, β (I.big j) = some l ∧ l.blk = g ∧ l.off = 0) (ha : SV.denL β (SV.renL I.big I.args) = some vs) (hI : I.FitsQ H) {r : SumRes} (keep : List Nat) (hk : ∀ j ∈ keep, I.names.length ≤ j) (hkn : keep.Nodup)
    (hr : Runs c f I.args I.ents (I.EndsQ base keep r)) : SumSem c.P H β w base f vs r := by
  refine sum_smallCQ hH I hgl ha hI (ownedOf I.ents 0) keep (fun j E h ho => (ownedOf_spec _ _ _).2 ⟨j, E, by omega, h, ho⟩) (fun j hj => ?_) hk hkn (ownedOf_nodup _ _) hr.1 fun hH' hG ha' => (hr.2 _ _ _ _ _ hH' hG ha').mono fun e w' hcame => ?_
  · obtain ⟨i, E, h, h', ho⟩ := (ownedOf_spec _ _ _).1 hj
    exact ⟨E, by rw [h, Nat.zero_add]; exact h', ho⟩
  · obtain ⟨v, H', x, β', he, h, hle, hv, hH2⟩ := hcame
    exact ⟨v, H', x, β', he, ⟨h.val, h.uv, h.sets.length, h.sets.get, h.news.length, h.news.get⟩, hle, hv, hH2⟩
/-- A SUMMARY FROM A SMALL RUN -/
theorem sum_runQ {c : Cfg} (hc : CfgOK c) (n : Nat) {O : Nat → Prop} {w0 w : World} {β : Val} {H : List SO} {base : Nat} {f : FuncId} {vs : List Value} (hH : HeapRel0 c.P O w0 β H w)
    (I : Ifc) (hgl : ∀ g j, c.glob g = some j → I.known j = true ∧ ∃ l, β (I.big j) = some l ∧ l.blk = g ∧ l.off = 0) (ha : SV.denL β (SV.renL I.big I.args) = some vs) (hI : I.FitsQ H) {r : SumRes} (keep : List Nat) (hk : ∀ j ∈ keep, I.names.length ≤ j) (hkn : keep.Nodup)
    (hob : (callSim c n f I.args I.ents).Ob (I.EndsQ base keep r) fun _ => False) : SumSem c.P H β w base f vs r := sum_runsQ hH I hgl ha hI keep hk hkn (runs_of hc hob)
/-- the older forms -/
structure Ifc.OutO (I : Ifc) (base : Nat) (turn keep : List Nat) (r : SumRes) (v : SV) (H : List SO) : Prop where
  val : (v.ren (I.out base keep)).Imp r.v
  uv : v.uses (I.seen keep) = true
  setsLen : r.sets.length = turn.length
  sets : ∀ (i j : Nat), turn[i]? = some j → ∃ e, r.sets[i]? = some (I.big j, e) ∧ Given (I.seen keep) (I.out base keep) H[j]? e
  newsLen : r.news.length = keep.length
  news : ∀ (i j : Nat), keep[i]? = some j → ∃ e, r.news[i]? = some e ∧ GivenO (I.seen keep) (I.out base keep) H[j]? e

/- For whatever numbers that nobody knows: the directions may go by them. -/
theorem outW_ob {js : List Nat} {t : Tree} {v : SV} {es : List (Option SO)} (h : ∀ z : Nat → Nat → Nat, ∃ ds ps, outZ js t ds z = (ps, some (v, es)) ∧ ∀ p ∈ ps, p) {D : SV → List SO → Prop} {S : SS → Prop} (hD : ∀ H : List SO, js.map (fun j => H[j]?) = es → D v H) : t.Ob D S := by
  have z0 : Nat → Nat → Nat := fun _ _ => 0
  induction t with
  | done v' H =>
    obtain ⟨ds, ps, h, _⟩ := h z0
    have h' : ([], some (v', mapN (fun j => nth H j) js)) = (ps, some (v, es)) := h
    obtain ⟨h2, h3⟩ := Prod.mk.inj (Option.some.inj (Prod.mk.inj h').2)
    rw [← h2] at hD
    refine hD H ?_
    rw [mapN_eq] at h3
    rw [← h3]
    exact List.map_congr_left fun j _ => (nth_eq H j).symm
  | stop =>
    obtain ⟨ds, ps, h, _⟩ := h z0
    cases (Prod.mk.inj (show ([], none) = (ps, some (v, es)) from h)).2
  | need p t ih =>
    have h' : ∀ z, ∃ ds ps, (p :: (outZ js t ds z).1, (outZ js t ds z).2) = (ps, some (v, es)) ∧ ∀ q ∈ ps, q := h
    refine ⟨?_, ih fun z => ?_⟩
    · obtain ⟨ds, ps, h1, h2⟩ := h' z0
      exact h2 p (by rw [← (Prod.mk.inj h1).1]; exact List.mem_cons_self)
    · obtain ⟨ds, ps, h1, h2⟩ := h' z
      obtain ⟨e1, e2⟩ := Prod.mk.inj h1
      exact ⟨ds, (outZ js t ds z).1, by rw [← e2], fun q hq => h2 q (by rw [← e1]; exact List.mem_cons_of_mem _ hq)⟩
  | fork b t f iht ihf =>
    have key : ∀ z, ∃ d r, b = d ∧ (boolC d (outZ js t r z) (outZ js f r z)).2 = some (v, es) ∧ ∀ q ∈ (boolC d (outZ js t r z) (outZ js f r z)).1, q := by
      intro z
      obtain ⟨ds, ps, h1, h2⟩ := h z
      cases ds with
      | nil => cases (Prod.mk.inj (show ([], none) = (ps, some (v, es)) from h1)).2
      | cons d r =>
        have h1 : ((b = d) :: (boolC d (outZ js t r z) (outZ js f r z)).1, (boolC d (outZ js t r z) (outZ js f r z)).2) = (ps, some (v, es)) := h1
        obtain ⟨e1, e2⟩ := Prod.mk.inj h1
        exact ⟨d, r, h2 _ (by rw [← e1]; exact List.mem_cons_self), e2, fun q hq => h2 q (by rw [← e1]; exact List.mem_cons_of_mem _ hq)⟩
    refine ⟨fun hb => iht fun z => ?_, fun hb => ihf fun z => ?_⟩
    · obtain ⟨d, r, hd, h1, h2⟩ := key z
      rw [hb] at hd
      subst hd
      exact ⟨r, (outZ js t r z).1, Prod.ext rfl h1, h2⟩
    · obtain ⟨d, r, hd, h1, h2⟩ := key z
      rw [hb] at hd
      subst hd
      exact ⟨r, (outZ js f r z).1, Prod.ext rfl h1, h2⟩
  | stuck =>
    obtain ⟨ds, ps, h, _⟩ := h z0
    cases (Prod.mk.inj (show ([], none) = (ps, some (v, es)) from h)).2
  | any k ih =>
    intro y
    refine ih y fun z => ?_
    let c : Nat → Nat → Nat := fun i => Nat.rec (motive := fun _ => Nat → Nat) y (fun j _ => z j) i
    exact h c
theorem sum_outW {c : Cfg} (hc : CfgOK c) (n : Nat) {O : Nat → Prop} {w0 w : World} {β : Val} {H : List SO} {base : Nat} {f : FuncId} {vs : List Value} (hH : HeapRel0 c.P O w0 β H w)
    (I : Ifc) (hgl : ∀ g j, c.glob g = some j → I.known j = true ∧ ∃ l, β (I.big j) = some l ∧ l.blk = g ∧ l.off = 0) (ha : SV.denL β (SV.renL I.big I.args) = some vs) (hI : I.Fits H) {r : SumRes} (keep : List Nat) (hk : ∀ j ∈ keep, I.names.length ≤ j) (hkn : keep.Nodup)
    {js : List Nat} {v : SV} {es : List (Option SO)} (h : ∀ z : Nat → Nat → Nat, ∃ ds ps, outZ js (callSim c n f I.args I.ents) ds z = (ps, some (v, es)) ∧ ∀ p ∈ ps, p) (hD : ∀ H2 : List SO, js.map (fun j => H2[j]?) = es → I.Ends base keep r v H2) : SumSem c.P H β w base f vs r :=
  sum_runG hc n hH I hgl ha hI keep hk hkn (outW_ob h hD)
end Go.Sim


/-
  The symbolic simulator, thirty-sixth part: the loop rule where a round goes by numbers that nobody knows.
-/
namespace Go.Sim
/-- for whatever numbers that nobody knows: some directions lead to an outcome of a kind -/
theorem outLz_ob {js : List Nat} {M : Cut} {names : List Nat} {t : Tree} {K : (SV × List (Option SO)) ⊕ Seen → Prop} (h : ∀ z : Nat → Nat → Nat, ∃ ds ps r, outL js M names t ds z = (ps, some r) ∧ (∀ p ∈ ps, p) ∧ K r) {D : SV → List SO → Prop} {S : SS → Prop}
    (hD : ∀ v es, K (.inl (v, es)) → ∀ H : List SO, js.map (fun j => H[j]?) = es → D v H) (hS : ∀ V, K (.inr V) → ∀ s, viewS M names s = V → S s) : t.Ob D S := by
  have z0 : Nat → Nat → Nat := fun _ _ => 0
  induction t with
  | done v' H =>
    obtain ⟨ds, ps, r, h, _, hk⟩ := h z0
    have h' : ([], some (.inl (v', mapN (fun j => nth H j) js))) = (ps, some r) := h
    have h1 := Option.some.inj (Prod.mk.inj h').2
    rw [← h1] at hk
    refine hD v' _ hk H ?_
    rw [mapN_eq]
    exact List.map_congr_left fun j _ => (nth_eq H j).symm
  | stop s =>
    obtain ⟨ds, ps, r, h, _, hk⟩ := h z0
    have h' : ([], some (.inr (viewS M names s))) = (ps, some r) := h
    have h1 := Option.some.inj (Prod.mk.inj h').2
    rw [← h1] at hk
    exact hS _ hk s rfl
  | need p t ih =>
    have h' : ∀ z, ∃ ds ps r, (p :: (outL js M names t ds z).1, (outL js M names t ds z).2) = (ps, some r) ∧ (∀ p ∈ ps, p) ∧ K r := h
    refine ⟨?_, ih fun z => ?_⟩
    · obtain ⟨ds, ps, r, h1, h2, _⟩ := h' z0
      exact h2 p (by rw [← (Prod.mk.inj h1).1]; exact List.mem_cons_self)
    · obtain ⟨ds, ps, r, h1, h2, h3⟩ := h' z
      exact ⟨ds, _, r, Prod.ext rfl (Prod.mk.inj h1).2, fun q hq => h2 q (by rw [← (Prod.mk.inj h1).1]; exact List.mem_cons_of_mem _ hq), h3⟩
  | fork b t f iht ihf =>
    have key : ∀ z, ∃ rs ps r, ((boolC b (outL js M names t rs z) (outL js M names f rs z)) = (ps, some r)) ∧ (∀ p ∈ ps, p) ∧ K r := by
      intro z
      obtain ⟨ds, ps, r, h1, h2, h3⟩ := h z
      cases ds with
      | nil => cases (Prod.mk.inj (show ([], none) = (ps, some r) from h1)).2
      | cons d rs =>
        have h1 : ((b = d) :: (boolC d (outL js M names t rs z) (outL js M names f rs z)).1, (boolC d (outL js M names t rs z) (outL js M names f rs z)).2) = (ps, some r) := h1
        have hb : b = d := h2 _ (by rw [← (Prod.mk.inj h1).1]; exact List.mem_cons_self)
        exact ⟨rs, _, r, Prod.ext rfl (by rw [hb]; exact (Prod.mk.inj h1).2), fun q hq => h2 q (by rw [← (Prod.mk.inj h1).1]; refine List.mem_cons_of_mem _ ?_; rw [hb] at hq; exact hq), h3⟩
    refine ⟨fun ht => iht fun z => ?_, fun hf => ihf fun z => ?_⟩
    · obtain ⟨rs, ps, r, h1, h2⟩ := key z
      rw [ht] at h1
      exact ⟨rs, ps, r, h1, h2⟩
    · obtain ⟨rs, ps, r, h1, h2⟩ := key z
      rw [hf] at h1
      exact ⟨rs, ps, r, h1, h2⟩
  | stuck =>
    obtain ⟨ds, ps, r, h1, _⟩ := h z0
    cases (Prod.mk.inj (show ([], none) = (ps, some r) from h1)).2
  | any k ih =>
    intro y
    let c : (Nat → Nat → Nat) → Nat → Nat → Nat := fun z i => Nat.rec (motive := fun _ => Nat → Nat) y (fun j _ => z j) i
    exact ih y fun z => h (c z)
/-- what is seen is the beginning of another round -/
def SeenTurn {A : Type} (k0 : Nat) (C : A → Cut) (Q : A → Prop) (M : Cut) (names : List Nat) (V : Seen) : Prop :=
  ∃ (a : A) (N : Nat) (ms : List (Nat × Nat × SV)) (es : List (Nat × HP)), Q a ∧ V = modSeen ms es (seenC names N (C a)) ∧ boolC (namesOK k0 names M (C a)) (allN noLoopE (C a).heap) false = true ∧
    (∀ m ∈ ms, ∀ (p : SP) (u : Option SV), (C a).frames[m.1]? = some p → p.tmps[m.2.1]? = some u → ∃ w, u = some w ∧ m.2.2.Imp (w.ren (nameOf names N))) ∧ (∀ e ∈ es, ∀ E0, (C a).heap[e.1]? = some E0 → ImpE (nameOf names N) (some e.2) E0)
theorem SeenTurn.of {A : Type} {k0 : Nat} {C : A → Cut} {Q : A → Prop} {M : Cut} {names : List Nat} {N : Nat} (a : A) (hq : Q a) (hn : boolC (namesOK k0 names M (C a)) (allN noLoopE (C a).heap) false = true) : SeenTurn k0 C Q M names (seenC names N (C a)) :=
  ⟨a, N, [], [], hq, rfl, hn, by simp, by simp⟩
theorem to_turnZ {A : Type} {c : Cfg} {k0 : Nat} {C : A → Cut} {Q : A → Prop} {D : SV → List SO → Prop} {s : SS} (st : Option (Nat × Nat)) (n : Nat) {M : Cut} {js names : List Nat} {K : SV × List (Option SO) → Prop}
    (h : ∀ z, ∃ ds ps r, outL js M names (sim1 (c.at st) n s) ds z = (ps, some r) ∧ (∀ p ∈ ps, p) ∧ Sum.rec (motive := fun _ => Prop) K (SeenTurn k0 C Q M names) r)
    (hD : ∀ v es, K (v, es) → ∀ H : List SO, js.map (fun j => H[j]?) = es → D v H) : TurnsTo c k0 C Q D s :=
  ⟨st, n, outLz_ob h (fun v es hk H hH => hD v es hk H hH) fun V hk s hv => by
    obtain ⟨a, N, ms, es, hq, e, hn, hT, hE⟩ := (hk : SeenTurn k0 C Q M names V)
    exact turns_of a hq names (gen_mod (N := N) ms es (by rw [hv]; exact e) hn hT hE)⟩
end Go.Sim


/-
  Strings in order: cmp.Compare.
-/
namespace Go.Proofs.YtmekechnnfhhkaaDoor.Aes
open Go.Sim
open Go.Proofs
variable {α : Type}

def cmpZ (a b : ByteArray) : Int := if Op.bytesLess a.data.toList b.data.toList then -1 else if Op.bytesLess a.data.toList b.data.toList || decide (a = b) then 0 else 1
noncomputable def cmpL (a b : ByteArray) : Int := boolC (Op.bytesLess a.data.toList b.data.toList) (-1) (boolC (a.data.toList == b.data.toList) 0 1)
theorem cmpL_eq (a b : ByteArray) : cmpL a b = cmpZ a b := by
  unfold cmpL cmpZ
  have h : (a.data.toList == b.data.toList) = decide (a = b) := by rw [← beq_data, beq_bytes]
  rw [h]
  cases Op.bytesLess a.data.toList b.data.toList with
  | true => rfl
  | false => cases h2 : decide (a = b) <;> simp [boolC]
noncomputable def cmpI (s t : SStr) : SI := SStr.rec (motive := fun _ => SI) (fun a => SStr.rec (motive := fun _ => SI) (fun b => .lit (cmpL a b)) (fun b => .sym (cmpZ a b)) (fun l => .sym (cmpZ a (bytesOf l))) t) (fun a => .sym (cmpZ a t.den)) (fun l => .sym (cmpZ (bytesOf l) t.den)) s
theorem cmpI_den (s t : SStr) : (cmpI s t).den = cmpZ s.den t.den := by
  cases s <;> cases t <;> first | rfl | exact cmpL_eq _ _
noncomputable def cmpS : Summ := fun args _ _ => args2 args fun s t => optC (strV s) (.stuck 681) fun s => optC (strV t) (.stuck 681) fun t => .ok ⟨SV.int .i64 (cmpI s t), [], []⟩
theorem cmp_run1 (a b : ByteArray) : outO [] (callSim cfgX 400 50 [.str (.sym a), .str (.sym b)] []) [false, false, true] = ([(!decide (a = a)) = false, (!decide (b = b)) = false, Op.bytesLess a.data.toList b.data.toList = true], some (.int .i64 (.lit (-1)), [])) := by kernel_rfl
theorem cmp_run2 (a b : ByteArray) : outO [] (callSim cfgX 400 50 [.str (.sym a), .str (.sym b)] []) [false, false, false, true] = ([(!decide (a = a)) = false, (!decide (b = b)) = false, Op.bytesLess a.data.toList b.data.toList = false, (!(Op.bytesLess a.data.toList b.data.toList || decide (a = b))) = true], some (.int .i64 (.lit 1), [])) := by kernel_rfl
theorem cmp_run3 (a b : ByteArray) : outO [] (callSim cfgX 400 50 [.str (.sym a), .str (.sym b)] []) [false, false, false, false] = ([(!decide (a = a)) = false, (!decide (b = b)) = false, Op.bytesLess a.data.toList b.data.toList = false, (!(Op.bytesLess a.data.toList b.data.toList || decide (a = b))) = false], some (.int .i64 (.lit 0), [])) := by kernel_rfl
theorem str_imp {s t : SStr} (h : s.den = t.den) : (SV.str s).Imp (.str t) := fun _ _ hx => by
  simp only [SV.den] at hx ⊢
  rw [← h]; exact hx
theorem int_impS {k : IntKind} {a b : SI} (h : a.den = b.den) : (SV.int k a).Imp (.int k b) := fun _ _ hx => by
  simp only [SV.den] at hx ⊢
  rw [← h]; exact hx
theorem cmpOK : SumOK Tryd.prog 50 cmpS := by
  intro glob O w0 β H w base args vs hH hG ha
  refine args2_sat fun v1 v2 hv => optC_only fun s hs => optC_only fun t ht => ?_
  rw [hv, strV_spec hs, strV_spec ht] at ha
  have ha := impL_cons (str_imp (t := .sym s.den) rfl) (impL_cons (str_imp (t := .sym t.den) rfl) impL_nil) _ _ ha
  have hE : ∀ (n : Int), cmpZ s.den t.den = n → ∀ H2 : List SO, (⟨[], [], [.str (.sym s.den), .str (.sym t.den)]⟩ : Ifc).Ends base [] ⟨SV.int .i64 (cmpI s t), [], []⟩ (SV.int .i64 (.lit n)) H2 := fun n hn H2 => ⟨int_impS (by rw [cmpI_den, hn]; rfl), rfl, trivial, trivial⟩
  have h1 : ∀ a : ByteArray, (!decide (a = a)) = false := fun a => by simp
  cases hb : Op.bytesLess s.den.data.toList t.den.data.toList with
  | true => exact sum_outO cfgXOK rfl 400 hH ⟨[], [], [.str (.sym s.den), .str (.sym t.den)]⟩ ha (fits0 rfl) [] (by simp) (by simp) (cmp_run1 s.den t.den) (all_cons (h1 _) (all_cons (h1 _) (all_cons hb all_nil))) fun H2 _ => hE _ (by unfold cmpZ; rw [hb]; rfl) H2
  | false =>
    cases he : decide (s.den = t.den) with
    | true => exact sum_outO cfgXOK rfl 400 hH ⟨[], [], [.str (.sym s.den), .str (.sym t.den)]⟩ ha (fits0 rfl) [] (by simp) (by simp) (cmp_run3 s.den t.den) (all_cons (h1 _) (all_cons (h1 _) (all_cons hb (all_cons (by rw [hb, he]; rfl) all_nil)))) fun H2 _ => hE _ (by unfold cmpZ; rw [hb, he]; rfl) H2
    | false => exact sum_outO cfgXOK rfl 400 hH ⟨[], [], [.str (.sym s.den), .str (.sym t.den)]⟩ ha (fits0 rfl) [] (by simp) (by simp) (cmp_run2 s.den t.den) (all_cons (h1 _) (all_cons (h1 _) (all_cons hb (all_cons (by rw [hb, he]; rfl) all_nil)))) fun H2 _ => hE _ (by unfold cmpZ; rw [hb, he]; rfl) H2
noncomputable def cfgR0 : Cfg := cfgOf (sumsOf [(88, idxS), (50, cmpS)])
theorem cfgR0OK : CfgOK cfgR0 := sumsOf_ok (allC idxOK (all1 cmpOK))
end Go.Proofs.YtmekechnnfhhkaaDoor.Aes


/-
  Functions of one string, told for some strings.
-/
namespace Go.Proofs.YtmekechnnfhhkaaDoor.Aes
open Go.Sim
open Go.Proofs
variable {α : Type}

set_option maxRecDepth 1000000
def bAs (l : List UInt8) : ByteArray := ⟨l.toArray⟩
def strIs (v : SV) (l : List UInt8) : Bool := match v with | .str (.lit s) => s.data.toList == l | _ => false
theorem strIs_spec {v : SV} {l : List UInt8} (h : strIs v l = true) : v = .str (.lit (bAs l)) := by
  unfold strIs at h
  split at h
  · rename_i s
    have h := eq_of_beq h
    obtain ⟨⟨x⟩⟩ := s
    have h : x = l := h
    rw [h]; rfl
  · cases h
/-- what a table says of a string -/
noncomputable def litTab (T : List (List UInt8 × Bool)) (v : SV) : Option Bool := List.rec (motive := fun _ => Option Bool) none (fun a _ ih => boolC (strIs v a.1) (some a.2) ih) T
end Go.Proofs.YtmekechnnfhhkaaDoor.Aes


/-
  The symbolic simulator, thirty-seventh part: a run az its own summary, where all is known: with what it makes, without conditions.
-/
namespace Go.Sim
variable {α : Type}

/- The names in a value, an entry. -/
def SC.nms : SC → List Nat
  | .rest nm _ => [nm]
  | _ => []
def SFn.nms : SFn → List Nat
  | .yield nm => [nm]
  | _ => []
mutual
noncomputable def SV.nms : SV → List Nat
  | .ptr a => [a.nm]
  | .slice a _ c => a.nm :: c.nms
  | .tail a _ _ c => a.nm :: c.nms
  | .map nm => [nm]
  | .func g xs ys => app g.nms (app (SV.nmsL xs) (SV.nmsL ys))
  | .iface _ v => v.nms
  | .agg l => SV.nmsL l
  | .tuple l => SV.nmsL l
  | _ => []
noncomputable def SV.nmsL : List SV → List Nat
  | [] => []
  | v :: l => app v.nms (SV.nmsL l)
end
noncomputable def nmsC (c : Cells) : List Nat := Cells.rec (motive := fun _ => List Nat) (fun l => SV.nmsL l) (fun _ _ => []) (fun _ _ => []) c
noncomputable def nmsEs (es : List (SV × SV × Nat)) : List Nat := List.rec (motive := fun _ => List Nat) [] (fun e _ ih => app e.1.nms (app e.2.1.nms ih)) es
noncomputable def nmsO (o : SObj) : List Nat := SObj.rec (motive := fun _ => List Nat) (fun es _ => nmsEs es) (fun m _ _ _ => optC m [] fun n => [n]) (fun _ _ => []) (fun _ _ _ _ => []) o
noncomputable def nmsE (e : SO) : List Nat := SO.rec (motive := fun _ => List Nat) (fun c _ _ => nmsC c) (fun c => nmsC c) (fun _ _ _ _ _ _ _ _ => []) (fun _ => []) [] (fun o => nmsO o) e
/-- all that can be reached -/
noncomputable def reachN (H : List SO) (n : Nat) : List Nat → List Nat → List Nat :=
  Nat.rec (motive := fun _ => List Nat → List Nat → List Nat) (fun _ seen => seen)
    (fun _ ih todo seen => List.rec (motive := fun _ => List Nat) seen (fun a r _ => boolC (memN a seen) (ih r seen) (ih (app (optC (nth H a) [] nmsE) r) (a :: seen))) todo) n
noncomputable def renO (f : Nat → Nat) (e : SO) : SO := SO.rec (motive := fun _ => SO) (fun c w el => .own (c.ren f) w el) (fun c => .row (c.ren f)) (fun _ _ _ _ _ _ _ _ => .gone) (fun _ => .gone) .gone (fun o => .obj (o.ren f)) e
/-- what is read alone -/
noncomputable def rowO (ro : Bool) (e : SO) : SO := boolC ro (SO.rec (motive := fun _ => SO) (fun c _ _ => .row c) (fun c => .row c) (fun _ _ _ _ _ _ _ _ => .gone) (fun _ => .gone) .gone (fun o => .obj o) e) e
/-- how it ends, where that is certain -/
noncomputable def detT (t : Tree) : Option (SV × List SO) :=
  Tree.rec (motive := fun _ => Option (SV × List SO)) (fun v H => some (v, H)) (fun _ => none) (fun _ _ _ => none) (fun b _ _ iht ihf => boolC b iht ihf) (fun _ => none) (fun _ _ => none) t
theorem detT_ob {v : SV} {H : List SO} : ∀ {t : Tree}, detT t = some (v, H) → t.Ob (fun v' H' => v' = v ∧ H' = H) fun _ => False := by
  intro t
  induction t with
  | done v' H' => intro h; cases h; exact ⟨rfl, rfl⟩
  | stop => intro h; cases h
  | need => intro h; cases h
  | fork b t f iht ihf =>
    intro h
    have h : boolC b (detT t) (detT f) = some (v, H) := h
    exact ⟨fun hb => iht (by rw [hb] at h; exact h), fun hb => ihf (by rw [hb] at h; exact h)⟩
  | stuck => intro h; cases h
  | any => intro h; cases h
noncomputable def notKnown (n : Nat) (l : List Nat) : List Nat := filterN (fun j => Nat.ble n j) l
noncomputable def keepsAt (p : Nat → Bool) (H : List SO) (js : List Nat) : Bool := allN (fun m => optC (nth H m) false fun e => e.keeps p) js
noncomputable def smallI (ro : Bool) (M : List Nat) (args : List SV) (H : List SO) : Ifc := ⟨M, mapN (fun m => rowO ro (renO (fun n => idxN n M) (atE (nth H m)))) M, SV.renL (fun n => idxN n M) args⟩
noncomputable def outM (I : Ifc) (base : Nat) (turn keep : List Nat) (v : SV) (H2 : List SO) : R SumRes :=
  boolC (boolC (nodupN keep) (boolC (allN (fun j => Nat.ble (lenN I.names) j) keep) (boolC (v.uses (I.seen keep)) (boolC (keepsAt (I.seen keep) H2 turn) (boolC (keepsAt (I.seen keep) H2 keep) (allN (fun m => optC (nth H2 m) false SO.owned) (app turn keep)) false) false) false) false) false)
    (.ok ⟨v.ren (I.out base keep), mapN (fun j => (I.big j, renO (I.out base keep) (atE (nth H2 j)))) turn, mapN (fun j => renO (I.out base keep) (atE (nth H2 j))) keep⟩) (.stuck 7782)
noncomputable def runI (c : Cfg) (n : Nat) (f : FuncId) (I : Ifc) (base : Nat) (turn : List Nat) : R SumRes :=
  optC (detT (callSim c n f I.args I.ents)) (.stuck 7781) fun r => outM I base turn (notKnown (lenN I.names) (reachN r.2 400 (app r.1.nms turn) [])) r.1 r.2
noncomputable def runM (ro : Bool) (c : Cfg) (n : Nat) (f : FuncId) (args : List SV) (H : List SO) (base : Nat) (M : List Nat) : R SumRes :=
  boolC (boolC (nodupN M) (boolC (keepsAt (fun n => memN n M) H M) (boolC (SV.usesL (fun n => memN n M) args) (boolC (SV.usesL (smallI ro M args H).known (smallI ro M args H).args) (allN (fun e => e.keeps (smallI ro M args H).known) (smallI ro M args H).ents) false) false) false) false)
    (runI c n f (smallI ro M args H) base (ownedOf (smallI ro M args H).ents 0)) (.stuck 7783)
/-- A RUN AS A SUMMARY -/
noncomputable def ownRun (ro : Bool) (fl : Nat) (c : Cfg) (n : Nat) (f : FuncId) : Summ := fun args H base => List.rec (motive := fun _ => R SumRes) (.stuck fl) (fun _ _ _ => runM ro c n f args H base (reachN H 400 (SV.nmsL args) [])) args

theorem SO.keeps_cuses {p : Nat → Bool} {e : SO} (h : e.keeps p = true) : e.CUsesQ p := by
  cases e with
  | own c w el => cases c with
    | lst l => exact h
    | fn => cases h
    | raw => trivial
  | row c => cases c with
    | lst l => exact h
    | fn => cases h
    | raw => trivial
  | loop => cases h
  | deferred => cases h
  | gone => cases h
  | obj o => exact h
theorem cells_round {p : Nat → Bool} {q g : Nat → Nat} (hq : ∀ n, p n = true → g (q n) = n) {c : Cells} (h : (match c with | .lst l => SV.usesL p l | .fn _ _ => false | .raw _ _ => true) = true) : c.Imp ((c.ren q).ren g) := by
  intro β vs hr
  cases c with
  | lst l =>
    show SV.denL β (SV.renL g (SV.renL q l)) = some vs
    rw [SV.denL_ren, SV.denL_ren]
    rw [← SV.denL_uses (p := p) (β := β) (fun n hn => by show β n = β (g (q n)); rw [hq n hn]) l h]
    exact hr
  | fn => cases h
  | raw => exact hr
theorem taken_round {p : Nat → Bool} {q g : Nat → Nat} (hq : ∀ n, p n = true → g (q n) = n) {e : SO} (h : e.keeps p = true) : TakenQ g (renO q e) e := by
  cases e with
  | own c w el => exact ⟨c, rfl, cells_round hq (by cases c <;> exact h)⟩
  | row c => exact ⟨c, .inl rfl, (cells_round hq (by cases c <;> exact h)).front⟩
  | loop => cases h
  | deferred => cases h
  | gone => cases h
  | obj o =>
    refine ⟨o, rfl, fun β x hx => ?_⟩
    rw [SObj.den_ren, SObj.den_ren]
    rw [← SObj.den_uses (p := p) (β := β) (fun n hn => by show β n = β (g (q n)); rw [hq n hn]) h]
    exact hx
theorem taken_ro (ro : Bool) {g : Nat → Nat} {E e : SO} (h : TakenQ g E e) : TakenQ g (rowO ro E) e := by
  cases ro with
  | false => exact h
  | true =>
    cases E with
    | own c w el => obtain ⟨c0, rfl, h⟩ := h; exact ⟨c0, .inr ⟨w, el, rfl⟩, h.front⟩
    | row c => exact h
    | loop => exact h.elim
    | deferred => exact h.elim
    | gone => exact h
    | obj o => exact h
theorem given_of {p : Nat → Bool} {g : Nat → Nat} {e : SO} (h : e.keeps p = true) (ho : e.owned = true) : GivenQ p g (some e) (renO g e) := by
  cases e with
  | own c w el =>
    refine .inl ⟨c, w, el, c.ren g, rfl, ?_, Cells.Imp.refl _, rfl⟩
    cases c with
    | lst l => exact h
    | fn => cases h
    | raw => trivial
  | row => cases ho
  | loop => cases h
  | deferred => cases h
  | gone => cases h
  | obj o => exact .inr ⟨o, o.ren g, rfl, h, fun _ _ x => x, rfl⟩
theorem keepsAt_get {p : Nat → Bool} {H : List SO} {js : List Nat} (h : keepsAt p H js = true) {j : Nat} (hj : j ∈ js) : ∃ e, H[j]? = some e ∧ e.keeps p = true := by
  have := allN_mem h j hj
  rw [nth_eq] at this
  cases hx : H[j]? with
  | none => rw [hx] at this; cases this
  | some e => rw [hx] at this; exact ⟨e, rfl, this⟩
theorem setsQ_of {big : Nat → Nat} {p : Nat → Bool} {g : Nat → Nat} {H : List SO} : ∀ {js : List Nat}, (∀ j ∈ js, ∃ e, H[j]? = some e ∧ e.keeps p = true ∧ e.owned = true) → SetsQ big p g H js (mapN (fun j => (big j, renO g (atE (nth H j)))) js)
  | [], _ => trivial
  | j :: js, h => by
    obtain ⟨e, he, hk, ho⟩ := h j List.mem_cons_self
    refine ⟨⟨rfl, ?_⟩, setsQ_of fun k hk => h k (List.mem_cons_of_mem _ hk)⟩
    show GivenQ p g H[j]? (renO g (atE (nth H j)))
    rw [nth_eq, he]
    exact given_of hk ho
theorem newsQ_of {p : Nat → Bool} {g : Nat → Nat} {H : List SO} : ∀ {js : List Nat}, (∀ j ∈ js, ∃ e, H[j]? = some e ∧ e.keeps p = true ∧ e.owned = true) → NewsQ p g H js (mapN (fun j => renO g (atE (nth H j))) js)
  | [], _ => trivial
  | j :: js, h => by
    obtain ⟨e, he, hk, ho⟩ := h j List.mem_cons_self
    refine ⟨?_, newsQ_of fun k hk => h k (List.mem_cons_of_mem _ hk)⟩
    show GivenQ p g H[j]? (renO g (atE (nth H j)))
    rw [nth_eq, he]
    exact given_of hk ho
theorem boolC_two {a b : Bool} (h : boolC a b false = true) : a = true ∧ b = true := by cases a <;> first | exact ⟨rfl, h⟩ | cases h
theorem runM_sat {ro : Bool} {c : Cfg} (hc : CfgOK c) (hg : ∀ g, c.glob g = none) {n : Nat} {f : FuncId} {O : Nat → Prop} {w0 w : World} {β : Val} {H : List SO} {base : Nat} {args : List SV} {vs : List Value} (M : List Nat)
    (hH : HeapRel0 c.P O w0 β H w) (ha : SV.denL β args = some vs) : (runM ro c n f args H base M).Sat (SumSem c.P H β w base f vs) := by
  unfold runM
  cases hok : boolC (nodupN M) (boolC (keepsAt (fun n => memN n M) H M) (boolC (SV.usesL (fun n => memN n M) args) (boolC (SV.usesL (smallI ro M args H).known (smallI ro M args H).args) (allN (fun e => e.keeps (smallI ro M args H).known) (smallI ro M args H).ents) false) false) false) false with
  | false => trivial
  | true =>
    obtain ⟨h1, hok⟩ := boolC_two hok
    obtain ⟨h2, hok⟩ := boolC_two hok
    obtain ⟨h3, hok⟩ := boolC_two hok
    obtain ⟨h4, h5⟩ := boolC_two hok
    rw [boolC_true]
    have hM : M.Nodup := nodupN_spec M h1
    have hround : ∀ n, memN n M = true → (smallI ro M args H).big (idxN n M) = n := by
      intro n hn
      show (nth M (idxN n M)).getD 0 = n
      rw [nth_eq, idxN_spec (memN_iff.1 hn)]
      rfl
    have hget : ∀ (j : Nat) (E : SO), (smallI ro M args H).ents[j]? = some E → ∃ m e, M[j]? = some m ∧ H[m]? = some e ∧ E = rowO ro (renO (fun n => idxN n M) e) ∧ e.keeps (fun n => memN n M) = true := by
      intro j E hE
      have hE : (mapN (fun m => rowO ro (renO (fun n => idxN n M) (atE (nth H m)))) M)[j]? = some E := hE
      rw [mapN_eq, List.getElem?_map] at hE
      cases hm : M[j]? with
      | none => rw [hm] at hE; cases hE
      | some m =>
        rw [hm] at hE
        obtain ⟨e, he, hk⟩ := keepsAt_get h2 (List.mem_of_getElem? hm)
        have hE : rowO ro (renO (fun n => idxN n M) (atE (nth H m))) = E := Option.some.inj hE
        rw [nth_eq, he] at hE
        exact ⟨m, e, rfl, he, hE.symm, hk⟩
    have hI : (smallI ro M args H).FitsQ H := by
      refine ⟨?_, fun i j nm hi hj => ?_, h4, fun j E hE => ?_, fun j E hE => ?_⟩
      · show (mapN _ M).length = M.length
        rw [mapN_eq, List.length_map]
      · exact (List.getElem?_inj (List.getElem?_eq_some_iff.1 hi).1 hM).1 (hi.trans hj.symm)
      · obtain ⟨m, e, hm, he, rfl, hk⟩ := hget j E hE
        have hb : (smallI ro M args H).big j = m := by
          show (nth M j).getD 0 = m
          rw [nth_eq, hm]; rfl
        exact ⟨e, by rw [hb]; exact he, taken_ro ro (taken_round hround hk)⟩
      · exact SO.keeps_cuses (allN_mem h5 E (List.mem_of_getElem? hE))
    have ha' : SV.denL β (SV.renL (smallI ro M args H).big (smallI ro M args H).args) = some vs := by
      show SV.denL β (SV.renL (smallI ro M args H).big (SV.renL (fun n => idxN n M) args)) = some vs
      rw [SV.denL_ren, SV.denL_ren]
      rw [← SV.denL_uses (p := fun n => memN n M) (β := β) (fun n hn => by show β n = β ((smallI ro M args H).big (idxN n M)); rw [hround n hn]) args h3]
      exact ha
    generalize smallI ro M args H = I at hI ha' ⊢
    unfold runI
    cases hd : detT (callSim c n f I.args I.ents) with
    | none => trivial
    | some r =>
      obtain ⟨v, H2⟩ := r
      rw [optC_some]
      show (outM I base (ownedOf I.ents 0) (notKnown (lenN I.names) (reachN H2 400 (app v.nms (ownedOf I.ents 0)) [])) v H2).Sat _
      generalize notKnown (lenN I.names) (reachN H2 400 (app v.nms (ownedOf I.ents 0)) []) = keep
      unfold outM
      cases hk : boolC (nodupN keep) (boolC (allN (fun j => Nat.ble (lenN I.names) j) keep) (boolC (v.uses (I.seen keep)) (boolC (keepsAt (I.seen keep) H2 (ownedOf I.ents 0)) (boolC (keepsAt (I.seen keep) H2 keep) (allN (fun m => optC (nth H2 m) false SO.owned) (app (ownedOf I.ents 0) keep)) false) false) false) false) false with
      | false => trivial
      | true =>
        obtain ⟨k1, hk⟩ := boolC_two hk
        obtain ⟨k2, hk⟩ := boolC_two hk
        obtain ⟨k3, hk⟩ := boolC_two hk
        obtain ⟨k4, hk⟩ := boolC_two hk
        obtain ⟨k5, k6⟩ := boolC_two hk
        rw [boolC_true]
        have hown : ∀ j ∈ ownedOf I.ents 0 ++ keep, ∀ e, H2[j]? = some e → e.owned = true := by
          intro j hj e he
          have := allN_mem k6 j (by rw [app_eq]; exact hj)
          rw [nth_eq, he] at this
          exact this
        show SumSem c.P H β w base f vs _
        refine sum_runQ hc n hH I (fun g j h => by rw [hg g] at h; cases h) ha' hI keep (fun j hj => ?_) (nodupN_spec keep k1) ((detT_ob hd).mono fun v' H' h => ?_)
        · have := allN_mem k2 j hj
          rw [← lenN_eq]
          exact Nat.le_of_ble_eq_true this
        · obtain ⟨rfl, rfl⟩ := h
          refine ⟨SV.Imp.refl _, k3, setsQ_of fun j hj => ?_, newsQ_of fun j hj => ?_⟩
          · obtain ⟨e, he, hk⟩ := keepsAt_get k4 hj
            exact ⟨e, he, hk, hown j (List.mem_append_left _ hj) e he⟩
          · obtain ⟨e, he, hk⟩ := keepsAt_get k5 hj
            exact ⟨e, he, hk, hown j (List.mem_append_right _ hj) e he⟩
theorem ownRun_ok (ro : Bool) (fl : Nat) {c : Cfg} (hc : CfgOK c) (hg : ∀ g, c.glob g = none) (n : Nat) (f : FuncId) : SumOK c.P f (ownRun ro fl c n f) := by
  intro glob O w0 β H w base args vs hH hG ha
  unfold ownRun
  cases args with
  | nil => trivial
  | cons a r => exact runM_sat hc hg _ hH ha
end Go.Sim


/-
  The symbolic simulator, thirty-eighth part: functions that answer true or false: the run's own answer, whatever it is.
-/
namespace Go.Sim
variable {α : Type}

theorem bool_ends {base : Nat} {I : Ifc} {t : Bool} {v : SV} {H : List SO} (ho : ownedOf I.ents 0 = []) (h : ∃ b, v = .bool b ∧ b.den = t) : I.EndsQ base [] ⟨.bool (.sym t), [], []⟩ v H := by
  obtain ⟨b, rfl, rfl⟩ := h
  refine ⟨fun β x hx => hx, rfl, ?_, trivial⟩
  rw [ho]
  trivial
/-- a row of strings that is read alone -/
noncomputable def strD (v : SV) : ByteArray := SV.rec (motive_1 := fun _ => ByteArray) (motive_2 := fun _ => Unit) (fun _ _ => .empty) (fun _ => .empty) (fun s => s.den) (fun _ => .empty) .empty (fun _ _ _ => .empty) .empty (fun _ => .empty) .empty (fun _ _ _ _ _ => .empty) .empty (fun _ _ _ => .empty) .empty (fun _ _ => .empty) (fun _ _ => .empty) (fun _ => .empty) (fun _ _ _ _ => .empty) () (fun _ _ _ _ => ()) v
noncomputable def rowSt (S : Nat → ByteArray) (n : Nat) : SO := .row (.fn (fun i => .str (.sym (S i))) n)
end Go.Sim


/-
  Principals and events that came in: their cells.
-/
namespace Go.Proofs.YtmekechnnfhhkaaDoor.Aes
open Go.Sim Go.WideShapes Go.ChangeShapes

section
variable {H : Type} {enc : TypeId × Value → H} {P : Program} {w : World} {r : Reach} {b0 base : Nat} {held : Bool}

theorem cell_int {ti : TypeId} {n : Nat} {c : Value} {y : DataW H × List MemPlace} (hi : P.underlying ti = some (.int .i64)) (k : DataW.trod enc P w base (fun _ => true) held n ti [c] = some y) : ∃ z, c = .int .i64 z := by
  obtain ⟨z, e, _, _⟩ := DataW.trod_int hi k
  exact ⟨z, by simpa using e⟩
theorem cell_str {ti : TypeId} {n : Nat} {c : Value} {y : DataW H × List MemPlace} (hi : P.underlying ti = some .string) (k : DataW.trod enc P w base (fun _ => true) held n ti [c] = some y) : ∃ s, c = .string s := by
  obtain ⟨z, e, _, _⟩ := DataW.trod_string hi k
  exact ⟨z, by simpa using e⟩
end
end Go.Proofs.YtmekechnnfhhkaaDoor.Aes


/-
  Runs az summaries at this program; what ends in true; principals' values.
-/
namespace Go.Proofs.YtmekechnnfhhkaaDoor.Aes
open Go.Sim
open Go.Proofs
variable {α : Type}

set_option maxRecDepth 1000000
theorem runOfOK (ro : Bool) (fl : Nat) {g : FuncId → Option Summ} (hc : CfgOK (cfgOf g)) (n : Nat) (f : FuncId) : SumOK Tryd.prog f (ownRun ro fl (cfgOf g) n f) := ownRun_ok ro fl hc (fun _ => rfl) n f
noncomputable def roL (c : Cfg) (l : List FuncId) (r : List (FuncId × Summ)) : List (FuncId × Summ) := List.rec (motive := fun _ => List (FuncId × Summ)) r (fun f _ ih => (f, ownRun true 0 c 4000 f) :: ih) l
theorem rep_all {p : Prop} (h : p) (n : Nat) : ∀ q ∈ repN p n, q := by
  intro q hq
  rw [repN_eq] at hq
  rw [List.eq_of_mem_replicate hq]
  exact h
theorem app_all {l m : List Prop} (h : ∀ p ∈ l, p) (h' : ∀ p ∈ m, p) : ∀ p ∈ app l m, p := by
  intro p hp
  rw [app_eq] at hp
  rcases List.mem_append.1 hp with hp | hp
  · exact h p hp
  · exact h' p hp
theorem tmp_set {C : Cut} {i j : Nat} {v : SV} (h : ((C.frames[i]?).bind fun p => p.tmps[j]?) = some (some v)) {p : SP} {u : Option SV} (hp : C.frames[i]? = some p) (hu : p.tmps[j]? = some u) {w : SV} {f : Nat → Nat} (hi : w.Imp (v.ren f)) : ∃ x, u = some x ∧ w.Imp (x.ren f) := by
  rw [hp] at h
  simp only [Option.bind_some, hu, Option.some.injEq] at h
  exact ⟨v, h, hi⟩
theorem runs_mono {c : Cfg} {f : FuncId} {args : List SV} {H : List SO} {D E : SV → List SO → Prop} (h : Runs c f args H D) (hde : ∀ v H, D v H → E v H) : Runs c f args H E :=
  ⟨h.1, fun O w0 w β vs hH hG ha => (h.2 O w0 w β vs hH hG ha).mono fun e w' ⟨v, H', x, β', h1, h2, h3⟩ => ⟨v, H', x, β', h1, hde _ _ h2, h3⟩⟩
end Go.Proofs.YtmekechnnfhhkaaDoor.Aes


/-
  Sorting a row of elements of k cells by a function: the kit's contract az a fact on heaps.
-/
namespace Go.Sim
open Go.Proofs Go.Shelf Go.RowKit Go.Lib Go.Sort

/-- what keeps all that is there only draws and grows -/
theorem eff_grow {P : Program} {β : Val} {w : World} {base : Nat} {β' : Val} {w' : World} (h : Eff P β w base [] [] β' w') : ∃ q os', w' = grow (w.drewN q) os' := by
  refine ⟨w'.drawn - w.drawn, w'.heap.extract w.heap.size w'.heap.size, ?_⟩
  have hd := h.drawn
  have hh : w'.heap = w.heap ++ w'.heap.extract w.heap.size w'.heap.size := by
    apply Array.ext_getElem?
    intro i
    have hs := h.size
    by_cases c : i < w.heap.size
    · rw [Array.getElem?_append_left c]
      exact h.frame i c fun n e l hm => by cases hm
    · rw [Array.getElem?_append_right (by omega), Array.getElem?_extract]
      by_cases c2 : i < w'.heap.size
      · rw [if_pos (by omega), show w.heap.size + (i - w.heap.size) = i by omega]
      · rw [Array.getElem?_eq_none (by omega), if_neg (by omega)]
  have h1 := h.os
  have h2 := h.tape
  have h3 := h.output
  cases w'; cases w
  simp only at h1 h2 h3 hd hh ⊢
  subst h1 h2 h3
  unfold grow World.drewN
  simp only [World.mk.injEq, true_and, and_true]
  exact ⟨hh, by omega⟩
section
variable {P : Program} {α : Type} [Inhabited α]
/-- a comparison's contract, from its summary -/
theorem cmp_lays (hP : ProgOK P) {g : FuncId} {fn : Func} (hf : P.funcs[g]? = some fn) (hb : fn.body.isSome = true) {s : Summ} (hs : SumOK P g s) (enc : α → List Value) (k : Nat) (cf : α → α → Int) (A : α → SV) (hA : ∀ x, (A x).den (fun _ => none) = some (.agg (enc x).toArray))
    (hr : ∀ x y, ∃ n : SI, s [A x, A y] [] 0 = .ok ⟨.int .i64 n, [], []⟩ ∧ n.den = cf x y) (blk off size : Nat) (w : World) : CmpLays P g #[] enc k cf blk off size w := by
  intro m os dk _ x y
  obtain ⟨n, hn, hc⟩ := hr x y
  have h := hs (fun _ => none) (fun _ => False) (sortWorldK enc k w blk off m dk os) (fun _ => none) [] (sortWorldK enc k w blk off m dk os) 0 [A x, A y] [.agg (enc x).toArray, .agg (enc y).toArray] (HeapRel.start P (fun _ => False) _).toHeapRel0 (GlobRel.none _) (denL_cons.2 ⟨_, _, hA x, denL_cons.2 ⟨_, _, hA y, rfl, rfl⟩, rfl⟩)
  rw [hn] at h
  obtain ⟨_, h | ⟨v', w', β', h, _⟩⟩ := h (fun i hi => rfl)
  · refine h.2.mono fun e w' ⟨v', β', he, hv, heff⟩ => ⟨?_, eff_grow heff⟩
    rw [he, ← hc]
    have hv : some (Value.int .i64 n.den) = some v' := hv
    rw [Option.some.inj hv]
  · rw [run_callFunc hP hf hb] at h
    cases h
/- The row. -/
variable (enc : α → List Value) (k : Nat)
/-- its cells, az a function of the place -/
noncomputable def flatV (l : List α) (j : Nat) : Value := (flatK enc k l.toArray)[j]!
theorem heap_sortWorld {w : World} {blk : Nat} {vs rest : List Value} {el : TypeId} {fr : Nat × Nat} {d d' : Array α} {m : Nat} {os : Array Obj} (hb : w.heap[blk]? = some (.cells (vs ++ rest).toArray el fr)) (hv : vs.length = d.size * k) (hd : d'.size = d.size) :
    (sortWorldK enc k w blk 0 m d' os).heap[blk]? = some (.cells ((flatK enc k d').toList ++ rest).toArray el fr) := by
  have hlt : blk < w.heap.size := (Array.getElem?_eq_some_iff.1 hb).1
  show ((putRowK enc k (Sort.ahead w m) blk 0 d').heap ++ os)[blk]? = _
  have hp : (putRowK enc k (Sort.ahead w m) blk 0 d').heap = w.heap.modify blk (onCells (putCells id 0 (flatK enc k d'))) := rfl
  rw [Array.getElem?_append_left (by rw [hp, Array.size_modify]; exact hlt), hp, Array.getElem?_modify, if_pos rfl, hb]
  show some (Obj.cells (putCells id 0 (flatK enc k d') (vs ++ rest).toArray) el fr) = _
  congr 2
  apply Array.ext_getElem?
  intro j
  unfold putCells
  have hs : (flatK enc k d').size = vs.length := by rw [size_flatK, hd, hv]
  rw [Array.getElem?_mapIdx]
  simp only [List.getElem?_toArray]
  by_cases c : j < vs.length
  · rw [List.getElem?_append_left c, List.getElem?_append_left (by simpa [hs] using c), List.getElem?_eq_getElem c, Option.map_some, if_pos ⟨Nat.zero_le _, by omega⟩]
    have hj : j < (flatK enc k d').toList.length := by simpa [hs] using c
    rw [List.getElem?_eq_getElem hj]
    simp only [id, Nat.sub_zero]
    rw [getElem!_pos _ j (by omega)]
    simp
  · rw [List.getElem?_append_right (by omega), List.getElem?_append_right (by simp [hs]; omega)]
    have e : (flatK enc k d').toList.length = vs.length := by simpa using hs
    rw [e]
    cases hr : rest[j - vs.length]? with
    | none => rfl
    | some y => simp only [Option.map_some]; rw [if_neg (by omega)]
theorem heap_sortWorld_other {w : World} {blk b : Nat} {d' : Array α} {m : Nat} {os : Array Obj} (hb : b < w.heap.size) (hne : b ≠ blk) : (sortWorldK enc k w blk 0 m d' os).heap[b]? = w.heap[b]? := by
  show ((putRowK enc k (Sort.ahead w m) blk 0 d').heap ++ os)[b]? = _
  have hp : (putRowK enc k (Sort.ahead w m) blk 0 d').heap = w.heap.modify blk (onCells (putCells id 0 (flatK enc k d'))) := rfl
  rw [Array.getElem?_append_left (by rw [hp, Array.size_modify]; exact hb), hp, Array.getElem?_modify, if_neg (Ne.symm hne)]
theorem size_sortWorld {w : World} {blk : Nat} {d' : Array α} {m : Nat} {os : Array Obj} : w.heap.size ≤ (sortWorldK enc k w blk 0 m d' os).heap.size := by
  show _ ≤ ((putRowK enc k (Sort.ahead w m) blk 0 d').heap ++ os).size
  have hp : (putRowK enc k (Sort.ahead w m) blk 0 d').heap = w.heap.modify blk (onCells (putCells id 0 (flatK enc k d'))) := rfl
  rw [Array.size_append, hp, Array.size_modify]
  exact Nat.le_add_right _ _
/-- what the row holds is a list's cells -/
theorem holds_of {w : World} {blk : Nat} {vs rest : List Value} {el : TypeId} {lo hi : Nat} {d : Array α} (hb : w.heap[blk]? = some (.cells (vs ++ rest).toArray el (lo, hi))) (hu : Unfz lo hi (vs ++ rest).length) (hv : vs = (flatK enc k d).toList) : HoldsK enc k w blk 0 d := by
  intro j hj
  rw [Nat.zero_add]
  have hl : j < vs.length := by rw [hv]; simpa using hj
  constructor
  · unfold World.cell?
    rw [hb]
    show (vs ++ rest).toArray[j]? = _
    rw [List.getElem?_toArray, List.getElem?_append_left hl, List.getElem?_eq_getElem hl]
    congr 1
    rw [getElem!_pos _ j hj]
    simp only [hv]
    simp
  · unfold World.frozen?
    rw [hb]
    simp only
    have := hu.at j (by rw [List.length_append]; omega)
    simp only [Bool.and_eq_false_iff, decide_eq_false_iff_not]
    omega
/-- the order of a comparison -/
noncomputable def srtL (cf : α → α → Int) (D : List α) : List α := D.mergeSort fun x y => !(ltOf cf) y x
/-- SORTED: the row holds its elements in order -/
theorem sort_sem {ρ : Ren} (L : SlLaysF0.n6 P ρ) (hP : ProgOK P) (hs6 : ∃ fn, P.funcs[ρ.f 6]? = some fn ∧ fn.body.isSome = true) (aE : ∀ w, (isAgg (ρ.t 24)).run P w = .ok true w) (zE : ∀ w, (Go.sizeOf (ρ.t 24)).run P w = .ok k w) (hk : ∀ x, (enc x).length = k) (h1 : ∀ x, ∀ v ∈ enc x, v.oneCell' = true) (cf : α → α → Int) (hO : SWO (ltOf cf)) (hT : ∀ x y, (ltOf cf) x y = false → (ltOf cf) y x = false → x = y)
    {g : FuncId} {fn : Func} (hf : P.funcs[g]? = some fn) (hb : fn.body.isSome = true) (hcmp : ∀ blk size w, CmpLays P g #[] enc k cf blk 0 size w)
    {O : Nat → Prop} {w0 w : World} {β : Val} {H : List SO} {base nm : Nat} {wh : Bool} {el : TypeId} {V : Nat → Value} {D : List α} {c : SC} {l : SN} {vs : List Value} (hH : HeapRel0 P O w0 β H w) (he : H[nm]? = some (.own (.raw V (D.length * k)) wh el)) (hl : l.den = D.length)
    (hV : ∀ j, j < D.length * k → V j = flatV enc k D j) (hsz : D.length < 4611686018427387904) (ha : SV.denL β [.slice ⟨nm, .lit 0⟩ l c, .func (.fn (.func g)) [] []] = some vs) :
    SumSem P H β w base (ρ.f 6) vs ⟨.tuple [], [(nm, .own (.raw (flatV enc k (srtL cf D)) (D.length * k)) wh el)], []⟩ := by
  obtain ⟨x, ys, hx, hys, rfl⟩ := denL_cons.1 ha
  obtain ⟨y, zs, hy, hzs, rfl⟩ := denL_cons.1 hys
  cases hy; cases hzs
  obtain ⟨A, C, hA, hC, hle, rfl⟩ := den_slice.1 hx
  obtain ⟨lo, ws, rest, f1, f2, hβ, hoff, hcr, hh, hu, hw, hi⟩ : OwnRel P β w nm (.own (.raw V (D.length * k)) wh el) := (hH.entries nm _ he).toOwn rfl
  obtain ⟨hlen, hcr⟩ : ws.length = D.length * k ∧ ∀ (i : Nat) (x : Value), ws[i]? = some x → x = V i := hcr
  have hA : (β nm).map (fun l => (⟨l.blk, l.off + 0, none⟩ : Addr)) = some A := hA
  rw [hβ] at hA
  have hA : (⟨lo.blk, lo.off + 0, none⟩ : Addr) = A := Option.some.inj hA
  rw [hoff] at hA
  subst hA
  rw [hl]
  have hws : ws = (flatK enc k D.toArray).toList := by
    apply List.ext_getElem?
    intro i
    by_cases c : i < ws.length
    · rw [List.getElem?_eq_getElem c, hcr i _ (List.getElem?_eq_getElem c), hV i (by omega)]
      have : i < (flatK enc k D.toArray).size := by rw [size_flatK]; simpa [hlen] using c
      rw [List.getElem?_eq_getElem (by simpa using this)]
      unfold flatV
      rw [getElem!_pos _ i this]
      simp
    · rw [List.getElem?_eq_none (by omega), List.getElem?_eq_none (by simp; omega)]
  have hHd := holds_of enc k hh hu hws
  have hblk : lo.blk < w.heap.size := (Array.getElem?_eq_some_iff.1 hh).1
  have hcon := AnyQ.slices_SortFunc L k aE zE enc hk h1 cf hO g #[] lo.blk 0 C D.toArray w (fun args w => run_callFunc hP hf hb args w) (hcmp lo.blk D.toArray.size w) hHd hblk (by simpa using hsz)
  refine fun hnew => ⟨fun n e hm => ?_, .inl ⟨hs6, ?_⟩⟩
  · simp at hm
    obtain ⟨rfl, rfl⟩ := hm
    exact ⟨_, he, rfl⟩
  refine hcon.mono fun e w' ⟨hret, d', n, os, hp, hso, hw'⟩ => ⟨.tuple #[], β, hret, rfl, ?_⟩
  have hsd : d'.size = D.toArray.size := hp.1
  have hd' : d'.toList = srtL cf D := Go.Sort.sorted_unique_holds hO hT D.toArray d' hp hso
  have hsL : (srtL cf D).length = D.length := by rw [← hd']; simpa using hsd
  have hd'' : d' = (srtL cf D).toArray := by rw [← hd', Array.toArray_toList]
  subst hw'
  have hh' := heap_sortWorld enc k (m := n) (os := os) hh (by rw [hlen]; simp) hsd
  refine ⟨fun n l h => h, rfl, rfl, rfl, Nat.le_add_right _ _, size_sortWorld enc k, fun _ _ => rfl, fun b hb hne => heap_sortWorld_other enc k hb fun e => ?_, fun n e e' h h' => ?_, fun n e hm => ?_, fun i e h => by simp at h, fun i j l l' _ h => by simp at h⟩
  · exact hne nm (.own (.raw (flatV enc k (srtL cf D)) (D.length * k)) wh el) lo (by simp) hβ e.symm
  · simp at h h'
    rw [h.2, h'.2]
  · simp at hm
    obtain ⟨rfl, rfl⟩ := hm
    refine ⟨lo, _, rest, f1, f2, hβ, hoff, ⟨by simp [size_flatK, hsd], fun i x hx => ?_⟩, hh', ?_, hw, fun i' hi' => ?_⟩
    · unfold flatV
      rw [← hd'']
      have hi : i < (flatK enc k d').size := by
        have := (List.getElem?_eq_some_iff.1 hx).1
        simpa using this
      rw [List.getElem?_eq_getElem (by simpa using hi)] at hx
      rw [getElem!_pos _ i hi, ← Option.some.inj hx]
      simp
    · rw [List.length_append] at hu ⊢
      simpa [size_flatK, hsd, hlen] using hu
    · have := hi i' hi'
      rw [List.length_append] at this ⊢
      simpa [size_flatK, hsd, hlen] using this
end
end Go.Sim


/-
  Routes: the order of pairs of realms.
-/
namespace Go.Proofs.YtmekechnnfhhkaaDoor.Aes
open Go.Sim
open Go.Proofs
variable {α : Type}

/-- a pair of strings -/
noncomputable def pairL : List SV → Option (SStr × SStr)
  | [a, b] => optC (strV a) none fun a => optC (strV b) none fun b => some (a, b)
  | _ => none
noncomputable def pairV (v : SV) : Option (SStr × SStr) := v.asAgg none pairL
theorem pairL_spec : ∀ {l : List SV} {p : SStr × SStr}, pairL l = some p → l = [.str p.1, .str p.2]
  | [a, b], p, h => by
    have h : (optC (strV a) none fun a => optC (strV b) none fun b => some (a, b)) = some p := h
    cases ha : strV a with
    | none => rw [ha] at h; cases h
    | some x =>
      cases hb : strV b with
      | none => rw [ha, hb] at h; cases h
      | some y =>
        rw [ha, hb] at h
        cases h
        rw [strV_spec ha, strV_spec hb]
  | [], _, h => by cases h
  | [_], _, h => by cases h
  | _ :: _ :: _ :: _, _, h => by cases h
theorem pairV_spec {v : SV} {p : SStr × SStr} (h : pairV v = some p) : v = .agg [.str p.1, .str p.2] := by
  cases v with
  | agg l => rw [pairL_spec h]
  | _ => cases h
noncomputable def orI (x y : SI) : SI := SI.rec (motive := fun _ => SI) (fun n => boolC (n != 0) (.lit n) y) (fun n => .sym (boolC (n != 0) n y.den)) (fun b => .sym (boolC ((SI.b8 b).den != 0) (SI.b8 b).den y.den)) (fun b => .sym (boolC ((SI.b32 b).den != 0) (SI.b32 b).den y.den)) (fun b => .sym (boolC ((SI.b64 b).den != 0) (SI.b64 b).den y.den)) x
theorem orI_den (x y : SI) : (orI x y).den = boolC (x.den != 0) x.den y.den := by
  cases x with
  | lit n =>
    show (boolC (n != 0) (SI.lit n) y).den = boolC (n != 0) n y.den
    cases n != 0 <;> rfl
  | _ => rfl
noncomputable def c2S : Summ := fun args _ _ => args2 args fun v w => optC (pairV v) (.stuck 682) fun p => optC (pairV w) (.stuck 682) fun q => .ok ⟨SV.int .i64 (orI (cmpI p.1 q.1) (cmpI p.2 q.2)), [], []⟩
noncomputable def c2A (a b c d : ByteArray) : List SV := [.agg [.str (.sym a), .str (.sym b)], .agg [.str (.sym c), .str (.sym d)]]
theorem c2_run1 (a b c d : ByteArray) : outO [] (callSim cfgR0 400 48 (c2A a b c d) []) [true] = ([(cmpZ a c != 0) = true], some (.int .i64 (.sym (cmpZ a c)), [])) := by kernel_rfl
theorem c2_run2 (a b c d : ByteArray) : outO [] (callSim cfgR0 400 48 (c2A a b c d) []) [false, false] = ([(cmpZ a c != 0) = false, (cmpZ b d != 0) = false], some (.int .i64 (.lit 0), [])) := by kernel_rfl
theorem c2_run3 (a b c d : ByteArray) : outO [] (callSim cfgR0 400 48 (c2A a b c d) []) [false, true] = ([(cmpZ a c != 0) = false, (cmpZ b d != 0) = true], some (.int .i64 (.sym (cmpZ b d)), [])) := by kernel_rfl
theorem agg2_imp {a b c d : SStr} (h : a.den = c.den) (h' : b.den = d.den) : (SV.agg [.str a, .str b]).Imp (.agg [.str c, .str d]) := fun β x hx => by
  simp only [SV.den, SV.denL, Option.map_some, Option.bind_some] at hx ⊢
  rw [← h, ← h']; exact hx
theorem c2OK : SumOK Tryd.prog 48 c2S := by
  intro glob O w0 β H w base args vs hH hG ha
  refine args2_sat fun v1 v2 hv => optC_only fun p hp => optC_only fun q hq => ?_
  rw [hv, pairV_spec hp, pairV_spec hq] at ha
  have ha := impL_cons (agg2_imp (c := .sym p.1.den) (d := .sym p.2.den) rfl rfl) (impL_cons (agg2_imp (c := .sym q.1.den) (d := .sym q.2.den) rfl rfl) impL_nil) _ _ ha
  have hE : ∀ (n : SI), boolC (cmpZ p.1.den q.1.den != 0) (cmpZ p.1.den q.1.den) (cmpZ p.2.den q.2.den) = n.den → ∀ H2 : List SO, (⟨[], [], c2A p.1.den p.2.den q.1.den q.2.den⟩ : Ifc).Ends base [] ⟨SV.int .i64 (orI (cmpI p.1 q.1) (cmpI p.2 q.2)), [], []⟩ (SV.int .i64 n) H2 := fun n hn H2 => ⟨int_impS (by rw [orI_den, cmpI_den, cmpI_den, hn]), rfl, trivial, trivial⟩
  cases hb : cmpZ p.1.den q.1.den != 0 with
  | true => exact sum_outO cfgR0OK rfl 400 hH ⟨[], [], c2A p.1.den p.2.den q.1.den q.2.den⟩ ha (fits0 rfl) [] (by simp) (by simp) (c2_run1 _ _ _ _) (all_cons hb all_nil) fun H2 _ => hE _ (by rw [hb]; rfl) H2
  | false =>
    cases he : cmpZ p.2.den q.2.den != 0 with
    | true => exact sum_outO cfgR0OK rfl 400 hH ⟨[], [], c2A p.1.den p.2.den q.1.den q.2.den⟩ ha (fits0 rfl) [] (by simp) (by simp) (c2_run3 _ _ _ _) (all_cons hb (all_cons he all_nil)) fun H2 _ => hE _ (by rw [hb]; rfl) H2
    | false => exact sum_outO cfgR0OK rfl 400 hH ⟨[], [], c2A p.1.den p.2.den q.1.den q.2.den⟩ ha (fits0 rfl) [] (by simp) (by simp) (c2_run2 _ _ _ _) (all_cons hb (all_cons he all_nil)) fun H2 _ => hE (.lit 0) (by
        have h0 : cmpZ p.2.den q.2.den = 0 := by simpa using he
        rw [hb, h0]; rfl) H2
noncomputable def cfgR1 : Cfg := cfgOf (sumsOf [(88, idxS), (50, cmpS), (48, c2S)])
theorem cfgR1OK : CfgOK cfgR1 := sumsOf_ok (allC idxOK (allC cmpOK (all1 c2OK)))
end Go.Proofs.YtmekechnnfhhkaaDoor.Aes


/-
  Sorting pairs of strings: the summary of slices.SortFunc.
-/
namespace Go.Proofs
open Go.Shelf Go.RowKit Go.Lib Go.Sort
def Tryd.sortPr_ren : Go.Shelf.Ren := ⟨fun | 6 => 56 | 15 => 63 | 14 => 62 | 28 => 76 | 29 => 77 | 20 => 68 | 21 => 69 | 22 => 70 | 23 => 71 | 24 => 72 | 25 => 73 | 26 => 74 | 27 => 75 | 46 => 83 | 47 => 84 | 48 => 85 | 49 => 86 | 50 => 87 | 57 => 90 | n => n, fun | 22 => 29 | 24 => 41 | 25 => 93 | 3 => 3 | 39 => 105 | 0 => 0 | 53 => 117 | 55 => 119 | 4 => 4 | 46 => 110 | 45 => 109 | 50 => 114 | 5 => 5 | 9 => 9 | 66 => 122 | 70 => 126 | 76 => 134 | 77 => 135 | n => n, fun | n => n⟩
theorem Tryd.sortPr : Go.Proofs.SlLaysF0.n6 Tryd.prog Tryd.sortPr_ren := {
  mixed := by kernel_rfl
  f6 := ⟨Tryd.f56.name, by decide, Tryd.func56.trans (congrArg some (by kernel_rfl))⟩
  f14 := ⟨Tryd.f62.name, by decide, Tryd.func62.trans (congrArg some (by kernel_rfl))⟩
  f15 := Tryd.func63.trans (congrArg some (by kernel_rfl))
  f20 := ⟨Tryd.f68.name, by decide, Tryd.func68.trans (congrArg some (by kernel_rfl))⟩
  f21 := ⟨Tryd.f69.name, by decide, Tryd.func69.trans (congrArg some (by kernel_rfl))⟩
  f22 := ⟨Tryd.f70.name, by decide, Tryd.func70.trans (congrArg some (by kernel_rfl))⟩
  f23 := ⟨Tryd.f71.name, by decide, Tryd.func71.trans (congrArg some (by kernel_rfl))⟩
  f24 := ⟨Tryd.f72.name, by decide, Tryd.func72.trans (congrArg some (by kernel_rfl))⟩
  f25 := ⟨Tryd.f73.name, by decide, Tryd.func73.trans (congrArg some (by kernel_rfl))⟩
  f26 := ⟨Tryd.f74.name, by decide, Tryd.func74.trans (congrArg some (by kernel_rfl))⟩
  f27 := ⟨Tryd.f75.name, by decide, Tryd.func75.trans (congrArg some (by kernel_rfl))⟩
  f28 := Tryd.func76.trans (congrArg some (by kernel_rfl))
  f29 := Tryd.func77.trans (congrArg some (by kernel_rfl))
  f46 := ⟨Tryd.f83.name, by decide, Tryd.func83.trans (congrArg some (by kernel_rfl))⟩
  f47 := Tryd.func84.trans (congrArg some (by kernel_rfl))
  f48 := Tryd.func85.trans (congrArg some (by kernel_rfl))
  f49 := ⟨Tryd.f86.name, by decide, Tryd.func86.trans (congrArg some (by kernel_rfl))⟩
  f50 := ⟨Tryd.f87.name, by decide, Tryd.func87.trans (congrArg some (by kernel_rfl))⟩
  f57 := ⟨Tryd.f90.name, by decide, Tryd.func90.trans (congrArg some (by kernel_rfl))⟩
  t0 := Tryd.underlying0
  a0 := Tryd.isAgg0
  z0 := Tryd.sizeOf0
  v0 := Tryd.zeroValue0
  t3 := Tryd.underlying3
  a3 := Tryd.isAgg3
  z3 := Tryd.sizeOf3
  v3 := Tryd.zeroValue3
  t4 := Tryd.underlying4
  a4 := Tryd.isAgg4
  z4 := Tryd.sizeOf4
  v4 := Tryd.zeroValue4
  t5 := Tryd.underlying5
  a5 := Tryd.isAgg5
  z5 := Tryd.sizeOf5
  v5 := Tryd.zeroValue5
  t9 := Tryd.underlying9
  a9 := Tryd.isAgg9
  z9 := Tryd.sizeOf9
  v9 := Tryd.zeroValue9
  t22 := Tryd.underlying29
  a22 := Tryd.isAgg29
  z22 := Tryd.sizeOf29
  v22 := Tryd.zeroValue29
  t25 := Tryd.underlying93
  a25 := Tryd.isAgg93
  z25 := Tryd.sizeOf93
  v25 := Tryd.zeroValue93
  t39 := Tryd.underlying105
  a39 := Tryd.isAgg105
  z39 := Tryd.sizeOf105
  v39 := Tryd.zeroValue105
  t45 := Tryd.underlying109
  a45 := Tryd.isAgg109
  z45 := Tryd.sizeOf109
  v45 := Tryd.zeroValue109
  t46 := Tryd.underlying110
  a46 := Tryd.isAgg110
  z46 := Tryd.sizeOf110
  v46 := Tryd.zeroValue110
  t50 := Tryd.underlying114
  a50 := Tryd.isAgg114
  z50 := Tryd.sizeOf114
  v50 := Tryd.zeroValue114
  t53 := Tryd.underlying117
  a53 := Tryd.isAgg117
  z53 := Tryd.sizeOf117
  v53 := Tryd.zeroValue117
  t55 := Tryd.underlying119
  a55 := Tryd.isAgg119
  z55 := Tryd.sizeOf119
  v55 := Tryd.zeroValue119
  t66 := Tryd.underlying122
  a66 := Tryd.isAgg122
  z66 := Tryd.sizeOf122
  v66 := Tryd.zeroValue122
  t70 := Tryd.underlying126
  a70 := Tryd.isAgg126
  z70 := Tryd.sizeOf126
  v70 := Tryd.zeroValue126
  t76 := Tryd.underlying134
  a76 := Tryd.isAgg134
  z76 := Tryd.sizeOf134
  v76 := Tryd.zeroValue134
  t77 := Tryd.underlying135
  a77 := Tryd.isAgg135
  z77 := Tryd.sizeOf135
  v77 := Tryd.zeroValue135 }
end Go.Proofs
namespace Go.Proofs.YtmekechnnfhhkaaDoor.Aes
open Go.Sim
open Go.Proofs
open Go.Shelf Go.Sort
variable {α : Type}

/- The order of strings. -/
theorem less_lt (x y : ByteArray) : Op.bytesLess x.data.toList y.data.toList = decide (x.data.toList < y.data.toList) := bytesLess_eq _ _
theorem data_eq {x y : ByteArray} (h : x.data.toList = y.data.toList) : x = y := by
  cases x; cases y
  simp only at h
  congr 1
  exact Array.toList_inj.1 h
theorem cmpZ_neg {x y : ByteArray} : cmpZ x y < 0 ↔ x.data.toList < y.data.toList := by
  unfold cmpZ
  rw [less_lt]
  by_cases h : x.data.toList < y.data.toList
  · simp [h]
  · by_cases h2 : x = y
    · subst h2; simp [h]
    · simp [h, h2]
theorem cmpZ_zero {x y : ByteArray} : cmpZ x y = 0 ↔ x = y := by
  unfold cmpZ
  rw [less_lt]
  by_cases h : x.data.toList < y.data.toList
  · simp only [h, decide_true, if_true]
    constructor
    · intro h; omega
    · rintro rfl; exact absurd h (List.lt_irrefl _)
  · by_cases h2 : x = y <;> simp [h, h2]
theorem tri (x y : ByteArray) : x.data.toList < y.data.toList ∨ x = y ∨ y.data.toList < x.data.toList := by
  by_cases h : x.data.toList < y.data.toList
  · exact .inl h
  · by_cases h2 : y.data.toList < x.data.toList
    · exact .inr (.inr h2)
    · exact .inr (.inl (data_eq (List.le_antisymm (List.not_lt.1 h2) (List.not_lt.1 h))))
/- Pairs. -/
abbrev Pr := ByteArray × ByteArray
noncomputable instance : Inhabited Pr := ⟨(.empty, .empty)⟩
noncomputable def encPr (p : Pr) : List Value := [.string p.1, .string p.2]
noncomputable def cfPr (p q : Pr) : Int := boolC (cmpZ p.1 q.1 != 0) (cmpZ p.1 q.1) (cmpZ p.2 q.2)
/-- before -/
def prLt (p q : Pr) : Prop := p.1.data.toList < q.1.data.toList ∨ p.1 = q.1 ∧ p.2.data.toList < q.2.data.toList
noncomputable instance (p q : Pr) : Decidable (prLt p q) := Classical.propDecidable _
theorem cfPr_neg {p q : Pr} : cfPr p q < 0 ↔ prLt p q := by
  unfold cfPr prLt
  by_cases h : cmpZ p.1 q.1 = 0
  · have e := cmpZ_zero.1 h
    rw [h]
    show (cmpZ p.2 q.2 < 0) ↔ _
    rw [cmpZ_neg, e]
    constructor
    · intro h; exact .inr ⟨rfl, h⟩
    · rintro (h | ⟨_, h⟩)
      · exact absurd h (List.lt_irrefl _)
      · exact h
  · have hb : (cmpZ p.1 q.1 != 0) = true := by simpa using h
    rw [hb]
    show (cmpZ p.1 q.1 < 0) ↔ _
    rw [cmpZ_neg]
    constructor
    · exact .inl
    · rintro (h' | ⟨h', _⟩)
      · exact h'
      · exact absurd (cmpZ_zero.2 h') h
theorem ltPr {p q : Pr} : ltOf cfPr p q = decide (prLt p q) := by
  unfold ltOf
  exact decide_eq_decide.2 cfPr_neg
theorem prLt_irrefl (p : Pr) : ¬ prLt p p := by
  rintro (h | ⟨_, h⟩) <;> exact List.lt_irrefl _ h
theorem prLt_trans {p q r : Pr} (h : prLt p q) (h' : prLt q r) : prLt p r := by
  rcases h with h | ⟨e, h⟩
  · rcases h' with h' | ⟨e', _⟩
    · exact .inl (List.lt_trans h h')
    · exact .inl (by rw [← e']; exact h)
  · rcases h' with h' | ⟨e', h'⟩
    · exact .inl (by rw [e]; exact h')
    · exact .inr ⟨e.trans e', List.lt_trans h h'⟩
theorem prLt_tri (p q : Pr) : prLt p q ∨ p = q ∨ prLt q p := by
  rcases tri p.1 q.1 with h | h | h
  · exact .inl (.inl h)
  · rcases tri p.2 q.2 with h' | h' | h'
    · exact .inl (.inr ⟨h, h'⟩)
    · exact .inr (.inl (Prod.ext h h'))
    · exact .inr (.inr (.inr ⟨h.symm, h'⟩))
  · exact .inr (.inr (.inl h))
theorem swoPr : SWO (ltOf cfPr) where
  irrefl p := by rw [ltPr]; exact decide_eq_false (prLt_irrefl p)
  trans p q r h h' := by
    rw [ltPr] at *
    exact decide_eq_true (prLt_trans (of_decide_eq_true h) (of_decide_eq_true h'))
  ntrans p q r h h' := by
    rw [ltPr] at *
    have h := of_decide_eq_false h
    have h' := of_decide_eq_false h'
    refine decide_eq_false fun hr => ?_
    rcases prLt_tri p q with k | rfl | k
    · exact h k
    · exact h' hr
    · exact h' (prLt_trans k hr)
theorem totPr (p q : Pr) (h : ltOf cfPr p q = false) (h' : ltOf cfPr q p = false) : p = q := by
  rw [ltPr] at *
  rcases prLt_tri p q with k | k | k
  · exact absurd k (of_decide_eq_false h)
  · exact k
  · exact absurd k (of_decide_eq_false h')
theorem lays_pr (blk size : Nat) (w : World) : CmpLays Tryd.prog 48 #[] encPr 2 cfPr blk 0 size w :=
  cmp_lays cfgR0OK.prog (fn := Tryd.f48) (by kernel_rfl) (by kernel_rfl) c2OK encPr 2 cfPr (fun p => .agg [.str (.sym p.1), .str (.sym p.2)]) (fun p => rfl) (fun p q => ⟨_, rfl, by rw [orI_den, cmpI_den, cmpI_den]; rfl⟩) blk 0 size w
end Go.Proofs.YtmekechnnfhhkaaDoor.Aes


/-
  Sorting pairs of strings: slices.SortFunc's summary.
-/
namespace Go.Proofs.YtmekechnnfhhkaaDoor.Aes
open Go.Sim
open Go.Proofs
open Go.Shelf Go.Sort
variable {α : Type}

set_option maxRecDepth 1000000
/-- the pairs of a row -/
noncomputable def prAt (V : Nat → Value) (i : Nat) : Pr := (vStr (V (i * 2)), vStr (V (i * 2 + 1)))
noncomputable def prL (V : Nat → Value) (n : Nat) : List Pr := (List.range n).map (prAt V)
def PrV (V : Nat → Value) (n : Nat) : Prop := ∀ i, i < n → V (i * 2) = .string (prAt V i).1 ∧ V (i * 2 + 1) = .string (prAt V i).2
theorem prL_length (V : Nat → Value) (n : Nat) : (prL V n).length = n := by simp [prL]
theorem flat_pr (l : List Pr) {i : Nat} (h : i < l.length) : flatV encPr 2 l (i * 2) = .string l[i].1 ∧ flatV encPr 2 l (i * 2 + 1) = .string l[i].2 := by
  unfold flatV
  rw [get_flatK _ _ _ _ (by simp; omega), get_flatK _ _ _ _ (by simp; omega)]
  have e1 : i * 2 / 2 = i := by omega
  have e2 : (i * 2 + 1) / 2 = i := by omega
  have e3 : i * 2 % 2 = 0 := by omega
  have e4 : (i * 2 + 1) % 2 = 1 := by omega
  rw [e1, e2, e3, e4]
  have e : l.toArray[i]! = l[i] := by simp [h]
  rw [e]
  exact ⟨rfl, rfl⟩
theorem flat_prL {V : Nat → Value} {n : Nat} (h : PrV V n) : ∀ j, j < (prL V n).length * 2 → V j = flatV encPr 2 (prL V n) j := by
  intro j hj
  rw [prL_length] at hj
  have hi : j / 2 < n := by omega
  have hi' : j / 2 < (prL V n).length := by rw [prL_length]; exact hi
  obtain ⟨h1, h2⟩ := h _ hi
  obtain ⟨h3, h4⟩ := flat_pr (prL V n) hi'
  have e : (prL V n)[j / 2] = prAt V (j / 2) := by simp [prL]
  rw [e] at h3 h4
  rcases (show j = j / 2 * 2 ∨ j = j / 2 * 2 + 1 by omega) with c | c
  · rw [c, show j / 2 * 2 / 2 * 2 = j / 2 * 2 by omega] at *
    rw [h1, h3]
  · rw [c, show (j / 2 * 2 + 1) / 2 = j / 2 by omega] at *
    rw [h2, h4]
/- What is looked at. -/
noncomputable def fnOfV (v : SV) : Option FuncId := match v with
  | .func (.fn (.func g)) [] [] => some g
  | _ => none
theorem fnOfV_spec {v : SV} {g : FuncId} (h : fnOfV v = some g) : v = .func (.fn (.func g)) [] [] := by
  unfold fnOfV at h
  split at h
  · cases h; rfl
  · cases h
noncomputable def rawOf (e : SO) : Option (((Nat → Value) × Nat) × Bool × TypeId) := match e with
  | .own (.raw V n) wh el => some ((V, n), wh, el)
  | _ => none
theorem rawOf_spec {e : SO} {r : ((Nat → Value) × Nat) × Bool × TypeId} (h : rawOf e = some r) : e = .own (.raw r.1.1 r.1.2) r.2.1 r.2.2 := by
  unfold rawOf at h
  split at h
  · cases h; rfl
  · cases h
def is0 (n : SN) : Bool := match n with
  | .lit 0 => true
  | _ => false
theorem is0_spec {n : SN} (h : is0 n = true) : n = .lit 0 := by
  unfold is0 at h
  split at h
  · rfl
  · cases h
noncomputable def sfR (nm : Nat) (V : Nat → Value) (N n : Nat) (wh : Bool) (el : TypeId) : R SumRes :=
  .need (N = n * 2 ∧ PrV V n ∧ n < 4611686018427387904) (.ok ⟨.tuple [], [(nm, .own (.raw (flatV encPr 2 (srtL cfPr (prL V n))) (n * 2)) wh el)], []⟩)
noncomputable def sfS : Summ := fun args H _ => args2 args fun v fv => optC (fnOfV fv) (.stuck 7830) fun g => boolC (Nat.beq g 48) (sliceR v (.ok ⟨.tuple [], [], []⟩) fun a l => boolC (is0 a.off) (optC (nth H a.nm) (.stuck 7831) fun e => optC (rawOf e) (.stuck 7832) fun r => sfR a.nm r.1.1 r.1.2 l.den r.2.1 r.2.2) (.stuck 7833)) (.stuck 7834)
noncomputable def cmpF : SV := .func (.fn (.func 48)) [] []
theorem sf_nil : outO [] (callSim cfgR1 400 56 [.nilSlice, cmpF] []) [] = ([], some (.tuple [], [])) := by kernel_rfl
theorem sfOK : SumOK Tryd.prog 56 sfS := by
  intro glob O w0 β H w base args vs hH hG ha
  refine args2_sat fun v fv hv => optC_only fun g hg => boolC_only fun hgg => ?_
  rw [hv, fnOfV_spec hg, Nat.eq_of_beq_eq_true hgg] at ha
  refine sliceR_sat (fun hn => ?_) fun a l c hs => boolC_only fun h0 => optC_only fun e he => optC_only fun r hr => ?_
  · rw [hn] at ha
    exact sum_runQ cfgR1OK 400 hH ⟨[], [], [.nilSlice, cmpF]⟩ (by intro g j hg; cases hg) ha (fits0 rfl).q [] (by simp) (by simp) (outO_ob sf_nil all_nil fun H2 _ => ⟨.refl _, rfl, trivial, trivial⟩)
  · rintro ⟨hN, hV, hz⟩
    obtain ⟨nm, off⟩ := a
    obtain rfl := is0_spec h0
    have he := rawOf_spec hr ▸ he
    rw [nth_eq] at he
    rw [hs] at ha
    have hl := prL_length r.1.1 l.den
    have := sort_sem encPr 2 Tryd.sortPr cfgR0OK.prog ⟨_, Tryd.func56, by kernel_rfl⟩ Tryd.isAgg41 Tryd.sizeOf41 (fun _ => rfl) (fun p v hv => by simp [encPr] at hv; rcases hv with rfl | rfl <;> rfl) cfPr swoPr totPr (fn := Tryd.f48) (by kernel_rfl) (by kernel_rfl) lays_pr (base := base) (nm := nm) (wh := r.2.1) (el := r.2.2) (V := r.1.1) (D := prL r.1.1 l.den) (c := c) (l := l) hH (by rw [hl, ← hN]; exact he) hl.symm (flat_prL hV) (by rw [hl]; exact hz) ha
    rw [hl] at this
    exact this
end Go.Proofs.YtmekechnnfhhkaaDoor.Aes


/-
  Going through a map of unknown entries: plain facts.
-/
namespace Go.Sim

/-- a map's stamps: none twice, all below the clock -/
structure MapOK (es : List MapEntry) (c : Nat) : Prop where
  nd : (es.map fun e => e.born).Nodup
  lt : ∀ e ∈ es, e.born < c
/-- what has been gone through -/
structure VisOK (es : List MapEntry) (seen : List Nat) : Prop where
  nd : seen.Nodup
  mem : ∀ b ∈ seen, ∃ e ∈ es, e.born = b
theorem vis_nil (es : List MapEntry) : VisOK es [] := ⟨List.nodup_nil, fun _ h => by cases h⟩
theorem born_inj : ∀ {es : List MapEntry}, (es.map fun e => e.born).Nodup → ∀ {e e'}, e ∈ es → e' ∈ es → e.born = e'.born → e = e'
  | [], _, _, _, h, _, _ => by cases h
  | x :: es, hn, e, e', h, h', hb => by
    rw [List.map_cons, List.nodup_cons] at hn
    rcases List.mem_cons.1 h with h1 | h1
    · rcases List.mem_cons.1 h' with h2 | h2
      · rw [h1, h2]
      · exact absurd (show x.born ∈ es.map fun e => e.born from List.mem_map.2 ⟨e', h2, by rw [← h1, hb]⟩) hn.1
    · rcases List.mem_cons.1 h' with h2 | h2
      · exact absurd (show x.born ∈ es.map fun e => e.born from List.mem_map.2 ⟨e, h1, by rw [← h2, hb]⟩) hn.1
      · exact born_inj hn.2 h1 h2 hb
theorem getB_of {es : List MapEntry} (hn : (es.map fun e => e.born).Nodup) {e : MapEntry} (h : e ∈ es) : getB es e.born = e := by
  unfold getB
  cases hf : es.find? fun x => x.born == e.born with
  | none => exact absurd (List.find?_eq_none.1 hf e h) (by simp)
  | some x =>
    have h1 := List.find?_some hf
    have h2 := List.mem_of_find?_eq_some hf
    exact born_inj hn h2 h (by simpa using h1)
theorem lastB_app (seen : List Nat) (b : Nat) : lastB (app seen [b]) = b := by
  unfold lastB
  rw [app_eq]; simp
theorem left_mem {es : List MapEntry} {seen : List Nat} {e : MapEntry} : e ∈ leftA es seen ↔ e ∈ es ∧ e.born ∉ seen := by
  unfold leftA
  rw [List.mem_filter]
  simp
theorem pick_mem {l : List MapEntry} (h : l.isEmpty = false) (z : Nat) : pickA l z ∈ l := by
  have hl : l ≠ [] := by intro e; subst e; cases h
  have h0 : 0 < l.length := List.length_pos_iff.2 hl
  unfold pickA
  have hz : z % l.length < l.length := Nat.mod_lt _ h0
  rw [List.getElem?_eq_getElem hz]
  exact List.getElem_mem hz
theorem left_lt {es : List MapEntry} {seen : List Nat} {e : MapEntry} (h : e ∈ leftA es seen) : (leftA es (app seen [e.born])).length < (leftA es seen).length := by
  have h1 : leftA es (app seen [e.born]) = (leftA es seen).filter fun x => !(x.born == e.born) := by
    unfold leftA
    rw [app_eq, List.filter_filter]
    congr 1
    funext x
    rw [List.contains_eq_any_beq, List.contains_eq_any_beq, List.any_append]
    simp [Bool.and_comm, BEq.comm]
  rw [h1]
  exact List.length_filter_lt_length_iff_exists.2 ⟨e, h, by simp⟩
theorem left_none {es : List MapEntry} {seen : List Nat} (h : (leftA es seen).isEmpty = true) : ∀ e ∈ es, e.born ∈ seen := by
  intro e he
  have hn : leftA es seen = [] := by simpa using h
  by_cases c : e.born ∈ seen
  · exact c
  · have : e ∈ leftA es seen := left_mem.2 ⟨he, c⟩
    rw [hn] at this; cases this
theorem vis_next {es : List MapEntry} {seen : List Nat} (h : VisOK es seen) {e : MapEntry} (he : e ∈ leftA es seen) : VisOK es (app seen [e.born]) := by
  obtain ⟨h1, h2⟩ := left_mem.1 he
  rw [app_eq]
  refine ⟨List.nodup_append.2 ⟨h.nd, by simp, fun a ha b hb => ?_⟩, fun b hb => ?_⟩
  · rw [List.mem_singleton] at hb
    rintro rfl
    exact h2 (hb ▸ ha)
  · rcases List.mem_append.1 hb with hb | hb
    · exact h.mem b hb
    · exact ⟨e, h1, (List.mem_singleton.1 hb).symm⟩
theorem not_gone {es : List MapEntry} {seen : List Nat} {c : Nat} (h : MapOK es c) : ¬ goneA es seen c := by
  rintro ⟨_, h1, h2⟩
  cases es with
  | nil => exact h1 rfl
  | cons e es =>
    have := h2 e (by simp)
    have := h.lt e (by simp)
    omega
theorem perm_nodup {β : Type} [DecidableEq β] : ∀ {l l' : List β}, l.Nodup → l'.Nodup → (∀ x, x ∈ l ↔ x ∈ l') → l.Perm l'
  | [], l', _, _, h => by
    cases l' with
    | nil => exact .refl _
    | cons a l' => exact absurd ((h a).2 (by simp)) (by simp)
  | a :: l, l', hn, hn', h => by
    rw [List.nodup_cons] at hn
    have ha : a ∈ l' := (h a).1 (by simp)
    refine .trans (.cons a (perm_nodup hn.2 (hn'.erase a) fun x => ?_)) (List.perm_cons_erase ha).symm
    rw [hn'.mem_erase_iff]
    constructor
    · intro hx
      exact ⟨fun e => hn.1 (e ▸ hx), (h x).1 (by simp [hx])⟩
    · rintro ⟨h1, h2⟩
      rcases List.mem_cons.1 ((h x).2 h2) with e | e
      · exact absurd e h1
      · exact e
/-- all of it, in some order -/
theorem vis_all {es : List MapEntry} {seen : List Nat} {c : Nat} (hm : MapOK es c) (hv : VisOK es seen) (h : (leftA es seen).isEmpty = true) : (seen.map (getB es)).Perm es := by
  have h1 : seen.Perm (es.map fun e => e.born) := perm_nodup hv.nd hm.nd fun x => by
    constructor
    · intro hx
      obtain ⟨e, he, hb⟩ := hv.mem x hx
      exact List.mem_map.2 ⟨e, he, hb⟩
    · intro hx
      obtain ⟨e, he, rfl⟩ := List.mem_map.1 hx
      exact left_none h e he
  have h2 := h1.map (getB es)
  rw [List.map_map] at h2
  refine h2.trans ?_
  have : es.map (getB es ∘ fun e => e.born) = es := by
    conv => rhs; rw [← List.map_id es]
    exact List.map_congr_left fun e he => getB_of hm.nd he
  rw [this]
end Go.Sim


/-
  The keys of a map of pairs, in order: runs.
-/
namespace Go.Proofs.YtmekechnnfhhkaaDoor.Aes
open Go.Sim
open Go.Proofs
variable {α : Type}

set_option maxRecDepth 1000000
noncomputable def rlS4 : List (FuncId × Summ) := [(56, sfS)]
theorem rlS4OK : ∀ y ∈ rlS4, SumOK Tryd.prog y.1 y.2 := all1 sfOK
noncomputable def cfgS4 : Cfg := cfgOf (sumsOf rlS4)
theorem cfgS4OK : CfgOK cfgS4 := sumsOf_ok rlS4OK
noncomputable def kPr : MSh := ⟨true, [.s, .s]⟩
/-- the temporaries az they stand at a stop -/
noncomputable def keepT (T : List SV) (l : List Nat) : List (Nat × SV) := mapN (fun i => (i, (nth T i).getD undefS)) l
noncomputable def bareKs (ss : List SF) : List (List Nat) → List SP := List.rec (motive := fun _ => List (List Nat) → List SP) (fun _ => []) (fun s _ ih ls => List.rec (motive := fun _ => List SP) (bareF s [] :: ih []) (fun l r _ => bareF s (keepT s.tmps l) :: ih r) ls) ss
section
variable (vS : MSh) (es : List MapEntry) (c : Nat) (seen : List Nat) (n : Nat) (V : Nat → Value) (J : Junk)
noncomputable def soT (st : Option (Nat × Nat)) : Tree := callSim (cfgS4.at st) 20000 37 [.map 0] [.obj (.amap kPr vS es c)]
noncomputable def soS : SS := stopOf (soT vS es c (some (5, 2))) []
noncomputable def soF : List SP := bareKs (soS vS es c).frames [[0, 1, 4, 5], [2], [], [1]]
noncomputable def soE (i : Nat) : HP := .ent ((nth (soS vS es c).heap i).getD .gone)
noncomputable def soL : HP := bareL (nth (soS vS es c).heap 4) [(2, .ptr ⟨2, .lit 0⟩)]
noncomputable def itE : SO := .obj (.iter (some 0) c seen c)
noncomputable def soC0 : Cut := ⟨soF vS es c, [soE vS es c 0, soE vS es c 1, soE vS es c 2, soE vS es c 3, soL vS es c, .ent (itE c [])]⟩
noncomputable def soC1 : Cut := ⟨soF vS es c, [soE vS es c 0, soE vS es c 1, .ent (.own (.lst [.slice ⟨6, .lit 0⟩ (.sym n) (.rest 6 0)]) true 29), soE vS es c 3, soL vS es c, .ent (itE c seen), .ent (.own (.raw V (n * 2)) false 41)]⟩
noncomputable def so0 (st : Option (Nat × Nat)) : Tree := sim1 (cfgS4.at st) 20000 ((soC0 vS es c).fill J)
noncomputable def so1 (st : Option (Nat × Nat)) : Tree := sim1 (cfgS4.at st) 20000 ((soC1 vS es c seen n V).fill J)
noncomputable def prK (v : Value) : Pr := (vStr (vCell v 0), vStr (vCell v 1))
noncomputable def nxB (z : Nat) : Nat := (pickA (leftA es seen) z).born
noncomputable def nxK (b : Nat) : Pr := prK (getB es (lastB (app seen [b]))).key
noncomputable def addP (p : Pr) : Nat → Value := catV (fun i => V (0 + i)) (n * 2) fun j => atV [.string p.1, .string p.2] (0 + j)
def nxG : Prop := ¬ goneA es seen c ∧ ∀ e ∈ es, e.born < c
noncomputable def nxE (b : Nat) : Prop := c = c ∧ app seen [b] ≠ [] ∧ ∃ e ∈ es, e.born = lastB (app seen [b])
variable (z : Nat → Nat → Nat)
noncomputable def n6 : List Nat := [0, 1, 2, 3, 4, 5]
theorem so_init : outL [] (soC0 vS es c) n6 (soT vS es c (some (5, 2))) [] z = ([], some (.inr (seenC n6 6 (soC0 vS es c)))) := by kernel_rfl
theorem so_none : outL [0] (soC0 vS es c) n6 (so0 vS es c J none) [true] z = ([nxG es c [], (leftA es []).isEmpty = true], some (.inl (.nilSlice, [some (.obj (.amap kPr vS es c))]))) := by kernel_rfl
theorem so_end : outL [0, 6] (soC1 vS es c seen n V) [0, 1, 2, 3, 4, 5, 6] (so1 vS es c seen n V J none) [true] z = ([nxG es c seen, (leftA es seen).isEmpty = true, n * 2 = n * 2 ∧ PrV V n ∧ n < 4611686018427387904], some (.inl (.slice ⟨6, .lit 0⟩ (.sym n) (.rest 6 0), [some (.obj (.amap kPr vS es c)), some (.own (.raw (flatV encPr 2 (srtL cfPr (prL V n))) (n * 2)) false 41)]))) := by kernel_rfl
noncomputable def soM0 : Cut := soC1 vS es c [] 0 (fun _ => undef)
noncomputable def fsM (p : Pr) : List (Nat × HP) := [(2, .ent (.own (.lst [.slice ⟨9, .lit 0⟩ (.lit 1) (.rest 9 0)]) true 29)), (6, .ent (.own (.lst [.str (.sym p.1), .str (.sym p.2)]) false 41))]
theorem so_first : outL [] (soM0 vS es c) [0, 1, 2, 3, 4, 5, 9] (so0 vS es c J (some (5, 2))) [false] z = ([nxG es c [], (leftA es []).isEmpty = false, nxE es c [] (nxB es [] (z 0 0))], some (.inr (modSeen [] (fsM (nxK es [] (nxB es [] (z 0 0)))) (seenC [0, 1, 2, 3, 4, 5, 9] 10 (soC1 vS es c (app [] [nxB es [] (z 0 0)]) 1 V))))) := by kernel_rfl
theorem so_turn : outL [] (soM0 vS es c) [0, 1, 2, 3, 4, 5, 10] (so1 vS es c seen n V J (some (5, 2))) [false] z = ([nxG es c seen, (leftA es seen).isEmpty = false, nxE es c seen (nxB es seen (z 0 0)), 2 ≤ 2, 0 + n * 2 ≤ n * 2, ((n + 1) * 32 < 140737488355328 ∧ n + 1 < 140737488355328) ∧ ∀ i, i < 2 → (atV [.string (nxK es seen (nxB es seen (z 0 0))).1, .string (nxK es seen (nxB es seen (z 0 0))).2] (0 + i)).oneCell' = true],
    some (.inr (seenC [0, 1, 2, 3, 4, 5, 10] 11 (soC1 vS es c (app seen [nxB es seen (z 0 0)]) (n + 1) (addP n V (nxK es seen (nxB es seen (z 0 0)))))))) := by kernel_rfl
theorem so_n0 : boolC (namesOK 1 n6 (soC0 vS es c) (soC0 vS es c)) (allN noLoopE (soC0 vS es c).heap) false = true := by kernel_rfl
theorem so_n9 : boolC (namesOK 1 [0, 1, 2, 3, 4, 5, 9] (soM0 vS es c) (soC1 vS es c seen n V)) (allN noLoopE (soC1 vS es c seen n V).heap) false = true := by kernel_rfl
theorem so_n10 : boolC (namesOK 1 [0, 1, 2, 3, 4, 5, 10] (soM0 vS es c) (soC1 vS es c seen n V)) (allN noLoopE (soC1 vS es c seen n V).heap) false = true := by kernel_rfl
end
end Go.Proofs.YtmekechnnfhhkaaDoor.Aes


/-
  Routes: the five pairs of the chapter in order, in whatever order the map hands them out.
-/
namespace Go.Proofs.YtmekechnnfhhkaaDoor.Aes
open Go.Sim
open Go.Proofs
variable {α : Type}

set_option maxRecDepth 1000000
def bA (l : List UInt8) : ByteArray := ⟨l.toArray⟩
noncomputable def rA : SV := .str (.lit (bA [65]))
noncomputable def rB : SV := .str (.lit (bA [66]))
noncomputable def rC : SV := .str (.lit (bA [67]))
noncomputable def rD : SV := .str (.lit (bA [68, 46, 67]))
noncomputable def es5 : List (SV × SV × Nat) := [(.agg [rA, rB], .bool (.lit true), 0), (.agg [rA, rC], .bool (.lit true), 1), (.agg [rB, rD], .bool (.lit true), 2), (.agg [rC, rD], .bool (.lit true), 3), (.agg [rD, rA], .bool (.lit true), 4)]
noncomputable def srt5 : Tree := callSim cfgR1 20000 37 [.map 0] [.obj (.map es5 5)]
/-- the directions that take the x-th of m + 1, and what they say -/
noncomputable def dirQ (m : Nat) : Nat → List Bool := Nat.rec (motive := fun _ => Nat → List Bool) (fun _ => []) (fun _ ih x => Nat.rec (motive := fun _ => List Bool) [true] (fun y _ => false :: ih y) x) m
noncomputable def cndQ (v m : Nat) : Nat → Nat → List Prop := Nat.rec (motive := fun _ => Nat → Nat → List Prop) (fun _ _ => []) (fun _ ih j x => Nat.rec (motive := fun _ => List Prop) [decide (v = j) = true] (fun y _ => (decide (v = j) = false) :: ih (Nat.succ j) y) x) m
theorem cndQ_ok (v : Nat) : ∀ (m j : Nat), j ≤ v → ∀ p ∈ cndQ v m j (min (v - j) m), p
  | 0, j, _ => fun p hp => absurd (show p ∈ ([] : List Prop) from hp) (by simp)
  | m + 1, j, h => by
    cases hx : min (v - j) (m + 1) with
    | zero =>
      have : v = j := by omega
      intro p hp
      have hp : p ∈ [decide (v = j) = true] := hp
      simp only [List.mem_singleton] at hp
      subst hp
      exact decide_eq_true this
    | succ y =>
      intro p hp
      have hp : p ∈ (decide (v = j) = false) :: cndQ v m (j + 1) y := hp
      rcases List.mem_cons.1 hp with rfl | hp
      · exact decide_eq_false (by omega)
      · have e : y = min (v - (j + 1)) m := by omega
        rw [e] at hp
        exact cndQ_ok v m (j + 1) (by omega) p hp
noncomputable def dir5 (b k : Nat) : List Bool := app (dirQ 4 b) (app (dirQ 3 (k / 6)) (app (dirQ 2 (k % 6 / 2)) (dirQ 1 (k % 2))))
noncomputable def cnd5 (z : Nat → Nat → Nat) (b k : Nat) : List Prop := app (cndQ (z 0 0) 4 0 b) (app (cndQ (z 1 0) 3 0 (k / 6)) (app (cndQ (z 2 0) 2 0 (k % 6 / 2)) (cndQ (z 3 0) 1 0 (k % 2))))
noncomputable def out5 : SV × List (Option SO) := (.slice ⟨25, .lit 0⟩ (.lit 5) (.rest 25 0), [some (.obj (.map es5 5)), some (.own (.lst [rA, rB, rA, rC, rB, rD, rC, rD, rD, rA]) false 41)])
end Go.Proofs.YtmekechnnfhhkaaDoor.Aes

