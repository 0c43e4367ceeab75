/-
  Texts behind one another: the symbolic simulator and what it is told of the program.
-/
import Derived.Test.YtdnaaeagllejjaaDoorCk3
import Derived.Test.YtdnaaeagllejjaaDoorProg

/-
  The symbolic simulator, twenty-eighth part: summaries from small runs, in short words.
-/
namespace Go.Sim
variable {α : Type}

/-- what each name is to be -/
def EntsOK (f : Nat → Nat) (p : Nat → Bool) (H : List SO) : List Nat → List SO → Prop
  | n :: ns, E :: Es => ((∃ e, H[n]? = some e ∧ Taken f E e) ∧ E.CUses p) ∧ EntsOK f p H ns Es
  | [], [] => True
  | _, _ => False
theorem EntsOK.length {f : Nat → Nat} {p : Nat → Bool} {H : List SO} : ∀ {ns : List Nat} {Es : List SO}, EntsOK f p H ns Es → Es.length = ns.length
  | [], [], _ => rfl
  | _ :: _, _ :: _, h => by simp only [List.length_cons]; rw [EntsOK.length h.2]
  | [], _ :: _, h => h.elim
  | _ :: _, [], h => h.elim
theorem EntsOK.get {f : Nat → Nat} {p : Nat → Bool} {H : List SO} : ∀ {ns : List Nat} {Es : List SO}, EntsOK f p H ns Es → ∀ (j : Nat) (E : SO), Es[j]? = some E → (∃ e, H[(nth ns j).getD 0]? = some e ∧ Taken f E e) ∧ E.CUses p
  | [], [], _, j, E, h => by simp at h
  | n :: ns, E' :: Es, h, 0, E, hE => by simp at hE; subst hE; exact h.1
  | n :: ns, E' :: Es, h, j + 1, E, hE => by
    have := EntsOK.get h.2 j E (by simpa using hE)
    rw [nth_eq] at this ⊢
    simpa using this
  | [], _ :: _, h, _, _, _ => h.elim
  | _ :: _, [], h, _, _, _ => h.elim
theorem Ifc.fits {I : Ifc} {H : List SO} (hn : I.names.Nodup) (hu : SV.usesL I.known I.args = true) (he : EntsOK I.big I.known H I.names I.ents) : I.Fits H :=
  ⟨he.length, fun _ _ _ hi hj => (List.getElem?_inj (List.getElem?_eq_some_iff.1 hi).1 hn).1 (hi.trans hj.symm), hu, fun j E hE => (he.get j E hE).1, fun j E hE => (he.get j E hE).2⟩
def SO.isOwn : SO → Bool
  | .own _ _ _ => true
  | _ => false
/-- the places of the blocks that may be written -/
def ownsOf : List SO → Nat → List Nat
  | [], _ => []
  | E :: Es, k => if E.isOwn then k :: ownsOf Es (k + 1) else ownsOf Es (k + 1)
theorem ownsOf_spec : ∀ (Es : List SO) (k j : Nat), j ∈ ownsOf Es k ↔ ∃ i c w el, j = k + i ∧ Es[i]? = some (.own c w el)
  | [], k, j => by simp [ownsOf]
  | E :: Es, k, j => by
    have ih := ownsOf_spec Es (k + 1) j
    have hstep : (∃ i c w el, j = k + 1 + i ∧ Es[i]? = some (SO.own c w el)) → ∃ i c w el, j = k + i ∧ (E :: Es)[i]? = some (SO.own c w el) := fun ⟨i, c, w, el, h, h'⟩ => ⟨i + 1, c, w, el, by omega, by simpa using h'⟩
    unfold ownsOf
    split
    · rename_i ho
      rw [List.mem_cons, ih]
      constructor
      · rintro (rfl | h)
        · cases E <;> first | (cases ho; done) | exact ⟨0, _, _, _, rfl, rfl⟩
        · exact hstep h
      · rintro ⟨i, c, w, el, h, h'⟩
        cases i with
        | zero => exact .inl h
        | succ i => exact .inr ⟨i, c, w, el, by omega, by simpa using h'⟩
    · rename_i ho
      rw [ih]
      constructor
      · exact hstep
      · rintro ⟨i, c, w, el, h, h'⟩
        cases i with
        | zero => simp at h'; subst h'; exact absurd rfl ho
        | succ i => exact ⟨i, c, w, el, by omega, by simpa using h'⟩
theorem ownsOf_nodup : ∀ (Es : List SO) (k : Nat), (ownsOf Es k).Nodup
  | [], k => by simp [ownsOf]
  | E :: Es, k => by
    unfold ownsOf
    split
    · refine List.nodup_cons.2 ⟨fun h => ?_, ownsOf_nodup Es (k + 1)⟩
      obtain ⟨i, _, _, _, h, _⟩ := (ownsOf_spec Es (k + 1) k).1 h
      omega
    · exact ownsOf_nodup Es (k + 1)
def SetsOK (big : Nat → Nat) (p : Nat → Bool) (g : Nat → Nat) (H : List SO) : List Nat → List (Nat × SO) → Prop
  | j :: js, x :: rs => (x.1 = big j ∧ Given p g H[j]? x.2) ∧ SetsOK big p g H js rs
  | [], [] => True
  | _, _ => False
def NewsOK (p : Nat → Bool) (g : Nat → Nat) (H : List SO) : List Nat → List SO → Prop
  | j :: js, e :: rs => Given p g H[j]? e ∧ NewsOK p g H js rs
  | [], [] => True
  | _, _ => False
theorem SetsOK.length {big p g H} : ∀ {js : List Nat} {rs : List (Nat × SO)}, SetsOK big p g H js rs → rs.length = js.length
  | [], [], _ => rfl
  | _ :: _, _ :: _, h => by simp only [List.length_cons]; rw [SetsOK.length h.2]
  | [], _ :: _, h => h.elim
  | _ :: _, [], h => h.elim
theorem SetsOK.get {big p g H} : ∀ {js : List Nat} {rs : List (Nat × SO)}, SetsOK big p g H js rs → ∀ (i j : Nat), js[i]? = some j → ∃ e, rs[i]? = some (big j, e) ∧ Given p g H[j]? e
  | [], [], _, i, j, h => by simp at h
  | j' :: js, x :: rs, h, 0, j, hE => by simp at hE; subst hE; exact ⟨x.2, by simp [← h.1.1], h.1.2⟩
  | j' :: js, x :: rs, h, i + 1, j, hE => by
    obtain ⟨e, a, b⟩ := SetsOK.get h.2 i j (by simpa using hE)
    exact ⟨e, by simpa using a, b⟩
  | [], _ :: _, h, _, _, _ => h.elim
  | _ :: _, [], h, _, _, _ => h.elim
theorem NewsOK.length {p g H} : ∀ {js : List Nat} {rs : List SO}, NewsOK p g H js rs → rs.length = js.length
  | [], [], _ => rfl
  | _ :: _, _ :: _, h => by simp only [List.length_cons]; rw [NewsOK.length h.2]
  | [], _ :: _, h => h.elim
  | _ :: _, [], h => h.elim
theorem NewsOK.get {p g H} : ∀ {js : List Nat} {rs : List SO}, NewsOK p g H js rs → ∀ (i j : Nat), js[i]? = some j → ∃ e, rs[i]? = some e ∧ Given p g H[j]? e
  | [], [], _, i, j, h => by simp at h
  | j' :: js, x :: rs, h, 0, j, hE => by simp at hE; subst hE; exact ⟨x, by simp, h.1⟩
  | j' :: js, x :: rs, h, i + 1, j, hE => by
    obtain ⟨e, a, b⟩ := NewsOK.get h.2 i j (by simpa using hE)
    exact ⟨e, by simpa using a, b⟩
  | [], _ :: _, h, _, _, _ => h.elim
  | _ :: _, [], h, _, _, _ => h.elim
/-- what a small run comes to -/
structure Ifc.Ends (I : Ifc) (base : Nat) (keep : List Nat) (r : SumRes) (v : SV) (H : List SO) : Prop where
  val : (v.ren (I.out base keep)).Imp r.v
  uv : v.uses (I.seen keep) = true
  sets : SetsOK I.big (I.seen keep) (I.out base keep) H (ownsOf I.ents 0) r.sets
  news : NewsOK (I.seen keep) (I.out base keep) H keep r.news
theorem Tree.Ob.mono {t : Tree} {D D' : SV → List SO → Prop} {S : SS → Prop} (h : t.Ob D S) (hd : ∀ v H, D v H → D' v H) : t.Ob D' S := by
  induction t with
  | done v H => exact hd v H h
  | stop s => exact h
  | need p t ih => exact ⟨h.1, ih h.2⟩
  | fork b t f iht ihf => exact ⟨fun hb => iht (h.1 hb), fun hb => ihf (h.2 hb)⟩
  | stuck n => exact h
  | any k ih => exact fun z => ih z (h z)
/-- A SUMMARY FROM A SMALL RUN -/
theorem sum_runG {c : Cfg} (hc : CfgOK c) (n : Nat) {O : Nat → Prop} {w0 w : World} {β : Val} {H : List SO} {base : Nat} {f : FuncId} {vs : List Value} (hH : HeapRel0 c.P O w0 β H w)
    (I : Ifc) (hgl : ∀ g j, c.glob g = some j → I.known j = true ∧ ∃ l, β (I.big j) = some l ∧ l.blk = g ∧ l.off = 0) (ha : SV.denL β (SV.renL I.big I.args) = some vs) (hI : I.Fits H) {r : SumRes} (keep : List Nat) (hk : ∀ j ∈ keep, I.names.length ≤ j) (hkn : keep.Nodup)
    (hob : (callSim c n f I.args I.ents).Ob (I.Ends base keep r) fun _ => False) : SumSem c.P H β w base f vs r := by
  refine sum_small hc (n := n) hH I hgl ha hI (ownsOf I.ents 0) keep (fun j c w el h => (ownsOf_spec _ _ _).2 ⟨j, c, w, el, by omega, h⟩) (fun j hj => ?_) hk hkn (ownsOf_nodup _ _) ?_
  · obtain ⟨i, c, w, el, h, h'⟩ := (ownsOf_spec _ _ _).1 hj
    exact ⟨c, w, el, by rw [h, Nat.zero_add]; exact h'⟩
  · refine hob.mono fun v H' h => ⟨h.val, h.uv, h.sets.length, h.sets.get, h.news.length, h.news.get⟩
/-- the same, where no package-level variable is read -/
theorem sum_run {c : Cfg} (hc : CfgOK c) (hgl : c.glob = fun _ => none) (n : Nat) {O : Nat → Prop} {w0 w : World} {β : Val} {H : List SO} {base : Nat} {f : FuncId} {vs : List Value} (hH : HeapRel0 c.P O w0 β H w)
    (I : Ifc) (ha : SV.denL β (SV.renL I.big I.args) = some vs) (hI : I.Fits H) {r : SumRes} (keep : List Nat) (hk : ∀ j ∈ keep, I.names.length ≤ j) (hkn : keep.Nodup)
    (hob : (callSim c n f I.args I.ents).Ob (I.Ends base keep r) fun _ => False) : SumSem c.P H β w base f vs r :=
  sum_runG hc n hH I (fun g j h => by rw [hgl] at h; cases h) ha hI keep hk hkn hob
theorem given_own {p : Nat → Bool} {g : Nat → Nat} {E : Option SO} {c : Cells} {w : Bool} {el : TypeId} {e : SO} (hE : E = some (.own c w el)) (hu : c.Uses p) (he : (SO.own c w el).ren g = e) : Given p g E e :=
  ⟨c, w, el, _, hE, hu, .refl _, he.symm⟩
theorem given_imp {p : Nat → Bool} {g : Nat → Nat} {E : Option SO} {c c' : Cells} {w : Bool} {el : TypeId} (hE : E = some (.own c w el)) (hu : c.Uses p) (hc : (c.ren g).Imp c') : Given p g E (.own c' w el) :=
  ⟨c, w, el, c', hE, hu, hc, rfl⟩
theorem taken_own {f : Nat → Nat} {c : Cells} {w : Bool} {el : TypeId} {e : SO} (h : e = (SO.own c w el).ren f) : Taken f (.own c w el) e := ⟨_, h, .refl _⟩
/-- what is read alone: a row, or a block of one's own, whole or its front -/
theorem taken_row {f : Nat → Nat} {c c0 : Cells} {e : SO} (h : e = .row c0 ∨ ∃ w el, e = .own c0 w el) (hi : c0.Front (c.ren f)) : Taken f (.row c) e := ⟨c0, h, hi⟩

end Go.Sim


/-
  The symbolic simulator, twenty-ninth part: lists of bytes as cells; the looks of summaries.
-/
namespace Go.Sim
variable {α β : Type}

theorem boolC_sat {b : Bool} {f g : R α} {φ : α → Prop} (h : b = true → f.Sat φ) (h' : b = false → g.Sat φ) : (boolC b f g).Sat φ := by cases b <;> first | exact h rfl | exact h' rfl
theorem boolC_only {b : Bool} {f : R α} {n : Nat} {φ : α → Prop} (h : b = true → f.Sat φ) : (boolC b f (.stuck n)).Sat φ := boolC_sat h fun _ => trivial
theorem optC_only {o : Option β} {f : β → R α} {n : Nat} {φ : α → Prop} (h : ∀ a, o = some a → (f a).Sat φ) : (optC o (.stuck n) f).Sat φ := by
  cases o with
  | none => trivial
  | some a => exact h a rfl
theorem boolC_opt {b : Bool} {f : Option α} {s : α} (h : boolC b f none = some s) : b = true ∧ f = some s := by
  cases b with
  | true => exact ⟨rfl, h⟩
  | false => cases h
theorem optC_opt {o : Option β} {f : β → Option α} {s : α} (h : optC o none f = some s) : ∃ a, o = some a ∧ f a = some s := by
  cases o with
  | none => cases h
  | some a => exact ⟨a, rfl, h⟩
theorem boolC_some {b : Bool} {f g : Option α} {s : α} (h : boolC b f g = some s) : (b = true ∧ f = some s) ∨ g = some s := by
  cases b with
  | true => exact .inl ⟨rfl, h⟩
  | false => exact .inr h
theorem eqI_spec {x y : Int} (h : eqI x y = true) : x = y := by rw [eqI_eq] at h; simpa using h
theorem beq_spec {x y : Nat} (h : Nat.beq x y = true) : x = y := Nat.eq_of_beq_eq_true h
theorem beq_ne {x y : Nat} (h : Nat.beq x y = false) : x ≠ y := fun e => by subst e; rw [Nat.beq_refl] at h; cases h
theorem blt_spec {x y : Nat} (h : Nat.blt x y = true) : x < y := Nat.le_of_ble_eq_true h
theorem eqK_spec {k k' : IntKind} (h : eqK k k' = true) : k = k' := by cases k <;> cases k' <;> first | rfl | cases h

/- Bytes. -/
noncomputable def bx (l : List (BitVec 8)) : List SV := mapN (fun x => .int .u8 (.b8 x)) l
noncomputable def lx (l : List Int) : List SV := mapN (fun x => .int .u8 (.lit x)) l
theorem asPtr_cases (v : SV) : (∃ b, v = .ptr b) ∨ ∀ {γ : Type} (d : γ) (f : SA → γ), v.asPtr d f = d := by
  cases v <;> first | exact .inl ⟨_, rfl⟩ | exact .inr fun _ _ => rfl
theorem unb1_int {v : SV} {x : BitVec 8} (h : unb1 v = some x) : ∃ n, v = .int .u8 n ∧ si8 n = some x := by
  unfold unb1 at h
  rcases asInt_cases v with ⟨k, n, rfl⟩ | hv
  · obtain ⟨hk, h⟩ := boolC_opt (show boolC (eqK k .u8) (si8 n) none = some x from h)
    rw [eqK_spec hk]; exact ⟨n, rfl, h⟩
  · rw [hv] at h; cases h
theorem unb1_imp {v : SV} {x : BitVec 8} (h : unb1 v = some x) : v.Imp (.int .u8 (.b8 x)) := by
  obtain ⟨n, rfl, hn⟩ := unb1_int h
  intro γ y hy
  have hy : some (Value.int .u8 n.den) = some y := hy
  rw [si8_spec hn] at hy; exact hy
theorem impL_cons {v u : SV} {l m : List SV} (h : v.Imp u) (h' : SV.ImpL l m) : SV.ImpL (v :: l) (u :: m) := by
  intro γ vs hv
  obtain ⟨x, ys, a, b, rfl⟩ := denL_cons.1 hv
  exact denL_cons.2 ⟨x, ys, h _ _ a, h' _ _ b, rfl⟩
theorem impL_nil : SV.ImpL [] [] := .refl _
theorem impL_app {a b c d : List SV} (h : SV.ImpL a b) (h' : SV.ImpL c d) : SV.ImpL (app a c) (app b d) := by
  intro γ vs hv
  rw [app_eq] at hv ⊢
  obtain ⟨x, y, ha, hc, rfl⟩ := denL_split hv
  exact denL_append (h _ _ ha) (h' _ _ hc)
theorem unb_imp : ∀ {l : List SV} {xs : List (BitVec 8)}, unb l = some xs → SV.ImpL l (bx xs)
  | [], xs, h => by cases h; exact .refl _
  | v :: l, xs, h => by
    obtain ⟨x, hx, h⟩ := optC_opt (show (optC (unb1 v) none fun x => optC (unb l) none fun xs => some (x :: xs)) = some xs from h)
    obtain ⟨ys, hy, h⟩ := optC_opt h
    cases h
    exact impL_cons (unb1_imp hx) (unb_imp hy)
theorem cells_imp {l m : List SV} (h : SV.ImpL l m) : (Cells.lst l).Imp (.lst m) := h
theorem impL_ren {f : Nat → Nat} {l m m' : List SV} (h : SV.ImpL l m) (hm : SV.renL f m' = m) : (Cells.lst l).Imp ((Cells.lst m').ren f) := by
  show (Cells.lst l).Imp (.lst (SV.renL f m'))
  rw [hm]; exact h
theorem bx_ren (f : Nat → Nat) : ∀ xs, SV.renL f (bx xs) = bx xs
  | [] => rfl
  | x :: xs => by show _ :: SV.renL f (bx xs) = _; rw [bx_ren f xs]; rfl
theorem lx_ren (f : Nat → Nat) : ∀ xs, SV.renL f (lx xs) = lx xs
  | [] => rfl
  | x :: xs => by show _ :: SV.renL f (lx xs) = _; rw [lx_ren f xs]; rfl
theorem bx_uses (p : Nat → Bool) : ∀ xs, SV.usesL p (bx xs) = true
  | [] => rfl
  | x :: xs => by show (true && SV.usesL p (bx xs)) = true; rw [bx_uses p xs]; rfl
theorem lx_uses (p : Nat → Bool) : ∀ xs, SV.usesL p (lx xs) = true
  | [] => rfl
  | x :: xs => by show (true && SV.usesL p (lx xs)) = true; rw [lx_uses p xs]; rfl
theorem usesL_app (p : Nat → Bool) : ∀ a b, SV.usesL p (app a b) = (SV.usesL p a && SV.usesL p b)
  | [], b => rfl
  | x :: a, b => by show (x.uses p && SV.usesL p (app a b)) = ((x.uses p && SV.usesL p a) && SV.usesL p b); rw [usesL_app p a b, Bool.and_assoc]
theorem renL_app (f : Nat → Nat) : ∀ a b, SV.renL f (app a b) = app (SV.renL f a) (SV.renL f b)
  | [], b => rfl
  | x :: a, b => by show _ :: SV.renL f (app a b) = _; rw [renL_app f a b]; rfl
theorem app_take_drop (l : List SV) (n : Nat) : app (takeN l n) (dropN l n) = l := by rw [app_eq, takeN_eq, dropN_eq, List.take_append_drop]

/- Known cells. -/
noncomputable def unl1 (v : SV) : Option Int := v.asInt none fun k n => boolC (eqK k .u8) (n.asLit none some) none
theorem unl1_spec {v : SV} {x : Int} (h : unl1 v = some x) : v = .int .u8 (.lit x) := by
  unfold unl1 at h
  rcases asInt_cases v with ⟨k, n, rfl⟩ | hv
  · obtain ⟨hk, h⟩ := boolC_opt (show boolC (eqK k .u8) (n.asLit none some) none = some x from h)
    rw [eqK_spec hk]
    cases n <;> first | (cases h; rfl) | cases h
  · rw [hv] at h; cases h
/-- the known bytes T at the head of cells -/
noncomputable def preLit (T : List Int) : List SV → Bool :=
  List.rec (motive := fun _ => List SV → Bool) (fun _ => true) (fun t _ ih l => List.rec (motive := fun _ => Bool) false (fun v r _ => optC (unl1 v) false fun x => boolC (eqI x t) (ih r) false) l) T
theorem preLit_spec : ∀ {T : List Int} {l : List SV}, preLit T l = true → l = app (lx T) (dropN l (lenN T))
  | [], l, _ => by show l = dropN l 0; rw [dropN_eq]; rfl
  | t :: T, [], h => by cases h
  | t :: T, v :: l, h => by
    have h' : (optC (unl1 v) false fun x => boolC (eqI x t) (preLit T l) false) = true := h
    cases hx : unl1 v with
    | none => rw [hx] at h'; cases h'
    | some x =>
      rw [hx] at h'
      have h' : boolC (eqI x t) (preLit T l) false = true := h'
      cases he : eqI x t with
      | false => rw [he] at h'; cases h'
      | true =>
        rw [he] at h'
        have := preLit_spec (T := T) (l := l) h'
        rw [unl1_spec hx, eqI_spec he]
        show _ = _ :: app (lx T) (dropN (_ :: l) (lenN T + 1))
        rw [dropN_eq] at this ⊢
        rw [List.drop_succ_cons, ← this]

/- What an entry bears. -/
/-- an entry's cells, one by one -/
noncomputable def cellsE (e : Option SO) : Option (List SV) :=
  optC e none fun e => SO.rec (motive := fun _ => Option (List SV)) (fun c _ _ => Cells.rec (motive := fun _ => Option (List SV)) (fun l => some l) (fun _ _ => none) c) (fun c => Cells.rec (motive := fun _ => Option (List SV)) (fun l => some l) (fun _ _ => none) c)
    (fun _ _ _ _ _ _ _ _ => none) (fun _ => none) none e
theorem cellsE_spec {e : Option SO} {l : List SV} (h : cellsE e = some l) : ∃ e', e = some e' ∧ (e' = .row (.lst l) ∨ ∃ w el, e' = .own (.lst l) w el) := by
  cases e with
  | none => cases h
  | some e =>
    cases e with
    | own c w el => cases c with
      | lst l' => cases h; exact ⟨_, rfl, .inr ⟨_, _, rfl⟩⟩
      | fn => cases h
    | row c => cases c with
      | lst l' => cases h; exact ⟨_, rfl, .inl rfl⟩
      | fn => cases h
    | loop => cases h
    | deferred => cases h
    | gone => cases h
/-- read alone: all the cells, as 'm' has them -/
theorem taken_cells {f : Nat → Nat} {l m : List SV} {e : Option SO} (h : cellsE e = some l) (hi : SV.ImpL l (SV.renL f m)) : ∃ e', e = some e' ∧ Taken f (.row (.lst m)) e' := by
  obtain ⟨e', rfl, hc⟩ := cellsE_spec h
  exact ⟨e', rfl, taken_row hc (Cells.Imp.front (c := .lst l) (d := (Cells.lst m).ren f) hi)⟩
/-- read alone: the cells at the head -/
theorem taken_front {f : Nat → Nat} {l m r : List SV} {e : Option SO} (h : cellsE e = some (app l r)) (hi : SV.ImpL l (SV.renL f m)) : ∃ e', e = some e' ∧ Taken f (.row (.lst m)) e' := by
  obtain ⟨e', rfl, hc⟩ := cellsE_spec h
  refine ⟨e', rfl, taken_row hc fun γ vs hv => ?_⟩
  have hv : SV.denL γ (app l r) = some vs := hv
  rw [app_eq] at hv
  obtain ⟨x, y, ha, hc, rfl⟩ := denL_split hv
  exact ⟨x.length, by rw [List.take_left]; exact hi _ _ ha⟩
/-- a whole block of one's own, with its cells one by one -/
noncomputable def ownE (t : TypeId) (e : Option SO) : Option (List SV) :=
  optC e none fun e => SO.rec (motive := fun _ => Option (List SV)) (fun c w el => boolC w (boolC (Nat.beq el t) (Cells.rec (motive := fun _ => Option (List SV)) (fun l => some l) (fun _ _ => none) c) none) none) (fun _ => none)
    (fun _ _ _ _ _ _ _ _ => none) (fun _ => none) none e
theorem ownE_spec {t : TypeId} {e : Option SO} {l : List SV} (h : ownE t e = some l) : e = some (.own (.lst l) true t) := by
  cases e with
  | none => cases h
  | some e =>
    cases e with
    | own c w el =>
      obtain ⟨hw, h⟩ := boolC_opt (show boolC w (boolC (Nat.beq el t) (Cells.rec (motive := fun _ => Option (List SV)) (fun l => some l) (fun _ _ => none) c) none) none = some l from h)
      obtain ⟨he, h⟩ := boolC_opt h
      rw [hw, beq_spec he]
      cases c with
      | lst l' => cases h; rfl
      | fn => cases h
    | row => cases h
    | loop => cases h
    | deferred => cases h
    | gone => cases h
theorem taken_imp {f : Nat → Nat} {l m : List SV} {w : Bool} {el : TypeId} (hi : SV.ImpL l (SV.renL f m)) : Taken f (.own (.lst m) w el) (.own (.lst l) w el) := ⟨_, rfl, hi⟩
noncomputable def placedE (e : Option SO) : Bool := optC e false fun e => e.placed
theorem taken_gone {f : Nat → Nat} {e : Option SO} (h : placedE e = true) : ∃ e', e = some e' ∧ Taken f .gone e' := by
  cases e with
  | none => cases h
  | some e => exact ⟨e, rfl, h⟩
/-- a pointer to the head of a name -/
noncomputable def headP (v : SV) : Option Nat := v.asPtr none fun a => a.off.asLit none fun n => boolC (Nat.beq n 0) (some a.nm) none
theorem headP_spec {v : SV} {p : Nat} (h : headP v = some p) : v = .ptr ⟨p, .lit 0⟩ := by
  unfold headP at h
  rcases asPtr_cases v with ⟨⟨q, off⟩, rfl⟩ | hv
  · have h : (off.asLit none fun n => boolC (Nat.beq n 0) (some q) none) = some p := h
    cases off with
    | lit n =>
      obtain ⟨hn, h⟩ := boolC_opt (show boolC (Nat.beq n 0) (some q) none = some p from h)
      cases h; rw [beq_spec hn]
    | sym n => cases h
    | byt => cases h
  · rw [hv] at h; cases h
/-- a slice of known bytes: its cells -/
noncomputable def sliceB (H : List SO) (v : SV) : Option (Nat × Nat × Nat × SC × List (BitVec 8)) :=
  v.asSlice none fun a l c => a.off.asLit none fun o => l.asLit none fun n => optC (cellsE (nth H a.nm)) none fun cells => optC (unb (takeN (dropN cells o) n)) none fun xs => boolC (Nat.beq (lenN xs) n) (some (a.nm, o, n, c, xs)) none

/- Arguments. -/
noncomputable def args1 (args : List SV) (f : SV → R α) : R α := List.rec (motive := fun _ => R α) (.stuck 700) (fun v r _ => List.rec (motive := fun _ => R α) (f v) (fun _ _ _ => .stuck 700) r) args
noncomputable def args2 (args : List SV) (f : SV → SV → R α) : R α := List.rec (motive := fun _ => R α) (.stuck 700) (fun v r _ => args1 r (f v)) args
noncomputable def args3 (args : List SV) (f : SV → SV → SV → R α) : R α := List.rec (motive := fun _ => R α) (.stuck 700) (fun v r _ => args2 r (f v)) args
noncomputable def args4 (args : List SV) (f : SV → SV → SV → SV → R α) : R α := List.rec (motive := fun _ => R α) (.stuck 700) (fun v r _ => args3 r (f v)) args
theorem args1_sat {args : List SV} {f : SV → R α} {φ : α → Prop} (h : ∀ v, args = [v] → (f v).Sat φ) : (args1 args f).Sat φ := by
  match args, h with
  | [], _ => trivial
  | [v], h => exact h v rfl
  | _ :: _ :: _, _ => trivial
theorem args2_sat {args : List SV} {f : SV → SV → R α} {φ : α → Prop} (h : ∀ v u, args = [v, u] → (f v u).Sat φ) : (args2 args f).Sat φ := by
  cases args with
  | nil => trivial
  | cons v r => exact args1_sat fun u hu => h v u (by rw [hu])
theorem args3_sat {args : List SV} {f : SV → SV → SV → R α} {φ : α → Prop} (h : ∀ v u x, args = [v, u, x] → (f v u x).Sat φ) : (args3 args f).Sat φ := by
  cases args with
  | nil => trivial
  | cons v r => exact args2_sat fun u x hu => h v u x (by rw [hu])
theorem args4_sat {args : List SV} {f : SV → SV → SV → SV → R α} {φ : α → Prop} (h : ∀ v u x y, args = [v, u, x, y] → (f v u x y).Sat φ) : (args4 args f).Sat φ := by
  cases args with
  | nil => trivial
  | cons v r => exact args3_sat fun u x y hu => h v u x y (by rw [hu])
/-- a known number of one's own kind: int -/
noncomputable def litI (v : SV) : Option Nat := v.asInt none fun k n => boolC (eqK k .i64) (n.asLit none fun n => intC n some fun _ => none) none
theorem litI_spec {v : SV} {n : Nat} (h : litI v = some n) : v = .int .i64 (.lit (.ofNat n)) := by
  unfold litI at h
  rcases asInt_cases v with ⟨k, m, rfl⟩ | hv
  · obtain ⟨hk, h⟩ := boolC_opt (show boolC (eqK k .i64) (m.asLit none fun n => intC n some fun _ => none) none = some n from h)
    rw [eqK_spec hk]
    cases m with
    | lit m => cases m with
      | ofNat m => cases h; rfl
      | negSucc m => cases h
    | sym => cases h
    | b8 => cases h
    | b32 => cases h
    | b64 => cases h
  · rw [hv] at h; cases h
/-- 'v' bears what 'u' bears -/
theorem denL1 {γ : Val} {v u : SV} {vs : List Value} (h : SV.denL γ [v] = some vs) (hi : v.Imp u) : SV.denL γ [u] = some vs := impL_cons hi impL_nil _ _ h

/- A run's outcome: its conditions, its value, some of its entries. -/
noncomputable def outP (js : List Nat) (t : Tree) : List Prop × Option (SV × List (Option SO)) :=
  Tree.rec (motive := fun _ => List Prop × Option (SV × List (Option SO))) (fun v H => ([], some (v, mapN (fun j => nth H j) js))) (fun _ => ([], none)) (fun p _ ih => (p :: ih.1, ih.2)) (fun _ _ _ _ _ => ([], none)) (fun _ => ([], none)) (fun _ _ => ([], none)) t
theorem outP_ob {js : List Nat} {t : Tree} {ps : List Prop} {v : SV} {es : List (Option SO)} (h : outP js t = (ps, some (v, es))) (hp : ∀ p ∈ ps, p) {D : SV → List SO → Prop} {S : SS → Prop} (hD : ∀ H : List SO, js.map (fun j => H[j]?) = es → D v H) : t.Ob D S := by
  induction t generalizing ps with
  | done v' H =>
    have h' : ([], some (v', mapN (fun j => nth H j) js)) = (ps, some (v, es)) := h
    have h1 := Option.some.inj (Prod.mk.inj h').2
    obtain ⟨h2, h3⟩ := Prod.mk.inj h1
    subst h2
    refine hD H ?_
    rw [mapN_eq] at h3
    rw [← h3]
    exact List.map_congr_left fun j _ => (nth_eq H j).symm
  | stop => cases (Prod.mk.inj (show ([], none) = (ps, some (v, es)) from h)).2
  | need p t ih =>
    have h' : (p :: (outP js t).1, (outP js t).2) = (ps, some (v, es)) := h
    obtain ⟨h1, h2⟩ := Prod.mk.inj h'
    subst h1
    exact ⟨hp p List.mem_cons_self, ih (ps := (outP js t).1) (by rw [← h2]) fun q hq => hp q (List.mem_cons_of_mem _ hq)⟩
  | fork => cases (Prod.mk.inj (show ([], none) = (ps, some (v, es)) from h)).2
  | stuck => cases (Prod.mk.inj (show ([], none) = (ps, some (v, es)) from h)).2
  | any => cases (Prod.mk.inj (show ([], none) = (ps, some (v, es)) from h)).2
/-- the same, where there is no condition -/
theorem outP_ob0 {js : List Nat} {t : Tree} {v : SV} {es : List (Option SO)} (h : outP js t = ([], some (v, es))) {D : SV → List SO → Prop} {S : SS → Prop} (hD : ∀ H : List SO, js.map (fun j => H[j]?) = es → D v H) : t.Ob D S :=
  outP_ob h (by simp) hD
theorem fits0 {H : List SO} {args : List SV} (hu : SV.usesL (Ifc.known ⟨[], [], args⟩) args = true) : Ifc.Fits ⟨[], [], args⟩ H := Ifc.fits (by simp) hu trivial
theorem ends0 {I : Ifc} {base : Nat} {v : SV} {H : List SO} (ho : ownsOf I.ents 0 = []) (h : v = v.ren (I.out base [])) (hu : v.uses (I.seen []) = true) : I.Ends base [] ⟨v, [], []⟩ v H :=
  ⟨SV.imp_of_eq h.symm, hu, by rw [ho]; trivial, trivial⟩

end Go.Sim


/-
  The symbolic simulator, thirtieth part: rows of bytes as functions of the place; slices among arguments.
-/
namespace Go.Sim
variable {α : Type}

/-- a row of bytes -/
noncomputable def rowF (X : Nat → BitVec 8) (n : Nat) : SO := .row (.fn (byteF X) n)
theorem byteF_isB (X : Nat → BitVec 8) : IsB (byteF X) := fun i => ⟨X i, rfl⟩
theorem isB_eq {g : Nat → SV} (h : IsB g) : byteF (fun i => byteOf (g i)) = g := by
  funext i
  obtain ⟨x, hx⟩ := h i
  show SV.int IntKind.u8 (SI.b8 (byteOf (g i))) = _
  rw [hx]; rfl
noncomputable def bytesC (c : Cells) (f : (Nat → BitVec 8) → Nat → R α) : R α :=
  Cells.rec (motive := fun _ => R α) (fun l => optC (unb l) (.stuck 710) fun xs => f (byteAt xs) (lenN xs)) (fun g n => .need (IsB g) (f (fun i => byteOf (g i)) n)) c
noncomputable def bytesE (e : Option SO) (f : (Nat → BitVec 8) → Nat → R α) : R α :=
  optC e (.stuck 711) fun e => SO.rec (motive := fun _ => R α) (fun c _ _ => bytesC c f) (fun c => bytesC c f) (fun _ _ _ _ _ _ _ _ => .stuck 712) (fun _ => .stuck 712) (.stuck 712) e
theorem bx_rel {γ : Val} : ∀ {xs : List (BitVec 8)} {vs : List Value}, SV.denL γ (bx xs) = some vs → CellsRel γ (.fn (byteF (byteAt xs)) xs.length) vs
  | [], vs, h => by cases h; exact ⟨rfl, fun i x hx => by simp at hx⟩
  | x :: xs, vs, h => by
    obtain ⟨v, us, hv, hu, rfl⟩ := denL_cons.1 (show SV.denL γ (.int .u8 (.b8 x) :: bx xs) = some vs from h)
    obtain ⟨h1, h2⟩ := bx_rel hu
    refine ⟨by simp [h1], fun i y hy => ?_⟩
    cases i with
    | zero =>
      simp at hy; subst hy
      cases hv; rfl
    | succ i =>
      have := h2 i y (by simpa using hy)
      exact this
theorem bytesC_sat {c : Cells} {f : (Nat → BitVec 8) → Nat → R α} {φ : α → Prop} (h : ∀ X n, c.Imp (.fn (byteF X) n) → (f X n).Sat φ) : (bytesC c f).Sat φ := by
  cases c with
  | lst l =>
    refine optC_only fun xs hx => h _ _ fun γ vs hv => ?_
    rw [lenN_eq]
    exact bx_rel (unb_imp hx _ _ hv)
  | fn g n =>
    intro hg
    refine h _ _ ?_
    rw [isB_eq hg]; exact .refl _
/-- a row of bytes, read alone -/
theorem bytesE_sat {e : Option SO} {f : (Nat → BitVec 8) → Nat → R α} {φ : α → Prop} (h : ∀ X n, (∀ g, ∃ e', e = some e' ∧ Taken g (rowF X n) e') → (f X n).Sat φ) : (bytesE e f).Sat φ := by
  refine optC_only fun e' he => ?_
  cases e' with
  | own c w el => exact bytesC_sat fun X n hi => h X n fun g => ⟨_, he, taken_row (c0 := c) (.inr ⟨w, el, rfl⟩) hi.front⟩
  | row c => exact bytesC_sat fun X n hi => h X n fun g => ⟨_, he, taken_row (c0 := c) (.inl rfl) hi.front⟩
  | loop => trivial
  | deferred => trivial
  | gone => trivial
theorem rowF_uses (p : Nat → Bool) (X : Nat → BitVec 8) (n : Nat) : (rowF X n).CUses p := fun _ => rfl

/- A slice among the arguments. -/
noncomputable def sliceR (v : SV) (nil : R α) (f : SA → SN → R α) : R α :=
  SV.rec (motive_1 := fun _ => R α) (motive_2 := fun _ => Unit) (fun _ _ => .stuck 713) (fun _ => .stuck 713) (fun _ => .stuck 713) (fun _ => .stuck 713) (.stuck 713) (fun a l _ => f a l) nil (fun _ => .stuck 713) (.stuck 713) (fun _ _ _ _ _ => .stuck 713) (.stuck 713) (fun _ _ _ => .stuck 713) (.stuck 713) (fun _ _ => .stuck 713) (fun _ _ => .stuck 713) (fun _ => .stuck 713) (fun _ _ _ _ => .stuck 713) () (fun _ _ _ _ => ()) v
/-- the slice of one name for another with the place, the length and the capacity as they are -/
theorem slice_den {γ : Val} {a : SA} {l : SN} {c : SC} {x : Value} (h : (SV.slice a l c).den γ = some x) : ∃ m, l.den ≤ m ∧ (SV.slice ⟨a.nm, .sym a.off.den⟩ (.sym l.den) (.sym m)).den γ = some x ∧ (SV.slice ⟨a.nm, .sym a.off.den⟩ l (.sym m)).den γ = some x ∧ (SV.slice a l (.sym m)).den γ = some x := by
  simp only [SV.den, Option.bind_eq_some_iff] at h
  obtain ⟨y, hy, m, hm, hs⟩ := h
  unfold sliceV at hs
  have hl : l.den ≤ m := by
    by_cases h : l.den ≤ m
    · exact h
    · rw [if_neg h] at hs; cases hs
  have hy' : (⟨a.nm, .sym a.off.den⟩ : SA).den γ = some y := hy
  refine ⟨m, hl, ?_, ?_, ?_⟩
  · simp only [SV.den, Option.bind_eq_some_iff]
    exact ⟨y, hy', m, rfl, hs⟩
  · simp only [SV.den, Option.bind_eq_some_iff]
    exact ⟨y, hy', m, rfl, hs⟩
  · simp only [SV.den, Option.bind_eq_some_iff]
    exact ⟨y, hy, m, rfl, hs⟩
theorem sliceR_sat {v : SV} {nil : R α} {f : SA → SN → R α} {φ : α → Prop} (h0 : v = .nilSlice → nil.Sat φ) (h : ∀ a l c, v = .slice a l c → (f a l).Sat φ) : (sliceR v nil f).Sat φ := by
  cases v <;> first | trivial | exact h0 rfl | exact h _ _ _ rfl
/-- a slice of which the length alone is looked at -/
noncomputable def valS (v : SV) (no : R α) (f : Nat → R α) : R α := v.asVal no fun x => match x with | .slice _ n _ => f n | _ => no
theorem valS_sat {v : SV} {no : R α} {f : Nat → R α} {φ : α → Prop} (h0 : no.Sat φ) (h : ∀ p n c, v = .val (.slice p n c) → (f n).Sat φ) : (valS v no f).Sat φ := by
  cases v <;> first | exact h0 | skip
  rename_i x
  cases x <;> first | exact h0 | exact h _ _ _ rfl
/-- a length: known to be n, or as a fork -/
noncomputable def lenIs (l : SN) (n : Nat) (t f : R α) : R α := SN.rec (motive := fun _ => R α) (fun m => boolC (Nat.beq m n) t f) (fun m => .fork (decide (m = n)) t f) (fun o x => .fork (decide (o + x.toNat = n)) t f) l
theorem lenIs_sat {l : SN} {n : Nat} {t f : R α} {φ : α → Prop} (h : l.den = n → t.Sat φ) (h' : l.den ≠ n → f.Sat φ) : (lenIs l n t f).Sat φ := by
  cases l with
  | lit m => exact boolC_sat (fun hm => h (beq_spec hm)) fun hm => h' (beq_ne hm)
  | sym m => exact ⟨fun hm => h (of_decide_eq_true hm), fun hm => h' (of_decide_eq_false hm)⟩
  | byt o x => exact ⟨fun hm => h (of_decide_eq_true hm), fun hm => h' (of_decide_eq_false hm)⟩
/-- a run's fork: its condition, and what comes of either -/
noncomputable def outF (js : List Nat) (t : Tree) : Option (Bool × (List Prop × Option (SV × List (Option SO))) × (List Prop × Option (SV × List (Option SO)))) :=
  Tree.rec (motive := fun _ => Option (Bool × (List Prop × Option (SV × List (Option SO))) × (List Prop × Option (SV × List (Option SO))))) (fun _ _ => none) (fun _ => none) (fun _ _ _ => none) (fun b t f _ _ => some (b, outP js t, outP js f)) (fun _ => none) (fun _ _ => none) t
theorem outF_ob {js : List Nat} {t : Tree} {b : Bool} {o o' : List Prop × Option (SV × List (Option SO))} (h : outF js t = some (b, o, o')) {D : SV → List SO → Prop} {S : SS → Prop}
    (ht : b = true → ∀ t', outP js t' = o → t'.Ob D S) (hf : b = false → ∀ t', outP js t' = o' → t'.Ob D S) : t.Ob D S := by
  cases t with
  | fork b' t f =>
    have h' : some (b', outP js t, outP js f) = some (b, o, o') := h
    obtain ⟨h1, h2⟩ := Prod.mk.inj (Option.some.inj h')
    obtain ⟨h3, h4⟩ := Prod.mk.inj h2
    subst h1
    exact ⟨fun hb => ht hb t h3, fun hb => hf hb f h4⟩
  | done => cases h
  | stop => cases h
  | need => cases h
  | stuck => cases h
  | any => cases h

/-- a run's conditions at its head, and the rest -/
noncomputable def outN (t : Tree) : List Prop × Tree := Tree.rec (motive := fun _ => List Prop × Tree) (fun v H => ([], .done v H)) (fun s => ([], .stop s)) (fun p _ ih => (p :: ih.1, ih.2)) (fun b t f _ _ => ([], .fork b t f)) (fun n => ([], .stuck n)) (fun k _ => ([], .any k)) t
theorem outN_ob {t : Tree} {ps : List Prop} (h : (outN t).1 = ps) (hp : ∀ p ∈ ps, p) {D : SV → List SO → Prop} {S : SS → Prop} (ht : ((outN t).2).Ob D S) : t.Ob D S := by
  induction t generalizing ps with
  | need p t ih =>
    have h : p :: (outN t).1 = ps := h
    subst h
    exact ⟨hp p List.mem_cons_self, ih rfl (fun q hq => hp q (List.mem_cons_of_mem _ hq)) ht⟩
  | done => exact ht
  | stop => exact ht
  | fork => exact ht
  | stuck => exact ht
  | any => exact ht

/-- a fork whose condition holds -/
noncomputable def outF1 (js : List Nat) (t : Tree) : Option (Bool × (List Prop × Option (SV × List (Option SO)))) :=
  Tree.rec (motive := fun _ => Option (Bool × (List Prop × Option (SV × List (Option SO))))) (fun _ _ => none) (fun _ => none) (fun _ _ _ => none) (fun b t _ _ _ => some (b, outP js t)) (fun _ => none) (fun _ _ => none) t
theorem outF1_ob {js : List Nat} {t : Tree} {b : Bool} {o : List Prop × Option (SV × List (Option SO))} (h : outF1 js t = some (b, o)) (hb : b = true) {D : SV → List SO → Prop} {S : SS → Prop} (ht : ∀ t', outP js t' = o → t'.Ob D S) : t.Ob D S := by
  cases t with
  | fork b' t f =>
    have h' : some (b', outP js t) = some (b, o) := h
    obtain ⟨h1, h2⟩ := Prod.mk.inj (Option.some.inj h')
    subst h1; subst hb
    exact ⟨fun _ => ht t h2, fun h => by cases h⟩
  | done => cases h
  | stop => cases h
  | need => cases h
  | stuck => cases h
  | any => cases h

/-- a summary from a small run's outcome -/
theorem sum_outG {c : Cfg} (hc : CfgOK c) (n : Nat) {O : Nat → Prop} {w0 w : World} {β : Val} {H : List SO} {base : Nat} {f : FuncId} {vs : List Value} (hH : HeapRel0 c.P O w0 β H w)
    (I : Ifc) (hgl : ∀ g j, c.glob g = some j → I.known j = true ∧ ∃ l, β (I.big j) = some l ∧ l.blk = g ∧ l.off = 0) (ha : SV.denL β (SV.renL I.big I.args) = some vs) (hI : I.Fits H) {r : SumRes} (keep : List Nat) (hk : ∀ j ∈ keep, I.names.length ≤ j) (hkn : keep.Nodup)
    {js : List Nat} {ps : List Prop} {v : SV} {es : List (Option SO)} (h : outP js (callSim c n f I.args I.ents) = (ps, some (v, es))) (hp : ∀ p ∈ ps, p) (hD : ∀ H2 : List SO, js.map (fun j => H2[j]?) = es → I.Ends base keep r v H2) : SumSem c.P H β w base f vs r :=
  sum_runG hc n hH I hgl ha hI keep hk hkn (outP_ob h hp hD)
theorem sum_out {c : Cfg} (hc : CfgOK c) (hgl : c.glob = fun _ => none) (n : Nat) {O : Nat → Prop} {w0 w : World} {β : Val} {H : List SO} {base : Nat} {f : FuncId} {vs : List Value} (hH : HeapRel0 c.P O w0 β H w)
    (I : Ifc) (ha : SV.denL β (SV.renL I.big I.args) = some vs) (hI : I.Fits H) {r : SumRes} (keep : List Nat) (hk : ∀ j ∈ keep, I.names.length ≤ j) (hkn : keep.Nodup)
    {js : List Nat} {ps : List Prop} {v : SV} {es : List (Option SO)} (h : outP js (callSim c n f I.args I.ents) = (ps, some (v, es))) (hp : ∀ p ∈ ps, p) (hD : ∀ H2 : List SO, js.map (fun j => H2[j]?) = es → I.Ends base keep r v H2) : SumSem c.P H β w base f vs r :=
  sum_run hc hgl n hH I ha hI keep hk hkn (outP_ob h hp hD)

theorem sum_outF {c : Cfg} (hc : CfgOK c) (hgl : c.glob = fun _ => none) (n : Nat) {O : Nat → Prop} {w0 w : World} {β : Val} {H : List SO} {base : Nat} {f : FuncId} {vs : List Value} (hH : HeapRel0 c.P O w0 β H w)
    (I : Ifc) (ha : SV.denL β (SV.renL I.big I.args) = some vs) (hI : I.Fits H) {r : SumRes} (keep : List Nat) (hk : ∀ j ∈ keep, I.names.length ≤ j) (hkn : keep.Nodup)
    {js : List Nat} {b : Bool} {o o' : List Prop × Option (SV × List (Option SO))} (h : outF js (callSim c n f I.args I.ents) = some (b, o, o')) (ht : b = true → ∀ t', outP js t' = o → t'.Ob (I.Ends base keep r) fun _ => False) (hf : b = false → ∀ t', outP js t' = o' → t'.Ob (I.Ends base keep r) fun _ => False) : SumSem c.P H β w base f vs r :=
  sum_run hc hgl n hH I ha hI keep hk hkn (outF_ob h ht hf)

end Go.Sim


/-
  The block cipher, first part: doubling, multiplying, and the places that shifting takes.
-/
namespace Go.Proofs.YtdnaaeagllejjaaDoor.Aes
open Go.Sim
open Go.Proofs
variable {α : Type}

theorem progOK : ProgOK Tryd.prog := by
  refine ⟨?_, by kernel_rfl⟩
  have h : (Tryd.prog.funcs.all fun fn => !(fn.body.isSome && fn.name == "runtime.NumGoroutine")) = true := by kernel_rfl
  intro f fn hf hb
  have := Array.all_eq_true'.1 h fn (Array.mem_of_getElem? hf)
  rw [hb] at this
  simpa using this
/-- a simulator that takes these summaries -/
noncomputable def cfgG (glob : Nat → Option Nat) (s : FuncId → Option Summ) : Cfg := { P := Tryd.prog, glob := glob, sums := s, stopAt := none }
noncomputable def cfgOf (s : FuncId → Option Summ) : Cfg := cfgG (fun _ => none) s
noncomputable def sumsOf (l : List (FuncId × Summ)) : FuncId → Option Summ := List.rec (motive := fun _ => FuncId → Option Summ) (fun _ => none) (fun a _ ih f => boolC (Nat.beq f a.1) (some a.2) (ih f)) l
theorem sumsG_ok {glob : Nat → Option Nat} : ∀ {l : List (FuncId × Summ)}, (∀ x ∈ l, SumAt Tryd.prog glob x.1 x.2) → CfgOK (cfgG glob (sumsOf l))
  | [], _ => ⟨progOK, fun _ _ h => by cases h⟩
  | a :: l, hl => ⟨progOK, fun f s h => by
      rcases boolC_some (show boolC (Nat.beq f a.1) (some a.2) (sumsOf l f) = some s from h) with ⟨hf, h⟩ | h
      · cases h; rw [beq_spec hf]; exact hl a List.mem_cons_self
      · exact (sumsG_ok (l := l) fun x hx => hl x (List.mem_cons_of_mem _ hx)).sums f s h⟩
theorem sumsOf_ok {l : List (FuncId × Summ)} (h : ∀ x ∈ l, SumOK Tryd.prog x.1 x.2) : CfgOK (cfgOf (sumsOf l)) := sumsG_ok fun x hx => h x hx _
theorem all1 {x : FuncId × Summ} (h : SumOK Tryd.prog x.1 x.2) : ∀ y ∈ [x], SumOK Tryd.prog y.1 y.2 := by simpa using h
theorem allC {x : FuncId × Summ} {l : List (FuncId × Summ)} (h : SumOK Tryd.prog x.1 x.2) (h' : ∀ y ∈ l, SumOK Tryd.prog y.1 y.2) : ∀ y ∈ x :: l, SumOK Tryd.prog y.1 y.2 := by
  intro y hy
  rcases List.mem_cons.1 hy with rfl | hy
  · exact h
  · exact h' y hy
noncomputable def cfg0 : Cfg := cfgOf (sumsOf [])
theorem cfg0OK : CfgOK cfg0 := sumsOf_ok (by simp)
noncomputable def byteR (x : BitVec 8) : R SumRes := .ok ⟨.int .u8 (.b8 x), [], []⟩

def dbl (x : BitVec 8) : BitVec 8 := if 128 ≤ x.toNat then x <<< 1 ^^^ 27#8 else x <<< 1
noncomputable def dblS : Summ := fun args _ _ => args1 args fun v => optC (unb1 v) (.stuck 600) fun x => byteR (dbl x)
theorem dbl_run (x : BitVec 8) : callSim cfg0 100 55 [.int .u8 (.b8 x)] [] = .fork (decide ((x.toNat : Int) ≥ 128)) (.done (.int .u8 (.b8 (x <<< 1 ^^^ BitVec.ofInt 8 27))) []) (.done (.int .u8 (.b8 (x <<< 1))) []) := by kernel_rfl
theorem dblOK : SumOK Tryd.prog 55 dblS := by
  intro glob O w0 β H w base args vs hH hG ha
  refine args1_sat fun v hv => optC_only fun x hx => ?_
  subst hv
  refine sum_run cfg0OK rfl 100 hH ⟨[], [], [.int .u8 (.b8 x)]⟩ (denL1 ha (unb1_imp hx)) (fits0 rfl) [] (by simp) (by simp) ?_
  rw [dbl_run]
  refine ⟨fun h => ?_, fun h => ?_⟩
  · have e : dbl x = x <<< 1 ^^^ BitVec.ofInt 8 27 := by
      have : 128 ≤ x.toNat := by have := of_decide_eq_true h; omega
      unfold dbl; rw [if_pos this]; rfl
    rw [e]; exact ends0 rfl rfl rfl
  · have e : dbl x = x <<< 1 := by
      have : ¬ 128 ≤ x.toNat := by have := of_decide_eq_false h; omega
      unfold dbl; rw [if_neg this]
    rw [e]; exact ends0 rfl rfl rfl

/- The products. -/
def m9 (x : BitVec 8) : BitVec 8 := x ^^^ dbl (dbl (dbl x))
def m11 (x : BitVec 8) : BitVec 8 := x ^^^ dbl x ^^^ dbl (dbl (dbl x))
def m13 (x : BitVec 8) : BitVec 8 := x ^^^ dbl (dbl x) ^^^ dbl (dbl (dbl x))
def m14 (x : BitVec 8) : BitVec 8 := dbl x ^^^ dbl (dbl x) ^^^ dbl (dbl (dbl x))
def m3 (x : BitVec 8) : BitVec 8 := x ^^^ dbl x
noncomputable def timesL (n : Int) (x : BitVec 8) : R SumRes :=
  boolC (eqI n 1) (byteR x) (boolC (eqI n 2) (byteR (dbl x)) (boolC (eqI n 3) (byteR (m3 x)) (boolC (eqI n 9) (byteR (m9 x)) (boolC (eqI n 11) (byteR (m11 x)) (boolC (eqI n 13) (byteR (m13 x)) (boolC (eqI n 14) (byteR (m14 x)) (.stuck 601)))))))
noncomputable def timesS : Summ := fun args _ _ => args2 args fun u v => optC (unl1 u) (.stuck 601) fun n => optC (unb1 v) (.stuck 601) fun x => timesL n x
noncomputable def cfg1 : Cfg := cfgOf (sumsOf [(55, dblS)])
theorem cfg1OK : CfgOK cfg1 := sumsOf_ok (all1 dblOK)
theorem times_run (x : BitVec 8) :
    callSim cfg1 400 57 [.int .u8 (.lit 1), .int .u8 (.b8 x)] [] = .done (.int .u8 (.b8 (BitVec.ofInt 8 0 ^^^ x))) [] ∧
    callSim cfg1 400 57 [.int .u8 (.lit 2), .int .u8 (.b8 x)] [] = .done (.int .u8 (.b8 (BitVec.ofInt 8 0 ^^^ dbl x))) [] ∧
    callSim cfg1 400 57 [.int .u8 (.lit 3), .int .u8 (.b8 x)] [] = .done (.int .u8 (.b8 (BitVec.ofInt 8 0 ^^^ x ^^^ dbl x))) [] ∧
    callSim cfg1 400 57 [.int .u8 (.lit 9), .int .u8 (.b8 x)] [] = .done (.int .u8 (.b8 (BitVec.ofInt 8 0 ^^^ x ^^^ dbl (dbl (dbl x))))) [] ∧
    callSim cfg1 400 57 [.int .u8 (.lit 11), .int .u8 (.b8 x)] [] = .done (.int .u8 (.b8 (BitVec.ofInt 8 0 ^^^ x ^^^ dbl x ^^^ dbl (dbl (dbl x))))) [] ∧
    callSim cfg1 400 57 [.int .u8 (.lit 13), .int .u8 (.b8 x)] [] = .done (.int .u8 (.b8 (BitVec.ofInt 8 0 ^^^ x ^^^ dbl (dbl x) ^^^ dbl (dbl (dbl x))))) [] ∧
    callSim cfg1 400 57 [.int .u8 (.lit 14), .int .u8 (.b8 x)] [] = .done (.int .u8 (.b8 (BitVec.ofInt 8 0 ^^^ dbl x ^^^ dbl (dbl x) ^^^ dbl (dbl (dbl x))))) [] := by
  refine ⟨?_, ?_, ?_, ?_, ?_, ?_, ?_⟩ <;> kernel_rfl
theorem timesOK : SumOK Tryd.prog 57 timesS := by
  intro glob O w0 β H w base args vs hH hG ha
  refine args2_sat fun u v hv => optC_only fun n hn => optC_only fun x hx => ?_
  subst hv
  have hu := unl1_spec hn
  subst hu
  obtain ⟨h1, h2, h3, h9, h11, h13, h14⟩ := times_run x
  have key : ∀ (m : Int) (y z : BitVec 8) (o : R SumRes), callSim cfg1 400 57 [.int .u8 (.lit m), .int .u8 (.b8 x)] [] = .done (.int .u8 (.b8 z)) [] → z = y → o.Sat (SumSem Tryd.prog H β w base 57 vs) →
      (boolC (eqI n m) (byteR y) o).Sat (SumSem Tryd.prog H β w base 57 vs) := by
    intro m y z o hrun hz ho
    refine boolC_sat (fun hm => ?_) fun _ => ho
    have hn := eqI_spec hm
    subst hn; subst hz
    refine sum_run cfg1OK rfl 400 hH ⟨[], [], [.int .u8 (.lit n), .int .u8 (.b8 x)]⟩ (impL_cons (.refl _) (impL_cons (unb1_imp hx) impL_nil) _ _ ha) (fits0 rfl) [] (by simp) (by simp) ?_
    rw [hrun]
    exact ends0 rfl rfl rfl
  have z0 : BitVec.ofInt 8 0 = 0#8 := by rfl
  rw [z0] at h1 h2 h3 h9 h11 h13 h14
  refine key 1 _ _ _ h1 (by simp) (key 2 _ _ _ h2 (by simp) (key 3 _ _ _ h3 (by simp [m3]) (key 9 _ _ _ h9 (by simp [m9]) (key 11 _ _ _ h11 (by simp [m11]) (key 13 _ _ _ h13 (by simp [m13]) (key 14 _ _ _ h14 (by simp [m14]) ?_))))))
  trivial

/- The place from which shifting takes a byte. -/
def shiftN (n : Nat) : Nat := (4 * (n / 4 + n % 4) + n % 4) % 16
noncomputable def shiftedS : Summ := fun args _ _ => args1 args fun v => optC (litI v) (.stuck 630) fun n => boolC (Nat.blt n 16) (.ok ⟨.int .i64 (.lit (.ofNat (shiftN n))), [], []⟩) (.stuck 630)
theorem shifted_run (n : Nat) (h : n < 16) : callSim cfg0 200 51 [.int .i64 (.lit (.ofNat n))] [] = .done (.int .i64 (.lit (.ofNat (shiftN n)))) [] := by
  have h' : n = 0 ∨ n = 1 ∨ n = 2 ∨ n = 3 ∨ n = 4 ∨ n = 5 ∨ n = 6 ∨ n = 7 ∨ n = 8 ∨ n = 9 ∨ n = 10 ∨ n = 11 ∨ n = 12 ∨ n = 13 ∨ n = 14 ∨ n = 15 := by omega
  rcases h' with rfl | rfl | rfl | rfl | rfl | rfl | rfl | rfl | rfl | rfl | rfl | rfl | rfl | rfl | rfl | rfl <;> (show (_ : Tree) = _) <;> kernel_rfl
theorem shiftedOK : SumOK Tryd.prog 51 shiftedS := by
  intro glob O w0 β H w base args vs hH hG ha
  refine args1_sat fun v hv => optC_only fun n hn => boolC_only fun hlt => ?_
  rw [hv, litI_spec hn] at ha
  refine sum_run cfg0OK rfl 200 hH ⟨[], [], [.int .i64 (.lit (.ofNat n))]⟩ ha (fits0 rfl) [] (by simp) (by simp) ?_
  rw [shifted_run n (blt_spec hlt)]
  exact ends0 rfl rfl rfl

end Go.Proofs.YtdnaaeagllejjaaDoor.Aes


/-
  The block cipher, second part: one mixed byte, the table, and the operations on a block.
-/
namespace Go.Proofs.YtdnaaeagllejjaaDoor.Aes
open Go.Sim
open Go.Proofs
variable {α : Type}

/-- a mixed byte: by encrypting, by decrypting -/
def mixW (k : Bool) (a b c d : BitVec 8) : BitVec 8 := if k then dbl a ^^^ m3 b ^^^ c ^^^ d else m14 a ^^^ m11 b ^^^ m13 c ^^^ m9 d
def mixAt (k : Bool) (l : List (BitVec 8)) (c r : Nat) : BitVec 8 := mixW k (byteAt l (4 * c + r)) (byteAt l (4 * c + (r + 1) % 4)) (byteAt l (4 * c + (r + 2) % 4)) (byteAt l (4 * c + (r + 3) % 4))
def factors (k : Bool) : List Int := if k then [2, 3, 1, 1] else [14, 11, 13, 9]
def mixZ (k : Bool) (l : List (BitVec 8)) (c r : Nat) : BitVec 8 :=
  if k then BitVec.ofInt 8 0 ^^^ dbl (byteAt l (4 * c + r)) ^^^ m3 (byteAt l (4 * c + (r + 1) % 4)) ^^^ byteAt l (4 * c + (r + 2) % 4) ^^^ byteAt l (4 * c + (r + 3) % 4)
  else BitVec.ofInt 8 0 ^^^ m14 (byteAt l (4 * c + r)) ^^^ m11 (byteAt l (4 * c + (r + 1) % 4)) ^^^ m13 (byteAt l (4 * c + (r + 2) % 4)) ^^^ m9 (byteAt l (4 * c + (r + 3) % 4))
noncomputable def cfg2 : Cfg := cfgOf (sumsOf [(55, dblS), (57, timesS)])
theorem cfg2OK : CfgOK cfg2 := sumsOf_ok (allC dblOK (all1 timesOK))
theorem mixed_run (k : Bool) (x0 x1 x2 x3 x4 x5 x6 x7 x8 x9 xa xb xc xd xe xf : BitVec 8) (c r : Nat) (hc : c < 4) (hr : r < 4) :
    outP [] (callSim cfg2 600 56 [.int .i64 (.lit (.ofNat c)), .int .i64 (.lit (.ofNat r)), .ptr ⟨0, .lit 0⟩, .ptr ⟨1, .lit 0⟩] [.row (.lst (lx (factors k))), .row (.lst (bx [x0, x1, x2, x3, x4, x5, x6, x7, x8, x9, xa, xb, xc, xd, xe, xf]))]) =
      ([], some (.int .u8 (.b8 (mixAt k [x0, x1, x2, x3, x4, x5, x6, x7, x8, x9, xa, xb, xc, xd, xe, xf] c r)), [])) := by
  have hz : ∀ y : BitVec 8, BitVec.ofInt 8 0 ^^^ y = y := fun y => by
    have : BitVec.ofInt 8 0 = 0#8 := by rfl
    rw [this]; simp
  have h : ∀ c r : Nat, c < 4 → r < 4 → outP [] (callSim cfg2 600 56 [.int .i64 (.lit (.ofNat c)), .int .i64 (.lit (.ofNat r)), .ptr ⟨0, .lit 0⟩, .ptr ⟨1, .lit 0⟩] [.row (.lst (lx (factors k))), .row (.lst (bx [x0, x1, x2, x3, x4, x5, x6, x7, x8, x9, xa, xb, xc, xd, xe, xf]))]) =
      ([], some (.int .u8 (.b8 (mixZ k [x0, x1, x2, x3, x4, x5, x6, x7, x8, x9, xa, xb, xc, xd, xe, xf] c r)), [])) := by
    intro c r hc hr
    have hc' : c = 0 ∨ c = 1 ∨ c = 2 ∨ c = 3 := by omega
    have hr' : r = 0 ∨ r = 1 ∨ r = 2 ∨ r = 3 := by omega
    cases k <;> rcases hc' with rfl | rfl | rfl | rfl <;> rcases hr' with rfl | rfl | rfl | rfl <;> (show (_ : List Prop × Option (SV × List (Option SO))) = _) <;> kernel_rfl
  rw [h c r hc hr]
  cases k
  · simp only [mixZ, mixAt, mixW, hz]
  · simp only [mixZ, mixAt, mixW, hz]
/-- cells that are these known bytes, and no others -/
noncomputable def isLit (T : List Int) (l : List SV) : Bool := boolC (Nat.beq (lenN l) (lenN T)) (preLit T l) false
theorem isLit_spec {T : List Int} {l : List SV} (h : isLit T l = true) : l = lx T := by
  unfold isLit at h
  cases h1 : Nat.beq (lenN l) (lenN T) with
  | false => rw [h1] at h; cases h
  | true =>
    rw [h1] at h
    have h2 := preLit_spec (show preLit T l = true from h)
    have h1 := beq_spec h1
    rw [h2, ← h1, lenN_eq, dropN_eq, List.drop_length, app_eq, List.append_nil]
theorem sixteen {xs : List (BitVec 8)} (h : Nat.beq (lenN xs) 16 = true) : ∃ x0 x1 x2 x3 x4 x5 x6 x7 x8 x9 xa xb xc xd xe xf, xs = [x0, x1, x2, x3, x4, x5, x6, x7, x8, x9, xa, xb, xc, xd, xe, xf] := by
  have h := beq_spec h
  rw [lenN_eq] at h
  match xs, h with
  | [x0, x1, x2, x3, x4, x5, x6, x7, x8, x9, xa, xb, xc, xd, xe, xf], _ => exact ⟨_, _, _, _, _, _, _, _, _, _, _, _, _, _, _, _, rfl⟩
noncomputable def mixedK (H : List SO) (k : Bool) (c r a b : Nat) (o : R SumRes) : R SumRes :=
  optC (cellsE (nth H a)) o fun l => boolC (isLit (factors k) l) (optC (cellsE (nth H b)) (.stuck 612) fun l => optC (unb l) (.stuck 611) fun xs => boolC (Nat.beq (lenN xs) 16) (byteR (mixAt k xs c r)) (.stuck 612)) o
noncomputable def mixedS : Summ := fun args H _ => args4 args fun c r a b => optC (litI c) (.stuck 613) fun c => optC (litI r) (.stuck 613) fun r => optC (headP a) (.stuck 613) fun a => optC (headP b) (.stuck 613) fun b =>
  boolC (Nat.blt c 4) (boolC (Nat.blt r 4) (boolC (Nat.beq a b) (.stuck 613) (mixedK H true c r a b (mixedK H false c r a b (.stuck 614)))) (.stuck 615)) (.stuck 615)
theorem mixedOK : SumOK Tryd.prog 56 mixedS := by
  intro glob O w0 β H w base args vs hH hG ha
  refine args4_sat fun v1 v2 v3 v4 hv => optC_only fun c h1 => optC_only fun r h2 => optC_only fun a h3 => optC_only fun b h4 => boolC_only fun hc => boolC_only fun hr => boolC_sat (fun _ => trivial) fun hab => ?_
  rw [hv, litI_spec h1, litI_spec h2, headP_spec h3, headP_spec h4] at ha
  have key : ∀ (k : Bool) (o : R SumRes), o.Sat (SumSem Tryd.prog H β w base 56 vs) → (mixedK H k c r a b o).Sat (SumSem Tryd.prog H β w base 56 vs) := by
    intro k o ho
    unfold mixedK
    cases hl : cellsE (nth H a) with
    | none => exact ho
    | some l =>
      refine boolC_sat (fun hk => optC_only fun m hm => optC_only fun xs hx => boolC_only fun h16 => ?_) fun _ => ho
      have hl2 := isLit_spec hk
      subst hl2
      obtain ⟨x0, x1, x2, x3, x4, x5, x6, x7, x8, x9, xa, xb, xc, xd, xe, xf, rfl⟩ := sixteen h16
      rw [nth_eq] at hl hm
      exact sum_out cfg2OK rfl 600 hH ⟨[a, b], [.row (.lst (lx (factors k))), .row (.lst (bx [x0, x1, x2, x3, x4, x5, x6, x7, x8, x9, xa, xb, xc, xd, xe, xf]))], [.int .i64 (.lit (.ofNat c)), .int .i64 (.lit (.ofNat r)), .ptr ⟨0, .lit 0⟩, .ptr ⟨1, .lit 0⟩]⟩
        ha (Ifc.fits (by simpa using beq_ne hab) rfl ⟨⟨taken_cells hl (by rw [lx_ren]; exact .refl _), lx_uses _ _⟩, ⟨taken_cells hm (by rw [bx_ren]; exact unb_imp hx), bx_uses _ _⟩, trivial⟩) [] (by simp) (by simp)
        (mixed_run k _ _ _ _ _ _ _ _ _ _ _ _ _ _ _ _ c r (blt_spec hc) (blt_spec hr)) (by simp) fun H2 _ => ends0 rfl rfl rfl
  exact key true _ (key false _ trivial)

/- The table. -/
def subs : List Nat :=
  [0x63, 0x7c, 0x77, 0x7b, 0xf2, 0x6b, 0x6f, 0xc5, 0x30, 0x01, 0x67, 0x2b, 0xfe, 0xd7, 0xab, 0x76, 0xca, 0x82, 0xc9, 0x7d, 0xfa, 0x59, 0x47, 0xf0, 0xad, 0xd4, 0xa2, 0xaf, 0x9c, 0xa4, 0x72, 0xc0,
   0xb7, 0xfd, 0x93, 0x26, 0x36, 0x3f, 0xf7, 0xcc, 0x34, 0xa5, 0xe5, 0xf1, 0x71, 0xd8, 0x31, 0x15, 0x04, 0xc7, 0x23, 0xc3, 0x18, 0x96, 0x05, 0x9a, 0x07, 0x12, 0x80, 0xe2, 0xeb, 0x27, 0xb2, 0x75,
   0x09, 0x83, 0x2c, 0x1a, 0x1b, 0x6e, 0x5a, 0xa0, 0x52, 0x3b, 0xd6, 0xb3, 0x29, 0xe3, 0x2f, 0x84, 0x53, 0xd1, 0x00, 0xed, 0x20, 0xfc, 0xb1, 0x5b, 0x6a, 0xcb, 0xbe, 0x39, 0x4a, 0x4c, 0x58, 0xcf,
   0xd0, 0xef, 0xaa, 0xfb, 0x43, 0x4d, 0x33, 0x85, 0x45, 0xf9, 0x02, 0x7f, 0x50, 0x3c, 0x9f, 0xa8, 0x51, 0xa3, 0x40, 0x8f, 0x92, 0x9d, 0x38, 0xf5, 0xbc, 0xb6, 0xda, 0x21, 0x10, 0xff, 0xf3, 0xd2,
   0xcd, 0x0c, 0x13, 0xec, 0x5f, 0x97, 0x44, 0x17, 0xc4, 0xa7, 0x7e, 0x3d, 0x64, 0x5d, 0x19, 0x73, 0x60, 0x81, 0x4f, 0xdc, 0x22, 0x2a, 0x90, 0x88, 0x46, 0xee, 0xb8, 0x14, 0xde, 0x5e, 0x0b, 0xdb,
   0xe0, 0x32, 0x3a, 0x0a, 0x49, 0x06, 0x24, 0x5c, 0xc2, 0xd3, 0xac, 0x62, 0x91, 0x95, 0xe4, 0x79, 0xe7, 0xc8, 0x37, 0x6d, 0x8d, 0xd5, 0x4e, 0xa9, 0x6c, 0x56, 0xf4, 0xea, 0x65, 0x7a, 0xae, 0x08,
   0xba, 0x78, 0x25, 0x2e, 0x1c, 0xa6, 0xb4, 0xc6, 0xe8, 0xdd, 0x74, 0x1f, 0x4b, 0xbd, 0x8b, 0x8a, 0x70, 0x3e, 0xb5, 0x66, 0x48, 0x03, 0xf6, 0x0e, 0x61, 0x35, 0x57, 0xb9, 0x86, 0xc1, 0x1d, 0x9e,
   0xe1, 0xf8, 0x98, 0x11, 0x69, 0xd9, 0x8e, 0x94, 0x9b, 0x1e, 0x87, 0xe9, 0xce, 0x55, 0x28, 0xdf, 0x8c, 0xa1, 0x89, 0x0d, 0xbf, 0xe6, 0x42, 0x68, 0x41, 0x99, 0x2d, 0x0f, 0xb0, 0x54, 0xbb, 0x16]
def recs : List Nat :=
  [0x52, 0x09, 0x6a, 0xd5, 0x30, 0x36, 0xa5, 0x38, 0xbf, 0x40, 0xa3, 0x9e, 0x81, 0xf3, 0xd7, 0xfb, 0x7c, 0xe3, 0x39, 0x82, 0x9b, 0x2f, 0xff, 0x87, 0x34, 0x8e, 0x43, 0x44, 0xc4, 0xde, 0xe9, 0xcb,
   0x54, 0x7b, 0x94, 0x32, 0xa6, 0xc2, 0x23, 0x3d, 0xee, 0x4c, 0x95, 0x0b, 0x42, 0xfa, 0xc3, 0x4e, 0x08, 0x2e, 0xa1, 0x66, 0x28, 0xd9, 0x24, 0xb2, 0x76, 0x5b, 0xa2, 0x49, 0x6d, 0x8b, 0xd1, 0x25,
   0x72, 0xf8, 0xf6, 0x64, 0x86, 0x68, 0x98, 0x16, 0xd4, 0xa4, 0x5c, 0xcc, 0x5d, 0x65, 0xb6, 0x92, 0x6c, 0x70, 0x48, 0x50, 0xfd, 0xed, 0xb9, 0xda, 0x5e, 0x15, 0x46, 0x57, 0xa7, 0x8d, 0x9d, 0x84,
   0x90, 0xd8, 0xab, 0x00, 0x8c, 0xbc, 0xd3, 0x0a, 0xf7, 0xe4, 0x58, 0x05, 0xb8, 0xb3, 0x45, 0x06, 0xd0, 0x2c, 0x1e, 0x8f, 0xca, 0x3f, 0x0f, 0x02, 0xc1, 0xaf, 0xbd, 0x03, 0x01, 0x13, 0x8a, 0x6b,
   0x3a, 0x91, 0x11, 0x41, 0x4f, 0x67, 0xdc, 0xea, 0x97, 0xf2, 0xcf, 0xce, 0xf0, 0xb4, 0xe6, 0x73, 0x96, 0xac, 0x74, 0x22, 0xe7, 0xad, 0x35, 0x85, 0xe2, 0xf9, 0x37, 0xe8, 0x1c, 0x75, 0xdf, 0x6e,
   0x47, 0xf1, 0x1a, 0x71, 0x1d, 0x29, 0xc5, 0x89, 0x6f, 0xb7, 0x62, 0x0e, 0xaa, 0x18, 0xbe, 0x1b, 0xfc, 0x56, 0x3e, 0x4b, 0xc6, 0xd2, 0x79, 0x20, 0x9a, 0xdb, 0xc0, 0xfe, 0x78, 0xcd, 0x5a, 0xf4,
   0x1f, 0xdd, 0xa8, 0x33, 0x88, 0x07, 0xc7, 0x31, 0xb1, 0x12, 0x10, 0x59, 0x27, 0x80, 0xec, 0x5f, 0x60, 0x51, 0x7f, 0xa9, 0x19, 0xb5, 0x4a, 0x0d, 0x2d, 0xe5, 0x7a, 0x9f, 0x93, 0xc9, 0x9c, 0xef,
   0xa0, 0xe0, 0x3b, 0x4d, 0xae, 0x2a, 0xf5, 0xb0, 0xc8, 0xeb, 0xbb, 0x3c, 0x83, 0x53, 0x99, 0x61, 0x17, 0x2b, 0x04, 0x7e, 0xba, 0x77, 0xd6, 0x26, 0xe1, 0x69, 0x14, 0x63, 0x55, 0x21, 0x0c, 0x7d]
def tabN : List Nat := subs ++ recs
def tabB (i : Nat) : BitVec 8 := BitVec.ofNat 8 ((tabN[i]?).getD 0)
def tabI : List Int := tabN.map Int.ofNat
def subB (x : BitVec 8) : BitVec 8 := tabB x.toNat
def recB (x : BitVec 8) : BitVec 8 := tabB (256 + x.toNat)
theorem tab_all : tabN.all (fun n => Nat.blt n 256) = true := by kernel_rfl
theorem tab_small : ∀ n ∈ tabN, n < 256 := fun n h => blt_spec (List.all_eq_true.1 tab_all n h)
theorem tab_len : tabN.length = 512 := by kernel_rfl
theorem lx_get {T : List Int} {γ : Val} {vs : List Value} (h : SV.denL γ (lx T) = some vs) : vs = T.map (Value.int .u8) := by
  induction T generalizing vs with
  | nil => cases h; rfl
  | cons t T ih =>
    obtain ⟨x, ys, hx, hy, rfl⟩ := denL_cons.1 (show SV.denL γ (.int .u8 (.lit t) :: lx T) = some vs from h)
    rw [ih hy]; cases hx; rfl
noncomputable def tabG (i : Nat) : SV := .int .u8 (.b8 (tabB i))
/-- cells with the table at their head -/
noncomputable def tabE (e : Option SO) : Bool := optC (cellsE e) false (preLit tabI)
theorem tabE_spec {e : Option SO} (h : tabE e = true) : ∃ r, cellsE e = some (app (lx tabI) r) := by
  unfold tabE at h
  cases hl : cellsE e with
  | none => rw [hl] at h; cases h
  | some l =>
    rw [hl] at h
    exact ⟨_, by rw [← preLit_spec (show preLit tabI l = true from h)]⟩
theorem taken_tab {f : Nat → Nat} {e : Option SO} (h : tabE e = true) : ∃ e', e = some e' ∧ Taken f (.row (.lst (lx tabI))) e' := by
  obtain ⟨r, hr⟩ := tabE_spec h
  exact taken_front hr (by rw [lx_ren]; exact .refl _)
theorem taken_tabG {f : Nat → Nat} {e : Option SO} (h : tabE e = true) : ∃ e', e = some e' ∧ Taken f (.row (.fn tabG 512)) e' := by
  obtain ⟨r, hr⟩ := tabE_spec h
  obtain ⟨e', rfl, hc⟩ := cellsE_spec hr
  refine ⟨e', rfl, taken_row hc fun γ vs hv => ⟨512, ?_⟩⟩
  have hv : SV.denL γ (app (lx tabI) r) = some vs := hv
  rw [app_eq] at hv
  obtain ⟨x, y, hx, hy, rfl⟩ := denL_split hv
  have hx := lx_get hx
  have hl : x.length = 512 := by rw [hx]; simp [tabI, tab_len]
  rw [List.take_append_of_le_length (by omega), List.take_of_length_le (by omega)]
  refine ⟨hl, fun i u hu => ?_⟩
  rw [hx, tabI, List.map_map, List.getElem?_map] at hu
  cases hn : tabN[i]? with
  | none => rw [hn] at hu; cases hu
  | some n =>
    rw [hn] at hu; cases hu
    have := tab_small n (List.mem_of_getElem? hn)
    show some (Value.int .u8 (((tabB i).toNat : Nat) : Int)) = _
    unfold tabB
    rw [hn, Option.getD_some, BitVec.toNat_ofNat, Nat.mod_eq_of_lt (by omega)]
    rfl
noncomputable def lookS (F : BitVec 8 → BitVec 8) : Summ := fun args H _ => args2 args fun c v => optC (headP c) (.stuck 640) fun c => optC (unb1 v) (.stuck 640) fun x => boolC (tabE (nth H c)) (byteR (F x)) (.stuck 641)
theorem replace_run (x : BitVec 8) : outP [] (callSim cfg0 200 50 [.ptr ⟨0, .lit 0⟩, .int .u8 (.b8 x)] [.row (.fn tabG 512)]) =
    ([0 + x.toNat < 512], some (.int .u8 (.b8 (tabB (0 + x.toNat))), [])) := by kernel_rfl
theorem recall_run (x : BitVec 8) : outP [] (callSim cfg0 200 54 [.ptr ⟨0, .lit 0⟩, .int .u8 (.b8 x)] [.row (.fn tabG 512)]) =
    ([256 + x.toNat < 512], some (.int .u8 (.b8 (tabB (256 + x.toNat))), [])) := by kernel_rfl
theorem lookOK {f : FuncId} {F : BitVec 8 → BitVec 8} {k : Nat} (hk : k + 256 ≤ 512) (hF : ∀ x, F x = tabB (k + x.toNat)) (h : ∀ x : BitVec 8, outP [] (callSim cfg0 200 f [.ptr ⟨0, .lit 0⟩, .int .u8 (.b8 x)] [.row (.fn tabG 512)]) =
    ([k + x.toNat < 512], some (.int .u8 (.b8 (tabB (k + x.toNat))), []))) : SumOK Tryd.prog f (lookS F) := by
  intro glob O w0 β H w base args vs hH hG ha
  refine args2_sat fun c v hv => optC_only fun c h1 => optC_only fun x hx => boolC_only fun ht => ?_
  rw [hv, headP_spec h1] at ha
  rw [nth_eq] at ht
  have hx2 := x.isLt
  refine sum_out cfg0OK rfl 200 hH ⟨[c], [.row (.fn tabG 512)], [.ptr ⟨0, .lit 0⟩, .int .u8 (.b8 x)]⟩ (impL_cons (.refl _) (impL_cons (unb1_imp hx) impL_nil) _ _ ha) (Ifc.fits (by simp) rfl ⟨⟨taken_tabG ht, fun _ => rfl⟩, trivial⟩) [] (by simp) (by simp)
    (h x) ?_ fun H2 _ => ?_
  · intro p hp
    rcases List.mem_cons.1 hp with rfl | hp
    · omega
    · cases hp
  · rw [← hF]; exact ends0 rfl rfl rfl
theorem replaceOK : SumOK Tryd.prog 50 (lookS subB) := lookOK (k := 0) (by omega) (fun x => by rw [Nat.zero_add]; rfl) replace_run
theorem recallOK : SumOK Tryd.prog 54 (lookS recB) := lookOK (k := 256) (by omega) (fun _ => rfl) recall_run

end Go.Proofs.YtdnaaeagllejjaaDoor.Aes


/-
  The block cipher, third part: the operations on a pass.
-/
namespace Go.Proofs.YtdnaaeagllejjaaDoor.Aes
open Go.Sim
open Go.Proofs
variable {α : Type}

/-- a pass: the cipher's name, the block, the round key -/
noncomputable def passL (c : Nat) (xs ks : List (BitVec 8)) : List SV := .ptr ⟨c, .lit 0⟩ :: app (bx xs) (bx ks)
noncomputable def passE (c : Nat) (xs ks : List (BitVec 8)) : SO := .own (.lst (passL c xs ks)) true 60
noncomputable def passK (l : List SV) (f : Nat → List (BitVec 8) → List (BitVec 8) → R α) : R α :=
  List.rec (motive := fun _ => R α) (.stuck 622) (fun v l _ => optC (headP v) (.stuck 622) fun c => optC (unb (takeN l 16)) (.stuck 623) fun xs => optC (unb (dropN l 16)) (.stuck 623) fun ks =>
    boolC (Nat.beq (lenN xs) 16) (boolC (Nat.beq (lenN ks) 16) (f c xs ks) (.stuck 624)) (.stuck 624)) l
theorem passK_sat {l : List SV} {f : Nat → List (BitVec 8) → List (BitVec 8) → R α} {φ : α → Prop} (h : ∀ c xs ks, SV.ImpL l (passL c xs ks) → Nat.beq (lenN xs) 16 = true → Nat.beq (lenN ks) 16 = true → (f c xs ks).Sat φ) : (passK l f).Sat φ := by
  cases l with
  | nil => trivial
  | cons v l =>
    refine optC_only fun c h1 => optC_only fun xs hx => optC_only fun ks hk => boolC_only fun h16 => boolC_only fun k16 => h c xs ks ?_ h16 k16
    rw [headP_spec h1]
    refine impL_cons (.refl _) ?_
    rw [← app_take_drop l 16]
    exact impL_app (unb_imp hx) (unb_imp hk)
theorem passL_ren (f : Nat → Nat) (c : Nat) (xs ks : List (BitVec 8)) : SV.renL f (passL c xs ks) = passL (f c) xs ks := by
  show _ :: SV.renL f (app (bx xs) (bx ks)) = _
  rw [renL_app, bx_ren, bx_ren]; rfl
theorem passL_uses (p : Nat → Bool) (c : Nat) (h : p c = true) (xs ks : List (BitVec 8)) : SV.usesL p (passL c xs ks) = true := by
  show (p c && SV.usesL p (app (bx xs) (bx ks))) = true
  rw [h, usesL_app, bx_uses, bx_uses]; rfl
/-- an operation on a pass; the cipher's entry is looked at first -/
noncomputable def passS (chk : Option SO → Bool) (F : List (BitVec 8) → List (BitVec 8) → List (BitVec 8)) : Summ := fun args H _ => args1 args fun v => optC (headP v) (.stuck 627) fun p =>
  optC (ownE 60 (nth H p)) (.stuck 628) fun l => passK l fun c xs ks => boolC (Nat.beq p c) (.stuck 628) (boolC (chk (nth H c)) (.ok ⟨.tuple [], [(p, passE c (F xs ks) ks)], []⟩) (.stuck 629))
theorem passOK {c0 : Cfg} (hc : CfgOK c0) (hgl : c0.glob = fun _ => none) {f : FuncId} {n : Nat} {chk : Option SO → Bool} {E1 : SO} (hE : ∀ (g : Nat → Nat) (e : Option SO), chk e = true → ∃ e', e = some e' ∧ Taken g E1 e') (hU : ∀ p, E1.CUses p) (hO : ownsOf [E1] 1 = [])
    {F : List (BitVec 8) → List (BitVec 8) → List (BitVec 8)}
    (hrun : ∀ x0 x1 x2 x3 x4 x5 x6 x7 x8 x9 xa xb xc xd xe xf k0 k1 k2 k3 k4 k5 k6 k7 k8 k9 ka kb kc kd ke kf : BitVec 8,
      outP [0] (callSim c0 n f [.ptr ⟨0, .lit 0⟩] [passE 1 [x0, x1, x2, x3, x4, x5, x6, x7, x8, x9, xa, xb, xc, xd, xe, xf] [k0, k1, k2, k3, k4, k5, k6, k7, k8, k9, ka, kb, kc, kd, ke, kf], E1]) =
        ([], some (.tuple [], [some (passE 1 (F [x0, x1, x2, x3, x4, x5, x6, x7, x8, x9, xa, xb, xc, xd, xe, xf] [k0, k1, k2, k3, k4, k5, k6, k7, k8, k9, ka, kb, kc, kd, ke, kf]) [k0, k1, k2, k3, k4, k5, k6, k7, k8, k9, ka, kb, kc, kd, ke, kf])]))) :
    SumOK c0.P f (passS chk F) := by
  intro glob O w0 β H w base args vs hH hG ha
  refine args1_sat fun v hv => optC_only fun p h1 => optC_only fun l hl => passK_sat fun c xs ks hi h16 k16 => boolC_sat (fun _ => trivial) fun hpc => boolC_only fun hck => ?_
  rw [hv, headP_spec h1] at ha
  rw [nth_eq] at hl hck
  obtain ⟨x0, x1, x2, x3, x4, x5, x6, x7, x8, x9, xa, xb, xc, xd, xe, xf, rfl⟩ := sixteen h16
  obtain ⟨k0, k1, k2, k3, k4, k5, k6, k7, k8, k9, ka, kb, kc, kd, ke, kf, rfl⟩ := sixteen k16
  have hown : ownsOf [passE 1 [x0, x1, x2, x3, x4, x5, x6, x7, x8, x9, xa, xb, xc, xd, xe, xf] [k0, k1, k2, k3, k4, k5, k6, k7, k8, k9, ka, kb, kc, kd, ke, kf], E1] 0 = [0] := by show 0 :: ownsOf [E1] 1 = _; rw [hO]
  refine sum_out hc hgl n hH ⟨[p, c], [passE 1 [x0, x1, x2, x3, x4, x5, x6, x7, x8, x9, xa, xb, xc, xd, xe, xf] [k0, k1, k2, k3, k4, k5, k6, k7, k8, k9, ka, kb, kc, kd, ke, kf], E1], [.ptr ⟨0, .lit 0⟩]⟩
    ha (Ifc.fits (by simpa using beq_ne hpc) rfl ⟨⟨⟨_, ownE_spec hl, taken_imp (by rw [passL_ren]; exact hi)⟩, passL_uses _ _ rfl _ _⟩, ⟨hE _ _ hck, hU _⟩, trivial⟩) [] (by simp) (by simp)
    (hrun x0 x1 x2 x3 x4 x5 x6 x7 x8 x9 xa xb xc xd xe xf k0 k1 k2 k3 k4 k5 k6 k7 k8 k9 ka kb kc kd ke kf) (by simp) fun H2 hH2 => ⟨.refl _, rfl, ?_, trivial⟩
  rw [hown]
  have hH2 : H2[0]? = some (passE 1 _ _) := (List.cons.inj hH2).1
  refine ⟨⟨rfl, given_own hH2 (passL_uses _ _ rfl _ _) ?_⟩, trivial⟩
  show SO.own (.lst (SV.renL _ (passL 1 _ _))) true _ = _
  rw [passL_ren]; rfl

/- The operations. -/
noncomputable def cfg3 : Cfg := cfgOf (sumsOf [(56, mixedS), (51, shiftedS)])
theorem cfg3OK : CfgOK cfg3 := sumsOf_ok (allC mixedOK (all1 shiftedOK))
noncomputable def cfg4 : Cfg := cfgOf (sumsOf [(50, lookS subB), (54, lookS recB)])
theorem cfg4OK : CfgOK cfg4 := sumsOf_ok (allC replaceOK (all1 recallOK))
def mixL (k : Bool) (xs : List (BitVec 8)) : List (BitVec 8) :=
  [mixAt k xs 0 0, mixAt k xs 0 1, mixAt k xs 0 2, mixAt k xs 0 3, mixAt k xs 1 0, mixAt k xs 1 1, mixAt k xs 1 2, mixAt k xs 1 3,
   mixAt k xs 2 0, mixAt k xs 2 1, mixAt k xs 2 2, mixAt k xs 2 3, mixAt k xs 3 0, mixAt k xs 3 1, mixAt k xs 3 2, mixAt k xs 3 3]
def pick16 (xs : List (BitVec 8)) (a0 a1 a2 a3 a4 a5 a6 a7 a8 a9 aa ab ac ad ae af : Nat) : List (BitVec 8) :=
  [byteAt xs a0, byteAt xs a1, byteAt xs a2, byteAt xs a3, byteAt xs a4, byteAt xs a5, byteAt xs a6, byteAt xs a7, byteAt xs a8, byteAt xs a9, byteAt xs aa, byteAt xs ab, byteAt xs ac, byteAt xs ad, byteAt xs ae, byteAt xs af]
def shiftL (xs : List (BitVec 8)) : List (BitVec 8) := pick16 xs 0 5 10 15 4 9 14 3 8 13 2 7 12 1 6 11
def unshiftL (xs : List (BitVec 8)) : List (BitVec 8) := pick16 xs 0 13 10 7 4 1 14 11 8 5 2 15 12 9 6 3
def addL (xs ks : List (BitVec 8)) : List (BitVec 8) :=
  [byteAt xs 0 ^^^ byteAt ks 0, byteAt xs 1 ^^^ byteAt ks 1, byteAt xs 2 ^^^ byteAt ks 2, byteAt xs 3 ^^^ byteAt ks 3, byteAt xs 4 ^^^ byteAt ks 4, byteAt xs 5 ^^^ byteAt ks 5, byteAt xs 6 ^^^ byteAt ks 6, byteAt xs 7 ^^^ byteAt ks 7,
   byteAt xs 8 ^^^ byteAt ks 8, byteAt xs 9 ^^^ byteAt ks 9, byteAt xs 10 ^^^ byteAt ks 10, byteAt xs 11 ^^^ byteAt ks 11, byteAt xs 12 ^^^ byteAt ks 12, byteAt xs 13 ^^^ byteAt ks 13, byteAt xs 14 ^^^ byteAt ks 14, byteAt xs 15 ^^^ byteAt ks 15]
def mapL (F : BitVec 8 → BitVec 8) (xs : List (BitVec 8)) : List (BitVec 8) :=
  [F (byteAt xs 0), F (byteAt xs 1), F (byteAt xs 2), F (byteAt xs 3), F (byteAt xs 4), F (byteAt xs 5), F (byteAt xs 6), F (byteAt xs 7), F (byteAt xs 8), F (byteAt xs 9), F (byteAt xs 10), F (byteAt xs 11), F (byteAt xs 12), F (byteAt xs 13), F (byteAt xs 14), F (byteAt xs 15)]
theorem mixOK : SumOK Tryd.prog 38 (passS placedE fun xs _ => mixL true xs) := passOK cfg3OK rfl (n := 20000) (E1 := .gone) (fun _ _ => taken_gone) (fun _ => trivial) rfl (by intros; kernel_rfl)
theorem unmixOK : SumOK Tryd.prog 44 (passS placedE fun xs _ => mixL false xs) := passOK cfg3OK rfl (n := 20000) (E1 := .gone) (fun _ _ => taken_gone) (fun _ => trivial) rfl (by intros; kernel_rfl)
theorem shiftOK : SumOK Tryd.prog 37 (passS placedE fun xs _ => shiftL xs) := passOK cfg3OK rfl (n := 20000) (E1 := .gone) (fun _ _ => taken_gone) (fun _ => trivial) rfl (by intros; kernel_rfl)
theorem unshiftOK : SumOK Tryd.prog 45 (passS placedE fun xs _ => unshiftL xs) := passOK cfg3OK rfl (n := 20000) (E1 := .gone) (fun _ _ => taken_gone) (fun _ => trivial) rfl (by intros; kernel_rfl)
theorem addOK : SumOK Tryd.prog 39 (passS placedE addL) := passOK cfg3OK rfl (n := 20000) (E1 := .gone) (fun _ _ => taken_gone) (fun _ => trivial) rfl (by intros; kernel_rfl)
theorem substituteOK : SumOK Tryd.prog 36 (passS tabE fun xs _ => mapL subB xs) := passOK cfg4OK rfl (n := 20000) (E1 := .row (.lst (lx tabI))) (fun _ _ => taken_tab) (fun _ => lx_uses _ _) rfl (by intros; kernel_rfl)
theorem restoreOK : SumOK Tryd.prog 46 (passS tabE fun xs _ => mapL recB xs) := passOK cfg4OK rfl (n := 20000) (E1 := .row (.lst (lx tabI))) (fun _ _ => taken_tab) (fun _ => lx_uses _ _) rfl (by intros; kernel_rfl)

end Go.Proofs.YtdnaaeagllejjaaDoor.Aes


/-
  The block cipher, fourth part: encrypting and decrypting, from runs.
-/
namespace Go.Proofs.YtdnaaeagllejjaaDoor.Aes
open Go.Sim
open Go.Proofs
variable {α : Type}

noncomputable def cfg5 : Cfg := cfgOf (sumsOf [(36, passS tabE fun xs _ => mapL subB xs), (37, passS placedE fun xs _ => shiftL xs), (38, passS placedE fun xs _ => mixL true xs), (39, passS placedE addL),
  (46, passS tabE fun xs _ => mapL recB xs), (45, passS placedE fun xs _ => unshiftL xs), (44, passS placedE fun xs _ => mixL false xs)])
theorem cfg5OK : CfgOK cfg5 := sumsOf_ok (allC substituteOK (allC shiftOK (allC mixOK (allC addOK (allC restoreOK (allC unshiftOK (all1 unmixOK)))))))
/-- a cipher's cells -/
noncomputable def cipherL (ks : List (BitVec 8)) : List SV := app (lx tabI) (app (bx ks) [.bool (.lit true)])
noncomputable def keyOf (K : Nat → BitVec 8) : List (BitVec 8) := mapN K (fromN 176 0)
noncomputable def rkey (K : Nat → BitVec 8) (r : Nat) : List (BitVec 8) := mapN K (fromN 16 (16 * r))
noncomputable def block16 (X : Nat → BitVec 8) (o : Nat) : List (BitVec 8) := mapN (fun i => X (o + i)) (fromN 16 0)
noncomputable def encR (K : Nat → BitVec 8) (r : Nat) (xs : List (BitVec 8)) : List (BitVec 8) := addL (mixL true (shiftL (mapL subB xs))) (rkey K r)
noncomputable def encL (K : Nat → BitVec 8) (xs : List (BitVec 8)) : List (BitVec 8) := addL (shiftL (mapL subB (encR K 9 (encR K 8 (encR K 7 (encR K 6 (encR K 5 (encR K 4 (encR K 3 (encR K 2 (encR K 1 (addL xs (rkey K 0))))))))))))) (rkey K 10)
noncomputable def decR (K : Nat → BitVec 8) (r : Nat) (xs : List (BitVec 8)) : List (BitVec 8) := mapL recB (unshiftL (mixL false (addL xs (rkey K r))))
noncomputable def decL (K : Nat → BitVec 8) (xs : List (BitVec 8)) : List (BitVec 8) := addL (decR K 1 (decR K 2 (decR K 3 (decR K 4 (decR K 5 (decR K 6 (decR K 7 (decR K 8 (decR K 9 (mapL recB (unshiftL (addL xs (rkey K 10))))))))))))) (rkey K 0)
theorem enc_run (K X : Nat → BitVec 8) (o n m k : Nat) : outF [24] (callSim cfg5 6000 20 [.ptr ⟨0, .lit 0⟩, .slice ⟨1, .sym o⟩ (.sym k) (.sym m)] [.row (.lst (cipherL (keyOf K))), rowF X n]) =
    some (((k : Int) != 16), ([], some (.tuple [.nilSlice, .int .i64 (.lit (.ofNat 2))], [none])), [16 ≤ k, o + 16 ≤ n], some (.tuple [.slice ⟨24, .lit 0⟩ (.lit 16) (.rest 24 0), .int .i64 (.lit (.ofNat 0))], [some (.own (.lst (bx (encL K (block16 X o)))) false 5)])) := by kernel_rfl
theorem dec_run (K X : Nat → BitVec 8) (o n m k : Nat) : outF [24] (callSim cfg5 6000 29 [.ptr ⟨0, .lit 0⟩, .slice ⟨1, .sym o⟩ (.sym k) (.sym m)] [.row (.lst (cipherL (keyOf K))), rowF X n]) =
    some (((k : Int) != 16), ([], some (.tuple [.nilSlice, .int .i64 (.lit (.ofNat 2))], [none])), [16 ≤ k, o + 16 ≤ n], some (.tuple [.slice ⟨24, .lit 0⟩ (.lit 16) (.rest 24 0), .int .i64 (.lit (.ofNat 0))], [some (.own (.lst (bx (decL K (block16 X o)))) false 5)])) := by kernel_rfl

theorem nil_run (K : Nat → BitVec 8) : outP [] (callSim cfg5 6000 20 [.ptr ⟨0, .lit 0⟩, .nilSlice] [.row (.lst (cipherL (keyOf K)))]) = ([], some (.tuple [.nilSlice, .int .i64 (.lit (.ofNat 2))], [])) ∧
    outP [] (callSim cfg5 6000 29 [.ptr ⟨0, .lit 0⟩, .nilSlice] [.row (.lst (cipherL (keyOf K)))]) = ([], some (.tuple [.nilSlice, .int .i64 (.lit (.ofNat 2))], [])) := by
  refine ⟨?_, ?_⟩ <;> kernel_rfl

theorem err_run (K : Nat → BitVec 8) (o m k : Nat) : outF [] (callSim cfg5 6000 20 [.ptr ⟨0, .lit 0⟩, .slice ⟨1, .sym o⟩ (.sym k) (.sym m)] [.row (.lst (cipherL (keyOf K))), .gone]) = some (((k : Int) != 16), ([], some (.tuple [.nilSlice, .int .i64 (.lit (.ofNat 2))], [])), ([16 ≤ k], none)) ∧
    outF [] (callSim cfg5 6000 29 [.ptr ⟨0, .lit 0⟩, .slice ⟨1, .sym o⟩ (.sym k) (.sym m)] [.row (.lst (cipherL (keyOf K))), .gone]) = some (((k : Int) != 16), ([], some (.tuple [.nilSlice, .int .i64 (.lit (.ofNat 2))], [])), ([16 ≤ k], none)) := by
  refine ⟨?_, ?_⟩ <;> kernel_rfl

end Go.Proofs.YtdnaaeagllejjaaDoor.Aes

