/-
  The symbolic simulator, twenty-ninth part: lists of bytes as cells; the looks of summaries.
-/
import Derived.Test.YtdnaaeagllejjaaEng28
namespace Go.Sim
variable {α β : Type}

theorem boolC_sat {b : Bool} {f g : R α} {φ : α → Prop} (h : b = true → f.Sat φ) (h' : b = false → g.Sat φ) : (boolC b f g).Sat φ := by cases b <;> first | exact h rfl | exact h' rfl
theorem boolC_only {b : Bool} {f : R α} {n : Nat} {φ : α → Prop} (h : b = true → f.Sat φ) : (boolC b f (.stuck n)).Sat φ := boolC_sat h fun _ => trivial
theorem optC_only {o : Option β} {f : β → R α} {n : Nat} {φ : α → Prop} (h : ∀ a, o = some a → (f a).Sat φ) : (optC o (.stuck n) f).Sat φ := by
  cases o with
  | none => trivial
  | some a => exact h a rfl
theorem boolC_opt {b : Bool} {f : Option α} {s : α} (h : boolC b f none = some s) : b = true ∧ f = some s := by
  cases b with
  | true => exact ⟨rfl, h⟩
  | false => cases h
theorem optC_opt {o : Option β} {f : β → Option α} {s : α} (h : optC o none f = some s) : ∃ a, o = some a ∧ f a = some s := by
  cases o with
  | none => cases h
  | some a => exact ⟨a, rfl, h⟩
theorem boolC_some {b : Bool} {f g : Option α} {s : α} (h : boolC b f g = some s) : (b = true ∧ f = some s) ∨ g = some s := by
  cases b with
  | true => exact .inl ⟨rfl, h⟩
  | false => exact .inr h
theorem eqI_spec {x y : Int} (h : eqI x y = true) : x = y := by rw [eqI_eq] at h; simpa using h
theorem beq_spec {x y : Nat} (h : Nat.beq x y = true) : x = y := Nat.eq_of_beq_eq_true h
theorem beq_ne {x y : Nat} (h : Nat.beq x y = false) : x ≠ y := fun e => by subst e; rw [Nat.beq_refl] at h; cases h
theorem blt_spec {x y : Nat} (h : Nat.blt x y = true) : x < y := Nat.le_of_ble_eq_true h
theorem eqK_spec {k k' : IntKind} (h : eqK k k' = true) : k = k' := by cases k <;> cases k' <;> first | rfl | cases h

/- Bytes. -/
noncomputable def bx (l : List (BitVec 8)) : List SV := mapN (fun x => .int .u8 (.b8 x)) l
noncomputable def lx (l : List Int) : List SV := mapN (fun x => .int .u8 (.lit x)) l
theorem asPtr_cases (v : SV) : (∃ b, v = .ptr b) ∨ ∀ {γ : Type} (d : γ) (f : SA → γ), v.asPtr d f = d := by
  cases v <;> first | exact .inl ⟨_, rfl⟩ | exact .inr fun _ _ => rfl
theorem unb1_int {v : SV} {x : BitVec 8} (h : unb1 v = some x) : ∃ n, v = .int .u8 n ∧ si8 n = some x := by
  unfold unb1 at h
  rcases asInt_cases v with ⟨k, n, rfl⟩ | hv
  · obtain ⟨hk, h⟩ := boolC_opt (show boolC (eqK k .u8) (si8 n) none = some x from h)
    rw [eqK_spec hk]; exact ⟨n, rfl, h⟩
  · rw [hv] at h; cases h
theorem unb1_imp {v : SV} {x : BitVec 8} (h : unb1 v = some x) : v.Imp (.int .u8 (.b8 x)) := by
  obtain ⟨n, rfl, hn⟩ := unb1_int h
  intro γ y hy
  have hy : some (Value.int .u8 n.den) = some y := hy
  rw [si8_spec hn] at hy; exact hy
theorem impL_cons {v u : SV} {l m : List SV} (h : v.Imp u) (h' : SV.ImpL l m) : SV.ImpL (v :: l) (u :: m) := by
  intro γ vs hv
  obtain ⟨x, ys, a, b, rfl⟩ := denL_cons.1 hv
  exact denL_cons.2 ⟨x, ys, h _ _ a, h' _ _ b, rfl⟩
theorem impL_nil : SV.ImpL [] [] := .refl _
theorem impL_app {a b c d : List SV} (h : SV.ImpL a b) (h' : SV.ImpL c d) : SV.ImpL (app a c) (app b d) := by
  intro γ vs hv
  rw [app_eq] at hv ⊢
  obtain ⟨x, y, ha, hc, rfl⟩ := denL_split hv
  exact denL_append (h _ _ ha) (h' _ _ hc)
theorem unb_imp : ∀ {l : List SV} {xs : List (BitVec 8)}, unb l = some xs → SV.ImpL l (bx xs)
  | [], xs, h => by cases h; exact .refl _
  | v :: l, xs, h => by
    obtain ⟨x, hx, h⟩ := optC_opt (show (optC (unb1 v) none fun x => optC (unb l) none fun xs => some (x :: xs)) = some xs from h)
    obtain ⟨ys, hy, h⟩ := optC_opt h
    cases h
    exact impL_cons (unb1_imp hx) (unb_imp hy)
theorem cells_imp {l m : List SV} (h : SV.ImpL l m) : (Cells.lst l).Imp (.lst m) := h
theorem impL_ren {f : Nat → Nat} {l m m' : List SV} (h : SV.ImpL l m) (hm : SV.renL f m' = m) : (Cells.lst l).Imp ((Cells.lst m').ren f) := by
  show (Cells.lst l).Imp (.lst (SV.renL f m'))
  rw [hm]; exact h
theorem bx_ren (f : Nat → Nat) : ∀ xs, SV.renL f (bx xs) = bx xs
  | [] => rfl
  | x :: xs => by show _ :: SV.renL f (bx xs) = _; rw [bx_ren f xs]; rfl
theorem lx_ren (f : Nat → Nat) : ∀ xs, SV.renL f (lx xs) = lx xs
  | [] => rfl
  | x :: xs => by show _ :: SV.renL f (lx xs) = _; rw [lx_ren f xs]; rfl
theorem bx_uses (p : Nat → Bool) : ∀ xs, SV.usesL p (bx xs) = true
  | [] => rfl
  | x :: xs => by show (true && SV.usesL p (bx xs)) = true; rw [bx_uses p xs]; rfl
theorem lx_uses (p : Nat → Bool) : ∀ xs, SV.usesL p (lx xs) = true
  | [] => rfl
  | x :: xs => by show (true && SV.usesL p (lx xs)) = true; rw [lx_uses p xs]; rfl
theorem usesL_app (p : Nat → Bool) : ∀ a b, SV.usesL p (app a b) = (SV.usesL p a && SV.usesL p b)
  | [], b => rfl
  | x :: a, b => by show (x.uses p && SV.usesL p (app a b)) = ((x.uses p && SV.usesL p a) && SV.usesL p b); rw [usesL_app p a b, Bool.and_assoc]
theorem renL_app (f : Nat → Nat) : ∀ a b, SV.renL f (app a b) = app (SV.renL f a) (SV.renL f b)
  | [], b => rfl
  | x :: a, b => by show _ :: SV.renL f (app a b) = _; rw [renL_app f a b]; rfl
theorem app_take_drop (l : List SV) (n : Nat) : app (takeN l n) (dropN l n) = l := by rw [app_eq, takeN_eq, dropN_eq, List.take_append_drop]

/- Known cells. -/
noncomputable def unl1 (v : SV) : Option Int := v.asInt none fun k n => boolC (eqK k .u8) (n.asLit none some) none
theorem unl1_spec {v : SV} {x : Int} (h : unl1 v = some x) : v = .int .u8 (.lit x) := by
  unfold unl1 at h
  rcases asInt_cases v with ⟨k, n, rfl⟩ | hv
  · obtain ⟨hk, h⟩ := boolC_opt (show boolC (eqK k .u8) (n.asLit none some) none = some x from h)
    rw [eqK_spec hk]
    cases n <;> first | (cases h; rfl) | cases h
  · rw [hv] at h; cases h
/-- the known bytes T at the head of cells -/
noncomputable def preLit (T : List Int) : List SV → Bool :=
  List.rec (motive := fun _ => List SV → Bool) (fun _ => true) (fun t _ ih l => List.rec (motive := fun _ => Bool) false (fun v r _ => optC (unl1 v) false fun x => boolC (eqI x t) (ih r) false) l) T
theorem preLit_spec : ∀ {T : List Int} {l : List SV}, preLit T l = true → l = app (lx T) (dropN l (lenN T))
  | [], l, _ => by show l = dropN l 0; rw [dropN_eq]; rfl
  | t :: T, [], h => by cases h
  | t :: T, v :: l, h => by
    have h' : (optC (unl1 v) false fun x => boolC (eqI x t) (preLit T l) false) = true := h
    cases hx : unl1 v with
    | none => rw [hx] at h'; cases h'
    | some x =>
      rw [hx] at h'
      have h' : boolC (eqI x t) (preLit T l) false = true := h'
      cases he : eqI x t with
      | false => rw [he] at h'; cases h'
      | true =>
        rw [he] at h'
        have := preLit_spec (T := T) (l := l) h'
        rw [unl1_spec hx, eqI_spec he]
        show _ = _ :: app (lx T) (dropN (_ :: l) (lenN T + 1))
        rw [dropN_eq] at this ⊢
        rw [List.drop_succ_cons, ← this]

/- What an entry bears. -/
/-- an entry's cells, one by one -/
noncomputable def cellsE (e : Option SO) : Option (List SV) :=
  optC e none fun e => SO.rec (motive := fun _ => Option (List SV)) (fun c _ _ => Cells.rec (motive := fun _ => Option (List SV)) (fun l => some l) (fun _ _ => none) c) (fun c => Cells.rec (motive := fun _ => Option (List SV)) (fun l => some l) (fun _ _ => none) c)
    (fun _ _ _ _ _ _ _ _ => none) (fun _ => none) none e
theorem cellsE_spec {e : Option SO} {l : List SV} (h : cellsE e = some l) : ∃ e', e = some e' ∧ (e' = .row (.lst l) ∨ ∃ w el, e' = .own (.lst l) w el) := by
  cases e with
  | none => cases h
  | some e =>
    cases e with
    | own c w el => cases c with
      | lst l' => cases h; exact ⟨_, rfl, .inr ⟨_, _, rfl⟩⟩
      | fn => cases h
    | row c => cases c with
      | lst l' => cases h; exact ⟨_, rfl, .inl rfl⟩
      | fn => cases h
    | loop => cases h
    | deferred => cases h
    | gone => cases h
/-- read alone: all the cells, as 'm' has them -/
theorem taken_cells {f : Nat → Nat} {l m : List SV} {e : Option SO} (h : cellsE e = some l) (hi : SV.ImpL l (SV.renL f m)) : ∃ e', e = some e' ∧ Taken f (.row (.lst m)) e' := by
  obtain ⟨e', rfl, hc⟩ := cellsE_spec h
  exact ⟨e', rfl, taken_row hc (Cells.Imp.front (c := .lst l) (d := (Cells.lst m).ren f) hi)⟩
/-- read alone: the cells at the head -/
theorem taken_front {f : Nat → Nat} {l m r : List SV} {e : Option SO} (h : cellsE e = some (app l r)) (hi : SV.ImpL l (SV.renL f m)) : ∃ e', e = some e' ∧ Taken f (.row (.lst m)) e' := by
  obtain ⟨e', rfl, hc⟩ := cellsE_spec h
  refine ⟨e', rfl, taken_row hc fun γ vs hv => ?_⟩
  have hv : SV.denL γ (app l r) = some vs := hv
  rw [app_eq] at hv
  obtain ⟨x, y, ha, hc, rfl⟩ := denL_split hv
  exact ⟨x.length, by rw [List.take_left]; exact hi _ _ ha⟩
/-- a whole block of one's own, with its cells one by one -/
noncomputable def ownE (t : TypeId) (e : Option SO) : Option (List SV) :=
  optC e none fun e => SO.rec (motive := fun _ => Option (List SV)) (fun c w el => boolC w (boolC (Nat.beq el t) (Cells.rec (motive := fun _ => Option (List SV)) (fun l => some l) (fun _ _ => none) c) none) none) (fun _ => none)
    (fun _ _ _ _ _ _ _ _ => none) (fun _ => none) none e
theorem ownE_spec {t : TypeId} {e : Option SO} {l : List SV} (h : ownE t e = some l) : e = some (.own (.lst l) true t) := by
  cases e with
  | none => cases h
  | some e =>
    cases e with
    | own c w el =>
      obtain ⟨hw, h⟩ := boolC_opt (show boolC w (boolC (Nat.beq el t) (Cells.rec (motive := fun _ => Option (List SV)) (fun l => some l) (fun _ _ => none) c) none) none = some l from h)
      obtain ⟨he, h⟩ := boolC_opt h
      rw [hw, beq_spec he]
      cases c with
      | lst l' => cases h; rfl
      | fn => cases h
    | row => cases h
    | loop => cases h
    | deferred => cases h
    | gone => cases h
theorem taken_imp {f : Nat → Nat} {l m : List SV} {w : Bool} {el : TypeId} (hi : SV.ImpL l (SV.renL f m)) : Taken f (.own (.lst m) w el) (.own (.lst l) w el) := ⟨_, rfl, hi⟩
noncomputable def placedE (e : Option SO) : Bool := optC e false fun e => e.placed
theorem taken_gone {f : Nat → Nat} {e : Option SO} (h : placedE e = true) : ∃ e', e = some e' ∧ Taken f .gone e' := by
  cases e with
  | none => cases h
  | some e => exact ⟨e, rfl, h⟩
/-- a pointer to the head of a name -/
noncomputable def headP (v : SV) : Option Nat := v.asPtr none fun a => a.off.asLit none fun n => boolC (Nat.beq n 0) (some a.nm) none
theorem headP_spec {v : SV} {p : Nat} (h : headP v = some p) : v = .ptr ⟨p, .lit 0⟩ := by
  unfold headP at h
  rcases asPtr_cases v with ⟨⟨q, off⟩, rfl⟩ | hv
  · have h : (off.asLit none fun n => boolC (Nat.beq n 0) (some q) none) = some p := h
    cases off with
    | lit n =>
      obtain ⟨hn, h⟩ := boolC_opt (show boolC (Nat.beq n 0) (some q) none = some p from h)
      cases h; rw [beq_spec hn]
    | sym n => cases h
    | byt => cases h
  · rw [hv] at h; cases h
/-- a slice of known bytes: its cells -/
noncomputable def sliceB (H : List SO) (v : SV) : Option (Nat × Nat × Nat × SC × List (BitVec 8)) :=
  v.asSlice none fun a l c => a.off.asLit none fun o => l.asLit none fun n => optC (cellsE (nth H a.nm)) none fun cells => optC (unb (takeN (dropN cells o) n)) none fun xs => boolC (Nat.beq (lenN xs) n) (some (a.nm, o, n, c, xs)) none

/- Arguments. -/
noncomputable def args1 (args : List SV) (f : SV → R α) : R α := List.rec (motive := fun _ => R α) (.stuck 700) (fun v r _ => List.rec (motive := fun _ => R α) (f v) (fun _ _ _ => .stuck 700) r) args
noncomputable def args2 (args : List SV) (f : SV → SV → R α) : R α := List.rec (motive := fun _ => R α) (.stuck 700) (fun v r _ => args1 r (f v)) args
noncomputable def args3 (args : List SV) (f : SV → SV → SV → R α) : R α := List.rec (motive := fun _ => R α) (.stuck 700) (fun v r _ => args2 r (f v)) args
noncomputable def args4 (args : List SV) (f : SV → SV → SV → SV → R α) : R α := List.rec (motive := fun _ => R α) (.stuck 700) (fun v r _ => args3 r (f v)) args
theorem args1_sat {args : List SV} {f : SV → R α} {φ : α → Prop} (h : ∀ v, args = [v] → (f v).Sat φ) : (args1 args f).Sat φ := by
  match args, h with
  | [], _ => trivial
  | [v], h => exact h v rfl
  | _ :: _ :: _, _ => trivial
theorem args2_sat {args : List SV} {f : SV → SV → R α} {φ : α → Prop} (h : ∀ v u, args = [v, u] → (f v u).Sat φ) : (args2 args f).Sat φ := by
  cases args with
  | nil => trivial
  | cons v r => exact args1_sat fun u hu => h v u (by rw [hu])
theorem args3_sat {args : List SV} {f : SV → SV → SV → R α} {φ : α → Prop} (h : ∀ v u x, args = [v, u, x] → (f v u x).Sat φ) : (args3 args f).Sat φ := by
  cases args with
  | nil => trivial
  | cons v r => exact args2_sat fun u x hu => h v u x (by rw [hu])
theorem args4_sat {args : List SV} {f : SV → SV → SV → SV → R α} {φ : α → Prop} (h : ∀ v u x y, args = [v, u, x, y] → (f v u x y).Sat φ) : (args4 args f).Sat φ := by
  cases args with
  | nil => trivial
  | cons v r => exact args3_sat fun u x y hu => h v u x y (by rw [hu])
/-- a known number of one's own kind: int -/
noncomputable def litI (v : SV) : Option Nat := v.asInt none fun k n => boolC (eqK k .i64) (n.asLit none fun n => intC n some fun _ => none) none
theorem litI_spec {v : SV} {n : Nat} (h : litI v = some n) : v = .int .i64 (.lit (.ofNat n)) := by
  unfold litI at h
  rcases asInt_cases v with ⟨k, m, rfl⟩ | hv
  · obtain ⟨hk, h⟩ := boolC_opt (show boolC (eqK k .i64) (m.asLit none fun n => intC n some fun _ => none) none = some n from h)
    rw [eqK_spec hk]
    cases m with
    | lit m => cases m with
      | ofNat m => cases h; rfl
      | negSucc m => cases h
    | sym => cases h
    | b8 => cases h
    | b32 => cases h
    | b64 => cases h
  · rw [hv] at h; cases h
/-- 'v' bears what 'u' bears -/
theorem denL1 {γ : Val} {v u : SV} {vs : List Value} (h : SV.denL γ [v] = some vs) (hi : v.Imp u) : SV.denL γ [u] = some vs := impL_cons hi impL_nil _ _ h

/- A run's outcome: its conditions, its value, some of its entries. -/
noncomputable def outP (js : List Nat) (t : Tree) : List Prop × Option (SV × List (Option SO)) :=
  Tree.rec (motive := fun _ => List Prop × Option (SV × List (Option SO))) (fun v H => ([], some (v, mapN (fun j => nth H j) js))) (fun _ => ([], none)) (fun p _ ih => (p :: ih.1, ih.2)) (fun _ _ _ _ _ => ([], none)) (fun _ => ([], none)) (fun _ _ => ([], none)) t
theorem outP_ob {js : List Nat} {t : Tree} {ps : List Prop} {v : SV} {es : List (Option SO)} (h : outP js t = (ps, some (v, es))) (hp : ∀ p ∈ ps, p) {D : SV → List SO → Prop} {S : SS → Prop} (hD : ∀ H : List SO, js.map (fun j => H[j]?) = es → D v H) : t.Ob D S := by
  induction t generalizing ps with
  | done v' H =>
    have h' : ([], some (v', mapN (fun j => nth H j) js)) = (ps, some (v, es)) := h
    have h1 := Option.some.inj (Prod.mk.inj h').2
    obtain ⟨h2, h3⟩ := Prod.mk.inj h1
    subst h2
    refine hD H ?_
    rw [mapN_eq] at h3
    rw [← h3]
    exact List.map_congr_left fun j _ => (nth_eq H j).symm
  | stop => cases (Prod.mk.inj (show ([], none) = (ps, some (v, es)) from h)).2
  | need p t ih =>
    have h' : (p :: (outP js t).1, (outP js t).2) = (ps, some (v, es)) := h
    obtain ⟨h1, h2⟩ := Prod.mk.inj h'
    subst h1
    exact ⟨hp p List.mem_cons_self, ih (ps := (outP js t).1) (by rw [← h2]) fun q hq => hp q (List.mem_cons_of_mem _ hq)⟩
  | fork => cases (Prod.mk.inj (show ([], none) = (ps, some (v, es)) from h)).2
  | stuck => cases (Prod.mk.inj (show ([], none) = (ps, some (v, es)) from h)).2
  | any => cases (Prod.mk.inj (show ([], none) = (ps, some (v, es)) from h)).2
/-- the same, where there is no condition -/
theorem outP_ob0 {js : List Nat} {t : Tree} {v : SV} {es : List (Option SO)} (h : outP js t = ([], some (v, es))) {D : SV → List SO → Prop} {S : SS → Prop} (hD : ∀ H : List SO, js.map (fun j => H[j]?) = es → D v H) : t.Ob D S :=
  outP_ob h (by simp) hD
theorem fits0 {H : List SO} {args : List SV} (hu : SV.usesL (Ifc.known ⟨[], [], args⟩) args = true) : Ifc.Fits ⟨[], [], args⟩ H := Ifc.fits (by simp) hu trivial
theorem ends0 {I : Ifc} {base : Nat} {v : SV} {H : List SO} (ho : ownsOf I.ents 0 = []) (h : v = v.ren (I.out base [])) (hu : v.uses (I.seen []) = true) : I.Ends base [] ⟨v, [], []⟩ v H :=
  ⟨SV.imp_of_eq h.symm, hu, by rw [ho]; trivial, trivial⟩

end Go.Sim
