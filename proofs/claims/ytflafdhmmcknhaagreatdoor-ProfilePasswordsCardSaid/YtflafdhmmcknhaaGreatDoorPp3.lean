/-
  Texts behind one another: the symbolic simulator and what it is told of the program.
-/
import Derived.Test.YtflafdhmmcknhaaGreatDoorPp2
import Derived.MapKept
import Derived.WideKeyRuns
import Derived.Laws.NewFold
import Derived.RangeFuncIn
import Derived.RangeFuncRecord
import Derived.RangeFuncNested

/-
  The symbolic simulator: maps and their iterators.
-/
namespace Go.Sim
variable {α : Type}

section
variable {P : Program}
/-- the cells of a key -/
def cellsVK (v : Value) : List Value := match v with | .agg a => a.toList | v => [v]
def aggV (v : Value) : Bool := match v with | .agg _ => true | _ => false
theorem asAgg_cases (v : SV) : (∃ l, v = .agg l) ∨ ∀ {γ : Type} (d : γ) (f : List SV → γ), v.asAgg d f = d := by
  cases v <;> first | exact .inl ⟨_, rfl⟩ | exact .inr fun _ _ => rfl
theorem key_den {β : Val} {v : SV} {x : Value} (h : v.den β = some x) (hn : ∀ y, v ≠ .val y) : SV.denL β (cellsK v) = some (cellsVK x) ∧ aggB v = aggV x := by
  cases v
  case agg l =>
    simp only [SV.den, Option.map_eq_some_iff] at h
    obtain ⟨l, hl, rfl⟩ := h
    exact ⟨hl, rfl⟩
  case val y => exact absurd rfl (hn y)
  all_goals
    have hx : cellsVK x = [x] ∧ aggV x = false := by
      simp only [SV.den, Option.map_eq_some_iff, Option.bind_eq_some_iff, Option.some.injEq] at h
      first
        | (subst h; exact ⟨rfl, rfl⟩)
        | (obtain ⟨_, _, rfl⟩ := h; exact ⟨rfl, rfl⟩)
        | (obtain ⟨_, _, _, _, h⟩ := h; rw [sliceV_eq] at h; obtain ⟨_, rfl⟩ := h; exact ⟨rfl, rfl⟩)
        | (obtain ⟨_, _, _, _, h⟩ := h; rw [tailV_eq] at h; obtain ⟨_, rfl⟩ := h; exact ⟨rfl, rfl⟩)
        | (obtain ⟨_, _, _, _, _, _, rfl⟩ := h; exact ⟨rfl, rfl⟩)
    refine ⟨?_, hx.2.symm⟩
    rw [hx.1]
    exact denL_cons.2 ⟨x, [], h, rfl, rfl⟩
def sameVK (ks : List CK) (x y : Value) : Option Bool := if aggV x = aggV y then eqVs ks (cellsVK x) (cellsVK y) else none
theorem eqCell_val {k : CK} {a : SV} {y : Value} : eqCell k a (.val y) = none := by cases k <;> cases a <;> rfl
theorem eqCell_val' {k : CK} {a : SV} {y : Value} : eqCell k (.val y) a = none := by cases k <;> rfl
theorem sameK_den {β : Val} {ks : List CK} {a b : SV} {c : SB} {x y : Value} (h : sameK ks a b = some c) (ha : a.den β = some x) (hb : b.den β = some y) : sameVK ks x y = some c.den := by
  unfold sameK at h
  cases hab : (aggB a == aggB b) with
  | false => rw [hab] at h; cases h
  | true =>
    rw [hab] at h
    have h : eqCells ks (cellsK a) (cellsK b) = some c := h
    have hna : ∀ y, a ≠ .val y := by
      rintro y rfl
      have h : eqCells ks [SV.val y] (cellsK b) = some c := h
      cases ks with
      | nil => cases hc : cellsK b <;> rw [hc] at h <;> cases h
      | cons k ks =>
        cases hc : cellsK b with
        | nil => rw [hc] at h; cases h
        | cons b' bs => rw [hc] at h; simp [eqCells, eqCell_val'] at h
    have hnb : ∀ y, b ≠ .val y := by
      rintro y rfl
      have h : eqCells ks (cellsK a) [SV.val y] = some c := h
      cases ks with
      | nil => cases hc : cellsK a <;> rw [hc] at h <;> cases h
      | cons k ks =>
        cases hc : cellsK a with
        | nil => rw [hc] at h; cases h
        | cons b' bs => rw [hc] at h; simp [eqCells, eqCell_val] at h
    obtain ⟨h1, h2⟩ := key_den ha hna
    obtain ⟨h3, h4⟩ := key_den hb hnb
    unfold sameVK
    rw [if_pos (by rw [← h2, ← h4]; simpa using hab)]
    exact eqCells_den h h1 h3
theorem cellsVK_inj {x y : Value} (h : aggV x = aggV y) (hc : cellsVK x = cellsVK y) : x = y := by
  cases x <;> cases y <;> first | (simp [cellsVK] at hc; first | exact hc | (rw [hc.1, hc.2]; done) | skip) | (cases h; done)
  all_goals first | (simp_all; done) | (cases h; done) | skip
theorem sameVK_true {ks : List CK} {x y : Value} (h : sameVK ks x y = some true) : x = y := by
  unfold sameVK at h
  split at h
  · rename_i ha; exact cellsVK_inj ha (eqVs_true h)
  · cases h
/-- a key's cells are numbers, strings and Booleans -/
def plainV (v : Value) : Prop := match v with | .int _ _ => True | .bool _ => True | .string _ => True | _ => False
theorem eqVs_plain : ∀ {ks : List CK} {xs ys : List Value} {r : Bool}, eqVs ks xs ys = some r → ∀ x ∈ xs, plainV x
  | [], [], [], _, _ => by simp
  | k :: ks, x :: xs, y :: ys, r, h => by
    simp only [eqVs, Option.bind_eq_some_iff, Option.map_eq_some_iff] at h
    obtain ⟨a, ha, b, hb, _⟩ := h
    intro z hz
    rcases List.mem_cons.1 hz with rfl | hz
    · unfold eqV1 at ha
      split at ha <;> first | trivial | (cases ha; done)
    · exact eqVs_plain hb z hz
  | [], [], _ :: _, _, h => by simp [eqVs] at h
  | [], _ :: _, _, _, h => by simp [eqVs] at h
  | _ :: _, [], _, _, h => by simp [eqVs] at h
  | _ :: _, _ :: _, [], _, h => by simp [eqVs] at h
theorem sameBits_plain {v : Value} (h : plainV v) (n : Nat) : Instr.sameBits n v v = true := by
  cases v <;> first | (cases h; done) | (cases n <;> simp [Instr.sameBits, MapKept.bytes_beq])
theorem sameBits_key {v : Value} (h : ∀ x ∈ cellsVK v, plainV x) (n : Nat) : Instr.sameBits (n + 1) v v = true := by
  cases v
  case agg a =>
    simp only [Instr.sameBits, beq_self_eq_true, Bool.true_and, List.all_eq_true]
    rintro ⟨x, y⟩ hxy
    have hz : ∀ (l : List Value), (∀ x ∈ l, plainV x) → ∀ p ∈ l.zip l, Instr.sameBits n p.1 p.2 = true := by
      intro l
      induction l with
      | nil => intro _ p hp; cases hp
      | cons c l ih =>
        intro hl p hp
        rcases List.mem_cons.1 hp with rfl | hp
        · exact sameBits_plain (hl c List.mem_cons_self) n
        · exact ih (fun x hx => hl x (List.mem_cons_of_mem _ hx)) p hp
    exact hz a.toList h (x, y) hxy
  all_goals exact sameBits_plain (h _ List.mem_cons_self) (n + 1)
theorem stays_run {w : World} {v : Value} (h : ∀ x ∈ cellsVK v, plainV x) : (Instr.keyThatStays v v).run P w = .ok v w := by
  unfold Instr.keyThatStays
  rw [sameBits_key h 9999]
  rfl
/-- the entry with a key -/
def findVs (ks : List CK) (x : Value) : List MapEntry → Nat → Option (Option (Nat × MapEntry))
  | [], _ => some none
  | e :: es, i => (sameVK ks x e.key).bind fun b => if b = true then some (some (i, e)) else findVs ks x es (i + 1)
def ShapeK (P : Program) (t : TypeId) (x : Value) : Prop := ∀ d, P.underlying t = some d → isAggD d = aggV x
theorem ShapeK.toV {t : TypeId} {x : Value} (h : ShapeK P t x) : ShapeV P t x (cellsVK x) := by
  intro d hd
  have := h d hd
  rw [this]
  cases x <;> simp [aggV, cellsVK]
theorem find_asking {w : World} {kt : TypeId} {ks : List CK} (hk : kindsT P 8 kt = some ks) {x : Value} (hx : ShapeK P kt x) : ∀ (vs : List MapEntry) (i : Nat) (r : Option (Nat × MapEntry)), findVs ks x vs i = some r → (Instr.findAsking kt x vs i).run P w = .ok (r.map fun p => (p.1, p.2.val)) w
  | [], i, r, h => by cases h; rfl
  | e :: es, i, r, h => by
    simp only [findVs, Option.bind_eq_some_iff] at h
    obtain ⟨b, hb, h⟩ := h
    have hb' := hb
    unfold sameVK at hb'
    split at hb'
    · rename_i ha
      have hy : ShapeK P kt e.key := fun d hd => (hx d hd).trans ha
      have hrun := equalIn_wide (w := w) 8 kt ks hk 10000 (by omega) _ _ _ _ _ hx.toV hy.toV hb'
      have hrun : (Op.equal kt x e.key).run P w = .ok b w := hrun
      simp only [Instr.findAsking, Sem.run_bind, hrun, Result.andThen_ok]
      cases b
      · rw [if_neg (by simp)] at h
        simpa using find_asking hk hx es (i + 1) r h
      · rw [if_pos rfl] at h
        cases h
        rfl
    · cases hb'
theorem kinds_plain {kt : TypeId} {ks : List CK} {d : TypeDesc} (hk : kindsT P 8 kt = some ks) (hd : P.underlying kt = some d) (ha : isAggD d = false) : (d = .bool ∧ ks = [.b]) ∨ (∃ q, d = .int q ∧ ks = [.i]) ∨ (d = .string ∧ ks = [.s]) := by
  simp only [kindsT, Option.bind_eq_some_iff] at hk
  obtain ⟨k, hk', h⟩ := hk
  rw [hd] at hk'; cases hk'
  cases d <;> first | (cases h; done) | (cases ha; done) | skip
  · cases h; exact .inl ⟨rfl, rfl⟩
  · cases h; exact .inr (.inl ⟨_, rfl, rfl⟩)
  · cases h; exact .inr (.inr ⟨rfl, rfl⟩)
theorem sameNow_of {d : TypeDesc} {ks : List CK} (hc : (d = .bool ∧ ks = [.b]) ∨ (∃ q, d = .int q ∧ ks = [.i]) ∨ (d = .string ∧ ks = [.s])) {x y : Value} {b : Bool} (h : eqVs ks [x] [y] = some b) : Instr.sameNow d x y = some b := by
  rcases hc with ⟨rfl, rfl⟩ | ⟨q, rfl, rfl⟩ | ⟨rfl, rfl⟩
  · simp only [eqVs, Option.bind_eq_some_iff, Option.map_eq_some_iff, Option.some.injEq] at h
    obtain ⟨a, h1, b', rfl, rfl⟩ := h
    cases x <;> cases y <;> simp only [eqV1, reduceCtorEq, Option.some.injEq] at h1
    subst h1
    simp [Instr.sameNow]
  · simp only [eqVs, Option.bind_eq_some_iff, Option.map_eq_some_iff, Option.some.injEq] at h
    obtain ⟨a, h1, b', rfl, rfl⟩ := h
    cases x <;> cases y <;> simp only [eqV1, reduceCtorEq] at h1
    split at h1
    · rename_i hk
      cases h1
      simp [Instr.sameNow, hk]
    · cases h1
  · simp only [eqVs, Option.bind_eq_some_iff, Option.map_eq_some_iff, Option.some.injEq] at h
    obtain ⟨a, h1, b', rfl, rfl⟩ := h
    cases x <;> cases y <;> simp only [eqV1, reduceCtorEq, Option.some.injEq] at h1
    subst h1
    simp only [Instr.sameNow, Bool.and_true, Option.some.injEq]
    rw [Bool.eq_iff_iff, MapKept.bytes_beq, decide_eq_true_iff]
theorem find_now {kt : TypeId} {ks : List CK} {d : TypeDesc} (hk : kindsT P 8 kt = some ks) (hd : P.underlying kt = some d) (ha : isAggD d = false) {x : Value} (hx : ShapeK P kt x) : ∀ (vs : List MapEntry) (i : Nat) (r : Option (Nat × MapEntry)), findVs ks x vs i = some r → Instr.findNow d x vs i = some (r.map fun p => (p.1, p.2.val))
  | [], i, r, h => by cases h; rfl
  | e :: es, i, r, h => by
    simp only [findVs, Option.bind_eq_some_iff] at h
    obtain ⟨b, hb, h⟩ := h
    have hsame : Instr.sameNow d x e.key = some b := by
      unfold sameVK at hb
      split at hb
      · rename_i hag
        have hxa : aggV x = false := (hx d hd).symm.trans ha
        have hea : aggV e.key = false := hag.symm.trans hxa
        have c1 : cellsVK x = [x] := by cases x <;> first | rfl | (cases hxa; done)
        have c2 : cellsVK e.key = [e.key] := by
          generalize e.key = y at hea
          cases y <;> first | rfl | (cases hea; done)
        rw [c1, c2] at hb
        exact sameNow_of (kinds_plain hk hd ha) hb
      · cases hb
    unfold Instr.findNow
    rw [hsame]
    cases b
    · rw [if_neg (by simp)] at h
      exact find_now hk hd ha hx es (i + 1) r h
    · rw [if_pos rfl] at h; cases h; rfl
theorem findKey_run {w : World} {kt : TypeId} {ks : List CK} (hk : kindsT P 8 kt = some ks) {x : Value} (hx : ShapeK P kt x) {vs : List MapEntry} {r : Option (Nat × MapEntry)} (h : findVs ks x vs 0 = some r) :
    (Instr.findKey kt x vs).run P w = .ok (r.map fun p => (p.1, p.2.val)) w := by
  obtain ⟨d, hd, _⟩ := kindsT_under hk
  cases ha : isAggD d with
  | false =>
    have := find_now hk hd ha hx vs 0 r h
    simp [Instr.findKey, run_underlying hd, this]
  | true =>
    rw [run_findKey_eq w (by rw [hd]; cases d <;> first | rfl | (cases ha; done))]
    exact find_asking hk hx vs 0 r h
theorem check_items {w : World} {em : Bool} {D : Nat} {e : TypeId} {ks : List CK} {d : Nat} (hk : kindsT P d e = some ks) (hc : ∀ x xs, ShapeV P e x xs → xs.length = ks.length → (Instr.checkKey em D e x).run P w = .ok () w) {i : TypeInfo} (hi : P.info? e = some i) (hs : i.size = ks.length) {xs : List Value} :
    ∀ (m s : Nat), (s + m) * ks.length ≤ xs.length → ((forIn (List.range' s m) PUnit.unit fun j (_ : PUnit) => do
      let c ← sizeOf e
      let a ← part e xs.toArray (j * c)
      Instr.checkKey em D e a
      pure (ForInStep.yield PUnit.unit)) : Sem PUnit).run P w = .ok PUnit.unit w
  | 0, s, _ => by simp
  | m + 1, s, hle => by
    have hl : ((xs.drop (s * ks.length)).take ks.length).length = ks.length := by
      rw [List.length_take, List.length_drop]
      have : (s + (m + 1)) * ks.length = s * ks.length + m * ks.length + ks.length := by rw [Nat.add_mul, Nat.add_mul]; omega
      omega
    obtain ⟨a, ha, sa⟩ := part_shape (w := w) hk hl
    have ih := check_items hk hc hi hs (xs := xs) m (s + 1) (by rw [show s + 1 + m = s + (m + 1) from by omega]; exact hle)
    rw [List.range'_succ, List.forIn_cons]
    simp only [Sem.run_bind, run_sizeOf hi, hs, Result.andThen_ok, ha, hc _ _ sa hl, Sem.run_pure]
    exact ih
theorem check_fields {w : World} {em : Bool} {D d : Nat} (hc : ∀ e ks, kindsT P d e = some ks → ∀ x xs, ShapeV P e x xs → xs.length = ks.length → (Instr.checkKey em D e x).run P w = .ok () w) {xs : List Value} :
    ∀ (fs : List Field) (off : Nat) (ks : List CK), kindsFs (fun e => kindsT P d e) fs off = some ks → off + ks.length ≤ xs.length → ((forIn fs PUnit.unit fun f (_ : PUnit) => do
      if f.name ≠ "_" then
        let a ← part f.type xs.toArray f.offset
        Instr.checkKey em D f.type a
        pure (ForInStep.yield PUnit.unit)
      else pure (ForInStep.yield PUnit.unit)) : Sem PUnit).run P w = .ok PUnit.unit w
  | [], off, ks, _, _ => by simp
  | f :: fs, off, ks, hk, hle => by
    simp only [kindsFs, Option.bind_eq_some_iff] at hk
    obtain ⟨ls, hls, hk⟩ := hk
    split at hk
    · rename_i hcn
      obtain ⟨ho, hn⟩ := hcn
      simp only [Option.map_eq_some_iff] at hk
      obtain ⟨ms, hms, rfl⟩ := hk
      rw [app_eq, List.length_append] at hle
      rw [lenN_eq] at hms
      have hl : ((xs.drop f.offset).take ls.length).length = ls.length := by
        rw [List.length_take, List.length_drop, ho]; omega
      obtain ⟨a, ha, sa⟩ := part_shape (w := w) hls hl
      have ih := check_fields hc (xs := xs) fs _ ms hms (by omega)
      rw [List.forIn_cons]
      simp only [Sem.run_bind, ne_eq, hn, not_false_eq_true, if_true, ha, Result.andThen_ok, hc _ _ hls _ _ sa hl, Sem.run_pure]
      exact ih
    · cases hk
theorem check_wide {w : World} {em : Bool} : ∀ (d : Nat) (t : TypeId) (ks : List CK), kindsT P d t = some ks → ∀ D, d ≤ D → ∀ (x : Value) (xs : List Value), ShapeV P t x xs → xs.length = ks.length → (Instr.checkKey em D t x).run P w = .ok () w := by
  intro d
  induction d with
  | zero => intro t ks h; cases h
  | succ d ih =>
    intro t ks h D hD x xs hx hl
    obtain ⟨D, rfl⟩ : ∃ D', D = D' + 1 := ⟨D - 1, by omega⟩
    simp only [kindsT, Option.bind_eq_some_iff] at h
    obtain ⟨k, hk, h⟩ := h
    have hx := hx k hk
    have hu := run_underlying (w := w) hk
    unfold Instr.checkKey
    simp only [Sem.run_bind, hu, Result.andThen_ok]
    cases k <;> first | (cases h; done) | skip
    case bool => rfl
    case int => rfl
    case string => rfl
    case array n e =>
      simp only [Option.bind_eq_some_iff] at h
      obtain ⟨ls, hls, i, hi, h⟩ := h
      split at h
      · rename_i hsz
        obtain ⟨rfl, _⟩ := sizedK_spec h
        rw [if_pos (by simp [isAggD])] at hx
        subst hx
        rw [lenN_eq] at hsz
        have hlen : ∀ n : Nat, (repL ls n).length = n * ls.length := by
          intro n
          induction n with
          | zero => show ([] : List CK).length = _; simp
          | succ n ihn =>
            show (app ls (repL ls n)).length = _
            rw [app_eq, List.length_append, ihn, Nat.add_mul]; omega
        rw [hlen] at hl
        have := check_items (w := w) (em := em) (D := D) hls (fun x xs sx hxl => ih e ls hls D (by omega) x xs sx hxl) hi hsz (xs := xs) n 0 (by rw [Nat.zero_add]; omega)
        simp only [Std.Legacy.Range.forIn_eq_forIn_range', Std.Legacy.Range.size, Nat.sub_zero, Nat.add_one_sub_one, Nat.div_one]
        simpa using this
      · cases h
    case struct fs =>
      simp only at h
      split at h
      · cases h
      · simp only [Option.bind_eq_some_iff] at h
        obtain ⟨ls, hls, h⟩ := h
        obtain ⟨rfl, _⟩ := sizedK_spec h
        rw [if_pos (by simp [isAggD])] at hx
        subst hx
        have := check_fields (w := w) (em := em) (D := D) (fun e ks he x xs sx hxl => ih e ks he D (by omega) x xs sx hxl) (xs := xs) fs.toList 0 _ hls (by omega)
        dsimp only
        rw [← Array.forIn_toList]
        simpa using this
end

end Go.Sim


/-
  The symbolic simulator: what the operations of maps do.
-/
namespace Go.Sim
variable {α : Type}

/-- an object of the run's own turns -/
theorem Eff.turnO {P : Program} {β : Val} {w : World} {base n : Nat} {l : Loc} {o : SObj} {x y : Obj} (hl : β n = some l) (h0 : l.off = 0) (hb : w.heap[l.blk]? = some y) (hd : o.den β = some x) :
    Eff P β w base [(n, .obj o)] [] β { w with heap := w.heap.setIfInBounds l.blk x } := by
  have hlt : l.blk < w.heap.size := (Array.getElem?_eq_some_iff.1 hb).1
  exact Eff.turn hl ⟨l, x, hl, h0, hd, by simp [hlt]⟩
/-- what else the world holds does not matter -/
theorem OwnRel.drew {P : Program} {β : Val} {w : World} {n : Nat} {e : SO} (h : OwnRel P β w n e) (d : Nat) : OwnRel P β { w with drawn := d } n e := by cases e <;> exact h
theorem Eff.drew {P : Program} {β β' : Val} {w w' : World} {base : Nat} {sets : List (Nat × SO)} {news : List SO} (h : Eff P β w base sets news β' w') (d : Nat) : Eff P β w base sets news β' { w' with drawn := d } :=
  ⟨h.le, h.os, h.tape, h.output, h.size, h.dom, h.frame, h.one, fun n e hn => (h.turned n e hn).drew d, fun i e he => let ⟨a, b, c⟩ := h.made i e he; ⟨a, b.drew d, c⟩, h.apart⟩
theorem Eff.allocO {P : Program} {β : Val} {w w' : World} {base : Nat} {o : SObj} {x : Obj} (hb : β base = Option.none)
    (hh : w'.heap = w.heap.push x) (ho : w'.os = w.os) (ht : w'.tape = w.tape) (hu : w'.output = w.output) (hd : o.den β = some x) :
    Eff P β w base [] [.obj o] (β.upd base ⟨w.heap.size, 0, 0⟩) w' where
  le := Val.upd_le hb
  os := ho
  tape := ht
  output := hu
  size := by rw [hh]; simp
  dom := fun n hn => by
    unfold Val.upd
    rw [if_neg]; simp at hn; omega
  frame := fun b hb _ => by rw [hh, Array.getElem?_push, if_neg (by omega)]
  one := by simp
  turned := by simp
  made := fun i e he => by
    cases i with
    | zero =>
      simp at he; subst he
      refine ⟨rfl, ⟨⟨w.heap.size, 0, 0⟩, x, Val.upd_same _ _ _, rfl, SObj.den_mono (Val.upd_le hb) hd, ?_⟩, _, Val.upd_same _ _ _, .inl (Nat.le_refl _)⟩
      rw [hh]; simp
    | succ i => simp at he
  apart := fun i j l l' hij hi hj => by simp at hi hj; omega

section
variable {P : Program} {O : Nat → Prop} {w0 : World} {β : Val} {H : List SO} {w : World} {base : Nat}
variable {ev : Operand → SV} {ρ : Operand → Value} {dst : Option Tmp} {t : TypeId} {pos : String} {af : Array Edge} {g : Option (Nat × Bool)}

theorem mapH_sat (hr : HeapRel0 P O w0 β H w) {v : SV} {x : Value} (hv : v.den β = some x) {nil : R α} {f : Nat → List (SV × SV × Nat) → Nat → R α} {φ : α → Prop} (h0 : x = .map none → nil.Sat φ)
    (h : ∀ nm es c l vs, v = .map nm → x = .map (some l.blk) → β nm = some l → l.off = 0 → H[nm]? = some (.obj (.map es c)) → entsDen β es = some vs → w.heap[l.blk]? = some (.map vs.toArray c) → (f nm es c).Sat φ) : (mapH H v nil f).Sat φ := by
  unfold mapH
  split
  · cases hv; exact h0 rfl
  · rename_i nm
    split
    · rename_i es c he
      rw [nth_eq] at he
      obtain ⟨l, o, hl, hz, hd, hh⟩ := hr.entries _ _ he
      simp only [SObj.den, Option.map_eq_some_iff] at hd
      obtain ⟨vs, hvs, rfl⟩ := hd
      simp only [SV.den, hl, Option.map_some, Option.some.injEq] at hv
      exact h nm es c l vs rfl hv.symm hl hz he hvs hh
    · trivial
  · trivial
/-- a key that fits -/
structure KeyOK (P : Program) (t : TypeId) (x : Value) (kt et : TypeId) (ks : List CK) : Prop where
  map : P.underlying t = some (.map kt et)
  kinds : kindsT P 8 kt = some ks
  shape : ShapeK P kt x
  plain : ∀ y ∈ cellsVK x, plainV y
  len : (cellsVK x).length = ks.length
theorem keyT_sat {ty : TypeId} {k : SV} {x : Value} (hk : k.den β = some x) {f : TypeId → List CK → R α} {φ : α → Prop} (h : ∀ kt et ks, KeyOK P ty x kt et ks → (f et ks).Sat φ) : (keyT P ty k f).Sat φ := by
  refine R.Sat.opt fun d hd => ?_
  split
  · rename_i kt et
    refine R.Sat.opt fun kd hkd => R.Sat.opt fun ks hks => R.Sat.opt fun b hb => R.Sat.boolC (fun ha => ?_) fun _ => trivial
    have hs := sameK_den hb hk hk
    unfold sameVK at hs
    rw [if_pos rfl] at hs
    have hag : aggB k = aggV x := by
      have hn : ∀ y, k ≠ .val y := by
        rintro y rfl
        unfold sameK at hb
        cases hks' : ks with
        | nil => rw [hks'] at hb; cases hb
        | cons c cs => rw [hks'] at hb; simp [cellsK, SV.asAgg, aggB, boolC, eqCells, eqCell_val] at hb
      exact (key_den hk hn).2
    refine h kt et ks ⟨hd, hks, fun d hd' => ?_, eqVs_plain hs, (eqVs_length hs).1⟩
    rw [hkd] at hd'; cases hd'
    rw [← hag]; simpa using ha
  · trivial
theorem KeyOK.check {ty : TypeId} {x : Value} {kt et : TypeId} {ks : List CK} (h : KeyOK P ty x kt et ks) (e : Bool) : (Instr.checkKey e 10000 kt x).run P w = .ok () w :=
  check_wide 8 kt ks h.kinds 10000 (by omega) x _ h.shape.toV h.len
theorem entsDen_length {es : List (SV × SV × Nat)} : ∀ {vs : List MapEntry}, entsDen β es = some vs → vs.length = es.length := by
  induction es with
  | nil => intro vs h; cases h; rfl
  | cons a r ih =>
    intro vs h
    simp only [entsDen, Option.bind_eq_some_iff, Option.map_eq_some_iff] at h
    obtain ⟨k, hk, v, hv, rs, hr, rfl⟩ := h
    simp [ih hr]
theorem entsDen_set {es : List (SV × SV × Nat)} : ∀ {vs : List MapEntry} (_ : entsDen β es = some vs) {i : Nat} {e : SV × SV × Nat} {v : MapEntry} (_ : e.1.den β = some v.key) (_ : e.2.1.den β = some v.val) (_ : v.born = e.2.2), entsDen β (es.set i e) = some (vs.set i v) := by
  induction es with
  | nil => intro vs h i e v _ _ _; cases h; rfl
  | cons a r ih =>
    intro vs h i e v h1 h2 h3
    simp only [entsDen, Option.bind_eq_some_iff, Option.map_eq_some_iff] at h
    obtain ⟨k, hk, u, hv, rs, hr, rfl⟩ := h
    obtain ⟨vk, vv, vb⟩ := v
    cases i with
    | zero => simp only [List.set_cons_zero, entsDen, h1, h2, hr, Option.bind_some, Option.map_some]; simp only at h3; rw [h3]
    | succ i => simp only [List.set_cons_succ, entsDen, hk, hv, ih hr h1 h2 h3, Option.bind_some, Option.map_some]
theorem entsDen_append {es fs : List (SV × SV × Nat)} : ∀ {vs us : List MapEntry}, entsDen β es = some vs → entsDen β fs = some us → entsDen β (es ++ fs) = some (vs ++ us) := by
  induction es with
  | nil => intro vs us h k; cases h; exact k
  | cons a r ih =>
    intro vs us h k
    simp only [entsDen, Option.bind_eq_some_iff, Option.map_eq_some_iff] at h
    obtain ⟨x, hk, u, hv, rs, hr, rfl⟩ := h
    simp only [List.cons_append, entsDen, hk, hv, ih hr k, Option.bind_some, Option.map_some]
theorem eraseN_eq {γ : Type} (l : List γ) (n : Nat) : eraseN l n = l.eraseIdx n := by
  induction l generalizing n with
  | nil => rfl
  | cons a t ih => cases n with
    | zero => rfl
    | succ n => exact congrArg (a :: ·) (ih n)
theorem entsDen_erase {es : List (SV × SV × Nat)} : ∀ {vs : List MapEntry} (_ : entsDen β es = some vs) (i : Nat), entsDen β (es.eraseIdx i) = some (vs.eraseIdx i) := by
  induction es with
  | nil => intro vs h i; cases h; rfl
  | cons a r ih =>
    intro vs h i
    simp only [entsDen, Option.bind_eq_some_iff, Option.map_eq_some_iff] at h
    obtain ⟨k, hk, u, hv, rs, hr, rfl⟩ := h
    cases i with
    | zero => simpa using hr
    | succ i => simp only [List.eraseIdx_cons_succ, entsDen, hk, hv, ih hr i, Option.bind_some, Option.map_some]
/-- the entry that is found -/
theorem findM_sat {ks : List CK} {k : SV} {x : Value} (hk : k.den β = some x) {yes : Nat → SV × SV × Nat → R α} {no : R α} {φ : α → Prop} : ∀ {es : List (SV × SV × Nat)} {vs : List MapEntry} (i : Nat), entsDen β es = some vs →
    (∀ j e v, es[j]? = some e → vs[j]? = some v → e.1.den β = some v.key → e.2.1.den β = some v.val → v.born = e.2.2 → v.key = x → findVs ks x vs i = some (some (i + j, v)) → (yes (i + j) e).Sat φ) → (findVs ks x vs i = some none → no.Sat φ) → (findM ks k yes no es i).Sat φ
  | [], vs, i, h, _, h0 => by cases h; exact h0 rfl
  | e :: es, vs, i, h, h1, h0 => by
    simp only [entsDen, Option.bind_eq_some_iff, Option.map_eq_some_iff] at h
    obtain ⟨ky, hky, u, hu, rs, hrs, rfl⟩ := h
    show (optC (sameK ks k e.1) (R.stuck 852) fun b => SB.rec (motive := fun _ => R α) (fun b => boolC b (yes i e) (findM ks k yes no es (i + 1))) (fun b => .fork b (yes i e) (findM ks k yes no es (i + 1))) b).Sat φ
    cases hs : sameK ks k e.1 with
    | none => trivial
    | some b =>
      have hv := sameK_den hs hk hky
      have hyes : b.den = true → (yes i e).Sat φ := fun hb => by
        rw [hb] at hv
        have := h1 0 e ⟨ky, u, e.2.2⟩ rfl rfl hky hu rfl (sameVK_true hv).symm (by simp [findVs, hv])
        simpa using this
      have hno : b.den = false → (findM ks k yes no es (i + 1)).Sat φ := fun hb => by
        rw [hb] at hv
        have hstep : ∀ r, findVs ks x rs (i + 1) = some r → findVs ks x (⟨ky, u, e.2.2⟩ :: rs) i = some r := fun r hr => by simp [findVs, hv, hr]
        refine findM_sat hk (i + 1) hrs (fun j e' v he hv' a1 a2 a3 a4 hf => ?_) fun hf => h0 (hstep _ hf)
        have := h1 (j + 1) e' v (by simpa using he) (by simpa using hv') a1 a2 a3 a4 (by rw [show i + (j + 1) = i + 1 + j from by omega]; exact hstep _ hf)
        rw [show i + 1 + j = i + (j + 1) from by omega]; exact this
      cases b with
      | lit b => exact R.Sat.boolC hyes hno
      | sym b => exact ⟨hyes, hno⟩
theorem zeroV_spec {ty : TypeId} {v : SV} (h : zeroV P ty = some v) : ∃ x, (zeroValue ty).run P w = .ok x w ∧ ∀ β, v.den β = some x := by
  simp only [zeroV, Option.map_eq_some_iff, Option.bind_eq_some_iff] at h
  obtain ⟨x, ⟨i, hi, hx⟩, rfl⟩ := h
  exact ⟨x, run_zeroValue hi hx, fun β => constV_den β x⟩
theorem okT_den {ok b : Bool} {v : SV} {x : Value} (h : v.den β = some x) : (okT ok v b).den β = some (if ok then .tuple #[x, .bool b] else x) := by
  cases ok with
  | true => simp [okT, boolC, SV.den, SV.denL, h, SB.den]
  | false => exact h
theorem run_getObj {r : Nat} {es : Array MapEntry} {c : Nat} (h : w.heap[r]? = some (.map es c)) : (getObj r).run P w = .ok (.map es c) w := MapKept.run_getObj_map h
theorem run_setObj {r : Nat} {es : Array MapEntry} {c : Nat} {o' : Obj} (h : w.heap[r]? = some (.map es c)) : (setObj r o').run P w = .ok () { w with heap := w.heap.setIfInBounds r o' } := MapKept.run_setObj_map o' h
theorem oMakeMap_sat {ty : TypeId} {r : Option Operand} (hev : ∀ x, r = some x → (ev x).den β = some (ρ x)) :
    (oMakeMap ty r P ev H base).Sat (OpSem P H β w base ((execOp ρ ⟨dst, .makeMap ty r, t, pos, af, g⟩).run P w)) := by
  have key : (execOp ρ ⟨dst, .makeMap ty r, t, pos, af, g⟩).run P w = .ok (.value (.map (some w.heap.size))) { w with heap := w.heap.push (.map #[] 0) } →
      (R.ok (OpRes.val (.map base) [] [.obj (.map [] 0)])).Sat (OpSem P H β w base ((execOp ρ ⟨dst, .makeMap ty r, t, pos, af, g⟩).run P w)) := by
    intro hrun hb
    refine ⟨_, _, _, β.upd base ⟨w.heap.size, 0, 0⟩, hrun, rfl, ?_, Eff.allocO hb.hd rfl rfl rfl rfl rfl, by simp⟩
    simp [SV.den, Val.upd_same]
  unfold oMakeMap
  cases r with
  | none => exact key rfl
  | some h =>
    have hx := hev h rfl
    dsimp only
    split
    · rename_i k n he
      rw [he] at hx
      simp only [SV.den, Option.some.injEq] at hx
      refine R.Sat.opt fun d hd => ?_
      split
      · refine key ?_
        simp [execOp, Instr.makeMap, run_underlying hd, ← hx, asInt, asIntOf, newObj]
        rfl
      · trivial
    · trivial
theorem oLookup_sat (hr : HeapRel0 P O w0 β H w) {ty : TypeId} {x k : Operand} {ok : Bool} (hx : (ev x).den β = some (ρ x)) (hk : (ev k).den β = some (ρ k)) :
    (oLookup ty x k ok P ev H base).Sat (OpSem P H β w base ((execOp ρ ⟨dst, .lookup ty x k ok, t, pos, af, g⟩).run P w)) := by
  refine keyT_sat hk fun kt et ks K => R.Sat.opt fun z hz => ?_
  obtain ⟨zv, hzr, hzd⟩ := zeroV_spec (w := w) hz
  refine mapH_sat hr hx (fun hnil => ?_) fun nm es c l vs _ hm hl h0 he hvs hh => ?_
  · refine sem_val ?_ (okT_den (hzd β))
    have hf := findKey_run (w := w) K.kinds K.shape (vs := []) (r := none) rfl
    simp only [execOp, hnil, Instr.lookup, Sem.run_bind, run_underlying K.map, Result.andThen_ok, Sem.run_pure, K.check]
    simp only [hf, Option.map_none, Result.andThen_ok, hzr, Sem.run_bind, Sem.run_pure]
  · have hrun : ∀ r, findVs ks (ρ k) vs 0 = some r → (Instr.lookup ty (ρ x) (ρ k) ok).run P w = .ok (if ok then .tuple #[(r.map fun p => p.2.val).getD zv, .bool r.isSome] else (r.map fun p => p.2.val).getD zv) w := by
      intro r hfr
      have hf := findKey_run (w := w) K.kinds K.shape hfr
      simp only [hm, Instr.lookup, Sem.run_bind, run_underlying K.map, Result.andThen_ok, Sem.run_pure, K.check, run_getObj hh]
      simp only [hf]
      cases r with
      | none => simp only [Option.map_none, Result.andThen_ok, hzr, Sem.run_bind, Sem.run_pure]; cases ok <;> rfl
      | some p => simp only [Option.map_some, Result.andThen_ok]; cases ok <;> rfl
    refine findM_sat hk 0 hvs (fun j e v _ _ _ hv2 _ _ hf => ?_) fun hf => ?_
    · refine sem_val ?_ (okT_den hv2)
      simp only [execOp, Sem.run_bind, hrun _ hf, Result.andThen_ok, Sem.run_pure]
      rfl
    · refine sem_val ?_ (okT_den (hzd β))
      simp only [execOp, Sem.run_bind, hrun _ hf, Result.andThen_ok, Sem.run_pure]
      rfl
theorem modify_set {vs : List MapEntry} {i : Nat} {v : MapEntry} (h : vs[i]? = some v) (f : MapEntry → MapEntry) : vs.toArray.modify i f = (vs.set i (f v)).toArray := by
  apply Array.ext_getElem?
  intro j
  rw [Array.getElem?_modify]
  simp only [List.getElem?_toArray, List.getElem?_set]
  by_cases hij : i = j
  · subst hij
    obtain ⟨hlt, heq⟩ := List.getElem?_eq_some_iff.1 h
    simp [hlt, heq]
  · simp [hij]
theorem putM_sat {nm : Nat} {l : Loc} {es : List (SV × SV × Nat)} {c : Nat} {vs : List MapEntry} {y : Obj} {e0 : SO} {res : Result Next} {nx : Next} {z : Value} {v : SV} (hl : β nm = some l) (h0 : l.off = 0) (hb : w.heap[l.blk]? = some y) (hd : entsDen β es = some vs) (he : H[nm]? = some e0) (ho : e0.owned = true)
    (hres : res = .ok nx { w with heap := w.heap.setIfInBounds l.blk (.map vs.toArray c) }) (hnx : nextVal nx = some z) (hz : v.den β = some z) : (R.ok (OpRes.val v [(nm, .obj (.map es c))] [])).Sat (OpSem P H β w base res) := by
  intro _
  refine ⟨nx, z, _, β, hres, hnx, hz, Eff.turnO hl h0 hb (by simp [SObj.den, hd]), ?_⟩
  intro m e hm
  simp at hm
  obtain ⟨rfl, rfl⟩ := hm
  exact ⟨_, he, ho⟩
theorem mapUpdate_run {ty kt et : TypeId} {ks : List CK} {l : Loc} {vs : List MapEntry} {c : Nat} {x y : Value} (K : KeyOK P ty x kt et ks) (hh : w.heap[l.blk]? = some (.map vs.toArray c)) :
    (∀ j v, vs[j]? = some v → v.key = x → findVs ks x vs 0 = some (some (j, v)) → (Instr.mapUpdate ty (.map (some l.blk)) x y).run P w = .ok () { w with heap := w.heap.setIfInBounds l.blk (.map (vs.set j ({ key := x, val := y, born := v.born } : MapEntry)).toArray c) }) ∧
    (findVs ks x vs 0 = some none → (Instr.mapUpdate ty (.map (some l.blk)) x y).run P w = .ok () { w with heap := w.heap.setIfInBounds l.blk (.map (vs ++ [({ key := x, val := y, born := c } : MapEntry)]).toArray (c + 1)) }) := by
  refine ⟨fun j v hj hv hf => ?_, fun hf => ?_⟩
  · have hfr := findKey_run (w := w) K.kinds K.shape hf
    have hst := stays_run (P := P) (w := w) K.plain
    simp only [Instr.mapUpdate, Sem.run_bind, run_underlying K.map, Result.andThen_ok, run_getObj hh, K.check, hfr, Option.map_some]
    have hj' : vs.toArray[j]? = some v := by simpa using hj
    simp only [hj', Option.map_some, Option.getD_some, hv, hst, Result.andThen_ok, run_setObj hh]
    rw [modify_set hj]
  · have hfr := findKey_run (w := w) K.kinds K.shape hf
    simp only [Instr.mapUpdate, Sem.run_bind, run_underlying K.map, Result.andThen_ok, run_getObj hh, K.check, hfr, Option.map_none, run_setObj hh]
    simp
theorem oMapUpdate_sat (hr : HeapRel0 P O w0 β H w) {ty : TypeId} {m k x : Operand} (hm : (ev m).den β = some (ρ m)) (hk : (ev k).den β = some (ρ k)) (hx : (ev x).den β = some (ρ x)) :
    (oMapUpdate ty m k x P ev H base).Sat (OpSem P H β w base ((execOp ρ ⟨dst, .mapUpdate ty m k x, t, pos, af, g⟩).run P w)) ∧
    (oMapUpdate ty m k x P ev H base).Sat (OpSem P H β w base ((execOp ρ ⟨dst, .insert ty m k x, t, pos, af, g⟩).run P w)) := by
  have key : ∀ res : Result Next, (∀ w', (Instr.mapUpdate ty (ρ m) (ρ k) (ρ x)).run P w = .ok () w' → res = .ok .skip w') → (oMapUpdate ty m k x P ev H base).Sat (OpSem P H β w base res) := by
    intro res hres
    refine keyT_sat hk fun kt et ks K => mapH_sat hr hm (fun _ => trivial) fun nm es c l vs _ hmv hl h0 he hvs hh => ?_
    obtain ⟨r1, r2⟩ := mapUpdate_run (y := ρ x) K hh
    rw [← hmv] at r1 r2
    refine findM_sat hk 0 hvs (fun j e v hej hvj h1 h2 h3 h4 hf => ?_) fun hf => ?_
    · rw [Nat.zero_add] at hf ⊢
      refine putM_sat (vs := vs.set j ⟨ρ k, ρ x, v.born⟩) hl h0 hh ?_ he rfl (hres _ (r1 j v hvj h4 hf)) rfl rfl
      rw [setN_eq]
      exact entsDen_set hvs hk hx h3
    · refine putM_sat (vs := vs ++ [⟨ρ k, ρ x, c⟩]) hl h0 hh ?_ he rfl (hres _ (r2 hf)) rfl rfl
      rw [app_eq]
      exact entsDen_append hvs (by simp [entsDen, hk, hx])
  exact ⟨key _ fun w' h => by simp [execOp, h], key _ fun w' h => by simp [execOp, h]⟩
theorem oMapEntry_sat (hr : HeapRel0 P O w0 β H w) {ty : TypeId} {m k : Operand} (hm : (ev m).den β = some (ρ m)) (hk : (ev k).den β = some (ρ k)) :
    (oMapEntry ty m k P ev H base).Sat (OpSem P H β w base ((execOp ρ ⟨dst, .mapEntry ty m k, t, pos, af, g⟩).run P w)) := by
  refine keyT_sat hk fun kt et ks K => R.Sat.opt fun z hz => ?_
  obtain ⟨zv, hzr, hzd⟩ := zeroV_spec (w := w) hz
  refine mapH_sat hr hm (fun _ => trivial) fun nm es c l vs _ hmv hl h0 he hvs hh => ?_
  refine findM_sat hk 0 hvs (fun j e v hej hvj h1 h2 h3 h4 hf => ?_) fun hf => ?_
  · rw [Nat.zero_add] at hf ⊢
    have hfr := findKey_run (w := w) K.kinds K.shape hf
    have hst := stays_run (P := P) (w := w) K.plain
    have hj' : vs.toArray[j]? = some v := by simpa using hvj
    refine putM_sat (vs := vs.set j ⟨ρ k, v.val, v.born⟩) (z := .tuple #[v.val, goInt v.born]) (nx := .value (.tuple #[v.val, goInt v.born])) hl h0 hh ?_ he rfl ?_ rfl ?_
    · rw [setN_eq]; exact entsDen_set hvs hk h2 h3
    · simp only [execOp, hmv, Instr.mapEntry, Sem.run_bind, run_underlying K.map, Result.andThen_ok, run_getObj hh, K.check, hfr, Option.map_some]
      simp only [hj', Option.map_some, Option.getD_some, h4, hst, Result.andThen_ok, run_setObj hh, Sem.run_pure]
      rw [modify_set hvj]
    · simp [SV.den, SV.denL, h2, SI.den, goInt, h3]
  · have hfr := findKey_run (w := w) K.kinds K.shape hf
    refine putM_sat (vs := vs ++ [⟨ρ k, zv, c⟩]) (z := .tuple #[zv, goInt c]) (nx := .value (.tuple #[zv, goInt c])) hl h0 hh ?_ he rfl ?_ rfl ?_
    · rw [app_eq]; exact entsDen_append hvs (by simp [entsDen, hk, hzd β])
    · simp only [execOp, hmv, Instr.mapEntry, Sem.run_bind, run_underlying K.map, Result.andThen_ok, run_getObj hh, K.check, hfr, Option.map_none]
      simp only [hzr, Result.andThen_ok, run_setObj hh, Sem.run_pure]
      simp
    · simp [SV.den, SV.denL, hzd β, SI.den, goInt]
theorem findBorn_sat {b : Nat} {yes : Nat → SV × SV × Nat → R α} {φ : α → Prop} : ∀ {es : List (SV × SV × Nat)} {vs : List MapEntry} (i : Nat), entsDen β es = some vs →
    (∀ j e v, es[j]? = some e → vs[j]? = some v → e.1.den β = some v.key → v.born = e.2.2 → vs.findIdx? (fun e => e.born == b) = some j → (yes (i + j) e).Sat φ) → (findBorn b yes es i).Sat φ
  | [], _, _, _, _ => trivial
  | e :: es, vs, i, h, h1 => by
    simp only [entsDen, Option.bind_eq_some_iff, Option.map_eq_some_iff] at h
    obtain ⟨ky, hky, u, hu, rs, hrs, rfl⟩ := h
    show (boolC (Nat.beq e.2.2 b) (yes i e) (findBorn b yes es (i + 1))).Sat φ
    refine R.Sat.boolC (fun hb => ?_) fun hb => ?_
    · have := h1 0 e _ rfl rfl hky rfl (by simp [List.findIdx?_cons, Nat.eq_of_beq_eq_true hb])
      simpa using this
    · refine findBorn_sat (i + 1) hrs fun j e' v a1 a2 a3 a4 hf => ?_
      have hne : e.2.2 ≠ b := fun h => by subst h; rw [show Nat.beq e.2.2 e.2.2 = true from Nat.beq_refl _] at hb; cases hb
      have := h1 (j + 1) e' v (by simpa using a1) (by simpa using a2) a3 a4 (by simp [List.findIdx?_cons, hne, hf])
      rw [show i + 1 + j = i + (j + 1) from by omega]; exact this
theorem oEntryStore_sat (hr : HeapRel0 P O w0 β H w) {ty : TypeId} {m s x : Operand} (hm : (ev m).den β = some (ρ m)) (hs : (ev s).den β = some (ρ s)) (hx : (ev x).den β = some (ρ x)) :
    (oEntryStore ty m s x P ev H base).Sat (OpSem P H β w base ((execOp ρ ⟨dst, .entryStore ty m s x, t, pos, af, g⟩).run P w)) := by
  refine mapH_sat hr hm (fun _ => trivial) fun nm es c l vs _ hmv hl h0 he hvs hh => ?_
  split
  · rename_i k b hb
    rw [hb] at hs
    simp only [SV.den, SI.den, Option.some.injEq] at hs
    refine findBorn_sat 0 hvs fun j e v a1 a2 a3 a4 hf => ?_
    rw [Nat.zero_add]
    refine putM_sat (vs := vs.set j ⟨v.key, ρ x, v.born⟩) (nx := .skip) hl h0 hh ?_ he rfl ?_ rfl rfl
    · rw [setN_eq]; exact entsDen_set hvs a3 hx a4
    · have hf' : vs.toArray.findIdx? (fun e => (e.born : Int) == Int.ofNat b) = some j := by
        rw [← List.findIdx?_toArray] at hf
        rw [← hf]
        congr 1
        funext e
        rw [Bool.eq_iff_iff]
        simp
        omega
      simp only [execOp, hmv, Instr.entryStore, Sem.run_bind, run_getObj hh, Result.andThen_ok, ← hs, asInt, asIntOf, Sem.run_pure]
      simp only [hf', run_setObj hh, Result.andThen_ok]
      rw [modify_set a2]
  · trivial
theorem deleteT_sat (hr : HeapRel0 P O w0 β H w) {tys : Array TypeId} {ty : TypeId} {m k : SV} {mv kv : Value} (hm : m.den β = some mv) (hk : k.den β = some kv) {res : Result Next}
    (hres : ∀ v w', (Builtin.delete_ tys ty #[mv, kv]).run P w = .ok v w' → res = .ok (.value v) w') : (deleteT P H tys m k).Sat (OpSem P H β w base res) := by
  refine R.Sat.opt fun mt hmt => keyT_sat hk fun kt et ks K => mapH_sat hr hm (fun hnil => ?_) fun nm es c l vs _ hmv hl h0 he hvs hh => ?_
  · refine sem_val (x := .tuple #[]) (hres _ _ ?_) rfl
    simp only [Builtin.delete_, hmt, hnil]
    simp [run_underlying K.map, K.check]
  · have hrun : ∀ r, findVs ks kv vs 0 = some r → (Builtin.delete_ tys ty #[mv, kv]).run P w = .ok (.tuple #[]) { w with heap := w.heap.setIfInBounds l.blk (.map (match r with | some p => (vs.eraseIdx p.1).toArray | none => vs.toArray) c) } := by
      intro r hfr
      have hf := findKey_run (w := w) K.kinds K.shape hfr
      simp only [Builtin.delete_, hmt, hmv]
      simp only [List.getElem?_toArray, List.getElem?_cons_zero, List.getElem?_cons_succ, Sem.run_bind, run_underlying K.map, Result.andThen_ok, run_getObj hh, K.check, hf]
      cases r with
      | none =>
        simp only [Option.map_none]
        simp [run_setObj hh]
      | some p =>
        simp only [Option.map_some]
        simp [run_setObj hh]
    refine findM_sat hk 0 hvs (fun j e v hej hvj h1 h2 h3 h4 hf => ?_) fun hf => ?_
    · rw [Nat.zero_add] at hf ⊢
      refine putM_sat (vs := vs.eraseIdx j) hl h0 hh ?_ he rfl (hres _ _ (hrun _ hf)) rfl rfl
      rw [eraseN_eq]; exact entsDen_erase hvs j
    · exact putM_sat (vs := vs) hl h0 hh hvs he rfl (hres _ _ (hrun _ hf)) rfl rfl
theorem clearT_sat (hr : HeapRel0 P O w0 β H w) {tys : Array TypeId} {ty : TypeId} {m : SV} {mv : Value} (hm : m.den β = some mv) {res : Result Next}
    (hres : ∀ v w', (Builtin.clear_ tys ty #[mv]).run P w = .ok v w' → res = .ok (.value v) w') : (clearT P H tys m).Sat (OpSem P H β w base res) := by
  refine R.Sat.opt fun mt hmt => R.Sat.opt fun d hd => ?_
  split
  · refine mapH_sat hr hm (fun hnil => ?_) fun nm es c l vs _ hmv hl h0 he hvs hh => ?_
    · refine sem_val (x := .tuple #[]) (hres _ _ ?_) rfl
      simp only [Builtin.clear_, hmt, hnil]
      simp [run_underlying hd]
    · refine putM_sat (vs := []) hl h0 hh rfl he rfl (hres _ _ ?_) rfl rfl
      simp only [Builtin.clear_, hmt, hmv]
      simp [run_underlying hd, run_getObj hh, run_setObj hh]
  · trivial
theorem lenM_sat (hr : HeapRel0 P O w0 β H w) {tys : Array TypeId} {v : SV} {x : Value} (hv : v.den β = some x) {xs : List Value} {ty : TypeId} {res : Result Next}
    (hres : ∀ n : Nat, (Builtin.len_ tys ty (x :: xs).toArray).run P w = .ok (goInt n) w → res = .ok (.value (goInt n)) w) : (lenM P H tys v).Sat (OpSem P H β w base res) := by
  unfold lenM
  split
  · rename_i nm
    refine R.Sat.opt fun mt hmt => R.Sat.opt fun d hd => ?_
    split
    · refine mapH_sat hr hv (fun _ => trivial) fun nm' es c l vs _ hmv hl h0 he hvs hh => ?_
      have hn : lenN es = vs.length := by rw [lenN_eq, entsDen_length hvs]
      rw [hn]
      refine sem_val (hres vs.length ?_) rfl
      simp only [Builtin.len_, hmt, hmv]
      simp [run_underlying hd, run_getObj hh]
    · trivial
  · exact lenT_sat hv hres
theorem newO_sat {ox : SObj} {o : Obj} (hd : ox.den β = some o) {res : Result Next} (hres : res = .ok (.value (.pointer (some ⟨w.heap.size, 0, none⟩))) { w with heap := w.heap.push o }) : (newO base ox).Sat (OpSem P H β w base res) := by
  intro hb
  refine ⟨_, _, _, β.upd base ⟨w.heap.size, 0, 0⟩, hres, rfl, ?_, Eff.allocO hb.hd rfl rfl rfl rfl hd, by simp⟩
  simp [SV.den, SA.den, Val.upd_same, SN.den]
theorem oRange_sat (hr : HeapRel0 P O w0 β H w) {ty : TypeId} {x : Operand} (hx : (ev x).den β = some (ρ x)) :
    (oRange ty x P ev H base).Sat (OpSem P H β w base ((execOp ρ ⟨dst, .range ty x, t, pos, af, g⟩).run P w)) := by
  refine R.Sat.opt fun d hd => ?_
  have hu := run_underlying (w := w) hd
  split
  · split
    · rename_i s hs
      rw [hs] at hx
      simp only [SV.den, Option.some.injEq] at hx
      refine newO_sat (o := .stringIter s.den 0) rfl ?_
      simp [execOp, Instr.range, hu, ← hx, newObj]
      rfl
    · trivial
  · refine mapH_sat hr hx (fun hnil => ?_) fun nm es c l vs _ hmv hl h0 he hvs hh => ?_
    · refine newO_sat (o := .mapIter none 0 #[] 0) rfl ?_
      simp [execOp, Instr.range, hu, hnil, newObj]
      rfl
    · refine newO_sat (o := .mapIter (some l.blk) c #[] c) (by simp [SObj.den, hl]) ?_
      simp [execOp, Instr.range, hu, hmv, newObj, run_getObj hh]
      rfl
  · trivial
end

end Go.Sim


/-
  The symbolic simulator: an iterator's next entry.
-/
namespace Go.Sim
variable {α : Type}

section
variable {P : Program} {O : Nat → Prop} {w0 : World} {β : Val} {H : List SO} {w : World} {base : Nat}
variable {ev : Operand → SV} {ρ : Operand → Value} {dst : Option Tmp} {t : TypeId} {pos : String} {af : Array Edge} {g : Option (Nat × Bool)}

theorem filterN_eq {γ : Type} (f : γ → Bool) (l : List γ) : filterN f l = l.filter f := by
  induction l with
  | nil => rfl
  | cons a l ih =>
    show boolC (f a) (a :: filterN f l) (filterN f l) = _
    rw [ih]
    cases hf : f a <;> simp [boolC, hf]
theorem nilN_eq {γ : Type} (l : List γ) : nilN l = l.isEmpty := by cases l <;> rfl
theorem memN_contains (n : Nat) (l : List Nat) : memN n l = l.contains n := by
  induction l with
  | nil => rfl
  | cons a l ih =>
    show boolC (Nat.beq a n) true (memN n l) = _
    rw [ih, List.contains_cons]
    by_cases h : a = n
    · subst h; simp [boolC]
    · rw [show Nat.beq a n = false from Bool.eq_false_iff.2 fun h' => h (Nat.eq_of_beq_eq_true h')]
      have : (n == a) = false := by simpa using fun e : n = a => h e.symm
      simp [boolC, this]
theorem entsDen_filter {f : SV × SV × Nat → Bool} {F : MapEntry → Bool} (hf : ∀ e v, v.born = e.2.2 → f e = F v) : ∀ {es : List (SV × SV × Nat)} {vs : List MapEntry}, entsDen β es = some vs → entsDen β (es.filter f) = some (vs.filter F)
  | [], vs, h => by cases h; rfl
  | e :: es, vs, h => by
    simp only [entsDen, Option.bind_eq_some_iff, Option.map_eq_some_iff] at h
    obtain ⟨k, hk, u, hu, rs, hr, rfl⟩ := h
    have h1 := hf e ⟨k, u, e.2.2⟩ rfl
    have ih := entsDen_filter hf hr
    simp only [List.filter_cons, ← h1]
    cases f e with
    | true => simp [entsDen, hk, hu, ih]
    | false => simpa using ih
theorem entsDen_all {f : SV × SV × Nat → Bool} {F : MapEntry → Bool} (hf : ∀ e v, v.born = e.2.2 → f e = F v) : ∀ {es : List (SV × SV × Nat)} {vs : List MapEntry}, entsDen β es = some vs → allN f es = vs.all F
  | [], vs, h => by cases h; rfl
  | e :: es, vs, h => by
    simp only [entsDen, Option.bind_eq_some_iff, Option.map_eq_some_iff] at h
    obtain ⟨k, hk, u, hu, rs, hr, rfl⟩ := h
    have h1 := hf e ⟨k, u, e.2.2⟩ rfl
    have ih := entsDen_all hf hr
    show boolC (f e) (allN f es) false = _
    rw [ih, h1, List.all_cons]
    cases F ⟨k, u, e.2.2⟩ <;> rfl
/-- candidates, side by side -/
def CandRel (β : Val) : List (Option (SV × SV × Nat)) → List (Option MapEntry) → Prop
  | [], [] => True
  | a :: az, b :: bs => (match a, b with
      | none, none => True
      | some e, some v => e.1.den β = some v.key ∧ e.2.1.den β = some v.val ∧ v.born = e.2.2
      | _, _ => False) ∧ CandRel β az bs
  | _, _ => False
theorem CandRel.map {es : List (SV × SV × Nat)} {vs : List MapEntry} (h : entsDen β es = some vs) : CandRel β (es.map some) (vs.map some) := by
  induction es generalizing vs with
  | nil => cases h; trivial
  | cons e es ih =>
    simp only [entsDen, Option.bind_eq_some_iff, Option.map_eq_some_iff] at h
    obtain ⟨k, hk, u, hu, rs, hr, rfl⟩ := h
    exact ⟨⟨hk, hu, rfl⟩, ih hr⟩
theorem CandRel.length {a : List (Option (SV × SV × Nat))} : ∀ {b : List (Option MapEntry)}, CandRel β a b → a.length = b.length := by
  induction a with
  | nil => intro b h; cases b with
    | nil => rfl
    | cons => exact h.elim
  | cons x a ih => intro b h; cases b with
    | nil => exact h.elim
    | cons y b => simp [ih h.2]
/-- one of the candidates is taken -/
theorem pickM_sat {f : Option (SV × SV × Nat) → R OpRes} {φ : OpRes → Prop} {n : Nat} : ∀ {l : List (Option (SV × SV × Nat))} {bs : List (Option MapEntry)} (i : Nat), CandRel β l bs → i ≤ n → n < i + l.length →
    (∀ a b, bs[n - i]? = some b → CandRel β [a] [b] → (f a).Sat φ) → (pickM f l n i).Sat φ
  | [], _, i, _, h1, h2, _ => by simp at h2; omega
  | [a], [b], i, hc, h1, h2, h => by
    have : n = i := by simp at h2; omega
    subst this
    exact h a b (by simp) hc
  | a :: a' :: l, b :: bs, i, hc, h1, h2, h => by
    show (R.fork (decide (n = i)) (f a) (pickM f (a' :: l) n (i + 1))).Sat φ
    refine ⟨fun hd => ?_, fun hd => ?_⟩
    · have := of_decide_eq_true hd
      subst this
      exact h a b (by simp) ⟨hc.1, trivial⟩
    · have hne := of_decide_eq_false hd
      refine pickM_sat (i + 1) hc.2 (by omega) (by simp at h2 ⊢; omega) fun x y hy hxy => h x y ?_ hxy
      rw [show n - i = (n - (i + 1)) + 1 from by omega, List.getElem?_cons_succ]; exact hy
  | [_], [], _, hc, _, _, _ => hc.elim
  | [_], _ :: _ :: _, _, hc, _, _, _ => hc.2.elim
  | _ :: _ :: _, [], _, hc, _, _, _ => hc.elim
theorem oneM_sat {f : Option (SV × SV × Nat) → R OpRes} {φ : OpRes → Prop} {n : Nat} {l : List (Option (SV × SV × Nat))} {bs : List (Option MapEntry)} (hc : CandRel β l bs) (hn : n < l.length)
    (h : ∀ a b, bs[n]? = some b → CandRel β [a] [b] → (f a).Sat φ) : (oneM f l).Sat φ := by
  match l, bs, hc, hn with
  | [a], [b], hc, hn =>
    have : n = 0 := by simp at hn; omega
    subst this
    exact h a b rfl hc
  | a :: a' :: l, bs, hc, hn =>
    exact ⟨fun _ => n, pickM_sat 0 hc (Nat.zero_le _) (by simpa using hn) fun x y hy hxy => h x y (by simpa using hy) hxy⟩
theorem candM_rel {es : List (SV × SV × Nat)} {vs : List MapEntry} (h : entsDen β es = some vs) (seen : List Nat) (since : Nat) :
    CandRel β (candM (leftM es seen) since) ((if (((vs.toArray.filter fun e => !seen.toArray.contains e.born).filter (·.born < since)).isEmpty) then [none] else []) ++ (((vs.filter fun e => !seen.toArray.contains e.born).filter (·.born < since)) ++ ((vs.filter fun e => !seen.toArray.contains e.born).filter (·.born ≥ since))).map some) := by
  have h1 : entsDen β (leftM es seen) = some (vs.filter fun e => !seen.toArray.contains e.born) := by
    unfold leftM
    rw [filterN_eq]
    refine entsDen_filter (fun e v hv => ?_) h
    rw [memN_contains, hv]
    simp only [List.contains_toArray]
    cases seen.contains e.2.2 <;> rfl
  have h2 : entsDen β (oldM (leftM es seen) since) = some ((vs.filter fun e => !seen.toArray.contains e.born).filter (·.born < since)) := by
    unfold oldM
    rw [filterN_eq]
    refine entsDen_filter (fun e v hv => ?_) h1
    rw [hv, Bool.eq_iff_iff]
    simp [Nat.blt_eq]
  have h3 : entsDen β (newM (leftM es seen) since) = some ((vs.filter fun e => !seen.toArray.contains e.born).filter (·.born ≥ since)) := by
    unfold newM
    rw [filterN_eq]
    refine entsDen_filter (fun e v hv => ?_) h1
    rw [hv, Bool.eq_iff_iff]
    simp [Nat.ble_eq]
  unfold candM
  have hemp : ((vs.toArray.filter fun e => !seen.toArray.contains e.born).filter (·.born < since)).isEmpty = nilN (oldM (leftM es seen) since) := by
    rw [nilN_eq]
    have hl := entsDen_length h2
    simp only [List.filter_toArray, List.isEmpty_toArray]
    rw [Bool.eq_iff_iff, List.isEmpty_iff_length_eq_zero, List.isEmpty_iff_length_eq_zero, hl]
  rw [hemp, app_eq, app_eq, mapN_eq]
  have hm := CandRel.map (entsDen_append h2 h3)
  cases nilN (oldM (leftM es seen) since) with
  | true => exact ⟨trivial, hm⟩
  | false => exact hm
theorem choose_lt {n : Nat} (hn : 0 < n) : ∃ k d, k < n ∧ (choose (.mapNext n)).run P w = .ok k { w with drawn := d } := by
  by_cases hf : n ≤ 1
  · exact ⟨0, w.drawn, hn, by simp [choose, Sem.run, Question.forced, hf]⟩
  · exact ⟨w.tape w.drawn (.mapNext n) % n, w.drawn + 1, Nat.mod_lt _ hn, by simp [choose, Sem.run, Question.forced, hf, Question.cut]⟩
theorem goneM_eq {es : List (SV × SV × Nat)} {vs : List MapEntry} (h : entsDen β es = some vs) (seen : List Nat) (last : Nat) : (!seen.toArray.isEmpty && !vs.toArray.isEmpty && vs.toArray.all (·.born ≥ last)) = goneM es seen last := by
  unfold goneM
  have hl := entsDen_length h
  have h1 : nilN es = vs.isEmpty := by
    rw [nilN_eq, Bool.eq_iff_iff, List.isEmpty_iff_length_eq_zero, List.isEmpty_iff_length_eq_zero, hl]
  have h2 : allN (fun e => Nat.ble last e.2.2) es = vs.all (·.born ≥ last) := entsDen_all (fun e v hv => by rw [hv, Bool.eq_iff_iff]; simp [Nat.ble_eq]) h
  rw [h1, h2, nilN_eq]
  simp only [List.isEmpty_toArray, List.all_toArray]
  cases seen.isEmpty <;> cases vs.isEmpty <;> rfl
theorem overR_sat {res : Result Next} {d : Nat} (hres : res = .ok (.value (.tuple #[.bool false])) { w with drawn := d }) : overR.Sat (OpSem P H β w base res) :=
  fun _ => ⟨_, _, _, β, hres, rfl, rfl, (Eff.refl P β w base).drew d, by simp⟩
theorem nextM_sat (hr : HeapRel0 P O w0 β H w) {it m since last : Nat} {seen : List Nat} {l : Loc} (hl : β it = some l) (hI : H[it]? = some (.obj (.iter (some m) since seen last))) {ty : TypeId} {res : Result Next}
    (hres : ∀ v w', (Instr.next (.pointer (some ⟨l.blk, 0, none⟩)) false ty).run P w = .ok v w' → res = .ok (.value v) w') : (nextM H it m since seen last).Sat (OpSem P H β w base res) := by
  unfold nextM
  split
  · rename_i es c hm
    rw [nth_eq] at hm
    obtain ⟨lm, o, hlm, _, hd, hhm⟩ := hr.entries _ _ hm
    simp only [SObj.den, Option.map_eq_some_iff] at hd
    obtain ⟨vs, hvs, rfl⟩ := hd
    obtain ⟨l', o, hl', h0, hd, hhi⟩ := hr.entries _ _ hI
    rw [hl] at hl'; cases hl'
    simp only [SObj.den, hlm, Option.map_some, Option.some.injEq] at hd
    subst hd
    refine R.Sat.boolC (fun _ => trivial) fun hg => ?_
    have hcand := candM_rel hvs seen since
    have hgi : (getObj l.blk).run P w = .ok (.mapIter (some lm.blk) since seen.toArray last) w := by simp [getObj, Sem.run, hhi]
    generalize hB : ((if (((vs.toArray.filter fun e => !seen.toArray.contains e.born).filter (·.born < since)).isEmpty) then [none] else []) ++ (((vs.filter fun e => !seen.toArray.contains e.born).filter (·.born < since)) ++ ((vs.filter fun e => !seen.toArray.contains e.born).filter (·.born ≥ since))).map some : List (Option MapEntry)) = bs at hcand
    have hlen := hcand.length
    have hA : ((if (((vs.toArray.filter fun e => !seen.toArray.contains e.born).filter (·.born < since)).isEmpty) then #[none] else #[]) ++ (((vs.toArray.filter fun e => !seen.toArray.contains e.born).filter (·.born < since)) ++ ((vs.toArray.filter fun e => !seen.toArray.contains e.born).filter (·.born ≥ since))).map some : Array (Option MapEntry)) = bs.toArray := by
      rw [← hB]
      split <;> simp
    by_cases hz : bs.length = 0
    · have : candM (leftM es seen) since = [] := List.eq_nil_of_length_eq_zero (by omega)
      rw [this]; trivial
    obtain ⟨n, d, hn, hch⟩ := choose_lt (P := P) (w := w) (n := bs.length) (by omega)
    have hrun : ∀ b, bs[n]? = some b → (Instr.next (.pointer (some ⟨l.blk, 0, none⟩)) false ty).run P w = match b with
        | none => .ok (.tuple #[.bool false]) { w with drawn := d }
        | some e => .ok (.tuple #[.bool true, e.key, e.val]) { w with drawn := d, heap := w.heap.setIfInBounds l.blk (.mapIter (some lm.blk) since (seen.toArray.push e.born) c) } := by
      intro b hb
      have hgm := run_getObj (P := P) hhm
      have hg' := goneM_eq hvs seen last
      rw [hg] at hg'
      simp only [Instr.next, Sem.run_bind, hgi, Result.andThen_ok, hgm, hg', Bool.false_eq_true, if_false, hA]
      have hsz : bs.toArray.size = bs.length := by simp
      have hb' : bs.toArray[n]? = some b := by simpa using hb
      simp only [hsz, hch, Result.andThen_ok, hb']
      cases b with
      | none => rfl
      | some e =>
        have hs : (setObj l.blk (.mapIter (some lm.blk) since (seen.toArray.push e.born) c)).run P { w with drawn := d } = .ok () { w with drawn := d, heap := w.heap.setIfInBounds l.blk (.mapIter (some lm.blk) since (seen.toArray.push e.born) c) } := by
          simp [setObj, Sem.run, hhi]
        simp only [Sem.run_bind, hs, Result.andThen_ok, Sem.run_pure]
    refine oneM_sat (n := n) hcand (by omega) fun a b hb hab => ?_
    have hrb := hrun b hb
    obtain ⟨hab, _⟩ := hab
    cases a with
    | none =>
      cases b with
      | some v => exact hab.elim
      | none => exact overR_sat (hres _ _ hrb)
    | some e =>
      cases b with
      | none => exact hab.elim
      | some v =>
        obtain ⟨h1, h2, h3⟩ := hab
        intro _
        refine ⟨_, _, _, β, hres _ _ hrb, rfl, ?_, (Eff.turnO (o := .iter (some m) since (app seen [e.2.2]) c) (x := .mapIter (some lm.blk) since (seen.toArray.push v.born) c) hl h0 hhi ?_).drew d, ?_⟩
        · simp [SV.den, SV.denL, h1, h2, SB.den]
        · simp [SObj.den, hlm, app_eq, h3]
        · intro k e' hk
          simp at hk
          obtain ⟨rfl, rfl⟩ := hk
          exact ⟨_, hI, rfl⟩
  · trivial
theorem nextS_sat (hr : HeapRel0 P O w0 β H w) {it pos : Nat} {s : SStr} {l : Loc} (hl : β it = some l) (hI : H[it]? = some (.obj (.str s pos))) {ty : TypeId} {res : Result Next}
    (hres : ∀ v w', (Instr.next (.pointer (some ⟨l.blk, 0, none⟩)) true ty).run P w = .ok v w' → res = .ok (.value v) w') : (nextS it s pos).Sat (OpSem P H β w base res) := by
  obtain ⟨l', o, hl', h0, hd, hhi⟩ := hr.entries _ _ hI
  rw [hl] at hl'; cases hl'
  simp only [SObj.den, Option.some.injEq] at hd
  subst hd
  have hgi : (getObj l.blk).run P w = .ok (.stringIter s.den pos) w := by simp [getObj, Sem.run, hhi]
  have hover : ¬ pos < s.den.size → overR.Sat (OpSem P H β w base res) := by
    intro hlt
    refine overR_sat (d := w.drawn) (hres _ _ ?_)
    simp only [Instr.next, Sem.run_bind, hgi, Result.andThen_ok, if_neg hlt, Sem.run_pure]
  have hgo : pos < s.den.size → ∀ v : SV, v.den β = some (.tuple #[.bool true, goInt pos, .int .i32 (Utf8.decode s.den pos).1]) → (R.ok (OpRes.val v [(it, .obj (.str s (pos + (Utf8.decode s.den pos).2)))] [])).Sat (OpSem P H β w base res) := by
    intro hlt v hv _
    have hs : (setObj l.blk (.stringIter s.den (pos + (Utf8.decode s.den pos).2))).run P w = .ok () { w with heap := w.heap.setIfInBounds l.blk (.stringIter s.den (pos + (Utf8.decode s.den pos).2)) } := by
      simp [setObj, Sem.run, hhi]
    refine ⟨_, _, _, β, hres (.tuple #[.bool true, goInt pos, .int .i32 (Utf8.decode s.den pos).1]) _ ?_, rfl, hv, Eff.turnO (x := .stringIter s.den (pos + (Utf8.decode s.den pos).2)) hl h0 hhi rfl, ?_⟩
    · simp only [Instr.next, Sem.run_bind, hgi, Result.andThen_ok, if_pos hlt, hs, Sem.run_pure]
    · intro k e' hk
      simp at hk
      obtain ⟨rfl, rfl⟩ := hk
      exact ⟨_, hI, rfl⟩
  unfold nextS
  split
  · rename_i b
    refine R.Sat.boolC (fun hb => hgo (blt_lt hb) _ (by simp [SV.den, SV.denL, SB.den, SI.den, goInt, SStr.den])) fun hb => hover fun hlt => ?_
    have : Nat.blt pos b.size = true := Nat.ble_eq_true_of_le hlt
    rw [this] at hb; cases hb
  · exact ⟨fun hb => hgo (of_decide_eq_true hb) _ (by simp [SV.den, SV.denL, SB.den, SI.den, goInt]), fun hb => hover (of_decide_eq_false hb)⟩
theorem oNext_sat (hr : HeapRel0 P O w0 β H w) {x : Operand} {b : Bool} (hx : (ev x).den β = some (ρ x)) :
    (oNext x b P ev H base).Sat (OpSem P H β w base ((execOp ρ ⟨dst, .next x b, t, pos, af, g⟩).run P w)) := by
  refine ptrS_sat hx fun a A ha hA hxA => SN.asLit_sat (fun o ho => R.Sat.boolC (fun hz => ?_) fun _ => trivial) fun _ => trivial
  have := Nat.eq_of_beq_eq_true hz
  subst this
  obtain ⟨l, hl, rfl⟩ := SA.den_some hA
  have hres : ∀ e : SObj, H[a.nm]? = some (.obj e) → ∀ v w', (Instr.next (.pointer (some ⟨l.blk, 0, none⟩)) b t).run P w = .ok v w' → (execOp ρ ⟨dst, .next x b, t, pos, af, g⟩).run P w = .ok (.value v) w' := by
    intro e he v w' h
    obtain ⟨l', o, hl', h0, _, _⟩ := hr.entries _ _ he
    rw [hl] at hl'; cases hl'
    rw [ho, h0] at hxA
    simp only [SN.den, Nat.add_zero] at hxA
    simp [execOp, hxA, h]
  split
  · rename_i q1 q2 q3 he
    rw [nth_eq] at he
    refine R.Sat.boolC (fun _ => trivial) fun hb => ?_
    subst hb
    obtain ⟨l', o, hl', h0, hd, hhi⟩ := hr.entries _ _ he
    rw [hl] at hl'; cases hl'
    simp only [SObj.den, Option.some.injEq] at hd
    subst hd
    refine overR_sat (d := w.drawn) (hres _ he _ _ ?_)
    have hgi : (getObj l.blk).run P w = .ok (.mapIter none q1 q2.toArray q3) w := by simp [getObj, Sem.run, hhi]
    simp only [Instr.next, Sem.run_bind, hgi, Result.andThen_ok, Sem.run_pure]
  · rename_i m since seen last he
    rw [nth_eq] at he
    refine R.Sat.boolC (fun _ => trivial) fun hb => ?_
    subst hb
    exact nextM_sat hr hl he (ty := t) (hres _ he)
  · rename_i s pos' he
    rw [nth_eq] at he
    refine R.Sat.boolC (fun hb => ?_) fun _ => trivial
    subst hb
    exact nextS_sat hr hl he (ty := t) (hres _ he)
  · trivial
theorem lastN_eq : ∀ l : List Nat, lastN l = l.getLast?
  | [] => rfl
  | [a] => rfl
  | a :: b :: l => by
    have := lastN_eq (b :: l)
    rw [List.getLast?_cons_cons, ← this]; rfl
theorem bornM_sat {s : Nat} {f : SV × SV × Nat → R OpRes} {φ : OpRes → Prop} : ∀ {es : List (SV × SV × Nat)} {vs : List MapEntry}, entsDen β es = some vs →
    (∀ e v, e.1.den β = some v.key → e.2.1.den β = some v.val → vs.find? (·.born == s) = some v → (f e).Sat φ) → (bornM s f es).Sat φ
  | [], _, _, _ => trivial
  | e :: es, vs, h, hf => by
    simp only [entsDen, Option.bind_eq_some_iff, Option.map_eq_some_iff] at h
    obtain ⟨k, hk, v, hv, rs, hr, rfl⟩ := h
    show R.Sat (boolC (Nat.beq e.2.2 s) (f e) (bornM s f es)) φ
    refine R.Sat.boolC (fun hb => ?_) fun hb => ?_
    · refine hf e ⟨k, v, e.2.2⟩ hk hv ?_
      simp [Nat.eq_of_beq_eq_true hb]
    · refine bornM_sat hr fun e' v' h1 h2 h3 => hf e' v' h1 h2 ?_
      have : (e.2.2 == s) = false := by
        rw [beq_eq_false_iff_ne]
        intro h
        rw [h, show Nat.beq s s = true from Nat.beq_refl s] at hb
        cases hb
      simp [this, h3]
theorem oEntry_sat (hr : HeapRel0 P O w0 β H w) {x : Operand} (hx : (ev x).den β = some (ρ x)) :
    (oEntry x P ev H base).Sat (OpSem P H β w base ((execOp ρ ⟨dst, .entry x, t, pos, af, g⟩).run P w)) := by
  refine ptrS_sat hx fun a A ha hA hxA => SN.asLit_sat (fun o ho => R.Sat.boolC (fun hz => ?_) fun _ => trivial) fun _ => trivial
  have := Nat.eq_of_beq_eq_true hz
  subst this
  obtain ⟨l, hl, rfl⟩ := SA.den_some hA
  split
  · rename_i m q seen stepped he
    rw [nth_eq] at he
    unfold entryM
    split
    · rename_i es c hm
      rw [nth_eq] at hm
      refine R.Sat.boolC (fun hc => ?_) fun _ => trivial
      have := Nat.eq_of_beq_eq_true hc
      subst this
      obtain ⟨lm, o, hlm, _, hd, hhm⟩ := hr.entries _ _ hm
      simp only [SObj.den, Option.map_eq_some_iff] at hd
      obtain ⟨vs, hvs, rfl⟩ := hd
      obtain ⟨l', o, hl', h0, hd, hhi⟩ := hr.entries _ _ he
      rw [hl] at hl'; cases hl'
      simp only [SObj.den, hlm, Option.map_some, Option.some.injEq] at hd
      subst hd
      cases hls : lastN seen with
      | none => trivial
      | some s =>
        rw [optC_some]
        refine bornM_sat hvs fun e v h1 h2 h3 => ?_
        rw [ho, h0] at hxA
        simp only [SN.den, Nat.add_zero] at hxA
        rw [lastN_eq] at hls
        refine sem_val (x := .tuple #[v.key, v.val]) ?_ ?_
        · have hgi : (getObj l.blk).run P w = .ok (.mapIter (some lm.blk) q seen.toArray c) w := by simp [getObj, Sem.run, hhi]
          have hgm := run_getObj (P := P) hhm
          have hbk : seen.toArray.back? = some s := by simpa using hls
          have hfd : vs.toArray.find? (·.born == s) = some v := by simpa using h3
          have hrun : (Instr.entry (.pointer (some ⟨l.blk, 0, none⟩))).run P w = .ok (.tuple #[v.key, v.val]) w := by
            simp only [Instr.entry, Sem.run_bind, hgi, Result.andThen_ok, hbk, hgm, bne_self_eq_false, Bool.false_eq_true, if_false, hfd]
            rfl
          simp [execOp, hxA, hrun]
        · simp only [SV.den, SV.denL, h1, h2]
          rfl
    · trivial
  · trivial
end

end Go.Sim


/-
  The symbolic simulator, sixteenth part: built-ins and calls; every operation.
-/
namespace Go.Sim
variable {α : Type}

section
variable {P : Program} {O : Nat → Prop} {w0 : World} {β : Val} {H : List SO} {w : World} {base : Nat}
variable {ev : Operand → SV} {ρ : Operand → Value} {dst : Option Tmp} {t : TypeId} {pos : String} {af : Array Edge} {g : Option (Nat × Bool)}

theorem srcCells_len (hr : HeapRel0 P O w0 β H w) {v : SV} {x : Value} (hv : v.den β = some x) {size m n : Nat} (hn : ∀ (P : Program) (w' : World), (Builtin.lenOf x).run P w' = .ok n w') (hmn : m ≤ n) {f : List SV → R α} {φ : α → Prop}
    (hf : ∀ l xs, SV.denL β l = some xs → (∀ w' : World, w'.heap = w.heap → (Builtin.firstCells size m x).run P w' = .ok xs.toArray w') → xs.length = m * size → (f l).Sat φ) : (srcCells H size v (.lit m) f).Sat φ := by
  have hlen := hn P w
  unfold srcCells
  split
  · simp only [SV.den, Option.some.injEq] at hv; subst hv
    simp only [Builtin.lenOf, Sem.run_pure, Result.ok.injEq, and_true] at hlen
    exact hf [] [] rfl (fun w' hw' => firstCells_run (w := w) w' hw' (.inl ⟨0, rfl, rfl⟩)) (by
      have : m = 0 := by omega
      rw [this]; simp)
  · rename_i a _ _ n' hm
    cases hm
    rw [den_slice] at hv
    obtain ⟨A, C, hA, hC, _, rfl⟩ := hv
    exact loadN_sat hr hA fun l xs h1 h2 h3 => hf l xs h1 (fun w' hw' => firstCells_run w' hw' (.inr (.inl ⟨A, _, _, rfl, h2, h3⟩))) h2
  · rename_i a k l0 _ n' hm
    cases hm
    rw [den_tail] at hv
    obtain ⟨A, C, hA, hC, hle, rfl⟩ := hv
    simp only [Builtin.lenOf, Sem.run_pure, Result.ok.injEq, and_true] at hlen
    refine loadN_sat hr (SA.plus_den hA k) fun l xs h1 h2 h3 => hf l xs h1 (fun w' hw' => firstCells_run w' hw' (.inr (.inl ⟨_, _, _, rfl, h2, fun j y hy => ?_⟩))) h2
    by_cases hC0 : C = 0
    · have hm0 : m = 0 := by omega
      rw [hm0, Nat.zero_mul] at h2
      rw [List.eq_nil_of_length_eq_zero h2] at hy
      simp at hy
    · rw [if_neg hC0]; exact h3 j y hy
  · rename_i s n' hm
    cases hm
    simp only [SV.den, Option.some.injEq] at hv; subst hv
    simp only [Builtin.lenOf, Sem.run_pure, Result.ok.injEq, and_true] at hlen
    refine R.Sat.boolC (fun h1 => ?_) fun _ => trivial
    have h := Nat.eq_of_beq_eq_true h1
    rw [takeN_eq]
    refine hf _ _ (bytes_den β _) (fun w' hw' => firstCells_run (w := w) w' hw' (.inr (.inr ⟨s, rfl, rfl⟩))) ?_
    rw [h]; simp; have : s.size = s.data.size := rfl
    simp only [SStr.den] at hlen; omega
  · rename_i l n' hm
    cases hm
    simp only [SV.den, Option.some.injEq] at hv; subst hv
    simp only [Builtin.lenOf, Sem.run_pure, Result.ok.injEq, and_true] at hlen
    have hsz : (SStr.bytes l).den.size = l.length := by
      show (l.map fun i => UInt8.ofNat i.den.toNat).toArray.size = _
      simp
    refine R.Sat.boolC (fun h1 => ?_) fun _ => trivial
    have h := Nat.eq_of_beq_eq_true h1
    intro hbnd
    rw [takeN_eq, mapN_eq]
    refine hf _ _ (denL_ints β _) (fun w' hw' => firstCells_run (w := w) w' hw' (.inr (.inr ⟨(SStr.bytes l).den, rfl, ?_⟩))) ?_
    · simp only [SStr.den, bytesOf, ← List.map_take, List.map_map]
      refine List.map_congr_left fun i hi => ?_
      have := hbnd i (List.mem_of_mem_take hi)
      simp only [Function.comp, UInt8.toNat_ofNat']
      rw [Nat.mod_eq_of_lt (by omega)]
      congr 1; omega
    · rw [h]; simp; omega
  · trivial
/-- the setting of an append of bytes -/
structure CatSet (P : Program) (w : World) (tys : Array TypeId) (st elem : TypeId) (i : TypeInfo) (z : Value) (x : Value) (xs : List Value) (n : Nat) (Y : Nat → BitVec 8) : Prop where
  ht : tys[0]? = some st
  hd : P.underlying st = some (.slice elem)
  hi : P.info? elem = some i
  hz : i.zero = some z
  hzl : z.cells.size = i.size
  hm : plainA P tys = true
  hn : (Builtin.lenOf x).run P w = .ok n w
  hx : ∀ w' : World, w'.heap = w.heap → (Builtin.firstCells 1 n x).run P w' = .ok xs.toArray w'
  hxl : xs.length = n
  hY : ∀ j, j < n → xs[j]? = some (.int .u8 ((Y j).toNat : Int))
theorem apCatNew_sat (hr : HeapRel0 P O w0 β H w) {tys : Array TypeId} {st elem ty : TypeId} {i : TypeInfo} {z x : Value} {xs : List Value} {n len c : SN} {Y : Nat → BitVec 8} (S : CatSet P w tys st elem i z x xs n.den Y) {s : SV} {A : Addr} (hs : s.den β = some (.slice (some A) len.den c.den)) {res : Result Next}
    (hres : ∀ v w', (Builtin.append_ tys ty #[.slice (some A) len.den c.den, x]).run P w = .ok v w' → res = .ok (.value v) w') :
    (apCatNew H base elem i.size i.bytes s c len n Y).Sat (OpSem P H β w base res) := by
  refine bytesV_sat hr hs (n := len) rfl fun X os h1 h2 h3 => ?_
  rintro ⟨hgt, ⟨hb1, hb2⟩, hs1⟩
  obtain ⟨cap, hcap, hrun⟩ := run_append_grow' (ty := ty) (bs := some A) (sLen := len.den) (sCap := c.den) (os := os) (xs := xs) S.ht S.hd S.hi S.hz S.hm S.hn (by rw [hs1]; exact S.hx) (by rw [hs1]; exact h3) hgt hb1 hb2
  refine ap_new (c := .fn (byteF (catB X len.den Y)) (len.den + n.den)) (vs := os ++ xs) (len := len.den + n.den) S.hi S.hzl (cat_rel h1 S.hxl h2 S.hY) (by rw [hs1, List.length_append, h1, S.hxl, Nat.mul_one]) hcap (SN.add_den _ _) (hres _ _ ?_)
  rw [hrun]; congr 3; simp
theorem apCatRest_sat (hr : HeapRel0 P O w0 β H w) {tys : Array TypeId} {st elem ty : TypeId} {i : TypeInfo} {z x : Value} {xs : List Value} {n len : SN} {Y : Nat → BitVec 8} (S : CatSet P w tys st elem i z x xs n.den Y) {a : SA} {A : Addr} {nm k C : Nat} (hA : a.den β = some A) (hC : (SC.rest nm k).den β = some C) {res : Result Next}
    (hres : ∀ v w', (Builtin.append_ tys ty #[.slice (some A) len.den C, x]).run P w = .ok v w' → res = .ok (.value v) w') :
    (apCatRest H base elem i.size i.bytes a nm k len n Y).Sat (OpSem P H β w base res) := by
  refine R.Sat.boolC (fun hnm => R.Sat.boolC (fun hk => SN.asLit_sat (fun o ho => R.Sat.boolC (fun ho0 => entry_sat fun e he => ?_) fun _ => trivial) fun _ => trivial) fun _ => trivial) fun _ => trivial
  obtain rfl := Nat.eq_of_beq_eq_true hnm
  obtain rfl := Nat.eq_of_beq_eq_true hk
  obtain rfl := Nat.eq_of_beq_eq_true ho0
  cases e with
  | row => trivial
  | loop => trivial
  | deferred => trivial
  | gone => trivial
  | obj => trivial
  | own cl wh el =>
    refine R.Sat.boolC (fun hel => ?_) fun _ => trivial
    obtain rfl := Nat.eq_of_beq_eq_true hel
    obtain ⟨ll, vs, rest, lo, hi, hbl, h0', hc, hh, hfz, hw, hcap⟩ := hr.entries _ _ he
    obtain ⟨l', hl', hAe⟩ := SA.den_some hA
    rw [hbl] at hl'; cases hl'
    have hAe' : A = ⟨ll.blk, 0, none⟩ := by rw [hAe, h0', ho]; rfl
    have hCe : C = ll.cap := by
      simp only [SC.den, hbl, Option.map_some, Option.some.injEq] at hC; omega
    refine viewC_sat hc fun X hle hX => ?_
    rw [Nat.zero_add] at hle
    rintro ⟨⟨hb1, hb2⟩, hs1⟩
    have hol : (vs.take len.den).length = len.den := by rw [List.length_take]; omega
    have hos : ∀ j, j < len.den → (vs.take len.den)[j]? = some (.int .u8 ((X j).toNat : Int)) := by
      intro j hj
      rw [List.getElem?_take, if_pos hj]
      have := hX j hj
      rw [Nat.zero_add] at this; exact this
    have hcells : ∀ (j : Nat) (y : Value), (vs.take len.den)[j]? = some y → w.cell? (A.add j) = some y := by
      intro j y hy
      rw [hAe', addr_add, cell?_of hh, Nat.zero_add]
      rw [List.getElem?_take] at hy
      split at hy
      · have := (List.getElem?_eq_some_iff.1 hy).1
        simp [List.getElem?_append_left this, hy]
      · cases hy
    have hnewd : CellsRel β (.fn (byteF (catB X len.den Y)) (len.den + n.den)) (vs.take len.den ++ xs) := cat_rel hol S.hxl hos S.hY
    rcases Nat.lt_or_ge C (len.den + n.den) with hgt | hfit
    · obtain ⟨cap, hcap', hrun⟩ := run_append_grow' (ty := ty) (bs := some A) (sLen := len.den) (sCap := C) (os := vs.take len.den) (xs := xs) S.ht S.hd S.hi S.hz S.hm S.hn (by rw [hs1]; exact S.hx)
        (fun w' hw' => firstCells_run w' hw' (.inr (.inl ⟨A, len.den, C, rfl, by rw [hol, hs1, Nat.mul_one], hcells⟩))) hgt hb1 hb2
      exact ap_new_gone (c := .fn _ _) he rfl S.hi S.hzl hnewd (by rw [hs1, List.length_append, hol, S.hxl, Nat.mul_one]) hcap' (SN.add_den _ _) (hres _ _ (by rw [hrun]; congr 3; simp))
    · have hroom : len.den + xs.length ≤ (vs ++ rest).length := by
        have h1 := hcap i S.hi
        rw [hs1, Nat.mul_one] at h1
        rw [S.hxl]; rw [← hCe] at h1; omega
      have hsc : ∀ y ∈ xs, y.oneCell' = true := by
        intro y hy
        obtain ⟨j, hj⟩ := List.getElem?_of_mem hy
        have hlt := (List.getElem?_eq_some_iff.1 hj).1
        rw [S.hY j (by rw [← S.hxl]; exact hlt)] at hj
        cases hj; rfl
      have hrun := run_storeCells (P := P) xs (vs ++ rest) (0 + len.den) 0 w hh hsc hfz.at (by omega)
      rw [Nat.add_zero, Nat.zero_add] at hrun
      have hplace := run_append_place (ty := ty) (bs := some A) (sLen := len.den) (sCap := C) S.ht S.hd S.hi S.hm S.hn (by rw [hs1]; exact S.hx w rfl) hfit (by rw [hAe', hs1, Nat.mul_one]; simp only [addr_add, Nat.zero_add]; exact hrun)
      have hover : overC (vs ++ rest) len.den xs = (vs.take len.den ++ xs) ++ (vs ++ rest).drop (len.den + xs.length) := by
        unfold overC; rw [List.take_append_of_le_length hle]
      have hlt : ll.blk < w.heap.size := (Array.getElem?_eq_some_iff.1 hh).1
      have hlen' : ((vs.take len.den ++ xs) ++ (vs ++ rest).drop (len.den + xs.length)).length = (vs ++ rest).length := by
        rw [← hover, overC_length hroom]
      refine fun hb => ⟨.value _, _, _, β.upd base ll, hres _ _ hplace, rfl, ?_, ?_, ?_⟩
      · rw [den_slice]
        refine ⟨⟨ll.blk, 0, none⟩, C, by simp [SA.den, Val.upd_same, h0', SN.den], by simp [SC.den, Val.upd_same, hCe], by rw [SN.add_den]; exact hfit, by rw [hAe', SN.add_den]⟩
      · refine ⟨Val.upd_le hb.hd, rfl, rfl, rfl, by simp, ?_, ?_, ?_, ?_, ?_, ?_⟩
        · intro m hm
          unfold Val.upd
          rw [if_neg]; simp at hm; omega
        · intro b _ hn
          have := hn a.nm .gone ll (by simp) hbl
          simp [this]
        · intro m e1 e2 h1 h2; simp at h1 h2; rw [h1.2, h2.2]
        · intro m e h1; simp at h1; rw [h1.2]; trivial
        · intro j e hj
          cases j with
          | succ j => simp at hj
          | zero =>
            simp at hj; subst hj
            refine ⟨rfl, ⟨ll, _, (vs ++ rest).drop (len.den + xs.length), lo, hi, Val.upd_same _ _ _, h0', hnewd.mono (Val.upd_le hb.hd), ?_, ?_, by simp, ?_⟩, ll, Val.upd_same _ _ _, .inr ⟨a.nm, ll, by simp, hbl, rfl⟩⟩
            · rw [← hover]; simp [hlt]
            · rw [hlen']; exact hfz
            · intro j hj; rw [hlen']; exact hcap j hj
        · intro j k l l' hjk hj hk; simp at hj hk; omega
      · intro m e hm
        simp at hm
        obtain ⟨rfl, rfl⟩ := hm
        exact ⟨_, he, rfl⟩
theorem apCat_sat (hr : HeapRel0 P O w0 β H w) {tys : Array TypeId} {st elem ty : TypeId} {i : TypeInfo} {z xv : Value} {n len l : SN} {x : SV} (hx : x.den β = some xv) (ht : tys[0]? = some st) (hd : P.underlying st = some (.slice elem)) (hi : P.info? elem = some i) (hz : i.zero = some z) (hzl : z.cells.size = i.size) (hm : plainA P tys = true) (hn : (Builtin.lenOf xv).run P w = .ok n.den w)
    {a : SA} {c : SC} {sv : Value} (hs : (SV.slice a l c).den β = some sv) (hlen : ∀ (P : Program) (w' : World), (Builtin.lenOf sv).run P w' = .ok len.den w') {res : Result Next}
    (hres : ∀ v w', (Builtin.append_ tys ty #[sv, xv]).run P w = .ok v w' → res = .ok (.value v) w') :
    (apCat H base elem i.size i.bytes a l c len n x).Sat (OpSem P H β w base res) := by
  refine bytesV_sat hr hx hn fun Y xs h1 h2 h3 => ?_
  have S : CatSet P w tys st elem i z xv xs n.den Y := ⟨ht, hd, hi, hz, hzl, hm, hn, h3, h1, h2⟩
  have hs0 := hs
  rw [den_slice] at hs
  obtain ⟨A, C, hA, hC, hLC, rfl⟩ := hs
  have hl0 : len.den = l.den := lenOf_slice hlen P w
  rw [← hl0] at hres hs0 hLC
  cases c with
  | lit c' =>
    simp only [SC.den, Option.some.injEq] at hC
    subst hC
    exact apCatNew_sat (c := .lit c') (ty := ty) hr S hs0 hres
  | sym c' =>
    simp only [SC.den, Option.some.injEq] at hC
    subst hC
    exact apCatNew_sat (c := .sym c') (ty := ty) hr S hs0 hres
  | rest nm k => exact apCatRest_sat (ty := ty) hr S hA hC hres
theorem appendP_sat (hr : HeapRel0 P O w0 β H w) {tys : Array TypeId} {ty : TypeId} {s x : SV} {sv xv : Value} (hs : s.den β = some sv) (hx : x.den β = some xv) {res : Result Next}
    (hres : ∀ v w', (Builtin.append_ tys ty #[sv, xv]).run P w = .ok v w' → res = .ok (.value v) w') :
    (appendP P H base tys s x).Sat (OpSem P H β w base res) := by
  refine R.Sat.opt fun st ht => R.Sat.opt fun d hd => asSl_sat (fun elem hde => ?_) trivial
  subst hde
  refine R.Sat.opt fun i hi => R.Sat.boolC (fun hm => R.Sat.opt fun z hz => R.Sat.boolC (fun hzl => lenS_sat hx fun n hn => lenS_sat hs fun len hlen => ?_) fun _ => trivial) fun _ => trivial
  obtain ⟨i', zv, hi', hzv, hden⟩ := zeroS_spec hz
  rw [hi] at hi'; cases hi'
  have hzl' : zv.cells.size = i.size := by
    have h1 := denL_length (hden β)
    have h2 := Nat.eq_of_beq_eq_true hzl
    rw [lenN_eq] at h2; simp at h1; omega
  split
  · rename_i len n
    refine R.Sat.boolC (fun hb1 => R.Sat.boolC (fun hb2 => ?_) fun _ => trivial) fun _ => trivial
    have hb1 := blt_lt hb1
    have hb2 := blt_lt hb2
    refine srcCells_len hr hx hn (Nat.le_refl n) fun new xs hnew hfc hxl => ?_
    have S : ApSet P w tys st elem i zv xv xs n := ⟨ht, hd, hi, hzv, hzl', hm, hn P w, hfc, hxl⟩
    unfold apKnown
    split
    · simp only [SV.den, Option.some.injEq] at hs; subst hs
      have hl0 : len = 0 := lenOf_slice hlen P w
      subst hl0
      refine R.Sat.boolC (fun h0 => ?_) fun h0 => ?_
      · have hn0 : n = 0 := Nat.eq_of_beq_eq_true h0
        subst hn0
        have hxs : xs = [] := List.eq_nil_of_length_eq_zero (by rw [hxl]; simp)
        subst hxs
        exact sem_val (hres _ _ (run_append_place (ty := ty) (bs := none) (sLen := 0) (sCap := 0) (w' := w) ht hd hi hm (hn P w) (hfc w rfl) (by simp [SN.den]) rfl)) rfl
      · have hn0 : 0 < n := by
          rcases Nat.eq_zero_or_pos n with h | h
          · subst h; cases h0
          · exact h
        obtain ⟨cap, hcap, hrun⟩ := run_append_grow' (ty := ty) (bs := none) (sLen := 0) (sCap := 0) (os := []) ht hd hi hzv hm (hn P w) hfc (fun w' _ => rfl) (by simp [SN.den]; exact hn0) (by simpa [SN.den] using hb1) (by simpa [SN.den] using hb2)
        refine ap_new (c := .lst new) (vs := xs) (len := n) hi hzl' hnew hxl (by simpa [SN.den] using hcap) rfl (hres _ _ ?_)
        rw [hrun]; simp [SN.den]
    · rename_i a ln c
      rw [den_slice] at hs
      obtain ⟨A, C, hA, hC, hLC, rfl⟩ := hs
      have hl0 : len = ln.den := lenOf_slice hlen P w
      simp only [SC.den, Option.some.injEq] at hC
      subst hC
      refine apLit_sat (ty := ty) hr S hnew hA (by omega) hb1 hb2 (fun v w' h => hres v w' ?_)
      rw [← hl0]; exact h
    · rename_i a ln nm k
      rw [den_slice] at hs
      obtain ⟨A, C, hA, hC, hLC, rfl⟩ := hs
      have hl0 : len = ln.den := lenOf_slice hlen P w
      refine apRest_sat (ty := ty) hr S hnew hA hC (by omega) hb1 hb2 (fun v w' h => hres v w' ?_)
      rw [← hl0]; exact h
    · trivial
  · unfold apSym
    split
    · exact apCat_sat (ty := ty) hr hx ht hd hi hzv hzl' hm (hn P w) hs hlen hres
    · exact apCat_sat (ty := ty) hr hx ht hd hi hzv hzl' hm (hn P w) hs hlen hres
    · exact apCat_sat (ty := ty) hr hx ht hd hi hzv hzl' hm (hn P w) hs hlen hres
    rename_i hno1 hno2 hno3
    clear hno1 hno2 hno3
    refine fnOf_sat hr hx fun g hg => ?_
    obtain ⟨xs, hxl, hgd, hfc⟩ := hg n.den (fun w' => hn P w')
    unfold apFn
    split
    · simp only [SV.den, Option.some.injEq] at hs; subst hs
      have hl0 := lenOf_slice hlen P w
      refine ⟨fun h0 => fun hs1 => ?_, fun h0 => ?_⟩
      · have hn0 : n.den = 0 := of_decide_eq_true h0
        have hxs : xs = [] := List.eq_nil_of_length_eq_zero (by rw [hxl, hn0])
        subst hxs
        exact sem_val (hres _ _ (run_append_place (ty := ty) (bs := none) (sLen := 0) (sCap := 0) (w' := w) (xs := []) ht hd hi hm (hn P w) (by rw [hs1]; exact hfc w rfl) (by omega) rfl)) (by rw [hn0]; rfl)
      have hpos : ¬ n.den = 0 := of_decide_eq_false h0
      rintro ⟨⟨hr1, hr2⟩, hs1⟩
      obtain ⟨cap, hcap, hrun⟩ := run_append_grow' (ty := ty) (bs := none) (sLen := 0) (sCap := 0) (os := []) (xs := xs) ht hd hi hzv hm (hn P w) (by rw [hs1]; exact hfc) (fun w' _ => rfl) (by omega) (by simpa using hr1) (by simpa using hr2)
      refine ap_new (c := .fn g n.den) (vs := xs) (len := n.den) hi hzl' ⟨hxl, hgd⟩ (by rw [hs1, hxl]; simp) (by simpa using hcap) rfl (hres _ _ ?_)
      rw [hrun]; simp
    · rename_i a ln
      rw [den_slice] at hs
      obtain ⟨A, C, hA, hC, hLC, rfl⟩ := hs
      simp only [SC.den, Option.some.injEq] at hC
      subst hC
      have hl0 := lenOf_slice hlen P w
      have hln : ln.den = 0 := by omega
      rw [hln] at hres
      refine ⟨fun h0 => fun hs1 => ?_, fun h0 => ?_⟩
      · have hn0 : n.den = 0 := of_decide_eq_true h0
        have hxs : xs = [] := List.eq_nil_of_length_eq_zero (by rw [hxl, hn0])
        subst hxs
        refine sem_val (hres _ _ (run_append_place (ty := ty) (bs := some A) (sLen := 0) (sCap := 0) (w' := w) (xs := []) ht hd hi hm (hn P w) (by rw [hs1]; exact hfc w rfl) (by omega) rfl)) ?_
        rw [den_slice]
        exact ⟨A, 0, hA, rfl, Nat.le_refl _, by rw [hn0]; rfl⟩
      have hpos : ¬ n.den = 0 := of_decide_eq_false h0
      rintro ⟨⟨hr1, hr2⟩, hs1⟩
      obtain ⟨cap, hcap, hrun⟩ := run_append_grow' (ty := ty) (bs := some A) (sLen := 0) (sCap := 0) (os := []) (xs := xs) ht hd hi hzv hm (hn P w) (by rw [hs1]; exact hfc)
        (fun w' hw' => firstCells_run (w := w) w' hw' (.inr (.inl ⟨A, 0, 0, rfl, by simp, by simp⟩))) (by omega) (by simpa using hr1) (by simpa using hr2)
      refine ap_new (c := .fn g n.den) (vs := xs) (len := n.den) hi hzl' ⟨hxl, hgd⟩ (by rw [hs1, hxl]; simp) (by simpa using hcap) rfl (hres _ _ ?_)
      rw [hrun]; simp
    · trivial
theorem zeroStr_size (n : Nat) : (zeroStr n).size = n := by simp [zeroStr, ByteArray.size]
theorem zeros_first (n : Nat) : ((zeroStr n).extract 0 n).data.map (fun b => Value.int .u8 (b.toNat : Int)) = Array.replicate n (.int .u8 0) := by
  apply Array.ext'
  simp [zeroStr, ByteArray.data_extract]
theorem zeroCells_u8 {z : Array Value} (hz : z = #[.int .u8 0]) (n : Nat) : Builtin.zeroCells z n = Array.replicate n (.int .u8 0) := by
  subst hz
  apply Array.ext
  · simp [Builtin.zeroCells]
  · intro i h1 h2
    simp [Builtin.zeroCells, Nat.mod_one]
/-- append of a make is append of so many zeros -/
theorem append_zeros {tys : Array TypeId} {st tn elem ty : TypeId} {i : TypeInfo} {z : Value} {k kn : IntKind} {bs : Option Addr} {sLen sCap n : Nat} (ht : tys[0]? = some st) (ht1 : tys[1]? = some tn) (hd : P.underlying st = some (.slice elem)) (htn : P.underlying tn = some (.int kn))
    (hi : P.info? elem = some i) (hz : i.zero = some z) (hzc : z.cells = #[.int .u8 0]) (h1 : i.size = 1) (hb : (sLen + n) * i.bytes < 140737488355328) (hb2 : sLen + n < 140737488355328) :
    (Builtin.append_ tys ty #[.slice bs sLen sCap, .int k n]).run P w = (Builtin.append_ #[st] ty #[.slice bs sLen sCap, .string (zeroStr n)]).run P w := by
  have hu := fun w => run_underlying (P := P) (w := w) hd
  have hu2 := fun w => run_underlying (P := P) (w := w) htn
  have hs := fun w => run_sizeOf (P := P) (w := w) hi
  have hti := fun w => run_typeInfo (P := P) (w := w) hi
  have hzv := fun w => run_zeroValue (P := P) (w := w) hi hz
  have hw : IntKind.i64.wrap (n : Int) = n := by rw [IntKind.wrap_i64]; omega
  have hneg : ¬ ((n : Int) < 0) := by omega
  have hnb : n * i.bytes ≤ (sLen + n) * i.bytes := Nat.mul_le_mul_right _ (by omega)
  have h48i : ¬ (281474976710656 < (n : Int) * (i.bytes : Int)) := by
    rw [← Int.natCast_mul]; omega
  have hzz := fun m => zeroCells_u8 hzc m
  have hstr : ∀ w' : World, (Builtin.firstCells i.size n (.string (zeroStr n))).run P w' = .ok (Array.replicate n (.int .u8 0)) w' := by
    intro w'
    simp only [Builtin.firstCells, Sem.run_pure]
    rw [zeros_first]
  have hlen : (Builtin.lenOf (.string (zeroStr n))).run P w = .ok n w := by
    simp only [Builtin.lenOf, Sem.run_pure, zeroStr_size]
  by_cases hle : sLen + n ≤ sCap
  · simp only [Builtin.append_, ht, ht1]
    by_cases hn : n = 0
    · have hns : n * i.size = 0 := by rw [hn, Nat.zero_mul]
      have hrep : Array.replicate n (Value.int .u8 0) = #[] := by rw [hn]; rfl
      rw [hrep] at hstr
      simp [hu, hu2, hs, hti, asInt, asIntOf, hw, hneg, h48i, hle, hlen, hns, hstr]
    · have hns : ¬ (n * i.size = 0) := by rw [h1]; omega
      simp [hu, hu2, hs, hti, hzv, asInt, asIntOf, hw, hneg, h48i, hle, hlen, hns, hzz, hstr]
  · have hsmall : ¬ (281474976710656 < Builtin.nextslicecap (sLen + n) sCap * i.bytes) := by
      have h2 := Nat.mul_le_mul_right i.bytes (nextcap_le2 (Nat.lt_of_not_le hle))
      rw [Nat.mul_assoc] at h2
      omega
    have h63' : ¬ (9223372036854775807 < ((sLen : Int) + (n : Int))) := by omega
    simp only [Builtin.append_, ht, ht1]
    by_cases hn : n = 0
    · have hns : n * i.size = 0 := by rw [hn, Nat.zero_mul]
      have hrep : Array.replicate n (Value.int .u8 0) = #[] := by rw [hn]; rfl
      rw [hrep] at hstr
      simp [hu, hu2, hs, hti, asInt, asIntOf, hw, hneg, h48i, hle, hlen, hns, hstr, hsmall, h63']
    · have hns : ¬ (n * i.size = 0) := by rw [h1]; omega
      simp [hu, hu2, hs, hti, hzv, asInt, asIntOf, hw, hneg, h48i, hle, hlen, hns, hzz, hstr, hsmall, h63']
theorem isZ1_spec {z : List SV} (h : isZ1 z = true) : z = [.int .u8 (.lit 0)] := by
  unfold isZ1 at h
  split at h
  · rfl
  · cases h
theorem isIntT_spec {t : TypeId} (h : isIntT P t = true) : ∃ k, P.underlying t = some (.int k) := by
  unfold isIntT at h
  cases hd : P.underlying t with
  | none => rw [hd] at h; cases h
  | some d =>
    rw [hd] at h
    cases d <;> first | exact ⟨_, rfl⟩ | cases h
theorem siLit_sat {α : Type} {x : SI} {d : R α} {f : Int → R α} {φ : α → Prop} (h : ∀ n, x = .lit n → (f n).Sat φ) (hd : d.Sat φ) : (x.asLit d f).Sat φ := by
  cases x with
  | lit n => exact h n rfl
  | _ => exact hd
theorem appendT_sat (hr : HeapRel0 P O w0 β H w) {tys : Array TypeId} {ty : TypeId} {s x : SV} {sv xv : Value} (hs : s.den β = some sv) (hx : x.den β = some xv) {res : Result Next}
    (hres : ∀ v w', (Builtin.append_ tys ty #[sv, xv]).run P w = .ok v w' → res = .ok (.value v) w') :
    (appendT P H base tys s x).Sat (OpSem P H β w base res) := by
  refine R.Sat.boolC (fun _ => appendP_sat hr hs hx hres) fun _ => ?_
  refine R.Sat.opt fun st ht => R.Sat.opt fun tn ht1 => R.Sat.boolC (fun hint => R.Sat.opt fun d hd => asSl_sat (fun elem hde => ?_) trivial) fun _ => trivial
  subst hde
  refine R.Sat.opt fun i hi => R.Sat.opt fun z hz => R.Sat.boolC (fun hz1 => R.Sat.boolC (fun hsz => lenS_sat hs fun len hlen => ?_) fun _ => trivial) fun _ => trivial
  obtain ⟨kn, htn⟩ := isIntT_spec hint
  obtain ⟨i', zv, hi', hzv, hden⟩ := zeroS_spec hz
  rw [hi] at hi'; cases hi'
  have h1 : i.size = 1 := Nat.eq_of_beq_eq_true hsz
  have hzc : zv.cells = #[.int .u8 0] := by
    have := hden β
    rw [isZ1_spec hz1] at this
    apply Array.ext'
    exact (Option.some.inj this).symm
  rcases asInt_cases x with ⟨k, n, rfl⟩ | hno
  · show (appendN P H base st i.bytes s len n).Sat _
    have hxv : xv = .int k n.den := (Option.some.inj hx).symm
    subst hxv
    have key : ∀ (m : Nat) (x' : SV), n.den = m → roomy (len.den + m) i.bytes → x'.den β = some (.string (zeroStr m)) → (appendP P H base #[st] s x').Sat (OpSem P H β w base res) := by
      intro m x' hm hro hx'
      refine appendP_sat (ty := ty) hr hs hx' fun v w' h => hres v w' ?_
      rw [hm]
      have hsl : ∃ bs c, sv = .slice bs len.den c := by
        have := hlen P w
        cases sv <;> simp [Builtin.lenOf] at this
        case slice bs l c => exact ⟨bs, c, by rw [this]⟩
        case string str =>
          exfalso
          simp [Builtin.append_, run_underlying hd] at h
      obtain ⟨bs, c, rfl⟩ := hsl
      rw [append_zeros ht ht1 hd htn hi hzv hzc h1 hro.1 hro.2]
      exact h
    refine siLit_sat (fun m hm => ?_) ?_
    · cases m with
      | negSucc m => trivial
      | ofNat m =>
        have hn : n.den = (m : Nat) := by rw [hm]; rfl
        refine SN.asLit_sat (fun l hl => R.Sat.boolC (fun hb1 => R.Sat.boolC (fun hb2 => key m _ hn ?_ rfl) fun _ => trivial) fun _ => trivial) fun _ => fun hro => key m _ hn hro rfl
        rw [hl]
        exact ⟨blt_lt hb1, blt_lt hb2⟩
    · exact fun hp => key n.den.toNat _ (by omega) hp.2 rfl
  · rw [hno]; trivial
theorem copyN_sat (hr : HeapRel0 P O w0 β H w) {tys : Array TypeId} {st elem ty : TypeId} {i : TypeInfo} {d x : SV} {dv xv : Value} (hdv : d.den β = some dv) (hx : x.den β = some xv) (ht : tys[0]? = some st) (hd : P.underlying st = some (.slice elem)) (hi : P.info? elem = some i) (hs1 : i.size = 1)
    {len n m : SN} (hmL : m.den ≤ n.den) {g : R OpRes → R OpRes} (hg : ∀ (r : R OpRes) (φ : OpRes → Prop), (min n.den len.den = m.den → r.Sat φ) → (g r).Sat φ) (hn : ∀ (P : Program) (w' : World), (Builtin.lenOf xv).run P w' = .ok n.den w') (hlen : ∀ (P : Program) (w' : World), (Builtin.lenOf dv).run P w' = .ok len.den w') {res : Result Next}
    (hres : ∀ v w', (Builtin.copy_ tys ty #[dv, xv]).run P w = .ok v w' → res = .ok (.value v) w') : (copyN H d x m g).Sat (OpSem P H β w base res) := by
  unfold copyN
  split
  · rename_i a ln c
    rw [den_slice] at hdv
    obtain ⟨A, C, hA, hC, _, rfl⟩ := hdv
    have hl0 : len.den = ln.den := lenOf_slice hlen P w
    refine bytesV_satL hr hx (hn P w) hmL fun Y xs h1 h2 h3 => hg _ _ fun hm => entry_sat fun e he => ?_
    split
    · rename_i cl wh el
      obtain ⟨ll, vs, rest, lo, hi', hbl, h0', hc, hh, hfz, hw, hcap⟩ := hr.entries _ _ he
      obtain ⟨l', hl', rfl⟩ := SA.den_some hA
      rw [hbl] at hl'; cases hl'
      have hsc : ∀ y ∈ xs, y.oneCell' = true := by
        intro y hy
        obtain ⟨j, hj⟩ := List.getElem?_of_mem hy
        have hlt := (List.getElem?_eq_some_iff.1 hj).1
        rw [h2 j (by omega)] at hj
        cases hj; rfl
      refine putC_sat hc h1 h2 fun c' hc' hle2 => ?_
      have hrun := run_storeCells (P := P) xs (vs ++ rest) (ll.off + a.off.den) 0 w hh hsc hfz.at (by rw [h0']; simp; omega)
      rw [Nat.add_zero, h0', Nat.zero_add, overC_append hle2] at hrun
      have hu := run_underlying (w := w) hd
      have hcopy : ∀ W', (storeCells ⟨ll.blk, a.off.den, none⟩ xs).run P w = .ok () W' → (Builtin.copy_ tys ty #[.slice (some ⟨ll.blk, 0 + a.off.den, none⟩) ln.den C, xv]).run P w = .ok (goInt (m.den : Nat)) W' := by
        intro W' hst
        have hmin : min n.den ln.den = m.den := by omega
        have h4 := h3 w rfl
        have h5 := hn P w
        unfold Builtin.copy_
        simp only [ht, List.getElem?_toArray, List.getElem?_cons_zero, List.getElem?_cons_succ, Sem.run_bind, hu, Result.andThen_ok, h5, run_sizeOf hi, hs1, hmin, h4]
        rw [Nat.zero_add]
        simp [hst]
      rw [h0'] at hres
      refine fun hb => ⟨.value _, _, _, β, hres _ _ (hcopy _ hrun), rfl, by show some (Value.int .i64 m.toI.den) = _; rw [toI_den]; rfl, Eff.turn hbl ?_, ?_⟩
      · have hlt : ll.blk < w.heap.size := (Array.getElem?_eq_some_iff.1 hh).1
        refine ⟨ll, overC vs a.off.den xs, rest, lo, hi', hbl, h0', hc', by simp [hlt], ?_, hw, ?_⟩
        · simp only [List.length_append, overC_length hle2] at hfz ⊢; exact hfz
        · intro j hj
          have := hcap j hj
          simp only [List.length_append, overC_length hle2] at this ⊢; exact this
      · intro m' e hm'
        simp at hm'
        obtain ⟨rfl, rfl⟩ := hm'
        exact ⟨_, he, rfl⟩
    · trivial
  · trivial
theorem copyV_sat (hr : HeapRel0 P O w0 β H w) {tys : Array TypeId} {st elem ty : TypeId} {i : TypeInfo} {d x : SV} {dv xv : Value} (hdv : d.den β = some dv) (hx : x.den β = some xv) (ht : tys[0]? = some st) (hd : P.underlying st = some (.slice elem)) (hi : P.info? elem = some i) (hs1 : i.size = 1)
    {len n : SN} (hn : ∀ (P : Program) (w' : World), (Builtin.lenOf xv).run P w' = .ok n.den w') (hlen : ∀ (P : Program) (w' : World), (Builtin.lenOf dv).run P w' = .ok len.den w') {res : Result Next}
    (hres : ∀ v w', (Builtin.copy_ tys ty #[dv, xv]).run P w = .ok v w' → res = .ok (.value v) w') : (copyV H d x len n).Sat (OpSem P H β w base res) := by
  unfold copyV
  refine R.Sat.boolC (fun _ => ⟨fun hb => ?_, fun hb => ?_⟩) fun _ => ?_
  · exact copyN_sat hr hdv hx ht hd hi hs1 (len := len) (n := n) (g := fun r => r) (Nat.le_refl _) (fun _ _ h => h (Nat.min_eq_left (of_decide_eq_true hb))) hn hlen hres
  · have hle : len.den ≤ n.den := by have := of_decide_eq_false hb; omega
    exact copyN_sat hr hdv hx ht hd hi hs1 (len := len) (n := n) (g := fun r => r) hle (fun _ _ h => h (Nat.min_eq_right hle)) hn hlen hres
  · exact copyN_sat hr hdv hx ht hd hi hs1 (len := len) (n := n) (g := fun r => .need (n.den ≤ len.den) r) (Nat.le_refl _) (fun _ _ h => fun hle => h (Nat.min_eq_left hle)) hn hlen hres
theorem copyT_sat (hr : HeapRel0 P O w0 β H w) {tys : Array TypeId} {ty : TypeId} {d x : SV} {dv xv : Value} (hdv : d.den β = some dv) (hx : x.den β = some xv) {res : Result Next}
    (hres : ∀ v w', (Builtin.copy_ tys ty #[dv, xv]).run P w = .ok v w' → res = .ok (.value v) w') :
    (copyT P H tys d x).Sat (OpSem P H β w base res) := by
  refine R.Sat.opt fun st ht => R.Sat.opt fun td hd => ?_
  have hu := run_underlying (w := w) hd
  split
  · rename_i elem
    refine R.Sat.opt fun i hi => lenS_sat hx fun n hn => lenS_sat hdv fun len hlen => ?_
    split
    · rename_i len n
      refine srcCells_len (m := Nat.min n len) hr hx hn (Nat.min_le_left _ _) fun new xs hnew hfc hxl => ?_
      have hcopy : ∀ (bs : Option Addr) (c : Nat) (w' : World), dv = .slice bs len c → (match bs with | some a => storeCells a xs | none => pure () : Sem Unit).run P w = .ok () w' →
          (Builtin.copy_ tys ty #[dv, xv]).run P w = .ok (goInt (Nat.min n len : Nat)) w' := by
        intro bs c w' hdv' hst
        subst hdv'
        have h1 := hfc w rfl
        have h2 := hn P w
        simp only [SN.den] at h2
        unfold Builtin.copy_
        simp only [ht, List.getElem?_toArray, List.getElem?_cons_zero, List.getElem?_cons_succ, Sem.run_bind, hu, Result.andThen_ok, h2, run_sizeOf hi, h1]
        cases bs with
        | none => simp at hst; subst hst; simp
        | some a => simp at hst; simp [hst]
      split
      · simp only [SV.den, Option.some.injEq] at hdv; subst hdv
        have hl0 := lenOf_slice hlen P w
        simp only [SN.den] at hl0
        subst hl0
        exact sem_val (hres _ _ (hcopy none 0 w rfl rfl)) rfl
      · rename_i a ln c
        rw [den_slice] at hdv
        obtain ⟨A, C, hA, hC, _, rfl⟩ := hdv
        have hl0 : len = ln.den := lenOf_slice hlen P w
        split
        · rename_i hm0
          have hxs : xs = [] := List.eq_nil_of_length_eq_zero (by rw [hxl, hm0]; simp)
          subst hxs
          refine sem_val (x := goInt (Nat.min n len : Nat)) (hres _ _ (hcopy (some A) C w (by rw [← hl0]) rfl)) ?_
          rw [hm0]; rfl
        · split
          · rename_i hsc
            refine entry_sat fun e he => ?_
            split
            · rename_i cl wh el
              obtain ⟨ll, vs, rest, lo, hi', hbl, h0', hc, hh, hfz, hw, hcap⟩ := hr.entries _ _ he
              obtain ⟨l', hl', rfl⟩ := SA.den_some hA
              rw [hbl] at hl'; cases hl'
              refine wrCells_sat hc hnew fun c' hc' hle => ?_
              have hrun := run_storeCells (P := P) xs (vs ++ rest) (ll.off + a.off.den) 0 w hh (denL_one hnew hsc) hfz.at (by rw [h0']; simp; omega)
              rw [Nat.add_zero, h0', Nat.zero_add, overC_append hle] at hrun
              refine fun hb => ⟨.value _, _, _, β, hres _ _ (hcopy _ C _ (by rw [← hl0]) (by rw [h0', Nat.zero_add]; exact hrun)), rfl, rfl, Eff.turn hbl ?_, ?_⟩
              · have hlt : ll.blk < w.heap.size := (Array.getElem?_eq_some_iff.1 hh).1
                refine ⟨ll, overC vs a.off.den xs, rest, lo, hi', hbl, h0', hc', by simp [hlt], ?_, hw, ?_⟩
                · simp only [List.length_append, overC_length hle] at hfz ⊢; exact hfz
                · intro j hj
                  have := hcap j hj
                  simp only [List.length_append, overC_length hle] at this ⊢; exact this
              · intro m e hm
                simp at hm
                obtain ⟨rfl, rfl⟩ := hm
                exact ⟨_, he, rfl⟩
            · trivial
          · trivial
      · trivial
    · exact R.Sat.boolC (fun hs1 => copyV_sat (ty := ty) hr hdv hx ht hd hi (Nat.eq_of_beq_eq_true hs1) hn hlen hres) fun _ => trivial
  · trivial

theorem run_builtin_value {P : Program} {b : Builtin} {tys : Array TypeId} {ty : TypeId} {cs : Array Bool} {args : Array Value} {w w' : World} {v : Value} {s : Sem Value} (h : builtin b tys ty cs args = (do pure (.value (← s)) : Sem Next)) (hs : s.run P w = .ok v w') :
    (builtin b tys ty cs args).run P w = .ok (.value v) w' := by
  rw [h]; simp [hs]
theorem oCallB_sat (hr : HeapRel0 P O w0 β H w) {b : Builtin} {args : Array Operand} {tys : Array TypeId} (hev : ∀ x ∈ args.toList, (ev x).den β = some (ρ x)) :
    (oCallB b ⟨.builtin b, args, tys⟩ P ev H base).Sat (OpSem P H β w base ((execOp ρ ⟨dst, .call ⟨.builtin b, args, tys⟩, t, pos, af, g⟩).run P w)) := by
  have hargs := mapEv_den args.toList hev
  have hex : (execOp ρ ⟨dst, .call ⟨.builtin b, args, tys⟩, t, pos, af, g⟩).run P w = (builtin b tys t (args.map fun | .const _ => true | _ => false) (args.toList.map ρ).toArray).run P w := by
    simp only [execOp, resolve, Sem.run_bind, Sem.run_pure, Result.andThen_ok, invoke]
    congr 2
    simp [← Array.toList_map]
  rw [hex]
  generalize (args.map fun | Operand.const _ => true | _ => false) = cs
  show (builtinT P H base b tys (mapN ev args.toList)).Sat _
  generalize hA : mapN ev args.toList = az at hargs
  generalize args.toList.map ρ = vs at hargs
  unfold builtinT
  split
  · rename_i x xs
    obtain ⟨y, ys, hy, hys, rfl⟩ := denL_cons.1 hargs
    exact lenM_sat hr hy (ty := t) fun n hn => run_builtin_value rfl hn
  · rename_i m k
    obtain ⟨y, ys, hy, hys, rfl⟩ := denL_cons.1 hargs
    obtain ⟨z, zs, hz, hzs, rfl⟩ := denL_cons.1 hys
    rw [denL_nil] at hzs; subst hzs
    exact deleteT_sat hr hy hz (ty := t) fun v w' h => run_builtin_value rfl h
  · rename_i m
    obtain ⟨y, ys, hy, hys, rfl⟩ := denL_cons.1 hargs
    rw [denL_nil] at hys; subst hys
    exact clearT_sat hr hy (ty := t) fun v w' h => run_builtin_value rfl h
  · rename_i s x
    obtain ⟨y, ys, hy, hys, rfl⟩ := denL_cons.1 hargs
    obtain ⟨z, zs, hz, hzs, rfl⟩ := denL_cons.1 hys
    rw [denL_nil] at hzs; subst hzs
    exact appendT_sat hr hy hz (ty := t) fun v w' h => run_builtin_value rfl h
  · rename_i d x
    obtain ⟨y, ys, hy, hys, rfl⟩ := denL_cons.1 hargs
    obtain ⟨z, zs, hz, hzs, rfl⟩ := denL_cons.1 hys
    rw [denL_nil] at hzs; subst hzs
    exact copyT_sat hr hy hz (ty := t) fun v w' h => run_builtin_value rfl h
  · rename_i x y
    obtain ⟨y1, ys, hy, hys, rfl⟩ := denL_cons.1 hargs
    obtain ⟨z, zs, hz, hzs, rfl⟩ := denL_cons.1 hys
    rw [denL_nil] at hzs; subst hzs
    refine (min2_sat (P := P) (w := w) hy hz).bind fun v ⟨u, hu, hrun⟩ => sem_val (run_builtin_value rfl (s := Builtin.min_ tys t #[y1, z]) ?_) hu
    simp [Builtin.min_, hrun]
  · rename_i x y
    obtain ⟨y1, ys, hy, hys, rfl⟩ := denL_cons.1 hargs
    obtain ⟨z, zs, hz, hzs, rfl⟩ := denL_cons.1 hys
    rw [denL_nil] at hzs; subst hzs
    refine (max2_sat (P := P) (w := w) hy hz).bind fun v ⟨u, hu, hrun⟩ => sem_val (run_builtin_value rfl (s := Builtin.max_ tys t #[y1, z]) ?_) hu
    simp [Builtin.max_, hrun]
  · trivial
theorem asFunc_cases (v : SV) : (∃ f xs ys, v = .func f xs ys) ∨ ∀ {γ : Type} (d : γ) (f : SFn → List SV → List SV → γ), v.asFunc d f = d := by
  cases v <;> first | exact .inl ⟨_, _, _, rfl⟩ | exact .inr fun _ _ => rfl
theorem callT_sat {f : SV} {fv : Value} {az : List SV} {vs : List Value} (hf : f.den β = some fv) (has : SV.denL β az = some vs) :
    (callT f az).Sat (OpSem P H β w base ((do let d ← Deferred.ofValue fv vs.toArray; invoke d.target d.args : Sem Next).run P w)) := by
  unfold callT
  rcases asFunc_cases f with ⟨fn, xs, ys, h⟩ | h
  · rw [h] at hf ⊢
    simp only [SV.den, Option.bind_eq_some_iff, Option.map_eq_some_iff] at hf
    obtain ⟨F, hF, x, hx, y, hy, rfl⟩ := hf
    cases fn with
    | yield nm =>
      simp only [SFn.den, Option.map_eq_some_iff] at hF
      obtain ⟨l, hl, rfl⟩ := hF
      refine ⟨l, x ++ vs, hl, app_den hx has, ?_⟩
      simp [Deferred.ofValue, invoke]
    | fn fn =>
      simp only [SFn.den, Option.some.injEq] at hF
      subst hF
      cases fn with
      | func g =>
        refine ⟨x ++ (vs ++ y), app_den hx (app_den has hy), ?_⟩
        simp [Deferred.ofValue, invoke]
      | method => trivial
      | methodOf => trivial
      | via => trivial
      | yield => trivial
  · rw [h]; trivial
theorem viaT_sat0 {path : List FieldStep} {g : FuncId} {az : List SV} {vs : List Value} (has : SV.denL β az = some vs) :
    (viaT P path g az).Sat fun r => ∃ args x xs y xt e, r = .enter g args ∧ vs = x :: xs ∧ SV.denL β args = some (y :: xs) ∧ (∀ ty, (follow path ty (.val x)).run P w = .ok (xt, .val y) w) ∧ (underlying xt).run P w = .ok (.pointer e) w ∧ path.isEmpty = false := by
  unfold viaT
  split
  · rename_i s l rest
    obtain ⟨x, xs, hx, hxs, rfl⟩ := denL_cons.1 has
    simp only [SV.den, Option.map_eq_some_iff] at hx
    obtain ⟨cs, hcs, rfl⟩ := hx
    split
    · trivial
    · rename_i hd
      refine R.Sat.opt fun d hu => ?_
      split
      · rename_i fs
        refine R.Sat.opt fun f hf => R.Sat.opt fun d2 hu2 => ?_
        have h1 := run_underlying (w := w) hu
        have h2 := run_underlying (w := w) hu2
        rw [nth_eq] at hf
        have hf' : fs[s.index]? = some f := by rw [← hf]; simp
        split
        · rename_i e
          refine partS_sat (w := w) hcs fun v x hv hpart => ?_
          refine ⟨_, _, _, x, f.type, e, rfl, rfl, denL_cons.2 ⟨x, xs, hv, hxs, rfl⟩, fun ty => ?_, h2, rfl⟩
          simp [follow, h1, hf', hd, hpart]
        · trivial
      · trivial
  · trivial
theorem viaT_sat {ty : TypeId} {path : Array FieldStep} {g : FuncId} {cap : Array Value} {az : List SV} {vs : List Value} (has : SV.denL β az = some vs) :
    (viaT P path.toList g az).Sat (OpSem P H β w base ((invoke (.fn (.via ty path g true) cap) vs.toArray : Sem Next).run P w)) := by
  refine R.Sat.mono (viaT_sat0 (w := w) has) fun r ⟨args, x, xs, y, xt, e, hr, hvs, hargs, hf, hu, _⟩ => ?_
  subst hr hvs
  refine ⟨y :: xs, hargs, ?_⟩
  simp [invoke, receiverVia, hf, receiverAt, hu, Place.get]
theorem methodT_sat {ty : TypeId} {name : String} {cap : Array Value} {az : List SV} {vs : List Value} (has : SV.denL β az = some vs) :
    (methodT P ty name az).Sat (OpSem P H β w base ((invoke (.fn (.methodOf ty name) cap) vs.toArray : Sem Next).run P w)) := by
  unfold methodT
  refine R.Sat.opt fun d hu => ?_
  split
  · rename_i fs
    refine R.Sat.opt fun i hi => R.Sat.opt fun m hm => ?_
    split
    · rename_i g hmf
      have h1 := run_underlying (w := w) hu
      have h2 := run_typeInfo (w := w) hi
      refine R.Sat.mono (viaT_sat0 (w := w) has) fun r ⟨args, x, xs, y, xt, e, hr, hvs, hargs, hf, hu, hp⟩ => ?_
      subst hr hvs
      refine ⟨y :: xs, hargs, ?_⟩
      have hm' : (i.methods.find? fun m => m.name == name) = some m := hm
      have hmeth : ∀ n, (method (n + 1) ty x name).run P w = .ok (g, y) w := fun n => by
        unfold method
        simp [h2, hm', hmf, hf, receiverAt, hu, Place.get]
      have hm2 : (method (P.types.size + Made.depth) ty x name).run P w = .ok (g, y) w := hmeth (P.types.size + 99)
      simp [invoke, h1, callMethod, hm2]
    · trivial
  · trivial
theorem callP_sat {f : SV} {fv : Value} {az : List SV} {vs : List Value} (hf : f.den β = some fv) (has : SV.denL β az = some vs) :
    (callP P f az).Sat (OpSem P H β w base ((do let d ← Deferred.ofValue fv vs.toArray; invoke d.target d.args : Sem Next).run P w)) := by
  unfold callP
  split
  · rename_i ty path g xs ys
    simp only [SV.den, Option.bind_eq_some_iff, Option.map_eq_some_iff] at hf
    obtain ⟨F, hF, x, hx, y, hy, rfl⟩ := hf
    simp only [SFn.den, Option.some.injEq] at hF
    subst hF
    have h := viaT_sat (P := P) (H := H) (w := w) (base := base) (ty := ty) (path := path) (g := g) (cap := y.toArray) (app_den hx has)
    simpa [Deferred.ofValue] using h
  · rename_i ty name xs ys
    simp only [SV.den, Option.bind_eq_some_iff, Option.map_eq_some_iff] at hf
    obtain ⟨F, hF, x, hx, y, hy, rfl⟩ := hf
    simp only [SFn.den, Option.some.injEq] at hF
    subst hF
    have h := methodT_sat (P := P) (H := H) (w := w) (base := base) (ty := ty) (name := name) (cap := y.toArray) (app_den hx has)
    simpa [Deferred.ofValue] using h
  · exact callT_sat hf has
theorem oCallV_sat {f : Operand} {args : Array Operand} {tys : Array TypeId} (hf : (ev f).den β = some (ρ f)) (hev : ∀ x ∈ args.toList, (ev x).den β = some (ρ x)) :
    (oCallV f ⟨.value f, args, tys⟩ P ev H base).Sat (OpSem P H β w base ((execOp ρ ⟨dst, .call ⟨.value f, args, tys⟩, t, pos, af, g⟩).run P w)) := by
  have hargs := mapEv_den args.toList hev
  have h := callP_sat (P := P) (H := H) (w := w) (base := base) hf hargs
  have e : (args.toList.map ρ).toArray = args.map ρ := by simp [← Array.toList_map]
  rw [e] at h
  exact h

/-- EVERY OPERATION -/
theorem opS_sat (hr : HeapRel0 P O w0 β H w) (o : Oper) (hev : ∀ x ∈ o.op.operands, (ev x).den β = some (ρ x)) :
    (opS P ev H base o).Sat (OpSem P H β w base ((execOp ρ o).run P w)) := by
  obtain ⟨dst, op, t, pos, af, g⟩ := o
  show (opD op P ev H base).Sat _
  cases op <;> simp only [Op.operands] at hev
  case move x => exact (oMove_sat (hev x (by simp))).1
  case assign x => exact (oMove_sat (hev x (by simp))).2
  case pick c a b => exact oPick_sat (hev c (by simp)) (hev a (by simp)) (hev b (by simp))
  case alloc e => exact oAlloc_sat (ev := ev)
  case box e x => exact oBox_sat (hev x (by simp))
  case build ty ps => exact oBuild_sat fun x hx => hev x (by simpa using hx)
  case buildSlice ty n ps => exact oBuildSlice_sat fun x hx => hev x (by simpa using hx)
  case load ty a => exact oLoad_sat hr (hev a (by simp))
  case store ty a x => exact oStore_sat hr (hev a (by simp)) (hev x (by simp))
  case nilCheck x => exact oNil_sat (hev x (by simp))
  case binOp op ty x y yt => exact oBin_sat (hev x (by simp)) (hev y (by simp))
  case unOp op ty x => exact oUn_sat (hev x (by simp))
  case convert s d x => exact oConv_sat hr (hev x (by simp))
  case sliceToArrayPointer ty x => exact oArr_sat (hev x (by simp))
  case makeInterface ty x => exact oIface_sat (hev x (by simp))
  case makeFunc fn xs ys => exact oFunc_sat (fun x hx => hev x (by simp at hx ⊢; exact .inl hx)) (fun x hx => hev x (by simp at hx ⊢; exact .inr hx))
  case makeSlice ty l c => exact oMakeSlice_sat (hev l (by simp)) (hev c (by simp))
  case slice ty x lo hi mx =>
    have ho : ∀ v : Option Operand, (∀ y, v = some y → (ev y).den β = some (ρ y)) → ODen β (v.map ev) (v.map ρ) := by
      intro v hv
      cases v with
      | none => trivial
      | some y => exact hv y rfl
    exact oSlice_sat (hev x (by simp)) (ho lo fun y hy => hev y (by subst hy; simp)) (ho hi fun y hy => hev y (by subst hy; simp)) (ho mx fun y hy => hev y (by subst hy; simp))
  case fieldAddr ty x n => exact oFieldAddr_sat (hev x (by simp))
  case field ty x n => exact oField_sat (hev x (by simp))
  case indexAddr ty x i => exact oIndexAddr_sat (hev x (by simp)) (hev i (by simp))
  case index ty x i => exact oIndex_sat (hev x (by simp)) (hev i (by simp))
  case extract x n => exact oExtract_sat (hev x (by simp))
  case insert ty m k x => exact (oMapUpdate_sat hr (hev m (by simp)) (hev k (by simp)) (hev x (by simp))).2
  case makeMap ty r => exact oMakeMap_sat fun x hx => hev x (by subst hx; simp)
  case lookup ty x k ok => exact oLookup_sat hr (hev x (by simp)) (hev k (by simp))
  case mapUpdate ty m k x => exact (oMapUpdate_sat hr (hev m (by simp)) (hev k (by simp)) (hev x (by simp))).1
  case mapEntry ty m k => exact oMapEntry_sat hr (hev m (by simp)) (hev k (by simp))
  case entryStore ty m s x => exact oEntryStore_sat hr (hev m (by simp)) (hev s (by simp)) (hev x (by simp))
  case range ty x => exact oRange_sat hr (hev x (by simp))
  case next x b => exact oNext_sat hr (hev x (by simp))
  case entry x => exact oEntry_sat hr (hev x (by simp))
  case call c =>
    obtain ⟨callee, args, tys⟩ := c
    simp only [Call.operands] at hev
    cases callee with
    | value f => exact oCallV_sat (hev f (by simp)) fun x hx => hev x (by simp at hx ⊢; exact .inr hx)
    | invoke r m => trivial
    | builtin b => exact oCallB_sat hr fun x hx => hev x (by simp at hx ⊢; exact hx)
  all_goals trivial

end
end Go.Sim


/-
  The symbolic simulator, seventeenth part: frames and machines; the plain steps.
-/
namespace Go.Sim
variable {α : Type}

/-- obligations of a tree -/
def Tree.Ob (t : Tree) (D : SV → List SO → Prop) (S : SS → Prop) : Prop :=
  match t with
  | .done v H => D v H
  | .stop s => S s
  | .need p t => p ∧ t.Ob D S
  | .fork b t f => (b = true → t.Ob D S) ∧ (b = false → f.Ob D S)
  | .stuck _ => False
  | .any k => ∀ z, (k z).Ob D S
theorem R.tree_ob {r : R α} {k : α → Tree} {φ : α → Prop} {D : SV → List SO → Prop} {S : SS → Prop} (h : r.Sat φ) (ho : (r.tree k).Ob D S) : ∃ a, φ a ∧ (k a).Ob D S := by
  induction r with
  | ok a => exact ⟨a, h, ho⟩
  | need p r ih => exact ih (h ho.1) ho.2
  | fork b t f iht ihf =>
    cases b with
    | true => exact iht (h.1 rfl) (ho.1 rfl)
    | false => exact ihf (h.2 rfl) (ho.2 rfl)
  | stuck n => exact ho.elim
  | any k ih => obtain ⟨z, h⟩ := h; exact ih z h (ho z)

def GlobRel (glob : Nat → Option Nat) (β : Val) : Prop := ∀ g nm, glob g = some nm → ∃ l, β nm = some l ∧ l.blk = g ∧ l.off = 0
theorem GlobRel.mono {glob : Nat → Option Nat} {β β' : Val} (h : GlobRel glob β) (hl : β.le β') : GlobRel glob β' := fun g nm hg => let ⟨l, a, b⟩ := h g nm hg; ⟨l, hl _ _ a, b⟩
/-- these operations, in this order -/
def OpsAt (os : Array Oper) : List Nat → List Oper → Prop
  | [], [] => True
  | i :: is, o :: l => os[i]? = some o ∧ OpsAt os is l
  | _, _ => False
theorem OpsAt.range {os : Array Oper} : ∀ {l pre : List Oper}, os.toList = pre ++ l → OpsAt os (List.range' pre.length l.length) l
  | [], _, _ => trivial
  | o :: l, pre, h => by
    rw [List.length_cons, List.range'_succ]
    refine ⟨by rw [← Array.getElem?_toList, h]; simp, ?_⟩
    have := OpsAt.range (os := os) (l := l) (pre := pre ++ [o]) (by rw [h]; simp)
    simpa using this
theorem OpsAt.all (os : Array Oper) : OpsAt os (List.range os.size) os.toList := by
  have := OpsAt.range (os := os) (l := os.toList) (pre := []) rfl
  rw [List.range_eq_range']
  simpa using this
theorem OpsAt.drop (os : Array Oper) (s : Nat) : OpsAt os (List.range' s (os.size - s)) (os.toList.drop s) := by
  rcases Nat.lt_or_ge os.size s with h | h
  · rw [show os.size - s = 0 from by omega, List.drop_eq_nil_of_le (by simp; omega)]; trivial
  · have := OpsAt.range (os := os) (l := os.toList.drop s) (pre := os.toList.take s) (List.take_append_drop _ _).symm
    rw [List.length_take, List.length_drop, Array.length_toList, Nat.min_eq_left h] at this
    exact this
def ItemRel (β : Val) : SItem → Item → Prop
  | .code c, .code c' => c' = c
  | .inBlock i, .inBlock j => j = i
  | .inLoop c, .inLoop c' => c' = c
  | .inLoop c, .code x => x = .loop c
  | .inScope c, .inScope c' => c' = c
  | .ops os l, .inRegion os' idx => os' = os ∧ OpsAt os idx l
  | .inRF n, .inRangeFunc b => ∃ l, β n = some l ∧ b = l.blk
  | .endRF n, .endRangeFunc b => ∃ l, β n = some l ∧ b = l.blk
  | .beginRound, .beginRound => True
  | _, _ => False
def TodoRel (β : Val) : List SItem → List Item → Prop
  | [], [] => True
  | x :: k, y :: k' => ItemRel β x y ∧ TodoRel β k k'
  | _, _ => False
theorem ItemRel.mono {β β' : Val} (hl : β.le β') {x : SItem} {y : Item} (h : ItemRel β x y) : ItemRel β' x y := by
  cases x <;> cases y <;> first
    | exact h
    | (obtain ⟨l, a, b⟩ := h; exact ⟨l, hl _ _ a, b⟩)
theorem TodoRel.mono {β β' : Val} (hl : β.le β') : ∀ {x : List SItem} {y : List Item}, TodoRel β x y → TodoRel β' x y
  | [], [], _ => trivial
  | _ :: _, _ :: _, h => ⟨h.1.mono hl, TodoRel.mono hl h.2⟩
  | [], _ :: _, h => h.elim
  | _ :: _, [], h => h.elim
def RoundRel (β : Val) : Option Nat → Option Nat → Prop
  | none, none => True
  | some n, some b => ∃ l, β n = some l ∧ b = l.blk
  | _, _ => False
theorem RoundRel.mono {β β' : Val} (hl : β.le β') {x y : Option Nat} (h : RoundRel β x y) : RoundRel β' x y := by
  cases x <;> cases y <;> first | exact h | (obtain ⟨l, a, b⟩ := h; exact ⟨l, hl _ _ a, b⟩)
structure FrameRel (β : Val) (s : SF) (f : Frame) : Prop where
  fn : f.fn = s.fn
  tmps : SV.denL β s.tmps = some f.tmps.toList
  todo : TodoRel β s.todo f.todo
  defers : SD.denL β s.defers = some f.defers
  mode : f.mode = .run
  kind : f.kind = .normal
  round : RoundRel β s.roundOf f.roundOf
theorem FrameRel.mono {β β' : Val} (hl : β.le β') {s : SF} {f : Frame} (h : FrameRel β s f) : FrameRel β' s f :=
  ⟨h.fn, SV.denL_mono hl _ h.tmps, h.todo.mono hl, SD.denL_mono hl h.defers, h.mode, h.kind, h.round.mono hl⟩
def FramesRel (β : Val) : List SF → List Frame → Prop
  | [], [] => True
  | s :: r, f :: r' => FrameRel β s f ∧ FramesRel β r r'
  | _, _ => False
theorem FramesRel.mono {β β' : Val} (hl : β.le β') : ∀ {x : List SF} {y : List Frame}, FramesRel β x y → FramesRel β' x y
  | [], [], _ => trivial
  | _ :: _, _ :: _, h => ⟨h.1.mono hl, FramesRel.mono hl h.2⟩
  | [], _ :: _, h => h.elim
  | _ :: _, [], h => h.elim
theorem frame_eta {f : Frame} (h : f.mode = .run) : f = f.atR ⟨f.tmps, f.defers⟩ f.todo := by
  cases f; simp only [Frame.atR] at *; subst h; rfl

/-- the setting of a run: what lies beneath its frames, the world at its start, the blocks that it may write, its bottom function -/
structure Base where
  P : Program
  glob : Nat → Option Nat
  O : Nat → Prop
  w0 : World
  cs : List Frame
  fn0 : FuncId
  /-- names that stand for something from the start -/
  fix : Val
structure BRel (B : Base) (β : Val) : Prop where
  glob : GlobRel B.glob β
  fix : B.fix.le β
theorem BRel.mono {B : Base} {β β' : Val} (h : BRel B β) (hl : β.le β') : BRel B β' := ⟨h.glob.mono hl, Val.le_trans h.fix hl⟩
structure MRel (B : Base) (s : SS) (m : Machine) : Prop where
  ex : ∃ β fr frs w, m = lone fr (frs ++ B.cs) w ∧ FramesRel β s.frames (fr :: frs) ∧ HeapRel B.P B.O B.w0 β s.heap w ∧ BRel B β ∧ ((fr :: frs).getLast?).map (·.fn) = some B.fn0
structure DoneRel (B : Base) (v : SV) (H : List SO) (m : Machine) : Prop where
  ex : ∃ β fr v' w, m = lone fr B.cs w ∧ fr.fn = B.fn0 ∧ fr.leaving B.P w (.returned v') ∧ v.den β = some v' ∧ HeapRel B.P B.O B.w0 β H w ∧ BRel B β
/-- from here the run comes to an end, or to a state from which 'go' goes on -/
def After (B : Base) (go : SS → Tree) (D : SV → List SO → Prop) (S : SS → Prop) (m : Machine) : Prop :=
  ∃ m', Steps B.P m m' ∧ ((∃ s', (go s').Ob D S ∧ MRel B s' m') ∨ (∃ v H, D v H ∧ DoneRel B v H m'))
theorem After.of_steps {B : Base} {go : SS → Tree} {D : SV → List SO → Prop} {S : SS → Prop} {m m1 : Machine} (h : Steps B.P m m1) (h' : After B go D S m1) : After B go D S m :=
  let ⟨m', a, b⟩ := h'; ⟨m', h.trans a, b⟩
theorem After.step {B : Base} {go : SS → Tree} {D : SV → List SO → Prop} {S : SS → Prop} {m m1 : Machine} (h : step B.P m = .next m1) (h' : After B go D S m1) : After B go D S m := h'.of_steps (.one h)

section
variable {B : Base} {go : SS → Tree} {D : SV → List SO → Prop} {S : SS → Prop}

theorem evS_den {glob : Nat → Option Nat} {β : Val} {T : List SV} {a : Act} (hT : SV.denL β T = some a.tmps.toList) (hg : GlobRel glob β) (x : Operand) : (evS glob T x).den β = some (a.eval x) := by
  cases x with
  | tmp t =>
    show (optC (nth T t) undefS fun v => v).den β = some (a.tmps.getD t undef)
    rw [nth_eq]
    cases h : T[t]? with
    | none =>
      have hlen := denL_length hT
      have : a.tmps.size ≤ t := by
        rw [List.getElem?_eq_none_iff] at h
        simp at hlen; omega
      rw [Array.getD_eq_getD_getElem?, Array.getElem?_eq_none this]; rfl
    | some v =>
      obtain ⟨x, hx, hd⟩ := denL_get hT h
      rw [Array.getD_eq_getD_getElem?, show a.tmps[t]? = some x from by rw [← hx]; simp]
      exact hd
  | const v => exact constV_den β v
  | global g =>
    show (evGlob g glob T).den β = _
    unfold evGlob
    split
    · rename_i nm h
      obtain ⟨l, h1, h2, h3⟩ := hg g nm h
      simp [SV.den, SA.den, h1, h2, h3, SN.den, Act.eval]
    · rfl
  | func f => rfl
theorem putT_den {β : Val} {T : List SV} {a : Act} (hT : SV.denL β T = some a.tmps.toList) (dst : Option Tmp) {v : SV} {x : Value} (hv : v.den β = some x) : SV.denL β (putT T dst v) = some (a.put dst x).tmps.toList := by
  cases dst with
  | none => exact hT
  | some d =>
    show SV.denL β (setN T d v) = _
    rw [setN_eq]
    simp only [Act.put, Array.toList_setIfInBounds]
    exact denL_set hT hv
/-- the frame with another todo -/
theorem FrameRel.to {β : Val} {s : SF} {f : Frame} (h : FrameRel β s f) {k : List SItem} {k' : List Item} (hk : TodoRel β k k') : FrameRel β (s.to k) (f.atR ⟨f.tmps, f.defers⟩ k') :=
  ⟨h.fn, h.tmps, hk, h.defers, rfl, h.kind, h.round⟩
theorem last_fn {f f' : Frame} {frs : List Frame} (h : f'.fn = f.fn) : ((f' :: frs).getLast?).map (·.fn) = ((f :: frs).getLast?).map (·.fn) := by
  cases frs with
  | nil => simp [h]
  | cons g r => simp [List.getLast?_cons_cons]
/-- one step of the top frame alone, nothing else turned -/
theorem after_to {s : SF} {rest : List SF} {H : List SO} {β : Val} {fr : Frame} {frs : List Frame} {w : World} (hF : FrameRel β s fr) (hR : FramesRel β rest frs) (hH : HeapRel B.P B.O B.w0 β H w) (hG : BRel B β)
    (hl : ((fr :: frs).getLast?).map (·.fn) = some B.fn0) {k : List SItem} {k' : List Item} (hk : TodoRel β k k') (hgo : (go ⟨s.to k :: rest, H⟩).Ob D S)
    (hst : step B.P (lone (fr.atR ⟨fr.tmps, fr.defers⟩ fr.todo) (frs ++ B.cs) w) = .next (lone (fr.atR ⟨fr.tmps, fr.defers⟩ k') (frs ++ B.cs) w)) : After B go D S (lone fr (frs ++ B.cs) w) := by
  rw [frame_eta hF.mode]
  exact ⟨_, .one hst, .inl ⟨_, hgo, ⟨β, _, frs, w, rfl, ⟨hF.to hk, hR⟩, hH, hG, by have := last_fn (f := fr) (f' := fr.atR ⟨fr.tmps, fr.defers⟩ k') (frs := frs) rfl; rw [this]; exact hl⟩⟩⟩

theorem exitS_spec {β : Val} (id : Nat) : ∀ (k : List SItem) (k' : List Item), TodoRel β k k' → match exitS id k with
    | some r => ∃ r', exitTo id k' = some r' ∧ TodoRel β r r'
    | none => exitTo id k' = none
  | [], [], _ => rfl
  | [], _ :: _, h => h.elim
  | _ :: _, [], h => h.elim
  | x :: k, y :: k', h => by
    have ih := exitS_spec id k k' h.2
    obtain ⟨h1, h2⟩ := h
    cases x <;> cases y <;> first | exact h1.elim | skip
    case inBlock.inBlock i j =>
      have h1' : j = i := h1
      subst h1'
      simp only [exitS, exitTo]
      by_cases hj : j = id
      · subst hj; simp; exact h2
      · simp [hj]; exact ih
    all_goals first | exact ih | skip

end
end Go.Sim


/-
  The symbolic simulator, eighteenth part: every step but a region that draws its order.
-/
namespace Go.Sim
variable {α : Type}

/-- what a call that is not entered comes to -/
def SumSem (P : Program) (H : List SO) (β : Val) (w : World) (base : Nat) (f : FuncId) (vs : List Value) (r : SumRes) : Prop :=
  (∀ i, i < r.news.length → β (base + i) = none) →
  (∀ n e, (n, e) ∈ r.sets → ∃ e0, H[n]? = some e0 ∧ e0.owned = true) ∧
  (((∃ fn, P.funcs[f]? = some fn ∧ fn.body.isSome = true) ∧ Calls P f vs.toArray w fun e w' => ∃ v' β', e = .returned v' ∧ r.v.den β' = some v' ∧ Eff P β w base r.sets r.news β' w') ∨
    ∃ v' w' β', (callFunc f vs.toArray).run P w = .ok (.value v') w' ∧ r.v.den β' = some v' ∧ Eff P β w base r.sets r.news β' w')
/-- A SUMMARY TELLS THE TRUTH, where package-level variables bear these names -/
def SumAt (P : Program) (glob : Nat → Option Nat) (f : FuncId) (s : Summ) : Prop :=
  ∀ (O : Nat → Prop) (w0 : World) (β : Val) (H : List SO) (w : World) (base : Nat) (args : List SV) (vs : List Value), HeapRel0 P O w0 β H w → GlobRel glob β → SV.denL β args = some vs →
    (s args H base).Sat (SumSem P H β w base f vs)
def SumOK (P : Program) (f : FuncId) (s : Summ) : Prop := ∀ glob, SumAt P glob f s
structure ProgOK (P : Program) : Prop where
  noNG : ∀ (f : FuncId) (fn : Func), P.funcs[f]? = some fn → fn.body.isSome = true → (fn.name == "runtime.NumGoroutine") = false
  mixed : P.follows .mixedOrders = true
structure CfgOK (c : Cfg) : Prop where
  prog : ProgOK c.P
  sums : ∀ f s, c.sums f = some s → SumAt c.P c.glob f s

section
variable {c : Cfg} {B : Base} {go : SS → Tree} {D : SV → List SO → Prop} {S : SS → Prop}

theorem run_callFunc {P : Program} (hP : ProgOK P) {f : FuncId} {fn : Func} (h : P.funcs[f]? = some fn) (hb : fn.body.isSome = true) (args : Array Value) (w : World) : (callFunc f args).run P w = .ok (.enter f args) w := by
  have hn : fn.body.isNone = false := by cases hx : fn.body <;> simp [hx] at hb ⊢
  unfold callFunc
  simp only [Sem.run_bind, run_program, Result.andThen_ok, h, hP.noNG f fn h hb, hn]
  rfl

/-- a frame that waits for a value, once it has it -/
theorem finish_rel {β : Val} {s s' : SF} {f : Frame} (h : FrameRel β s f) {v : SV} {x : Value} (hv : v.den β = some x) (hs : s.finish v = some s') : FrameRel β s' (f.finish x) ∧ (f.finish x).fn = f.fn := by
  obtain ⟨fn, T, td, ds, ro⟩ := s
  obtain ⟨hfn, hT, htd, hds, hm, hk, hr⟩ := h
  have h1 : finTodo td ⟨fn, T, td, ds, ro⟩ v = some s' := hs
  cases td with
  | nil => cases h1
  | cons x k =>
    have h2 : finItem x k ⟨fn, T, x :: k, ds, ro⟩ v = some s' := h1
    cases hft : f.todo with
    | nil => rw [hft] at htd; exact htd.elim
    | cons y k' =>
      rw [hft] at htd
      obtain ⟨hxy, hkk⟩ := htd
      cases x <;> first | (cases h2; done) | skip
      case ops os l =>
        cases l with
        | nil => cases h2
        | cons o l =>
          cases y <;> first | exact hxy.elim | skip
          rename_i os' idx
          obtain ⟨rfl, hat⟩ := hxy
          cases idx with
          | nil => exact hat.elim
          | cons i is =>
          obtain ⟨ho, hat⟩ := hat
          have h3 : s' = ⟨fn, putT T o.dst v, .ops os' l :: k, ds, ro⟩ := (Option.some.inj h2).symm
          subst h3
          have hfin : f.finish x = f.atR ((⟨f.tmps, f.defers⟩ : Act).put o.dst x) (.inRegion os' is :: k') := by
            have := Frame.finish_atR f ⟨f.tmps, f.defers⟩ os' i is k' x
            rw [ho] at this
            rw [← Option.bind_some (f := fun x : Oper => x.dst), ← this, frame_eta hm]
            simp [hft, Frame.atR]
          rw [hfin]
          refine ⟨⟨hfn, putT_den (a := ⟨f.tmps, f.defers⟩) hT o.dst hv, ⟨⟨rfl, hat⟩, hkk⟩, ?_, rfl, hk, hr⟩, rfl⟩
          show SD.denL β ds = some (Act.put _ _ _).defers
          rw [hds]; cases o.dst <;> rfl
      case inRF nm =>
        cases y <;> first | exact hxy.elim | skip
        rename_i b
        have h3 : s' = ⟨fn, T, .endRF nm :: k, ds, ro⟩ := (Option.some.inj h2).symm
        subst h3
        have hfin : f.finish x = f.atR ⟨f.tmps, f.defers⟩ (.endRangeFunc b :: k') := by
          rw [← finish_atR_inRangeFunc b x]
          congr 1
          rw [frame_eta hm]; simp [hft, Frame.atR]
        rw [hfin]
        exact ⟨⟨hfn, hT, ⟨hxy, hkk⟩, hds, rfl, hk, hr⟩, rfl⟩

/-- a frame that is entered -/
theorem enter_rel {P : Program} {β : Val} {f : FuncId} {args : List SV} {vs : List Value} {s : SF} (h : enterF P f args = some s) (ha : SV.denL β args = some vs) :
    FrameRel β s (Frame.enter P f vs.toArray .normal) ∧ ∃ fn, P.funcs[f]? = some fn ∧ fn.body.isSome = true := by
  unfold enterF at h
  rw [nth_eq] at h
  have hf : P.funcs.toList[f]? = P.funcs[f]? := by simp
  rw [hf] at h
  cases hfn : P.funcs[f]? with
  | none => rw [hfn] at h; cases h
  | some fn =>
    rw [hfn] at h
    simp only [optC_some] at h
    cases hb : fn.body with
    | none => rw [hb] at h; cases h
    | some c =>
      rw [hb] at h
      simp only [optC_some, Option.some.injEq] at h
      subst h
      refine ⟨⟨rfl, ?_, ?_, rfl, rfl, rfl, trivial⟩, fn, rfl, by rw [hb]; rfl⟩
      · have hl := denL_length ha
        simp only [Frame.enter, hfn, Option.map_some, Option.getD_some]
        rw [app_eq, repN_eq, lenN_eq, ← hl]
        simp only [Array.toList_append, Array.toList_replicate, List.size_toArray]
        exact denL_append ha (denL_replicate (by simp [undefS, SV.den, SV.denL, undef]) _)
      · simp only [Frame.enter, hfn, Option.bind_some, hb, Option.getD_some]
        exact ⟨rfl, trivial⟩

theorem getLast_cons {f g : Frame} {frs : List Frame} : ((f :: g :: frs).getLast?).map (·.fn) = ((g :: frs).getLast?).map (·.fn) := by
  rw [List.getLast?_cons_cons]
/-- the value goes back to the caller, or the bottom has returned: the machine's part is given -/
theorem back_after {rest : List SF} {H : List SO} {v : SV} {x : Value} {β : Val} {fr : Frame} {frs : List Frame} {w : World} (hR : FramesRel β rest frs) (hH : HeapRel B.P B.O B.w0 β H w) (hG : BRel B β) (hv : v.den β = some x)
    (hl : ((fr :: frs).getLast?).map (·.fn) = some B.fn0) (hleave : fr.leaving B.P w (.returned x)) (hob : (backT rest H v go).Ob D S) : After B go D S (lone fr (frs ++ B.cs) w) := by
  unfold backT at hob
  cases rest with
  | nil =>
    cases frs with
    | cons => exact hR.elim
    | nil =>
      refine ⟨_, .refl _ _, .inr ⟨v, H, hob, ⟨β, fr, x, w, rfl, by simpa using hl, hleave, hv, hH, hG⟩⟩⟩
  | cons s rest =>
    cases frs with
    | nil => exact hR.elim
    | cons f frs =>
      simp only at hob
      cases hs : s.finish v with
      | none => rw [hs] at hob; exact hob.elim
      | some s' =>
        rw [hs] at hob
        obtain ⟨h1, h2⟩ := finish_rel hR.1 hv hs
        refine ⟨_, .one (step_leave_returned hleave), .inl ⟨_, hob, ⟨β, _, frs, w, rfl, ⟨h1, hR.2⟩, hH, hG, ?_⟩⟩⟩
        rw [last_fn h2, ← getLast_cons (f := fr)]; exact hl

/-- a call, from a frame that waits for its value: 'm0' is the machine ahead of the call -/
theorem callFT_after (hc : CfgOK c) (hP : B.P = c.P) (hgl : B.glob = c.glob) {f : FuncId} {args : List SV} {vs : List Value} {s : SF} {rest : List SF} {H : List SO} {β : Val} {fr : Frame} {frs : List Frame} {w : World} (hF : FrameRel β s fr) (hR : FramesRel β rest frs) (hH : HeapRel B.P B.O B.w0 β H w) (hG : BRel B β)
    (hl : ((fr :: frs).getLast?).map (·.fn) = some B.fn0) (ha : SV.denL β args = some vs) (hob : (callFT c f args s rest H go).Ob D S) {m0 : Machine}
    (henter : (callFunc f vs.toArray).run B.P w = .ok (.enter f vs.toArray) w → Steps B.P m0 (lone (Frame.enter B.P f vs.toArray .normal) (fr :: (frs ++ B.cs)) w))
    (hval : ∀ v w', (callFunc f vs.toArray).run B.P w = .ok (.value v) w' → Steps B.P m0 (lone (fr.finish v) (frs ++ B.cs) w')) : After B go D S m0 := by
  unfold callFT at hob
  cases hs : c.sums f with
  | some sm =>
    rw [hs] at hob
    simp only at hob
    rw [lenN_eq] at hob
    obtain ⟨r, hr, hob⟩ := R.tree_ob (hc.sums f sm hs B.O B.w0 β H w H.length args vs (hP ▸ hH.toHeapRel0) (hgl ▸ hG.glob) ha) hob
    cases hfin : s.finish r.v with
    | none => rw [hfin] at hob; exact hob.elim
    | some s' =>
      rw [hfin] at hob
      obtain ⟨hown, hcall⟩ := hr fun i _ => hH.bound _ (Nat.le_add_right _ _)
      rw [← hP] at hcall
      have hend : ∀ (v' : Value) (β' : Val) (w' : World), r.v.den β' = some v' → Eff B.P β w H.length r.sets r.news β' w' → Steps B.P m0 (lone (fr.finish v') (frs ++ B.cs) w') → After B go D S m0 := by
        intro v' β' w' hv hE hst
        obtain ⟨h1, h2⟩ := finish_rel (hF.mono hE.le) hv hfin
        exact ⟨_, hst, .inl ⟨_, hob, ⟨β', _, frs, w', rfl, ⟨h1, hR.mono hE.le⟩, hH.apply hE hown, hG.mono hE.le, by rw [last_fn h2]; exact hl⟩⟩⟩
      rcases hcall with ⟨⟨fn, hfn, hb⟩, hcall⟩ | ⟨v', w', β', hrun, hv, hE⟩
      · obtain ⟨e, w', fr', ⟨v', β', rfl, hv, hE⟩, hcomes, _, hleave⟩ := hcall (fr :: (frs ++ B.cs))
        refine hend v' β' w' hv hE ((henter (run_callFunc (hP ▸ hc.prog) hfn hb _ _)).trans (Steps.trans hcomes (.one ?_)))
        exact step_leave_returned hleave
      · exact hend v' β' w' hv hE (hval v' w' hrun)
  | none =>
    rw [hs] at hob
    simp only at hob
    rw [← hP] at hob
    cases he : enterF B.P f args with
    | none => rw [he] at hob; exact hob.elim
    | some g =>
      rw [he] at hob
      obtain ⟨h1, fn, hfn, hb⟩ := enter_rel he ha
      refine ⟨_, henter (run_callFunc (hP ▸ hc.prog) hfn hb _ _), .inl ⟨_, hob, ⟨β, _, fr :: frs, w, rfl, ⟨h1, hF, hR⟩, hH, hG, ?_⟩⟩⟩
      rw [getLast_cons]; exact hl

theorem loopOf_spec {H : List SO} {nm : Nat} {s p f T ps a b d} (h : loopOf H nm = some (s, p, f, T, ps, a, b, d)) : H[nm]? = some (.loop s p f T ps a b d) := by
  unfold loopOf at h
  rw [nth_eq] at h
  split at h
  · rename_i he; cases h; exact he
  · cases h
/-- a loop's record turns -/
theorem loop_turn {P : Program} {O : Nat → Prop} {w0 : World} {β : Val} {H : List SO} {w : World} (hH : HeapRel P O w0 β H w) {nm : Nat} {s p f T ps a b d} (h : H[nm]? = some (.loop s p f T ps a b d)) :
    ∃ l r, β nm = some l ∧ w.heap[l.blk]? = some (.loop r) ∧ r.state = s ∧ r.pending = p ∧ r.fn = f ∧ SV.denL β T = some r.tmps.toList ∧ r.params = ps ∧ r.assign = a ∧ r.body = b ∧ (∃ ld, β d = some ld ∧ r.defers = ld.blk) ∧
      ∀ s' p', HeapRel P O w0 β (setN H nm (.loop s' p' f T ps a b d)) (w.putObj l.blk (.loop { r with state := s', pending := p' })) := by
  obtain ⟨l, ld, Ts, hl, hd, hT, hh⟩ := hH.entries _ _ h
  refine ⟨l, _, hl, hh, rfl, rfl, rfl, by simpa using hT, rfl, rfl, rfl, ⟨ld, hd, rfl⟩, fun s' p' => ?_⟩
  have hlt : l.blk < w.heap.size := (Array.getElem?_eq_some_iff.1 hh).1
  refine hH.apply (sets := [(nm, .loop s' p' f T ps a b d)]) (news := []) (Eff.turn hl ?_) ?_
  · exact ⟨l, ld, Ts, hl, hd, hT, by simp [hlt]⟩
  · intro n e hn; simp at hn; obtain ⟨rfl, rfl⟩ := hn; exact ⟨_, h, rfl⟩

theorem endRound_after {H : List SO} {rest : List SF} {nm : Nat} {jump : Option Code} {β : Val} {fr : Frame} {frs : List Frame} {w : World} (hR : FramesRel β rest frs) (hH : HeapRel B.P B.O B.w0 β H w) (hG : BRel B β)
    (hl : ((fr :: frs).getLast?).map (·.fn) = some B.fn0) (hob : (endRoundT H rest nm jump go).Ob D S)
    (hst : ∀ (l : Loc) (c : Frame) (cs : List Frame) (w' : World), β nm = some l → (Instr.endRound l.blk jump).run B.P w = .ok (.bool jump.isNone) w' → step B.P (lone fr (c :: cs) w) = .next (lone (c.finish (.bool jump.isNone)) cs w')) :
    After B go D S (lone fr (frs ++ B.cs) w) := by
  unfold endRoundT at hob
  split at hob
  · rename_i st p f T ps a b d s rest' hloop
    cases frs with
    | nil => exact hR.elim
    | cons g frs =>
      cases hs : s.finish (.bool (.lit jump.isNone)) with
      | none => rw [hs] at hob; exact hob.elim
      | some s' =>
        rw [hs] at hob
        obtain ⟨l, r, hb, hh, _, _, _, _, _, _, _, _, hturn⟩ := loop_turn hH (loopOf_spec hloop)
        obtain ⟨h1, h2⟩ := finish_rel hR.1 (x := .bool jump.isNone) rfl hs
        refine ⟨_, .one (hst l g _ _ hb (run_endRound jump hh)), .inl ⟨_, hob, ⟨β, _, frs, _, rfl, ⟨h1, hR.2⟩, hturn _ _, hG, ?_⟩⟩⟩
        rw [last_fn h2, ← getLast_cons (f := fr)]; exact hl
  · exact hob.elim

end
end Go.Sim


/-
  The symbolic simulator, nineteenth part: returning; the operations; loops over functions.
-/
namespace Go.Sim
variable {α : Type}

section
variable {c : Cfg} {B : Base} {go : SS → Tree} {D : SV → List SO → Prop} {S : SS → Prop}

theorem step_take {P : Program} {fr : Frame} {cs : List Frame} {w w' : World} {b : Nat} {ds calls : List Deferred} (hm : fr.mode = .returning) (hd : fr.defers = { target := .collected b, args := #[] } :: ds) (hr : (Instr.takeDeferred b).run P w = .ok calls w') :
    step P (lone fr cs w) = .next (lone { fr with defers := calls ++ ds } cs w') :=
  step_lone_go (by simp [stepG, unwind, hm, hd, Sem.runT_eq, hr, GStep.bare_after])

theorem resultsR_sat {P : Program} {O : Nat → Prop} {w0 : World} {β : Val} {H : List SO} {w : World} (hr : HeapRel0 P O w0 β H w) {T : List SV} {ts : Array Value} (hT : SV.denL β T = some ts.toList) {φ : α → Prop} : ∀ (l : List ResultVar) (k : List SV → R α),
    (∀ svs vs, SV.denL β svs = some vs → (l.mapM (m := Sem) fun
      | .tmp t => pure (ts.getD t undef)
      | .cell a t => do loadVar t (← asAddr (ts.getD a undef))).run P w = .ok vs w → (k svs).Sat φ) → (resultsR P H T l k).Sat φ := by
  have hget : ∀ t, ((nth T t).getD undefS).den β = some (ts.getD t undef) := by
    intro t
    have := evS_den (glob := fun _ => none) (a := ⟨ts, []⟩) hT (fun _ _ h => by cases h) (.tmp t)
    have e : evS (fun _ => none) T (.tmp t) = (nth T t).getD undefS := by
      show optC (nth T t) undefS (fun v => v) = _
      cases nth T t <;> rfl
    rw [e] at this; exact this
  intro l
  induction l with
  | nil => intro k h; exact h [] [] rfl (by simp)
  | cons x l ih =>
    intro k h
    cases x with
    | tmp t =>
      refine ih _ fun svs vs h1 h2 => h _ _ (denL_cons.2 ⟨_, _, hget t, h1, rfl⟩) ?_
      rw [List.mapM_cons]
      simp only [Sem.run_bind, Sem.run_pure, Result.andThen_ok, h2]
    | cell a t =>
      refine ptrS_sat (hget a) fun a' A _ hA hx => loadT_sat hr hA fun v x hv hrun => ih _ fun svs vs h1 h2 => h _ _ (denL_cons.2 ⟨_, _, hv, h1, rfl⟩) ?_
      have ha : asAddr (ts.getD a undef) = pure A := by rw [hx]; rfl
      rw [List.mapM_cons]
      simp only [ha, Sem.run_bind, Sem.run_pure, Result.andThen_ok, hrun, h2]
theorem tupleS_den {β : Val} {svs : List SV} {vs : List Value} (h : SV.denL β svs = some vs) : (tupleS svs).den β = some (if h : vs.toArray.size = 1 then vs.toArray[0] else .tuple vs.toArray) := by
  cases svs with
  | nil => rw [denL_nil] at h; subst h; rfl
  | cons a l =>
    obtain ⟨x, xs, hx, hxs, rfl⟩ := denL_cons.1 h
    cases l with
    | nil => rw [denL_nil] at hxs; subst hxs; simpa [tupleS] using hx
    | cons b l =>
      obtain ⟨y, ys, hy, hys, rfl⟩ := denL_cons.1 hxs
      have : tupleS (a :: b :: l) = .tuple (a :: b :: l) := rfl
      rw [this, dif_neg (by simp)]
      simp only [SV.den, h]; rfl
theorem results_sat {P : Program} {O : Nat → Prop} {w0 : World} {β : Val} {H : List SO} {w : World} (hr : HeapRel0 P O w0 β H w) {T : List SV} {ts : Array Value} (hT : SV.denL β T = some ts.toList) (fn : Func) :
    (resultsR P H T fn.results.toList fun l => .ok (tupleS l)).Sat fun v => ∃ x, v.den β = some x ∧ (results fn ts).run P w = .ok x w := by
  refine resultsR_sat hr hT _ _ fun svs vs h1 h2 => ⟨_, tupleS_den h1, ?_⟩
  unfold results
  rw [Array.mapM_eq_mapM_toList]
  simp only [Sem.run_bind, Sem.run_map, Sem.run_pure]
  exact congrArg (fun z : Result (List Value) => (z.andThen fun a w' => Result.ok a.toArray w').andThen fun a w' => .ok (if h : a.size = 1 then a[0] else .tuple a) w') h2

theorem undefer_steps {P : Program} {O : Nat → Prop} {w0 : World} {β : Val} {cs : List Frame} : ∀ {ds : List SD} {H H' : List SO} {w : World} {fr : Frame}, fr.mode = .returning → SD.denL β ds = some fr.defers → HeapRel P O w0 β H w → undefer ds H = some H' →
    ∃ w', Steps P (lone fr cs w) (lone { fr with defers := [] } cs w') ∧ HeapRel P O w0 β H' w'
  | [], H, H', w, fr, _, hd, hH, hu => by
    cases hu
    cases hd' : fr.defers with
    | nil =>
      have : { fr with defers := [] } = fr := by cases fr; simp at hd'; subst hd'; rfl
      rw [this]; exact ⟨w, .refl _ _, hH⟩
    | cons => rw [hd'] at hd; cases hd
  | .call _ _ _ :: _, _, _, _, _, _, _, _, hu => by cases hu
  | .coll nm :: r, H, H', w, fr, hm, hd, hH, hu => by
    unfold undefer at hu
    simp only [SD.denL, SD.den, Option.bind_eq_some_iff, Option.map_eq_some_iff] at hd
    obtain ⟨dx, ⟨l, hl1, rfl⟩, ds', hr1, hr2⟩ := hd
    rw [nth_eq] at hu
    split at hu
    · rename_i he
      obtain ⟨l', ds2, hb, hd, hh⟩ := hH.entries _ _ he
      rw [hl1] at hb; cases hb
      have hd' : ds2 = some [] := by
        simp [SD.denO, SD.denL] at hd; exact hd.symm
      subst hd'
      have hlt : l.blk < w.heap.size := (Array.getElem?_eq_some_iff.1 hh).1
      have hH' : HeapRel P O w0 β (setN H nm (.deferred none)) (w.putObj l.blk (.deferred none)) := by
        refine hH.apply (sets := [(nm, .deferred none)]) (news := []) (Eff.turn hl1 ?_) ?_
        · exact ⟨l, none, hl1, rfl, by simp [hlt]⟩
        · intro n e hn; simp at hn; obtain ⟨rfl, rfl⟩ := hn; exact ⟨_, he, rfl⟩
      have hstep := step_take (P := P) (fr := fr) (cs := cs) (b := l.blk) (ds := ds') (calls := []) hm hr2.symm (run_takeDeferred hh)
      obtain ⟨w', hst, hH2⟩ := undefer_steps (ds := r) (fr := { fr with defers := ds' }) (cs := cs) hm hr1 hH' hu
      exact ⟨w', (Steps.one hstep).trans hst, hH2⟩
    · cases hu

theorem returnT_after (hP : B.P = c.P) {s : SF} {rest : List SF} {H : List SO} {β : Val} {fr : Frame} {frs : List Frame} {w : World} (hF : FrameRel β s fr) (hR : FramesRel β rest frs) (hH : HeapRel B.P B.O B.w0 β H w) (hG : BRel B β)
    (hl : ((fr :: frs).getLast?).map (·.fn) = some B.fn0) (htd : s.todo = [] ∨ ∃ k, s.todo = .code .ret :: k) (hob : (returnT c.P s rest H go).Ob D S) : After B go D S (lone fr (frs ++ B.cs) w) := by
  unfold returnT at hob
  have htd' : fr.todo = [] ∨ ∃ k, fr.todo = .code .ret :: k := by
    have := hF.todo
    rcases htd with h | ⟨k, h⟩
    · rw [h] at this
      cases hf : fr.todo with
      | nil => exact .inl rfl
      | cons y k' => rw [hf] at this; exact this.elim
    · rw [h] at this
      cases hf : fr.todo with
      | nil => rw [hf] at this; exact this.elim
      | cons y k' =>
        rw [hf] at this
        obtain ⟨h1, _⟩ := this
        cases y <;> first | exact h1.elim | skip
        exact .inr ⟨k', by rw [show _ = Code.ret from h1]⟩
  cases hro : s.roundOf with
  | some nm =>
    rw [hro] at hob
    simp only at hob
    have hround := hF.round
    rw [hro] at hround
    cases hfr : fr.roundOf with
    | none => rw [hfr] at hround; exact hround.elim
    | some bl =>
      rw [hfr] at hround
      obtain ⟨l0, hl0, rfl⟩ := hround
      refine endRound_after hR hH hG hl hob fun l cc cs w' hb hrun => ?_
      rw [hl0] at hb; cases hb
      rw [frame_eta hF.mode]
      rcases htd with h | ⟨k, h⟩
      · have ht : fr.todo = [] := by
          rcases htd' with h' | ⟨k', h'⟩
          · exact h'
          · have := hF.todo; rw [h, h'] at this; exact this.elim
        rw [h] at hrun ⊢
        rw [ht]
        exact stepR_round_end hfr hF.kind hrun
      · obtain ⟨k', ht⟩ : ∃ k', fr.todo = .code .ret :: k' := by
          rcases htd' with h' | h'
          · have := hF.todo; rw [h, h'] at this; exact this.elim
          · exact h'
        rw [h] at hrun ⊢
        rw [ht]
        exact stepR_round_ret hfr hF.kind hrun
  | none =>
    rw [hro] at hob
    simp only at hob
    have hround := hF.round
    rw [hro] at hround
    have hfr : fr.roundOf = none := by
      cases hfr : fr.roundOf with
      | none => rfl
      | some bl => rw [hfr] at hround; exact hround.elim
    -- to 'returning'
    have hstep : step B.P (lone fr (frs ++ B.cs) w) = .next (lone { fr.atR ⟨fr.tmps, fr.defers⟩ fr.todo with mode := .returning } (frs ++ B.cs) w) := by
      rw [frame_eta hF.mode]
      rcases htd' with h' | ⟨k', h'⟩
      · rw [h']; exact stepR_end hfr
      · rw [h']; exact stepR_ret hfr
    refine .step hstep ?_
    rw [nth_eq] at hob
    have hfn : B.P.funcs.toList[fr.fn]? = B.P.funcs[fr.fn]? := by simp
    rw [← hP, ← hF.fn, hfn] at hob
    cases hfun : B.P.funcs[fr.fn]? with
    | none => rw [hfun] at hob; exact hob.elim
    | some fn =>
      rw [hfun] at hob
      simp only at hob
      have hds := hF.defers
      split at hob
      · rename_i H' hu
        obtain ⟨w', hst, hH'⟩ := undefer_steps (fr := { fr.atR ⟨fr.tmps, fr.defers⟩ fr.todo with mode := .returning }) (cs := frs ++ B.cs) rfl hds hH hu
        refine .of_steps hst ?_
        obtain ⟨v, ⟨x, hv, hrun⟩, hob⟩ := R.tree_ob (results_sat hH'.toHeapRel0 hF.tmps fn) hob
        refine back_after hR hH' hG hv ((last_fn (f := fr) (f' := { ({ fr.atR ⟨fr.tmps, fr.defers⟩ fr.todo with mode := .returning } : Frame) with defers := [] }) rfl).trans hl) ⟨rfl, rfl, hF.kind, fn, hfun, hrun⟩ hob
      · exact hob.elim

end
end Go.Sim


/-
  The symbolic simulator, twentieth part: one operation of a region; loops over functions; the step.
-/
namespace Go.Sim
variable {α : Type}

section
variable {c : Cfg} {B : Base} {go : SS → Tree} {D : SV → List SO → Prop} {S : SS → Prop}

theorem asBool_cases (v : SV) : (∃ b, v = .bool b) ∨ ∀ {γ : Type} (d : γ) (f : SB → γ), v.asBool d f = d := by
  cases v <;> first | exact .inl ⟨_, rfl⟩ | exact .inr fun _ _ => rfl
theorem asTuple_cases (v : SV) : (∃ b, v = .tuple b) ∨ ∀ {γ : Type} (d : γ) (f : List SV → γ), v.asTuple d f = d := by
  cases v <;> first | exact .inl ⟨_, rfl⟩ | exact .inr fun _ _ => rfl
/-- is the operation carried out? -/
theorem wantT_ob {β : Val} {o : Oper} {os : Array Oper} {T : List SV} {ts : Array Value} (hT : SV.denL β T = some ts.toList) {yes : List SV → Tree} {no : Tree} (hob : (wantT o.guard os T yes no).Ob D S) :
    (Region.wanted o (yielded os ts) = true ∧ ∃ T', SV.denL β T' = some ts.toList ∧ (yes T').Ob D S) ∨ (Region.wanted o (yielded os ts) = false ∧ no.Ob D S) := by
  cases hg : o.guard with
  | none =>
    rw [hg] at hob
    exact .inl ⟨by simp [Region.wanted, hg], T, hT, hob⟩
  | some p =>
    obtain ⟨j, want⟩ := p
    rw [hg] at hob
    replace hob : (optC (dstOf os j) no fun d => optC (nth T d) (.stuck 410) fun v => v.asBool (isUndef v no) fun b => wantB b want T d yes no).Ob D S := hob
    have hdst : dstOf os j = (os[j]?).bind (·.dst) := by
      unfold dstOf
      rw [nth_eq, show os.toList[j]? = os[j]? from by simp]
      cases os[j]? <;> rfl
    rw [hdst] at hob
    have hw : Region.wanted o (yielded os ts) = (yielded os ts j == some want) := by simp [Region.wanted, hg]
    rw [hw]
    cases hd : (os[j]?).bind (·.dst) with
    | none =>
      rw [hd] at hob
      exact .inr ⟨by simp [yielded, hd], hob⟩
    | some d =>
      rw [hd] at hob
      simp only [optC_some] at hob
      rw [nth_eq] at hob
      cases hv : T[d]? with
      | none => rw [hv] at hob; exact hob.elim
      | some v =>
        rw [hv] at hob
        simp only [optC_some] at hob
        obtain ⟨x, hx, hden⟩ := denL_get hT hv
        have hx' : ts[d]? = some x := by rw [← hx]; simp
        rcases asBool_cases v with ⟨b, rfl⟩ | hnb
        · simp only [SV.den, Option.some.injEq] at hden
          subst hden
          have hy : yielded os ts j = some b.den := by simp [yielded, hd, hx']
          rw [hy]
          replace hob : (wantB b want T d yes no).Ob D S := hob
          cases b with
          | lit b =>
            cases b <;> cases want <;> first
              | exact .inl ⟨rfl, T, hT, hob⟩
              | exact .inr ⟨rfl, hob⟩
          | sym b =>
            have hset : ∀ q : Bool, b = q → SV.denL β (setN T d (.bool (.lit q))) = some ts.toList := by
              intro q hq
              rw [setN_eq]
              have h1 := denL_set hT (n := d) (v := .bool (.lit q)) (x := .bool b) (by simp [SV.den, SB.den, hq])
              rw [h1]
              congr 1
              apply List.ext_getElem?
              intro i
              rw [List.getElem?_set]
              split
              · rename_i hi; subst hi
                split
                · rw [hx]; rfl
                · rename_i hlt; rw [List.getElem?_eq_none (by omega)]
              · rfl
            cases b with
            | true =>
              have := hob.1 rfl
              cases want
              · exact .inr ⟨rfl, this⟩
              · exact .inl ⟨rfl, _, hset true rfl, this⟩
            | false =>
              have := hob.2 rfl
              cases want
              · exact .inl ⟨rfl, _, hset false rfl, this⟩
              · exact .inr ⟨rfl, this⟩
        · rw [hnb] at hob
          rcases asTuple_cases v with ⟨l, rfl⟩ | hnt
          · cases l with
            | cons => exact hob.elim
            | nil =>
              simp only [SV.den, SV.denL, Option.map_some, Option.some.injEq] at hden
              subst hden
              exact .inr ⟨by simp [yielded, hd, hx'], hob⟩
          · unfold isUndef at hob
            rw [hnt] at hob
            exact hob.elim

/-- a step at an operation that is carried out -/
theorem step_op {P : Program} {f : Frame} (hm : f.mode = .run) {os : Array Oper} {i : Nat} {rest : List Nat} {k : List Item} (htd : f.todo = .inRegion os (i :: rest) :: k) {o : Oper} (ho : os[i]? = some o) (hw : Region.wanted o (yielded os f.tmps) = true)
    (hnd : ∀ c, o.op ≠ .defer c) {cs : List Frame} {w : World} :
    stepG P true { frame := f, callers := cs, status := .running, dying := none } w = stepG.apply P true f cs none (execOp (Act.eval ⟨f.tmps, f.defers⟩) o) w := by
  have h := stepGR_op (P := P) (b := f) (a := ⟨f.tmps, f.defers⟩) (k := k) (cs := cs) (w := w) (rest := rest) ho hw
  rw [Oper.semAt_eq _ _ _ hnd, ← htd, ← frame_eta hm] at h
  exact h
theorem step_val {P : Program} {f : Frame} {s : Sem Next} {cs : List Frame} {w w' : World} {nx : Next} {v : Value}
    (h : stepG P true { frame := f, callers := cs, status := .running, dying := none } w = stepG.apply P true f cs none s w) (hr : s.run P w = .ok nx w') (hv : nextVal nx = some v) :
    step P (lone f cs w) = .next (lone (f.finish v) cs w') := by
  refine step_lone_go ?_
  rw [h]
  cases nx <;> simp [nextVal] at hv <;> subst hv <;> simp [stepG.apply, Sem.runT_eq, hr, GStep.bare_after]
theorem step_enter {P : Program} {f : Frame} {s : Sem Next} {cs : List Frame} {w w' : World} {g : FuncId} {args : Array Value} (hk : ∀ d a b c r, f.todo ≠ .call d a b c :: r)
    (h : stepG P true { frame := f, callers := cs, status := .running, dying := none } w = stepG.apply P true f cs none s w) (hr : s.run P w = .ok (.enter g args) w') :
    step P (lone f cs w) = .next (lone (Frame.enter P g args .normal) (f :: cs) w') := by
  refine step_lone_go ?_
  rw [h]
  have : (match f.todo with | .call _ true _ _ :: _ => CallKind.wrapped | _ => CallKind.normal) = .normal := by
    split
    · rename_i h'; exact absurd h' (hk _ _ _ _ _)
    · rfl
  simp [stepG.apply, Sem.runT_eq, hr, GStep.bare_after]
  exact congrArg (Frame.enter P g args) this
theorem step_round {P : Program} {f : Frame} {s : Sem Next} {cs : List Frame} {w w' : World} {l : Nat} {g : FuncId} {ts : Array Value} {a b : Code}
    (h : stepG P true { frame := f, callers := cs, status := .running, dying := none } w = stepG.apply P true f cs none s w) (hr : s.run P w = .ok (.round l g ts a b) w') :
    step P (lone f cs w) = .next (lone (Frame.round l g ts a b .normal) (f :: cs) w') := by
  refine step_lone_go ?_
  rw [h]
  simp [stepG.apply, Sem.runT_eq, hr, GStep.bare_after]
theorem setsP_den {β : Val} : ∀ (ps : List Tmp) (T args : List SV) (ts : Array Value) (vs : List Value), SV.denL β T = some ts.toList → SV.denL β args = some vs →
    SV.denL β (setsP T ps args) = some ((ps.zip vs).foldl (fun (ts : Array Value) (x : Tmp × Value) => ts.setIfInBounds x.1 x.2) ts).toList := by
  intro ps
  induction ps with
  | nil => intro T args ts vs hT _; simpa [setsP] using hT
  | cons p ps ih =>
    intro T args ts vs hT ha
    cases args with
    | nil => rw [denL_nil] at ha; subst ha; simpa [setsP] using hT
    | cons a args =>
      obtain ⟨x, xs, hx, hxs, rfl⟩ := denL_cons.1 ha
      simp only [setsP, List.zip_cons_cons, List.foldl_cons]
      refine ih _ _ _ _ ?_ hxs
      rw [setN_eq, Array.toList_setIfInBounds]
      exact denL_set hT hx

theorem opT_after (hc : CfgOK c) (hP : B.P = c.P) (hgl : B.glob = c.glob) {o : Oper} {l : List Oper} {os : Array Oper} {k : List SItem} {s : SF} {rest : List SF} {H : List SO} {β : Val} {fr : Frame} {frs : List Frame} {w : World} (hF : FrameRel β s fr) (hR : FramesRel β rest frs) (hH : HeapRel B.P B.O B.w0 β H w) (hG : BRel B β)
    (hl : ((fr :: frs).getLast?).map (·.fn) = some B.fn0) (htd : s.todo = .ops os (o :: l) :: k) (hob : (opT o l os k s rest c H go).Ob D S) : After B go D S (lone fr (frs ++ B.cs) w) := by
  have htd' := hF.todo
  rw [htd] at htd'
  cases hft : fr.todo with
  | nil => rw [hft] at htd'; exact htd'.elim
  | cons y k' =>
    rw [hft] at htd'
    obtain ⟨hxy, hkk⟩ := htd'
    cases y <;> first | exact hxy.elim | skip
    rename_i os' idx
    obtain ⟨rfl, hat⟩ := hxy
    cases idx with
    | nil => exact hat.elim
    | cons i0 is0 =>
    obtain ⟨ho, hat⟩ := hat
    -- the frame behind the operation
    have hbehind : ∀ (β' : Val) (T' : List SV) (v : SV) (x : Value), β.le β' → SV.denL β' T' = some fr.tmps.toList → v.den β' = some x → FrameRel β' ⟨s.fn, putT T' o.dst v, .ops os' l :: k, s.defers, s.roundOf⟩ (fr.finish x) ∧ (fr.finish x).fn = fr.fn := by
      intro β' T' v x hle hT' hv
      have h1 : FrameRel β' ⟨s.fn, T', s.todo, s.defers, s.roundOf⟩ fr := by
        have := hF.mono hle
        exact ⟨this.fn, hT', this.todo, this.defers, this.mode, this.kind, this.round⟩
      refine finish_rel h1 hv ?_
      show finTodo s.todo _ v = _
      rw [htd]; rfl
    unfold opT at hob
    rcases wantT_ob hF.tmps hob with ⟨hw, T', hT', hob⟩ | ⟨hw, hob⟩
    · by_cases hd : ∃ cc, o.op = .defer cc
      · obtain ⟨cc, hd⟩ := hd
        rw [show opS c.P (evS c.glob T') H (lenN H) o = .stuck 342 from by unfold opS; rw [hd]; rfl] at hob
        exact hob.elim
      · have hnd : ∀ cc, o.op ≠ .defer cc := fun cc h => hd ⟨cc, h⟩
        have hsg := step_op (P := B.P) hF.mode hft ho hw hnd (cs := frs ++ B.cs) (w := w)
        rw [lenN_eq] at hob
        have hev : ∀ x ∈ o.op.operands, (evS c.glob T' x).den β = some (Act.eval ⟨fr.tmps, fr.defers⟩ x) := fun x _ => evS_den (a := ⟨fr.tmps, fr.defers⟩) hT' (hgl ▸ hG.glob) x
        obtain ⟨r, hr, hob⟩ := R.tree_ob (opS_sat (hP ▸ hH.toHeapRel0) o hev) hob
        rw [← hP] at hr
        cases r with
        | val v sets news =>
          obtain ⟨nx, x, w', β', hrun, hnx, hv, hE, hown⟩ := hr fun i _ => hH.bound _ (Nat.le_add_right _ _)
          obtain ⟨h1, h2⟩ := hbehind β' T' v x hE.le (SV.denL_mono hE.le _ hT') hv
          exact ⟨_, .one (step_val hsg hrun hnx), .inl ⟨_, hob, ⟨β', _, frs, w', rfl, ⟨h1, hR.mono hE.le⟩, hH.apply hE hown, hG.mono hE.le, by rw [last_fn h2]; exact hl⟩⟩⟩
        | enter f args =>
          obtain ⟨vs, ha, hrun⟩ := hr
          have hF' : FrameRel β ⟨s.fn, T', s.todo, s.defers, s.roundOf⟩ fr := ⟨hF.fn, hT', hF.todo, hF.defers, hF.mode, hF.kind, hF.round⟩
          refine callFT_after hc hP hgl hF' hR hH hG hl ha hob (fun he => ?_) fun v w' he => ?_
          · exact .one (step_enter (by rw [hft]; intros; simp) hsg (hrun.trans he))
          · exact .one (step_val hsg (hrun.trans he) rfl)
        | round nm args =>
          obtain ⟨ll, vs, hb, ha, hrun⟩ := hr
          replace hob : (roundT nm args ⟨s.fn, T', s.todo, s.defers, s.roundOf⟩ rest H go).Ob D S := hob
          unfold roundT at hob
          split at hob
          · rename_i st p f T ps a b d hloop
            split at hob
            · rename_i hlen
              obtain ⟨l', r', hb', hh, _, _, hfn, hTT, hps, hass, hbod, _, _⟩ := loop_turn hH (loopOf_spec hloop)
              rw [hb] at hb'; cases hb'
              have hsz : vs.toArray.size = r'.params.size := by
                rw [lenN_eq, lenN_eq] at hlen
                rw [hps]; have := denL_length ha; simp at hlen ⊢; omega
              have hy := run_yield (P := B.P) (args := vs.toArray) hh hsz
              have hF' : FrameRel β ⟨s.fn, T', s.todo, s.defers, s.roundOf⟩ fr := ⟨hF.fn, hT', hF.todo, hF.defers, hF.mode, hF.kind, hF.round⟩
              refine ⟨_, .one (step_round hsg (hrun.trans hy)), .inl ⟨_, hob, ⟨β, _, fr :: frs, w, rfl, ⟨⟨hfn, ?_, ?_, rfl, rfl, rfl, ⟨ll, hb, rfl⟩⟩, hF', hR⟩, hH, hG, by rw [getLast_cons]; exact hl⟩⟩⟩
              · have e : ((r'.params.zip vs.toArray).foldl (fun (ts : Array Value) (x : Tmp × Value) => ts.setIfInBounds x.1 x.2) r'.tmps) = (ps.toList.zip vs).foldl (fun (ts : Array Value) (x : Tmp × Value) => ts.setIfInBounds x.1 x.2) r'.tmps := by
                  rw [← Array.foldl_toList, Array.toList_zip, hps]
                exact (setsP_den ps.toList T args r'.tmps vs hTT ha).trans (congrArg (fun z : Array Value => some z.toList) e.symm)
              · show TodoRel β [.code a, .beginRound, .code b] [.code r'.assign, .beginRound, .code r'.body]
                rw [hass, hbod]; exact ⟨rfl, trivial, rfl, trivial⟩
            · exact hob.elim
          · exact hob.elim
        | defer d => exact hob.elim
        | panic v => exact hob.elim
        | touch v nm =>
          obtain ⟨nx, x, w', e, hrun, hnx, hv, he, heo, hE⟩ := hr
          obtain ⟨h1, h2⟩ := hbehind β T' v x (Val.le_refl β) hT' hv
          have hH' : HeapRel B.P B.O B.w0 β H w' := by
            have := hH.apply (hE.rebase (b := H.length)) (by intro n e' hn; simp at hn; obtain ⟨rfl, rfl⟩ := hn; exact ⟨e', he, heo⟩)
            rwa [applyH_eq, List.append_nil, setsH_same he] at this
          exact ⟨_, .one (step_val hsg hrun hnx), .inl ⟨_, hob, ⟨β, _, frs, w', rfl, ⟨h1, hR⟩, hH', hG, by rw [last_fn h2]; exact hl⟩⟩⟩
    · -- passed over
      obtain ⟨h1, h2⟩ := hbehind β s.tmps undefS undef (Val.le_refl β) hF.tmps (by simp [undefS, SV.den, SV.denL, undef])
      refine ⟨_, .one (step_lone_go ?_), .inl ⟨_, hob, ⟨β, fr.finish undef, frs, w, rfl, ⟨h1, hR⟩, hH, hG, by rw [last_fn h2]; exact hl⟩⟩⟩
      have hg : ((os'[i0]?).map (Region.wanted · (yielded os' fr.tmps))).getD false = false := by rw [ho]; exact hw
      simp [stepG, stepG.exec, hft, hF.mode, hg]

end
end Go.Sim


/-
  The symbolic simulator, twenty-first part: a region that draws its order: what each operation ahead of its tail comes to, wherever its turn comes.
-/
namespace Go.Sim
variable {α : Type}

/-- the outcome that the conditions let through -/
def R.Leaf (r : R α) (a : α) : Prop :=
  match r with
  | .ok b => a = b
  | .need p r => p ∧ r.Leaf a
  | .fork b t f => (b = true ∧ t.Leaf a) ∨ (b = false ∧ f.Leaf a)
  | .stuck _ => False
  | .any _ => False
theorem R.leaf_of_ob {r : R α} {k : α → Tree} {D : SV → List SO → Prop} {S : SS → Prop} (ho : (r.treeD k).Ob D S) : ∃ a, r.Leaf a ∧ (k a).Ob D S := by
  induction r with
  | ok a => exact ⟨a, rfl, ho⟩
  | need p r ih => obtain ⟨a, h1, h2⟩ := ih ho.2; exact ⟨a, ⟨ho.1, h1⟩, h2⟩
  | fork b t f iht ihf =>
    cases b with
    | true => obtain ⟨a, h1, h2⟩ := iht (ho.1 rfl); exact ⟨a, .inl ⟨rfl, h1⟩, h2⟩
    | false => obtain ⟨a, h1, h2⟩ := ihf (ho.2 rfl); exact ⟨a, .inr ⟨rfl, h1⟩, h2⟩
  | stuck n => exact ho.elim
  | any k ih => exact ho.elim
theorem R.sat_leaf {r : R α} {φ : α → Prop} {a : α} (h : r.Sat φ) (hl : r.Leaf a) : φ a := by
  induction r with
  | ok b => rw [show a = b from hl]; exact h
  | need p r ih => exact ih (h hl.1) hl.2
  | fork b t f iht ihf =>
    rcases hl with ⟨hb, hl⟩ | ⟨hb, hl⟩
    · exact iht (h.1 hb) hl
    · exact ihf (h.2 hb) hl
  | stuck n => exact hl.elim
  | any k ih => exact hl.elim

noncomputable def getT (T : List SV) (t : Nat) : SV := (nth T t).getD undefS
structure AgreeOn (β : Val) (T : List SV) (ts : Array Value) (l : List Nat) : Prop where
  size : ts.size = T.length
  at_ : ∀ t ∈ l, (getT T t).den β = some (ts.getD t undef)
structure SameDen (T T' : List SV) : Prop where
  len : T'.length = T.length
  den : ∀ β t, (getT T' t).den β = (getT T t).den β
theorem SameDen.refl (T : List SV) : SameDen T T := ⟨rfl, fun _ _ => rfl⟩
theorem getT_set (T : List SV) (d t : Nat) (v : SV) : getT (setN T d v) t = if t = d ∧ d < T.length then v else getT T t := by
  unfold getT
  rw [nth_eq, nth_eq, setN_eq, List.getElem?_set]
  by_cases h : t = d
  · subst h
    by_cases h2 : t < T.length
    · simp [h2]
    · simp [h2]
  · simp [h, Ne.symm h]

theorem mem_app {l r : List Nat} {x : Nat} : x ∈ app l r ↔ x ∈ l ∨ x ∈ r := by rw [app_eq, List.mem_append]
theorem reads_guard {os : Array Oper} {o : Oper} {j : Nat} {want : Bool} {d : Nat} (hg : o.guard = some (j, want)) (hd : (os[j]?).bind (·.dst) = some d) : d ∈ readsOp os o := by
  unfold readsOp
  rw [mem_app]
  left
  rw [hg]
  have : dstOf os j = some d := by
    unfold dstOf
    rw [nth_eq, show os.toList[j]? = os[j]? from by simp]
    cases h : os[j]? with
    | none => rw [h] at hd; cases hd
    | some o' => rw [h] at hd; exact hd
  simp [this]
theorem reads_operand {os : Array Oper} {o : Oper} {t : Nat} (h : .tmp t ∈ o.op.operands) : t ∈ readsOp os o := by
  unfold readsOp
  rw [mem_app]
  right
  have h' : .tmp t ∈ o.op.operands.toList := by simpa using h
  generalize o.op.operands.toList = l at h'
  induction l with
  | nil => cases h'
  | cons x l ih =>
    show t ∈ app (readTmp x) _
    rw [mem_app]
    rcases List.mem_cons.1 h' with rfl | h''
    · left; exact List.mem_cons_self
    · right; exact ih h''
theorem size_getD {ts : Array Value} {d : Nat} {x : Value} (h : d < ts.size) (hx : ts.getD d undef = x) : ts[d]? = some x := by
  rw [Array.getD_eq_getD_getElem?, Array.getElem?_eq_getElem h] at hx
  rw [Array.getElem?_eq_getElem h]; exact congrArg some hx

section
variable {c : Cfg} {D : SV → List SO → Prop} {S : SS → Prop}

/-- is it carried out? whenever its turn comes -/
theorem wantT_leaf {o : Oper} {os : Array Oper} {T : List SV} {yes : List SV → Tree} {no : Tree} (hob : (wantT o.guard os T yes no).Ob D S) :
    (∃ T', SameDen T T' ∧ (∀ β ts, AgreeOn β T' ts (readsOp os o) → Region.wanted o (yielded os ts) = true) ∧ (yes T').Ob D S) ∨
    ((∀ β ts, AgreeOn β T ts (readsOp os o) → Region.wanted o (yielded os ts) = false) ∧ no.Ob D S) := by
  cases hg : o.guard with
  | none =>
    rw [hg] at hob
    exact .inl ⟨T, .refl T, fun β ts _ => by simp [Region.wanted, hg], hob⟩
  | some p =>
    obtain ⟨j, want⟩ := p
    rw [hg] at hob
    replace hob : (optC (dstOf os j) no fun d => optC (nth T d) (.stuck 410) fun v => v.asBool (isUndef v no) fun b => wantB b want T d yes no).Ob D S := hob
    have hdst : dstOf os j = (os[j]?).bind (·.dst) := by
      unfold dstOf
      rw [nth_eq, show os.toList[j]? = os[j]? from by simp]
      cases os[j]? <;> rfl
    rw [hdst] at hob
    have hw : ∀ ts, Region.wanted o (yielded os ts) = (yielded os ts j == some want) := fun ts => by simp [Region.wanted, hg]
    cases hd : (os[j]?).bind (·.dst) with
    | none =>
      rw [hd] at hob
      exact .inr ⟨fun β ts _ => by rw [hw]; simp [yielded, hd], hob⟩
    | some d =>
      have hmem := reads_guard hg hd
      rw [hd] at hob
      simp only [optC_some] at hob
      cases hv : nth T d with
      | none => rw [hv] at hob; exact hob.elim
      | some v =>
        rw [hv] at hob
        simp only [optC_some] at hob
        have hdlt : d < T.length := by
          rw [nth_eq] at hv; exact (List.getElem?_eq_some_iff.1 hv).1
        have hgv : getT T d = v := by unfold getT; rw [hv]; rfl
        have hsee : ∀ β ts (T' : List SV) (x : Value), AgreeOn β T' ts (readsOp os o) → T'.length = T.length → (getT T' d).den β = some x → ts[d]? = some x := by
          intro β ts T' x ha hl hx
          have := ha.at_ d hmem
          rw [hx] at this
          exact size_getD (by rw [ha.size, hl]; exact hdlt) (Option.some.inj this).symm
        rcases asBool_cases v with ⟨b, rfl⟩ | hnb
        · replace hob : (wantB b want T d yes no).Ob D S := hob
          have hy : ∀ β ts (T' : List SV) (q : Bool), AgreeOn β T' ts (readsOp os o) → T'.length = T.length → (getT T' d).den β = some (.bool q) → yielded os ts j = some q := by
            intro β ts T' q ha hl hx
            have := hsee β ts T' _ ha hl hx
            simp [yielded, hd, this]
          cases b with
          | lit b =>
            have hyl : ∀ β ts, AgreeOn β T ts (readsOp os o) → yielded os ts j = some b := fun β ts ha => hy β ts T b ha rfl (by rw [hgv]; rfl)
            cases b <;> cases want <;> first
              | exact .inl ⟨T, .refl T, fun β ts ha => by rw [hw, hyl β ts ha]; rfl, hob⟩
              | exact .inr ⟨fun β ts ha => by rw [hw, hyl β ts ha]; rfl, hob⟩
          | sym b =>
            have hsd : ∀ q : Bool, b = q → SameDen T (setN T d (.bool (.lit q))) := by
              intro q hq
              refine ⟨by rw [setN_eq]; simp, fun β t => ?_⟩
              rw [getT_set]
              split
              · rename_i h; rw [h.1, hgv, hq]; rfl
              · rfl
            have hyq : ∀ q : Bool, b = q → ∀ β ts, AgreeOn β (setN T d (.bool (.lit q))) ts (readsOp os o) → yielded os ts j = some q := fun q hq β ts ha =>
              hy β ts _ q ha (hsd q hq).len (by rw [getT_set, if_pos ⟨rfl, hdlt⟩]; rfl)
            have hyl : ∀ q : Bool, b = q → ∀ β ts, AgreeOn β T ts (readsOp os o) → yielded os ts j = some q := fun q hq β ts ha => hy β ts T q ha rfl (by rw [hgv, ← hq]; rfl)
            cases b with
            | true =>
              have := hob.1 rfl
              cases want
              · exact .inr ⟨fun β ts ha => by rw [hw, hyl true rfl β ts ha]; rfl, this⟩
              · exact .inl ⟨_, hsd true rfl, fun β ts ha => by rw [hw, hyq true rfl β ts ha]; rfl, this⟩
            | false =>
              have := hob.2 rfl
              cases want
              · exact .inl ⟨_, hsd false rfl, fun β ts ha => by rw [hw, hyq false rfl β ts ha]; rfl, this⟩
              · exact .inr ⟨fun β ts ha => by rw [hw, hyl false rfl β ts ha]; rfl, this⟩
        · rw [hnb] at hob
          rcases asTuple_cases v with ⟨l, rfl⟩ | hnt
          · cases l with
            | cons => exact hob.elim
            | nil =>
              refine .inr ⟨fun β ts ha => ?_, hob⟩
              have := hsee β ts T (.tuple #[]) ha rfl (by rw [hgv]; rfl)
              rw [hw]; simp [yielded, hd, this]
          · unfold isUndef at hob
            rw [hnt] at hob
            exact hob.elim

inductive Fct where
  | skip
  | run (v : SV) (N : List SO) (base : Nat) (sets : List (Nat × SO))
  | touch (v : SV) (nm : Nat)
def Fct.val : Fct → SV
  | .skip => undefS
  | .run v _ _ _ => v
  | .touch v _ => v
def Fct.news : Fct → List SO
  | .skip => []
  | .run _ N _ _ => N
  | .touch _ _ => []
def Fct.sets : Fct → List (Nat × SO)
  | .skip => []
  | .run _ _ _ s => s
  | .touch _ _ => []
/-- what an operation comes to, whenever its turn comes -/
def OpGood (P : Program) (glob : Nat → Option Nat) (H : List SO) (os : Array Oper) (o : Oper) (T : List SV) : Fct → Prop
  | .skip => ∀ β ts, AgreeOn β T ts (readsOp os o) → Region.wanted o (yielded os ts) = false
  | .run v N base sets => ∀ β ts, AgreeOn β T ts (readsOp os o) → Region.wanted o (yielded os ts) = true ∧
      ∀ (O : Nat → Prop) (w0 w : World), HeapRel0 P O w0 β H w → GlobRel glob β → Free β base N →
        ∀ (f : Frame) (cs : List Frame) (i : Nat) (rest : List Nat) (k : List Item), f.mode = .run → f.todo = .inRegion os (i :: rest) :: k → os[i]? = some o → f.tmps = ts →
          ∃ x w' β', v.den β' = some x ∧ Eff P β w base sets N β' w' ∧ (∀ n e, (n, e) ∈ sets → ∃ e0, H[n]? = some e0 ∧ e0.owned = true) ∧ Steps P (lone f cs w) (lone (f.finish x) cs w')

  | .touch v nm => ∀ β ts, AgreeOn β T ts (readsOp os o) → Region.wanted o (yielded os ts) = true ∧
      ∀ (O : Nat → Prop) (w0 w : World), HeapRel0 P O w0 β H w → GlobRel glob β →
        ∀ (f : Frame) (cs : List Frame) (i : Nat) (rest : List Nat) (k : List Item), f.mode = .run → f.todo = .inRegion os (i :: rest) :: k → os[i]? = some o → f.tmps = ts →
          ∃ x w' e, v.den β = some x ∧ H[nm]? = some e ∧ e.owned = true ∧ Eff P β w 0 [(nm, e)] [] β w' ∧ Steps P (lone f cs w) (lone (f.finish x) cs w')

theorem drNews_ob {v : SV} {news : List SO} {p : DPos} {dst : Option Tmp} {T : List SV} {N : List (Nat × SO)} {next : List SV → List (Nat × SO) → Tree} (h : (drNews v news p dst T N next).Ob D S) : news.length ≤ 1 ∧ (next (putT T dst v) (N ++ news.map fun e => (p.i, e))).Ob D S := by
  unfold drNews at h
  split at h
  · exact ⟨by simp, by rw [List.map_nil, List.append_nil]; exact h⟩
  · exact ⟨by simp, by rw [← app_eq]; exact h⟩
  · exact h.elim
theorem allN_mem {α : Type} {p : α → Bool} {l : List α} (h : allN p l = true) : ∀ x ∈ l, p x = true := by
  induction l with
  | nil => intro x hx; cases hx
  | cons a r ih =>
    obtain ⟨h1, h2⟩ : p a = true ∧ allN p r = true := by
      replace h : boolC (p a) (allN p r) false = true := h
      cases hp : p a with
      | true => rw [hp] at h; exact ⟨rfl, h⟩
      | false => rw [hp] at h; cases h
    intro x hx
    rcases List.mem_cons.1 hx with rfl | hx
    · exact h1
    · exact ih h2 x hx
/-- an entry that the region itself has laid, and nobody sees who may come behind the last operation -/
def FreshAt (x : DCtx) (m last : Nat) (L : List (Nat × SO)) (n : Nat) : Prop :=
  x.H.length ≤ n ∧ ∃ j e0, L[n - x.H.length]? = some (j, e0) ∧ m.testBit j = true ∧ ∀ i, i < last → m.testBit i = true ∨ (((masks x.os.toList [])[i]?).getD 0).testBit j = false
/-- where the last operation turns entries -/
structure SetsLast (x : DCtx) (p : DPos) (N : List (Nat × SO)) (sets : List (Nat × SO)) : Prop where
  last : p.last = true
  mL : x.mL = some p.m
  hid : ∀ n e, (n, e) ∈ sets → hidN x.H n = true ∨ FreshAt x p.m p.i N n
theorem freshN_spec {x : DCtx} {p : DPos} {N : List (Nat × SO)} {n : Nat} (h : freshN x p N n = true) : FreshAt x p.m p.i N n := by
  unfold freshN at h
  rw [lenN_eq] at h
  cases hb : Nat.ble x.H.length n with
  | false => rw [hb] at h; cases h
  | true =>
    rw [hb, boolC_true, nth_eq] at h
    have hle := Nat.le_of_ble_eq_true hb
    have h : (optC N[n - x.H.length]? false fun q => freshJ (masks x.os.toList []) p.m p.i q.1) = true := h
    cases hN : N[n - x.H.length]? with
    | none => rw [hN] at h; cases h
    | some q =>
      rw [hN] at h
      have h : freshJ (masks x.os.toList []) p.m p.i q.1 = true := h
      unfold freshJ at h
      cases hj : bitN p.m q.1 with
      | false => rw [hj] at h; cases h
      | true =>
        rw [hj, boolC_true] at h
        refine ⟨hle, q.1, q.2, hN, hj, fun i hi => ?_⟩
        have := allN_mem h i (by rw [fromN_eq, List.mem_range'_1]; omega)
        have this : boolC (bitN p.m i) true (boolC (bitN (optC (nth (masks x.os.toList []) i) 0 fun k => k) q.1) false true) = true := this
        cases hi' : bitN p.m i with
        | true => exact .inl hi'
        | false =>
          right
          rw [hi', boolC_false, nth_eq] at this
          have e : (optC (masks x.os.toList [])[i]? 0 fun k => k) = ((masks x.os.toList [])[i]?).getD 0 := by cases (masks x.os.toList [])[i]? <;> rfl
          rw [e] at this
          cases hk : bitN (((masks x.os.toList [])[i]?).getD 0) q.1 with
          | false => exact hk
          | true => rw [hk] at this; cases this
theorem drVal_ob {v : SV} {sets : List (Nat × SO)} {news : List SO} {x : DCtx} {p : DPos} {dst : Option Tmp} {T : List SV} {N : List (Nat × SO)} {next : List SV → List (Nat × SO) → Tree} (h : (drVal v sets news x p dst T N next).Ob D S) :
    (sets = [] ∧ news.length ≤ 1 ∧ (next (putT T dst v) (N ++ news.map fun e => (p.i, e))).Ob D S) ∨ (sets ≠ [] ∧ news = [] ∧ SetsLast x p N sets ∧ (x.fin (putT T dst v) (N.map (·.2)) sets).Ob D S) := by
  unfold drVal at h
  split at h
  · exact .inl ⟨rfl, drNews_ob h⟩
  · rename_i hne
    right
    unfold drSets at h
    split at h
    · cases hl : p.last with
      | false => rw [hl] at h; exact h.elim
      | true =>
        rw [hl] at h
        cases hm : x.mL with
        | none => rw [hm] at h; exact h.elim
        | some m =>
          rw [hm] at h
          replace h : (boolC (Nat.beq m p.m) (boolC (allN (fun q => boolC (hidN x.H q.1) true (freshN x p N q.1)) sets) (x.fin (putT T dst v) (mapN (fun p => p.2) N) sets) (.stuck 436)) (.stuck 437)).Ob D S := h
          cases hb : Nat.beq m p.m with
          | false => rw [hb] at h; exact h.elim
          | true =>
            rw [hb] at h
            cases ha : allN (fun q => boolC (hidN x.H q.1) true (freshN x p N q.1)) sets with
            | false => rw [ha] at h; exact h.elim
            | true =>
              rw [ha] at h
              replace h : (x.fin (putT T dst v) (mapN (fun p => p.2) N) sets).Ob D S := h
              rw [mapN_eq] at h
              refine ⟨fun he => hne he, rfl, ⟨hl, by rw [Nat.eq_of_beq_eq_true hb] at hm; exact hm, fun n e hn => ?_⟩, h⟩
              have := allN_mem ha _ hn
              have this : boolC (hidN x.H n) true (freshN x p N n) = true := this
              cases hh : hidN x.H n with
              | true => exact .inl rfl
              | false => rw [hh, boolC_false] at this; exact .inr (freshN_spec this)
    · exact h.elim
theorem seenH_eq (H : List SO) (m : Nat) (N : List (Nat × SO)) : seenH H m N = H ++ maskN m N := by
  cases N with
  | nil => show H = H ++ []; rw [List.append_nil]
  | cons a r => show app H (maskN m (a :: r)) = _; rw [app_eq]
theorem drOp_ob {x : DCtx} (hc : CfgOK x.c) {o : Oper} {p : DPos} {T : List SV} {N : List (Nat × SO)} {next : List SV → List (Nat × SO) → Tree} (h : (drOp o x p T N next).Ob D S) :
    ∃ T' f, SameDen T T' ∧ OpGood x.c.P x.c.glob (seenH (x.atI p.i p.last) p.m N) x.os o T' f ∧ ((f.sets = [] ∧ (next (putT T' o.dst f.val) (N ++ f.news.map fun e => (p.i, e))).Ob D S) ∨ (f.sets ≠ [] ∧ f.news = [] ∧ SetsLast x p N f.sets ∧ (x.fin (putT T' o.dst f.val) (N.map (·.2)) f.sets).Ob D S)) ∧ f.news.length ≤ 1 ∧ ∀ v M b s, f = .run v M b s → b = x.H.length + N.length := by
  unfold drOp at h
  rcases wantT_leaf h with ⟨T', hsd, hwant, h⟩ | ⟨hwant, h⟩
  · obtain ⟨r, hleaf, h⟩ := R.leaf_of_ob h
    have hnd : ∀ cc, o.op ≠ .defer cc := by
      intro cc hd
      rw [show opS x.c.P (evS x.c.glob T') (seenH (x.atI p.i p.last) p.m N) (Nat.add (lenN x.H) (lenN N)) o = .stuck 342 from by unfold opS; rw [hd]; rfl] at hleaf
      exact hleaf
    have hbase : Nat.add (lenN x.H) (lenN N) = x.H.length + N.length := by rw [lenN_eq, lenN_eq]; rfl
    rw [hbase] at hleaf
    have hev : ∀ (β : Val) (ts : Array Value) (ds : List Deferred), AgreeOn β T' ts (readsOp x.os o) → GlobRel x.c.glob β → ∀ y ∈ o.op.operands, (evS x.c.glob T' y).den β = some (Act.eval ⟨ts, ds⟩ y) := by
      intro β ts ds ha hG y hy
      cases y with
      | tmp t =>
        have h1 := ha.at_ t (reads_operand hy)
        have e : evS x.c.glob T' (.tmp t) = getT T' t := by
          show optC (nth T' t) undefS (fun v => v) = _
          unfold getT; cases nth T' t <;> rfl
        rw [e]; exact h1
      | const v => exact constV_den β v
      | global g =>
        show (evGlob g x.c.glob T').den β = _
        unfold evGlob
        split
        · rename_i nm h
          obtain ⟨l, h1, h2, h3⟩ := hG g nm h
          simp [SV.den, SA.den, h1, h2, h3, SN.den, Act.eval]
        · rfl
      | func f => rfl
    cases r with
    | val v sets news =>
      have hor := drVal_ob (x := x) (D := D) (S := S) (show (drVal v sets news x p o.dst T' N next).Ob D S from h)
      have hn : news.length ≤ 1 := by rcases hor with ⟨_, hn, _⟩ | ⟨_, hn, _⟩ <;> first | exact hn | (have hn : news = [] := hn; simp [hn])
      refine ⟨T', .run v news (x.H.length + N.length) sets, hsd, ?_, hor.imp (fun h => ⟨h.1, h.2.2⟩) id, hn, fun _ _ _ _ e => by cases e; rfl⟩
      intro β ts ha
      refine ⟨hwant β ts ha, fun O w0 w hH hG hfree f cs i rest k hm htd ho hts => ?_⟩
      subst hts
      have hsg := step_op (P := x.c.P) hm htd ho (hwant β f.tmps ha) hnd (cs := cs) (w := w)
      obtain ⟨nx, y, w', β', hrun, hnx, hv, hE, hso⟩ := R.sat_leaf (opS_sat hH o (hev β f.tmps f.defers ha hG)) hleaf hfree
      exact ⟨y, w', β', hv, hE, hso, .one (step_val hsg hrun hnx)⟩
    | enter g args =>
      replace h : (drEnter g args x p o.dst T' N next).Ob D S := h
      unfold drEnter at h
      split at h
      · rename_i sm hsm
        obtain ⟨r, hleaf2, h⟩ := R.leaf_of_ob h
        rw [hbase] at hleaf2
        obtain ⟨v, sets, news⟩ := r
        have hor := drVal_ob (x := x) (D := D) (S := S) h
        have hn : news.length ≤ 1 := by rcases hor with ⟨_, hn, _⟩ | ⟨_, hn, _⟩ <;> first | exact hn | (have hn : news = [] := hn; simp [hn])
        refine ⟨T', .run v news (x.H.length + N.length) sets, hsd, ?_, hor.imp (fun h => ⟨h.1, h.2.2⟩) id, hn, fun _ _ _ _ e => by cases e; rfl⟩
        intro β ts ha
        refine ⟨hwant β ts ha, fun O w0 w hH hG hfree f cs i rest k hm htd ho hts => ?_⟩
        subst hts
        have hsg := step_op (P := x.c.P) hm htd ho (hwant β f.tmps ha) hnd (cs := cs) (w := w)
        obtain ⟨vs, hvs, hrun⟩ := R.sat_leaf (opS_sat hH o (hev β f.tmps f.defers ha hG)) hleaf
        obtain ⟨hso, hcall⟩ := R.sat_leaf (hc.sums g sm hsm O w0 β (seenH (x.atI p.i p.last) p.m N) w _ args vs hH hG hvs) hleaf2 hfree
        rcases hcall with ⟨⟨fn, hfn, hb⟩, hcall⟩ | ⟨v', w', β', hrun2, hv, hE⟩
        · obtain ⟨e, w', fr', ⟨v', β', rfl, hv, hE⟩, hcomes, _, hleave⟩ := hcall (f :: cs)
          exact ⟨v', w', β', hv, hE, hso, .trans (.one (step_enter (by rw [htd]; intros; simp) hsg (hrun.trans (run_callFunc hc.prog hfn hb _ _)))) (.trans hcomes (.one (step_leave_returned hleave)))⟩
        · exact ⟨v', w', β', hv, hE, hso, .one (step_val hsg (hrun.trans hrun2) rfl)⟩
      · exact h.elim
    | round nm args => exact h.elim
    | defer d => exact h.elim
    | panic v => exact h.elim
    | touch v nm =>
      have hor := drVal_ob (x := x) (D := D) (S := S) (show (drVal v [] [] x p o.dst T' N next).Ob D S from h)
      refine ⟨T', .touch v nm, hsd, ?_, hor.imp (fun h => ⟨h.1, h.2.2⟩) (fun h => absurd rfl h.1), by simp [Fct.news], fun _ _ _ _ e => by cases e⟩
      intro β ts ha
      refine ⟨hwant β ts ha, fun O w0 w hH hG f cs i rest k hm htd ho hts => ?_⟩
      subst hts
      have hsg := step_op (P := x.c.P) hm htd ho (hwant β f.tmps ha) hnd (cs := cs) (w := w)
      obtain ⟨nx, y, w', e, hrun, hnx, hv, he, heo, hE⟩ := R.sat_leaf (opS_sat (base := x.H.length + N.length) hH o (hev β f.tmps f.defers ha hG)) hleaf
      exact ⟨y, w', e, hv, he, heo, hE.rebase, .one (step_val hsg hrun hnx)⟩
  · exact ⟨T, .skip, .refl T, hwant, .inl ⟨rfl, by rw [show Fct.news .skip = [] from rfl, List.map_nil, List.append_nil]; exact h⟩, by simp [Fct.news], fun _ _ _ _ e => by cases e⟩

end
end Go.Sim

