/-
  Texts behind one another: the symbolic simulator and what it is told of the program.
-/
import Derived.Test.YtheebgojaijplaaDoorPk5
import Derived.WideShapes
import Derived.ChangeShapes
import Derived.ChangeSlices
import Derived.Deep.Strs
import Derived.Test.YtheebgojaijplaaDoorZRtc6

/-
  Functions of one string, told for some strings.
-/
namespace Go.Proofs.YtheebgojaijplaaDoor.Aes
open Go.Sim
open Go.Proofs
variable {α : Type}

set_option maxRecDepth 1000000
def bAs (l : List UInt8) : ByteArray := ⟨l.toArray⟩
def strIs (v : SV) (l : List UInt8) : Bool := match v with | .str (.lit s) => s.data.toList == l | _ => false
theorem strIs_spec {v : SV} {l : List UInt8} (h : strIs v l = true) : v = .str (.lit (bAs l)) := by
  unfold strIs at h
  split at h
  · rename_i s
    have h := eq_of_beq h
    obtain ⟨⟨x⟩⟩ := s
    have h : x = l := h
    rw [h]; rfl
  · cases h
/-- what a table says of a string -/
noncomputable def litTab (T : List (List UInt8 × Bool)) (v : SV) : Option Bool := List.rec (motive := fun _ => Option Bool) none (fun a _ ih => boolC (strIs v a.1) (some a.2) ih) T
theorem litTab_spec {v : SV} {b : Bool} : ∀ {T : List (List UInt8 × Bool)}, litTab T v = some b → ∃ l, (l, b) ∈ T ∧ v = .str (.lit (bAs l))
  | [], h => by cases h
  | a :: T, h => by
    have h : boolC (strIs v a.1) (some a.2) (litTab T v) = some b := h
    cases hb : strIs v a.1 with
    | true =>
      rw [hb] at h
      cases h
      exact ⟨a.1, List.mem_cons_self, strIs_spec hb⟩
    | false =>
      rw [hb] at h
      obtain ⟨l, hl, e⟩ := litTab_spec h
      exact ⟨l, List.mem_cons_of_mem _ hl, e⟩
noncomputable def tabS (T : List (List UInt8 × Bool)) : Summ := fun args _ _ => args1 args fun v => optC (litTab T v) (.stuck 690) fun b => .ok ⟨.bool (.lit b), [], []⟩
/-- a table is right, from its runs -/
theorem tabOK {g : FuncId → Option Summ} (hc : CfgOK (cfgOf g)) {f : FuncId} {n : Nat} {T : List (List UInt8 × Bool)}
    (h : mapN (fun p : List UInt8 × Bool => outO [] (callSim (cfgOf g) n f [.str (.lit (bAs p.1))] []) []) T = mapN (fun p : List UInt8 × Bool => (([], some (.bool (.lit p.2), [])) : List Prop × Option (SV × List (Option SO)))) T) : SumOK Tryd.prog f (tabS T) := by
  intro glob O w0 β H w base args vs hH hG ha
  refine args1_sat fun v hv => optC_only fun b hb => ?_
  obtain ⟨l, hl, rfl⟩ := litTab_spec hb
  rw [hv] at ha
  rw [mapN_eq, mapN_eq, List.map_inj_left] at h
  exact sum_outO hc rfl n hH ⟨[], [], [.str (.lit (bAs l))]⟩ ha (fits0 rfl) [] (by simp) (by simp) (h _ hl) all_nil fun H2 _ => ends0 rfl rfl rfl
end Go.Proofs.YtheebgojaijplaaDoor.Aes


/-
  The symbolic simulator, thirty-seventh part: a run as its own summary, where all is known: with what it makes, without conditions.
-/
namespace Go.Sim
variable {α : Type}

/- The names in a value, an entry. -/
def SC.nms : SC → List Nat
  | .rest nm _ => [nm]
  | _ => []
def SFn.nms : SFn → List Nat
  | .yield nm => [nm]
  | _ => []
mutual
noncomputable def SV.nms : SV → List Nat
  | .ptr a => [a.nm]
  | .slice a _ c => a.nm :: c.nms
  | .tail a _ _ c => a.nm :: c.nms
  | .map nm => [nm]
  | .func g xs ys => app g.nms (app (SV.nmsL xs) (SV.nmsL ys))
  | .iface _ v => v.nms
  | .agg l => SV.nmsL l
  | .tuple l => SV.nmsL l
  | _ => []
noncomputable def SV.nmsL : List SV → List Nat
  | [] => []
  | v :: l => app v.nms (SV.nmsL l)
end
noncomputable def nmsC (c : Cells) : List Nat := Cells.rec (motive := fun _ => List Nat) (fun l => SV.nmsL l) (fun _ _ => []) (fun _ _ => []) c
noncomputable def nmsEs (es : List (SV × SV × Nat)) : List Nat := List.rec (motive := fun _ => List Nat) [] (fun e _ ih => app e.1.nms (app e.2.1.nms ih)) es
noncomputable def nmsO (o : SObj) : List Nat := SObj.rec (motive := fun _ => List Nat) (fun es _ => nmsEs es) (fun m _ _ _ => optC m [] fun n => [n]) (fun _ _ => []) (fun _ _ _ _ => []) o
noncomputable def nmsE (e : SO) : List Nat := SO.rec (motive := fun _ => List Nat) (fun c _ _ => nmsC c) (fun c => nmsC c) (fun _ _ _ _ _ _ _ _ => []) (fun _ => []) [] (fun o => nmsO o) e
/-- all that can be reached -/
noncomputable def reachN (H : List SO) (n : Nat) : List Nat → List Nat → List Nat :=
  Nat.rec (motive := fun _ => List Nat → List Nat → List Nat) (fun _ seen => seen)
    (fun _ ih todo seen => List.rec (motive := fun _ => List Nat) seen (fun a r _ => boolC (memN a seen) (ih r seen) (ih (app (optC (nth H a) [] nmsE) r) (a :: seen))) todo) n
noncomputable def renO (f : Nat → Nat) (e : SO) : SO := SO.rec (motive := fun _ => SO) (fun c w el => .own (c.ren f) w el) (fun c => .row (c.ren f)) (fun _ _ _ _ _ _ _ _ => .gone) (fun _ => .gone) .gone (fun o => .obj (o.ren f)) e
/-- what is read alone -/
noncomputable def rowO (ro : Bool) (e : SO) : SO := boolC ro (SO.rec (motive := fun _ => SO) (fun c _ _ => .row c) (fun c => .row c) (fun _ _ _ _ _ _ _ _ => .gone) (fun _ => .gone) .gone (fun o => .obj o) e) e
/-- how it ends, where that is certain -/
noncomputable def detT (t : Tree) : Option (SV × List SO) :=
  Tree.rec (motive := fun _ => Option (SV × List SO)) (fun v H => some (v, H)) (fun _ => none) (fun _ _ _ => none) (fun b _ _ iht ihf => boolC b iht ihf) (fun _ => none) (fun _ _ => none) t
theorem detT_ob {v : SV} {H : List SO} : ∀ {t : Tree}, detT t = some (v, H) → t.Ob (fun v' H' => v' = v ∧ H' = H) fun _ => False := by
  intro t
  induction t with
  | done v' H' => intro h; cases h; exact ⟨rfl, rfl⟩
  | stop => intro h; cases h
  | need => intro h; cases h
  | fork b t f iht ihf =>
    intro h
    have h : boolC b (detT t) (detT f) = some (v, H) := h
    exact ⟨fun hb => iht (by rw [hb] at h; exact h), fun hb => ihf (by rw [hb] at h; exact h)⟩
  | stuck => intro h; cases h
  | any => intro h; cases h
noncomputable def notKnown (n : Nat) (l : List Nat) : List Nat := filterN (fun j => Nat.ble n j) l
noncomputable def keepsAt (p : Nat → Bool) (H : List SO) (js : List Nat) : Bool := allN (fun m => optC (nth H m) false fun e => e.keeps p) js
noncomputable def smallI (ro : Bool) (M : List Nat) (args : List SV) (H : List SO) : Ifc := ⟨M, mapN (fun m => rowO ro (renO (fun n => idxN n M) (atE (nth H m)))) M, SV.renL (fun n => idxN n M) args⟩
noncomputable def outM (I : Ifc) (base : Nat) (turn keep : List Nat) (v : SV) (H2 : List SO) : R SumRes :=
  boolC (boolC (nodupN keep) (boolC (allN (fun j => Nat.ble (lenN I.names) j) keep) (boolC (v.uses (I.seen keep)) (boolC (keepsAt (I.seen keep) H2 turn) (boolC (keepsAt (I.seen keep) H2 keep) (allN (fun m => optC (nth H2 m) false SO.owned) (app turn keep)) false) false) false) false) false)
    (.ok ⟨v.ren (I.out base keep), mapN (fun j => (I.big j, renO (I.out base keep) (atE (nth H2 j)))) turn, mapN (fun j => renO (I.out base keep) (atE (nth H2 j))) keep⟩) (.stuck 7782)
noncomputable def runI (c : Cfg) (n : Nat) (f : FuncId) (I : Ifc) (base : Nat) (turn : List Nat) : R SumRes :=
  optC (detT (callSim c n f I.args I.ents)) (.stuck 7781) fun r => outM I base turn (notKnown (lenN I.names) (reachN r.2 400 (app r.1.nms turn) [])) r.1 r.2
noncomputable def runM (ro : Bool) (c : Cfg) (n : Nat) (f : FuncId) (args : List SV) (H : List SO) (base : Nat) (M : List Nat) : R SumRes :=
  boolC (boolC (nodupN M) (boolC (keepsAt (fun n => memN n M) H M) (boolC (SV.usesL (fun n => memN n M) args) (boolC (SV.usesL (smallI ro M args H).known (smallI ro M args H).args) (allN (fun e => e.keeps (smallI ro M args H).known) (smallI ro M args H).ents) false) false) false) false)
    (runI c n f (smallI ro M args H) base (ownedOf (smallI ro M args H).ents 0)) (.stuck 7783)
/-- A RUN AS A SUMMARY -/
noncomputable def ownRun (ro : Bool) (fl : Nat) (c : Cfg) (n : Nat) (f : FuncId) : Summ := fun args H base => List.rec (motive := fun _ => R SumRes) (.stuck fl) (fun _ _ _ => runM ro c n f args H base (reachN H 400 (SV.nmsL args) [])) args

theorem SO.keeps_cuses {p : Nat → Bool} {e : SO} (h : e.keeps p = true) : e.CUsesQ p := by
  cases e with
  | own c w el => cases c with
    | lst l => exact h
    | fn => cases h
    | raw => trivial
  | row c => cases c with
    | lst l => exact h
    | fn => cases h
    | raw => trivial
  | loop => cases h
  | deferred => cases h
  | gone => cases h
  | obj o => exact h
theorem cells_round {p : Nat → Bool} {q g : Nat → Nat} (hq : ∀ n, p n = true → g (q n) = n) {c : Cells} (h : (match c with | .lst l => SV.usesL p l | .fn _ _ => false | .raw _ _ => true) = true) : c.Imp ((c.ren q).ren g) := by
  intro β vs hr
  cases c with
  | lst l =>
    show SV.denL β (SV.renL g (SV.renL q l)) = some vs
    rw [SV.denL_ren, SV.denL_ren]
    rw [← SV.denL_uses (p := p) (β := β) (fun n hn => by show β n = β (g (q n)); rw [hq n hn]) l h]
    exact hr
  | fn => cases h
  | raw => exact hr
theorem taken_round {p : Nat → Bool} {q g : Nat → Nat} (hq : ∀ n, p n = true → g (q n) = n) {e : SO} (h : e.keeps p = true) : TakenQ g (renO q e) e := by
  cases e with
  | own c w el => exact ⟨c, rfl, cells_round hq (by cases c <;> exact h)⟩
  | row c => exact ⟨c, .inl rfl, (cells_round hq (by cases c <;> exact h)).front⟩
  | loop => cases h
  | deferred => cases h
  | gone => cases h
  | obj o =>
    refine ⟨o, rfl, fun β x hx => ?_⟩
    rw [SObj.den_ren, SObj.den_ren]
    rw [← SObj.den_uses (p := p) (β := β) (fun n hn => by show β n = β (g (q n)); rw [hq n hn]) h]
    exact hx
theorem taken_ro (ro : Bool) {g : Nat → Nat} {E e : SO} (h : TakenQ g E e) : TakenQ g (rowO ro E) e := by
  cases ro with
  | false => exact h
  | true =>
    cases E with
    | own c w el => obtain ⟨c0, rfl, h⟩ := h; exact ⟨c0, .inr ⟨w, el, rfl⟩, h.front⟩
    | row c => exact h
    | loop => exact h.elim
    | deferred => exact h.elim
    | gone => exact h
    | obj o => exact h
theorem given_of {p : Nat → Bool} {g : Nat → Nat} {e : SO} (h : e.keeps p = true) (ho : e.owned = true) : GivenQ p g (some e) (renO g e) := by
  cases e with
  | own c w el =>
    refine .inl ⟨c, w, el, c.ren g, rfl, ?_, Cells.Imp.refl _, rfl⟩
    cases c with
    | lst l => exact h
    | fn => cases h
    | raw => trivial
  | row => cases ho
  | loop => cases h
  | deferred => cases h
  | gone => cases h
  | obj o => exact .inr ⟨o, o.ren g, rfl, h, fun _ _ x => x, rfl⟩
theorem keepsAt_get {p : Nat → Bool} {H : List SO} {js : List Nat} (h : keepsAt p H js = true) {j : Nat} (hj : j ∈ js) : ∃ e, H[j]? = some e ∧ e.keeps p = true := by
  have := allN_mem h j hj
  rw [nth_eq] at this
  cases hx : H[j]? with
  | none => rw [hx] at this; cases this
  | some e => rw [hx] at this; exact ⟨e, rfl, this⟩
theorem setsQ_of {big : Nat → Nat} {p : Nat → Bool} {g : Nat → Nat} {H : List SO} : ∀ {js : List Nat}, (∀ j ∈ js, ∃ e, H[j]? = some e ∧ e.keeps p = true ∧ e.owned = true) → SetsQ big p g H js (mapN (fun j => (big j, renO g (atE (nth H j)))) js)
  | [], _ => trivial
  | j :: js, h => by
    obtain ⟨e, he, hk, ho⟩ := h j List.mem_cons_self
    refine ⟨⟨rfl, ?_⟩, setsQ_of fun k hk => h k (List.mem_cons_of_mem _ hk)⟩
    show GivenQ p g H[j]? (renO g (atE (nth H j)))
    rw [nth_eq, he]
    exact given_of hk ho
theorem newsQ_of {p : Nat → Bool} {g : Nat → Nat} {H : List SO} : ∀ {js : List Nat}, (∀ j ∈ js, ∃ e, H[j]? = some e ∧ e.keeps p = true ∧ e.owned = true) → NewsQ p g H js (mapN (fun j => renO g (atE (nth H j))) js)
  | [], _ => trivial
  | j :: js, h => by
    obtain ⟨e, he, hk, ho⟩ := h j List.mem_cons_self
    refine ⟨?_, newsQ_of fun k hk => h k (List.mem_cons_of_mem _ hk)⟩
    show GivenQ p g H[j]? (renO g (atE (nth H j)))
    rw [nth_eq, he]
    exact given_of hk ho
theorem boolC_two {a b : Bool} (h : boolC a b false = true) : a = true ∧ b = true := by cases a <;> first | exact ⟨rfl, h⟩ | cases h
theorem runM_sat {ro : Bool} {c : Cfg} (hc : CfgOK c) (hg : ∀ g, c.glob g = none) {n : Nat} {f : FuncId} {O : Nat → Prop} {w0 w : World} {β : Val} {H : List SO} {base : Nat} {args : List SV} {vs : List Value} (M : List Nat)
    (hH : HeapRel0 c.P O w0 β H w) (ha : SV.denL β args = some vs) : (runM ro c n f args H base M).Sat (SumSem c.P H β w base f vs) := by
  unfold runM
  cases hok : boolC (nodupN M) (boolC (keepsAt (fun n => memN n M) H M) (boolC (SV.usesL (fun n => memN n M) args) (boolC (SV.usesL (smallI ro M args H).known (smallI ro M args H).args) (allN (fun e => e.keeps (smallI ro M args H).known) (smallI ro M args H).ents) false) false) false) false with
  | false => trivial
  | true =>
    obtain ⟨h1, hok⟩ := boolC_two hok
    obtain ⟨h2, hok⟩ := boolC_two hok
    obtain ⟨h3, hok⟩ := boolC_two hok
    obtain ⟨h4, h5⟩ := boolC_two hok
    rw [boolC_true]
    have hM : M.Nodup := nodupN_spec M h1
    have hround : ∀ n, memN n M = true → (smallI ro M args H).big (idxN n M) = n := by
      intro n hn
      show (nth M (idxN n M)).getD 0 = n
      rw [nth_eq, idxN_spec (memN_iff.1 hn)]
      rfl
    have hget : ∀ (j : Nat) (E : SO), (smallI ro M args H).ents[j]? = some E → ∃ m e, M[j]? = some m ∧ H[m]? = some e ∧ E = rowO ro (renO (fun n => idxN n M) e) ∧ e.keeps (fun n => memN n M) = true := by
      intro j E hE
      have hE : (mapN (fun m => rowO ro (renO (fun n => idxN n M) (atE (nth H m)))) M)[j]? = some E := hE
      rw [mapN_eq, List.getElem?_map] at hE
      cases hm : M[j]? with
      | none => rw [hm] at hE; cases hE
      | some m =>
        rw [hm] at hE
        obtain ⟨e, he, hk⟩ := keepsAt_get h2 (List.mem_of_getElem? hm)
        have hE : rowO ro (renO (fun n => idxN n M) (atE (nth H m))) = E := Option.some.inj hE
        rw [nth_eq, he] at hE
        exact ⟨m, e, rfl, he, hE.symm, hk⟩
    have hI : (smallI ro M args H).FitsQ H := by
      refine ⟨?_, fun i j nm hi hj => ?_, h4, fun j E hE => ?_, fun j E hE => ?_⟩
      · show (mapN _ M).length = M.length
        rw [mapN_eq, List.length_map]
      · exact (List.getElem?_inj (List.getElem?_eq_some_iff.1 hi).1 hM).1 (hi.trans hj.symm)
      · obtain ⟨m, e, hm, he, rfl, hk⟩ := hget j E hE
        have hb : (smallI ro M args H).big j = m := by
          show (nth M j).getD 0 = m
          rw [nth_eq, hm]; rfl
        exact ⟨e, by rw [hb]; exact he, taken_ro ro (taken_round hround hk)⟩
      · exact SO.keeps_cuses (allN_mem h5 E (List.mem_of_getElem? hE))
    have ha' : SV.denL β (SV.renL (smallI ro M args H).big (smallI ro M args H).args) = some vs := by
      show SV.denL β (SV.renL (smallI ro M args H).big (SV.renL (fun n => idxN n M) args)) = some vs
      rw [SV.denL_ren, SV.denL_ren]
      rw [← SV.denL_uses (p := fun n => memN n M) (β := β) (fun n hn => by show β n = β ((smallI ro M args H).big (idxN n M)); rw [hround n hn]) args h3]
      exact ha
    generalize smallI ro M args H = I at hI ha' ⊢
    unfold runI
    cases hd : detT (callSim c n f I.args I.ents) with
    | none => trivial
    | some r =>
      obtain ⟨v, H2⟩ := r
      rw [optC_some]
      show (outM I base (ownedOf I.ents 0) (notKnown (lenN I.names) (reachN H2 400 (app v.nms (ownedOf I.ents 0)) [])) v H2).Sat _
      generalize notKnown (lenN I.names) (reachN H2 400 (app v.nms (ownedOf I.ents 0)) []) = keep
      unfold outM
      cases hk : boolC (nodupN keep) (boolC (allN (fun j => Nat.ble (lenN I.names) j) keep) (boolC (v.uses (I.seen keep)) (boolC (keepsAt (I.seen keep) H2 (ownedOf I.ents 0)) (boolC (keepsAt (I.seen keep) H2 keep) (allN (fun m => optC (nth H2 m) false SO.owned) (app (ownedOf I.ents 0) keep)) false) false) false) false) false with
      | false => trivial
      | true =>
        obtain ⟨k1, hk⟩ := boolC_two hk
        obtain ⟨k2, hk⟩ := boolC_two hk
        obtain ⟨k3, hk⟩ := boolC_two hk
        obtain ⟨k4, hk⟩ := boolC_two hk
        obtain ⟨k5, k6⟩ := boolC_two hk
        rw [boolC_true]
        have hown : ∀ j ∈ ownedOf I.ents 0 ++ keep, ∀ e, H2[j]? = some e → e.owned = true := by
          intro j hj e he
          have := allN_mem k6 j (by rw [app_eq]; exact hj)
          rw [nth_eq, he] at this
          exact this
        show SumSem c.P H β w base f vs _
        refine sum_runQ hc n hH I (fun g j h => by rw [hg g] at h; cases h) ha' hI keep (fun j hj => ?_) (nodupN_spec keep k1) ((detT_ob hd).mono fun v' H' h => ?_)
        · have := allN_mem k2 j hj
          rw [← lenN_eq]
          exact Nat.le_of_ble_eq_true this
        · obtain ⟨rfl, rfl⟩ := h
          refine ⟨SV.Imp.refl _, k3, setsQ_of fun j hj => ?_, newsQ_of fun j hj => ?_⟩
          · obtain ⟨e, he, hk⟩ := keepsAt_get k4 hj
            exact ⟨e, he, hk, hown j (List.mem_append_left _ hj) e he⟩
          · obtain ⟨e, he, hk⟩ := keepsAt_get k5 hj
            exact ⟨e, he, hk, hown j (List.mem_append_right _ hj) e he⟩
theorem ownRun_ok (ro : Bool) (fl : Nat) {c : Cfg} (hc : CfgOK c) (hg : ∀ g, c.glob g = none) (n : Nat) (f : FuncId) : SumOK c.P f (ownRun ro fl c n f) := by
  intro glob O w0 β H w base args vs hH hG ha
  unfold ownRun
  cases args with
  | nil => trivial
  | cons a r => exact runM_sat hc hg _ hH ha
end Go.Sim


/-
  The symbolic simulator, thirty-eighth part: functions that answer true or false: the run's own answer, whatever it is.
-/
namespace Go.Sim
variable {α : Type}

end Go.Sim


/-
  Principals and events that came in: their cells.
-/
namespace Go.Proofs.YtheebgojaijplaaDoor.Aes
open Go.Sim Go.WideShapes Go.ChangeShapes

section
variable {H : Type} {enc : TypeId × Value → H} {P : Program} {w : World} {r : Reach} {b0 base : Nat} {held : Bool}

end
end Go.Proofs.YtheebgojaijplaaDoor.Aes


/-
  Runs as summaries at this program; what ends in true; principals' values.
-/
namespace Go.Proofs.YtheebgojaijplaaDoor.Aes
open Go.Sim
open Go.Proofs
variable {α : Type}

set_option maxRecDepth 1000000
theorem runOfOK (ro : Bool) (fl : Nat) {g : FuncId → Option Summ} (hc : CfgOK (cfgOf g)) (n : Nat) (f : FuncId) : SumOK Tryd.prog f (ownRun ro fl (cfgOf g) n f) := ownRun_ok ro fl hc (fun _ => rfl) n f
noncomputable def roL (c : Cfg) (l : List FuncId) (r : List (FuncId × Summ)) : List (FuncId × Summ) := List.rec (motive := fun _ => List (FuncId × Summ)) r (fun f _ ih => (f, ownRun true 0 c 4000 f) :: ih) l
theorem roL_ok {g : FuncId → Option Summ} (hc : CfgOK (cfgOf g)) {r : List (FuncId × Summ)} (hr : ∀ y ∈ r, SumOK Tryd.prog y.1 y.2) : ∀ l : List FuncId, ∀ y ∈ roL (cfgOf g) l r, SumOK Tryd.prog y.1 y.2
  | [] => hr
  | f :: l => allC (runOfOK true 0 hc 4000 f) (roL_ok hc hr l)
theorem rep_all {p : Prop} (h : p) (n : Nat) : ∀ q ∈ repN p n, q := by
  intro q hq
  rw [repN_eq] at hq
  rw [List.eq_of_mem_replicate hq]
  exact h
theorem app_all {l m : List Prop} (h : ∀ p ∈ l, p) (h' : ∀ p ∈ m, p) : ∀ p ∈ app l m, p := by
  intro p hp
  rw [app_eq] at hp
  rcases List.mem_append.1 hp with hp | hp
  · exact h p hp
  · exact h' p hp
theorem tmp_set {C : Cut} {i j : Nat} {v : SV} (h : ((C.frames[i]?).bind fun p => p.tmps[j]?) = some (some v)) {p : SP} {u : Option SV} (hp : C.frames[i]? = some p) (hu : p.tmps[j]? = some u) {w : SV} {f : Nat → Nat} (hi : w.Imp (v.ren f)) : ∃ x, u = some x ∧ w.Imp (x.ren f) := by
  rw [hp] at h
  simp only [Option.bind_some, hu, Option.some.injEq] at h
  exact ⟨v, h, hi⟩
end Go.Proofs.YtheebgojaijplaaDoor.Aes


/-
  Realms with numbers, pairs of them, and the maps with these pairs.
-/
namespace Go.Proofs.YtheebgojaijplaaDoor.Aes
open Go.Sim
open Go.Proofs
variable {α : Type}

def dgB (n : Nat) : BitVec 8 := BitVec.ofNat 8 (48 + n)
/-- the realm with a number: its bytes -/
noncomputable def nmL (i : Nat) : List SI := [.lit 82, .b8 (dgB (i / 10)), .b8 (dgB (i % 10))]
noncomputable def nmZ (i : Nat) : ByteArray := bytesOf (nmL i)
theorem dgB_toNat {n : Nat} (h : n < 10) : (dgB n).toNat = 48 + n := by
  unfold dgB
  rw [BitVec.toNat_ofNat]
  omega
theorem dgB_inj {a b : Nat} (ha : a < 10) (hb : b < 10) (h : (SI.b8 (dgB a)).den.toNat % 256 = (SI.b8 (dgB b)).den.toNat % 256) : a = b := by
  have e : ∀ n, n < 10 → (SI.b8 (dgB n)).den.toNat = 48 + n := fun n hn => by
    show ((dgB n).toNat : Int).toNat = _
    rw [dgB_toNat hn]; omega
  rw [e a ha, e b hb] at h
  omega
theorem nmZ_inj {i j : Nat} (hi : i < 100) (hj : j < 100) (h : nmZ i = nmZ j) : i = j := by
  have h : (nmL i).map (fun i => UInt8.ofNat i.den.toNat) = (nmL j).map (fun i => UInt8.ofNat i.den.toNat) := by
    have := congrArg (fun a : ByteArray => a.data.toList) h
    simpa [nmZ, bytesOf] using this
  simp only [nmL, List.map_cons, List.map_nil, List.cons.injEq, and_true, true_and] at h
  obtain ⟨h1, h2⟩ := h
  have k : ∀ a b : Nat, UInt8.ofNat a = UInt8.ofNat b → a % 256 = b % 256 := fun a b h => by
    have := congrArg UInt8.toNat h
    simpa using this
  have e1 := dgB_inj (by omega) (by omega) (k _ _ h1)
  have e2 := dgB_inj (by omega) (by omega) (k _ _ h2)
  omega
theorem nmZ_size (i : Nat) : (nmZ i).size = 3 := rfl
/-- the pair with a number -/
noncomputable def prK (i : Nat) : Value := .agg #[.string (nmZ (i / 40)), .string (nmZ (40 + i % 40))]
theorem prK_inj {i j : Nat} (hi : i < 1000) (hj : j < 1000) (h : prK i = prK j) : i = j := by
  unfold prK at h
  injection h with h
  have h := congrArg Array.toList h
  simp only [List.cons.injEq, Value.string.injEq, and_true] at h
  have a := nmZ_inj (by omega) (by omega) h.1
  have b := nmZ_inj (by omega) (by omega) h.2
  omega
/-- the map behind n rounds -/
noncomputable def prEs (v : Value) (n : Nat) : List MapEntry := (List.range n).map fun j => ⟨prK j, v, j⟩
theorem prEs_succ (v : Value) (n : Nat) : prEs v (n + 1) = insK (prEs v n) n (prK n) v := by
  unfold prEs insK
  rw [List.range_succ, List.map_append]
  rfl
theorem prEs_length (v : Value) (n : Nat) : (prEs v n).length = n := by
  unfold prEs
  rw [List.length_map, List.length_range]
theorem isKey_iff {K : Value} {e : MapEntry} : isKey K e = true ↔ e.key = K := by
  unfold isKey
  exact @decide_eq_true_iff _ (Classical.propDecidable _)
theorem hasK_pr {v : Value} {n : Nat} {K : Value} : hasK (prEs v n) K = true ↔ ∃ j, j < n ∧ prK j = K := by
  unfold hasK prEs
  rw [List.any_map, List.any_eq_true]
  constructor
  · rintro ⟨j, hj, h⟩
    exact ⟨j, List.mem_range.1 hj, isKey_iff.1 h⟩
  · rintro ⟨j, hj, rfl⟩
    exact ⟨j, List.mem_range.2 hj, isKey_iff.2 rfl⟩
theorem hasK_new {v : Value} {n i : Nat} (h : n ≤ i) (h2 : i < 1000) : hasK (prEs v n) (prK i) = false := by
  cases hb : hasK (prEs v n) (prK i) with
  | false => rfl
  | true =>
    obtain ⟨j, hj, e⟩ := hasK_pr.1 hb
    have := prK_inj (by omega) h2 e
    omega
theorem hasK_old {v : Value} {n i : Nat} (h : i < n) : hasK (prEs v n) (prK i) = true := hasK_pr.2 ⟨i, h, rfl⟩
def xyK : Value := .agg #[.string ⟨#[88]⟩, .string ⟨#[89]⟩]
theorem hasK_xy {v : Value} {n : Nat} : hasK (prEs v n) xyK = false := by
  cases hb : hasK (prEs v n) xyK with
  | false => rfl
  | true =>
    obtain ⟨j, hj, e⟩ := hasK_pr.1 hb
    unfold prK xyK at e
    injection e with e
    have e := congrArg Array.toList e
    simp only [List.cons.injEq, Value.string.injEq, and_true] at e
    have := congrArg ByteArray.size e.1
    rw [nmZ_size] at this
    exact absurd this (by decide)
theorem hasK_del {es : List MapEntry} {K M : Value} (h : hasK es M = false) : hasK (delK es K) M = false := by
  unfold hasK delK at *
  rw [List.any_eq_false] at h ⊢
  exact fun e he => h e (List.mem_of_mem_eraseP he)
theorem del_length {es : List MapEntry} {K : Value} (h : hasK es K = true) : (delK es K).length = es.length - 1 := by
  unfold hasK at h
  obtain ⟨e, he, hk⟩ := List.any_eq_true.1 h
  exact List.length_eraseP_of_mem he hk
theorem getK_pr {v : Value} {n : Nat} {K : Value} (h : hasK (prEs v n) K = true) : getK (prEs v n) K = v := by
  unfold getK
  cases hf : (prEs v n).find? (isKey K) with
  | none =>
    obtain ⟨e, he, hk⟩ := List.any_eq_true.1 h
    exact absurd hk (by simpa using List.find?_eq_none.1 hf e he)
  | some e =>
    have hm := List.mem_of_find?_eq_some hf
    unfold prEs at hm
    obtain ⟨j, _, rfl⟩ := List.mem_map.1 hm
    rfl
end Go.Proofs.YtheebgojaijplaaDoor.Aes


/-
  The realm with a number: name; realms with numbers are realms.
-/
namespace Go.Proofs.YtheebgojaijplaaDoor.Aes
open Go.Sim
open Go.Proofs
variable {α : Type}

set_option maxRecDepth 1000000
noncomputable def dgI (z : Int) : SI := .b8 (BitVec.ofInt 8 z)
noncomputable def rawL (i : Nat) : List SI := [.lit 82, dgI (48 + IntKind.i64.wrap ((i / 10 : Nat) : Int)), dgI (48 + ((i % 10 : Nat) : Int))]
theorem nm_run (i : Nat) : outO [] (callSim cfgX 4000 6 [.int .i64 (.sym (i : Int))] []) [] =
    ([inI64 (48 + IntKind.i64.wrap ((i / 10 : Nat) : Int)), inI64 (48 + ((i % 10 : Nat) : Int))], some (.str (.bytes (rawL i)), [])) := by kernel_rfl
theorem dgI_eq {n : Nat} (_h : n < 10) : dgI (48 + (n : Int)) = .b8 (dgB n) := by
  unfold dgI dgB
  congr 1
theorem rawL_eq {i : Nat} (h : i < 100) : rawL i = nmL i ∧ inI64 (48 + IntKind.i64.wrap ((i / 10 : Nat) : Int)) ∧ inI64 (48 + ((i % 10 : Nat) : Int)) := by
  have e1 : IntKind.i64.wrap ((i / 10 : Nat) : Int) = ((i / 10 : Nat) : Int) := wrap_i64 ⟨by omega, by omega⟩
  unfold rawL
  rw [e1, dgI_eq (by omega), dgI_eq (by omega)]
  exact ⟨rfl, ⟨by omega, by omega⟩, ⟨by omega, by omega⟩⟩
noncomputable def i64V (v : SV) : Option SI := v.asInt none fun k n => boolC (i64K k) (some n) none
theorem i64V_spec {v : SV} {n : SI} (h : i64V v = some n) : v = .int .i64 n := by
  cases v <;> first | (cases h; done) | skip
  rename_i k m
  cases k <;> first | (cases h; rfl) | (cases h; done)
noncomputable def nameS : Summ := fun args _ _ => args1 args fun v => optC (i64V v) (.stuck 7798) fun n => .need (0 ≤ n.den ∧ n.den < 100) (.ok ⟨.str (.bytes (nmL n.den.toNat)), [], []⟩)
theorem nameOK : SumOK Tryd.prog 6 nameS := by
  intro glob O w0 β H w base args vs hH hG ha
  refine args1_sat fun v hv => optC_only fun n hn => ?_
  rintro ⟨h0, h1⟩
  rw [hv, i64V_spec hn] at ha
  have ha := impL_cons (int_impS (b := .sym ((n.den.toNat : Nat) : Int)) (by show n.den = ((n.den.toNat : Nat) : Int); omega)) impL_nil _ _ ha
  obtain ⟨e, c1, c2⟩ := rawL_eq (i := n.den.toNat) (by omega)
  show SumSem Tryd.prog H β w base _ vs ⟨.str (.bytes (nmL n.den.toNat)), [], []⟩
  rw [← e]
  exact sum_outO cfgXOK rfl 4000 hH ⟨[], [], [.int .i64 (.sym ((n.den.toNat : Nat) : Int))]⟩ ha (fits0 rfl) [] (by simp) (by simp) (nm_run n.den.toNat) (all_cons c1 (all_cons c2 all_nil)) fun H2 _ => ends0 rfl rfl rfl
end Go.Proofs.YtheebgojaijplaaDoor.Aes


/-
  Which realms with numbers are realms: all.
-/
namespace Go.Proofs.YtheebgojaijplaaDoor.Aes
open Go.Sim
open Go.Proofs
variable {α : Type}

set_option maxRecDepth 1000000
theorem idx_none {s : ByteArray} {c : UInt8} (h : ∀ i, i < s.size → (s[i]! == c) = false) : firstIdx s c = -1 := by
  have e : (List.range s.size).find? (fun i => s[i]! == c) = none := List.find?_eq_none.2 fun i hi => by
    rw [h i (List.mem_range.1 hi)]
    exact Bool.false_ne_true
  unfold firstIdx
  rw [e]
noncomputable def rmA (a b : BitVec 8) : SStr := .bytes [.lit 82, .b8 a, .b8 b]
noncomputable def dgC (a : BitVec 8) : List Prop := app (repN (decide ((a.toNat : Int) < 65) = true) 3) ((decide ((a.toNat : Int) < 48) = false) :: repN (decide ((a.toNat : Int) > 57) = false) 3)
def dgD : List Bool := [true, true, true, false, false, false, false]
theorem rm_run (a b : BitVec 8) : outO [] (callSim cfgX 20000 20 [.str (rmA a b)] []) (false :: true :: false :: app dgD dgD) =
    ((false = false) :: (decide (firstIdx (rmA a b).den 46 < 0) = true) :: (false = false) :: ((0 : Int) ≤ 82 ∧ (82 : Int) < 256) :: app (dgC a) (dgC b), some (.bool (.lit true), [])) := by kernel_rfl
def dgt (a : BitVec 8) : Prop := 48 ≤ a.toNat ∧ a.toNat < 58
theorem dgC_all {a : BitVec 8} (h : dgt a) : ∀ p ∈ dgC a, p := by
  obtain ⟨h1, h2⟩ := h
  exact app_all (rep_all (decide_eq_true (by omega)) 3) (all_cons (decide_eq_false (by omega)) (rep_all (decide_eq_false (by omega)) 3))
theorem dg_ne {a : BitVec 8} (h : dgt a) : (UInt8.ofNat (SI.b8 a).den.toNat == 46) = false := by
  obtain ⟨h1, h2⟩ := h
  have e : (SI.b8 a).den.toNat = a.toNat := by show ((a.toNat : Int)).toNat = _; omega
  rw [e]
  cases hb : UInt8.ofNat a.toNat == 46 with
  | false => rfl
  | true =>
    have h := congrArg UInt8.toNat (eq_of_beq hb)
    rw [UInt8.toNat_ofNat'] at h
    have : (46 : UInt8).toNat = 46 := rfl
    omega
theorem rm_dot {a b : BitVec 8} (ha : dgt a) (hb : dgt b) : firstIdx (rmA a b).den 46 = -1 := by
  refine idx_none fun i hi => ?_
  have hi : i < 3 := hi
  match i, hi with
  | 0, _ => rfl
  | 1, _ => exact dg_ne ha
  | 2, _ => exact dg_ne hb
noncomputable def rm3 (s : SStr) : Option (BitVec 8 × BitVec 8) := match s with | .bytes [.lit n, .b8 a, .b8 b] => boolC (decide (n = 82)) (some (a, b)) none | _ => none
theorem rm3_spec {s : SStr} {p : BitVec 8 × BitVec 8} (h : rm3 s = some p) : s = rmA p.1 p.2 := by
  unfold rm3 at h
  split at h
  · rename_i n a b
    by_cases hn : n = 82
    · rw [decide_eq_true hn] at h
      cases h
      rw [hn]; rfl
    · rw [decide_eq_false hn] at h
      cases h
  · cases h
def realmX : List (List UInt8 × Bool) := [([88], true), ([89], true), ([90], true)]
theorem realmX_runs : mapN (fun p : List UInt8 × Bool => outO [] (callSim cfgX 20000 20 [.str (.lit (bAs p.1))] []) []) realmX = mapN (fun p : List UInt8 × Bool => (([], some (.bool (.lit p.2), [])) : List Prop × Option (SV × List (Option SO)))) realmX := by kernel_rfl
noncomputable def realmW : Summ := fun args H base => args1 args fun v => optC (strV v) (.stuck 7790) fun s => optC (rm3 s) (tabS realmX args H base) fun p => .need (dgt p.1 ∧ dgt p.2) (.ok ⟨.bool (.lit true), [], []⟩)
theorem realmWOK : SumOK Tryd.prog 20 realmW := by
  intro glob O w0 β H w base args vs hH hG ha
  refine args1_sat fun v hv => optC_only fun s hs => ?_
  cases hr : rm3 s with
  | none => exact tabOK cfgXOK realmX_runs _ _ _ _ _ _ _ _ _ hH hG ha
  | some p =>
    rintro ⟨h1, h2⟩
    rw [hv, strV_spec hs, rm3_spec hr] at ha
    exact sum_outO cfgXOK rfl 20000 hH ⟨[], [], [.str (rmA p.1 p.2)]⟩ ha (fits0 rfl) [] (by simp) (by simp) (rm_run p.1 p.2) (all_cons rfl (all_cons (decide_eq_true (by rw [rm_dot h1 h2]; omega)) (all_cons rfl (all_cons ⟨by omega, by omega⟩ (app_all (dgC_all h1) (dgC_all h2)))))) fun H2 _ => ends0 rfl rfl rfl
noncomputable def rfW0 : List (FuncId × Summ) := [(63, idxS), (48, cmpS), (20, realmW), (6, nameS), (10, exS)]
theorem rfW0OK : ∀ y ∈ rfW0, SumOK Tryd.prog y.1 y.2 := allC idxOK (allC cmpOK (allC realmWOK (allC nameOK (all1 exOK))))
noncomputable def rfW : List (FuncId × Summ) := roL cfgX [13] rfW0
theorem rfWOK : ∀ y ∈ rfW, SumOK Tryd.prog y.1 y.2 := roL_ok cfgXOK rfW0OK _
noncomputable def cfgW : Cfg := cfgOf (sumsOf rfW)
theorem cfgWOK : CfgOK cfgW := sumsOf_ok rfWOK
noncomputable def wT (st : Option (Nat × Nat)) (n : Int) : Tree := callSim (cfgW.at st) 40000 3 [.int .u16 (.sym n)] []
end Go.Proofs.YtheebgojaijplaaDoor.Aes


/-
  RouteFull: the rounds of the loop, and what is behind it.
-/
namespace Go.Proofs.YtheebgojaijplaaDoor.Aes
open Go.Sim
open Go.Proofs
variable {α : Type}

set_option maxRecDepth 1000000
noncomputable def sP : MSh := ⟨true, [.s, .s]⟩
noncomputable def sB : MSh := ⟨false, [.b]⟩
noncomputable def sN : MSh := ⟨false, [.v]⟩
def yesV : Value := .bool true
def nilV : Value := .slice none 0 0
noncomputable def wS0 (n : Int) : SS := stopOf (wT (some (1, 3)) n) []
noncomputable def wC (n : Int) (i : Nat) (es fs : List MapEntry) (k : Nat) : Cut := ⟨bareFs (wS0 n).frames [[(0, .int .u16 (.sym n)), (3, .ptr ⟨0, .lit 0⟩), (4, .ptr ⟨1, .lit 0⟩), (5, .int .i64 (.sym i))]], [.ent (.own (.lst [.map 2]) true 26), .ent (.own (.lst [.map 3]) true 30), .ent (.obj (.amap sP sB es i)), .ent (.obj (.amap sP sN fs k))]⟩
noncomputable def wC0 (n : Int) : Cut := ⟨bareFs (wS0 n).frames [[(0, .int .u16 (.sym n)), (3, .ptr ⟨0, .lit 0⟩), (4, .ptr ⟨1, .lit 0⟩), (5, .int .i64 (.lit 0))]], [.ent (.own (.lst [.nilMap]) true 26), .ent (.own (.lst [.nilMap]) true 30)]⟩
/-- the numbers of a pair's realms, the pair -/
noncomputable def xZ (z : Int) : Int := IntKind.i64.wrap (z.tdiv 40)
noncomputable def yZ (z : Int) : Int := 40 + z.tmod 40
noncomputable def kK (z : Int) : Value := .agg #[.string (nmZ (xZ z).toNat), .string (nmZ (yZ z).toNat)]
def nmC (x : Int) : Prop := 0 ≤ x ∧ x < 100
def dgN (x : Int) : Prop := dgt (dgB (x.toNat / 10)) ∧ dgt (dgB (x.toNat % 10))
noncomputable def prC (z : Int) (q : List Prop) : List Prop := nmC (xZ z) :: inI64 (yZ z) :: nmC (yZ z) :: dgN (xZ z) :: dgN (yZ z) :: q
noncomputable def neC (z : Int) : Prop := decide (nmZ (xZ z).toNat = nmZ (yZ z).toNat) = false
noncomputable def addC (z : Int) (es fs : List MapEntry) (q : List Prop) : List Prop :=
  (decide (z < 1000) = true) :: prC z (neC z :: (hasK es (kK z) = false) :: (decide ((es.length : Int) ≥ 1000) = false) :: (hasK es (kK z) = false) :: prC z ((hasK fs (kK z) = false) :: q))
theorem w_init (n : Int) (z : Nat → Nat → Nat) : outL [] (wC0 n) [0, 1] (wT (some (1, 3)) n) [] z = ([], some (.inr (seenC [0, 1] 2 (wC0 n)))) := by kernel_rfl
theorem w_first (n : Int) (J : Junk) (es fs : List MapEntry) (z : Nat → Nat → Nat) : outL [] (wC n 1 es fs 1) [0, 1, 4, 7] (sim1 (cfgW.at (some (1, 3))) 40000 ((wC0 n).fill J)) [false] z =
    ([nmC 0, nmC 40, dgN 0, dgN 40, false = false, nmC 0, nmC 40, dgN 0, dgN 40], some (.inr (modSeen [(0, 5, .int .i64 (.lit 1))] [(2, .ent (.obj (.map [(.agg [.str (.bytes (nmL 0)), .str (.bytes (nmL 40))], .bool (.lit true), 0)] 1))), (3, .ent (.obj (.map [(.agg [.str (.bytes (nmL 0)), .str (.bytes (nmL 40))], .nilSlice, 0)] 1)))] (seenC [0, 1, 4, 7] 8 (wC n 1 es fs 1))))) := by kernel_rfl
theorem w_turn1 (n : Int) (i k : Nat) (es fs es' fs' : List MapEntry) (J : Junk) (z : Nat → Nat → Nat) : outL [] (wC n i es fs k) [0, 1, 2, 3] (sim1 (cfgW.at (some (1, 3))) 40000 ((wC n i es fs k).fill J)) (true :: repN false 11) z =
    (addC i es fs ((decide ((fs.length : Int) ≥ 200) = false) :: (hasK fs (kK i) = false) :: ((!(true == decide ((i : Int) < 200))) = false) :: app (repN (decide ((i : Int) ≥ 200) = false) 3) [inI64 ((i : Int) + 1)]),
      some (.inr (modSeen [] [(2, .ent (.obj (.amap sP sB (insK es i (kK i) yesV) (i + 1)))), (3, .ent (.obj (.amap sP sN (insK fs k (kK i) nilV) (k + 1))))] (seenC [0, 1, 2, 3] 8 (wC n (i + 1) es' fs' (k + 1)))))) := by kernel_rfl
theorem w_turn2 (n : Int) (i k : Nat) (es fs es' : List MapEntry) (J : Junk) (z : Nat → Nat → Nat) : outL [] (wC n i es fs k) [0, 1, 2, 3] (sim1 (cfgW.at (some (1, 3))) 40000 ((wC n i es fs k).fill J)) [true, false, false, false, false, false, true, false, true] z =
    (addC i es fs ((decide ((fs.length : Int) ≥ 200) = true) :: ((!(false == decide ((i : Int) < 200))) = false) :: (decide ((i : Int) ≥ 200) = true) :: [inI64 ((i : Int) + 1)]),
      some (.inr (modSeen [] [(2, .ent (.obj (.amap sP sB (insK es i (kK i) yesV) (i + 1))))] (seenC [0, 1, 2, 3] 8 (wC n (i + 1) es' fs k))))) := by kernel_rfl
theorem w_names0 (n : Int) : boolC (namesOK 0 [0, 1] (wC0 n) (wC0 n)) (allN noLoopE (wC0 n).heap) false = true := by kernel_rfl
theorem w_names (n : Int) (i j k l : Nat) (es fs es' fs' : List MapEntry) : boolC (namesOK 0 [0, 1, 2, 3] (wC n i es fs k) (wC n j es' fs' l)) (allN noLoopE (wC n j es' fs' l).heap) false = true := by kernel_rfl
theorem w_names1 (n : Int) (es fs : List MapEntry) : boolC (namesOK 0 [0, 1, 4, 7] (wC n 1 es fs 1) (wC n 1 es fs 1)) (allN noLoopE (wC n 1 es fs 1).heap) false = true := by kernel_rfl
theorem w_tmp (n : Int) (i k : Nat) (es fs : List MapEntry) : (((wC n i es fs k).frames[0]?).bind fun p => p.tmps[5]?) = some (some (.int .i64 (.sym i))) := by kernel_rfl
theorem w_ent2 (n : Int) (i k : Nat) (es fs : List MapEntry) : (wC n i es fs k).heap[2]? = some (.ent (.obj (.amap sP sB es i))) := by kernel_rfl
theorem w_ent3 (n : Int) (i k : Nat) (es fs : List MapEntry) : (wC n i es fs k).heap[3]? = some (.ent (.obj (.amap sP sN fs k))) := by kernel_rfl
noncomputable def z1 (n : Int) : Int := (IntKind.i64.wrap n).tmod 1000
noncomputable def z2 (n : Int) : Int := (z1 n).tmod 200
noncomputable def endC (n : Int) (es fs : List MapEntry) : List Prop :=
  (false = false) :: (hasK es xyK = false) :: (decide ((es.length : Int) ≥ 1000) = true) :: prC (z1 n) (neC (z1 n) :: (hasK es (kK (z1 n)) = true) :: (vBoo (getK es (kK (z1 n))) = true) :: prC (z1 n) (neC (z1 n) :: (hasK es (kK (z1 n)) = true) :: ((!vBoo (getK es (kK (z1 n)))) = false) ::
    (hasK (delK es (kK (z1 n))) xyK = false) :: (decide (((delK es (kK (z1 n))).length : Int) ≥ 1000) = false) :: (hasK (delK es (kK (z1 n))) xyK = false) ::
    prC (z2 n) ((hasK fs (kK (z2 n)) = true) :: prC (z2 n) ((hasK fs (kK (z2 n)) = true) :: (hasK (delK fs (kK (z2 n))) xyK = false) :: [decide (((delK fs (kK (z2 n))).length : Int) ≥ 200) = false]))))
theorem w_end (n : Int) (k : Nat) (es fs : List MapEntry) (J : Junk) (z : Nat → Nat → Nat) : outL [] (wC n 1000 es fs k) [0, 1, 2, 3] (sim1 (cfgW.at none) 40000 ((wC n 1000 es fs k).fill J)) [false, false, true, false, true, true, false, true, false, false, false, false, true, true, false, false] z = (endC n es fs, some (.inl (.bool (.lit true), []))) := by kernel_rfl
end Go.Proofs.YtheebgojaijplaaDoor.Aes


/-
  RouteFull: the law's run.
-/
namespace Go.Proofs.YtheebgojaijplaaDoor.Aes
open Go.Sim
open Go.Proofs
open Go.RowKit
variable {α : Type}

set_option maxRecDepth 1000000
theorem dgt_ok {d : Nat} (h : d < 10) : dgt (dgB d) := by
  unfold dgt
  rw [dgB_toNat h]
  omega
theorem dgN_ok {x : Nat} (h : x < 100) : dgN (x : Int) := ⟨dgt_ok (by omega), dgt_ok (by omega)⟩
theorem nmC_ok {x : Nat} (h : x < 100) : nmC (x : Int) := ⟨by omega, by omega⟩
theorem xZ_eq {i : Nat} (h : i < 1000) : xZ (i : Int) = ((i / 40 : Nat) : Int) := by
  show IntKind.i64.wrap ((i / 40 : Nat) : Int) = _
  exact wrap_i64 ⟨by omega, by omega⟩
theorem yZ_eq (i : Nat) : yZ (i : Int) = ((40 + i % 40 : Nat) : Int) := rfl
theorem kK_eq {i : Nat} (h : i < 1000) : kK (i : Int) = prK i := by
  unfold kK
  rw [xZ_eq h, yZ_eq]
  rfl
theorem prC_all {i : Nat} (h : i < 1000) {q : List Prop} (hq : ∀ p ∈ q, p) : ∀ p ∈ prC (i : Int) q, p := by
  unfold prC
  rw [xZ_eq h, yZ_eq]
  exact all_cons (nmC_ok (by omega)) (all_cons ⟨by omega, by omega⟩ (all_cons (nmC_ok (by omega)) (all_cons (dgN_ok (by omega)) (all_cons (dgN_ok (by omega)) hq))))
theorem neC_ok {i : Nat} (h : i < 1000) : neC (i : Int) := by
  unfold neC
  rw [xZ_eq h, yZ_eq]
  refine decide_eq_false fun e => ?_
  have := nmZ_inj (by omega) (by omega) e
  omega
theorem addC_all {i : Nat} (h : i < 1000) {n m : Nat} (hn : n ≤ i) (hm : m ≤ i) {q : List Prop} (hq : ∀ p ∈ q, p) : ∀ p ∈ addC (i : Int) (prEs yesV n) (prEs nilV m) q, p := by
  unfold addC
  rw [kK_eq h]
  exact all_cons (decide_eq_true (by omega)) (prC_all h (all_cons (neC_ok h) (all_cons (hasK_new hn h) (all_cons (decide_eq_false (by rw [prEs_length]; omega)) (all_cons (hasK_new hn h) (prC_all h (all_cons (hasK_new hm h) hq)))))))
theorem fits_yes (n : Nat) : ∀ e ∈ prEs yesV n, sP.fit e.key ∧ sB.fit e.val := by
  intro e he
  obtain ⟨j, _, rfl⟩ := List.mem_map.1 he
  exact ⟨fun _ => rfl, fun _ => rfl⟩
theorem fits_nil (n : Nat) : ∀ e ∈ prEs nilV n, sP.fit e.key ∧ sN.fit e.val := by
  intro e he
  obtain ⟨j, _, rfl⟩ := List.mem_map.1 he
  exact ⟨fun _ => rfl, fun _ => rfl⟩
theorem imp_yes (f : Nat → Nat) {i : Nat} (h : i < 1000) : ImpE f (some (.ent (.obj (.amap sP sB (insK (prEs yesV i) i (kK i) yesV) (i + 1))))) (.ent (.obj (.amap sP sB (prEs yesV (i + 1)) (i + 1)))) :=
  ⟨_, rfl, fun _ _ hd => by rw [kK_eq h, ← prEs_succ] at hd; exact hd⟩
theorem imp_nil (f : Nat → Nat) {i : Nat} (h : i < 1000) : ImpE f (some (.ent (.obj (.amap sP sN (insK (prEs nilV i) i (kK i) nilV) (i + 1))))) (.ent (.obj (.amap sP sN (prEs nilV (i + 1)) (i + 1)))) :=
  ⟨_, rfl, fun _ _ hd => by rw [kK_eq h, ← prEs_succ] at hd; exact hd⟩
noncomputable def pairA : SV := .agg [.str (.bytes (nmL 0)), .str (.bytes (nmL 40))]
theorem imp_yes1 (f : Nat → Nat) : ImpE f (some (.ent (.obj (.map [(pairA, .bool (.lit true), 0)] 1)))) (.ent (.obj (.amap sP sB (prEs yesV 1) 1))) :=
  ⟨_, rfl, fun β x h => SObj.amap_den.2 ⟨fits_yes 1, by
    have h : some (Obj.map #[⟨.agg #[.string (nmZ 0), .string (nmZ 40)], .bool true, 0⟩] 1) = some x := h
    cases h
    rfl⟩⟩
theorem imp_nil1 (f : Nat → Nat) : ImpE f (some (.ent (.obj (.map [(pairA, .nilSlice, 0)] 1)))) (.ent (.obj (.amap sP sN (prEs nilV 1) 1))) :=
  ⟨_, rfl, fun β x h => SObj.amap_den.2 ⟨fits_nil 1, by
    have h : some (Obj.map #[⟨.agg #[.string (nmZ 0), .string (nmZ 40)], .slice none 0 0, 0⟩] 1) = some x := h
    cases h
    rfl⟩⟩
noncomputable def wK (n : Int) (i k : Nat) : Cut := wC n i (prEs yesV i) (prEs nilV k) k
noncomputable def wCut (n : Int) : Nat → Cut
  | 0 => wC0 n
  | i + 1 => wK n (i + 1) (min (i + 1) 200)
theorem z1_eq {n : Int} (h0 : 0 ≤ n) (h1 : n < 65536) : z1 n = ((n.toNat % 1000 : Nat) : Int) := by
  unfold z1
  rw [wrap_i64 ⟨by omega, by omega⟩, Int.tmod_eq_emod_of_nonneg h0]
  omega
theorem z2_eq {n : Int} (h0 : 0 ≤ n) (h1 : n < 65536) : z2 n = ((n.toNat % 1000 % 200 : Nat) : Int) := by
  unfold z2
  rw [z1_eq h0 h1]
  rfl
theorem endC_all {n : Int} (h0 : 0 ≤ n) (h1 : n < 65536) : ∀ p ∈ endC n (prEs yesV 1000) (prEs nilV 200), p := by
  unfold endC
  rw [z2_eq h0 h1, z1_eq h0 h1]
  have a1 : n.toNat % 1000 < 1000 := by omega
  have a2 : n.toNat % 1000 % 200 < 200 := by omega
  generalize n.toNat % 1000 % 200 = j at a2
  generalize n.toNat % 1000 = i at a1
  rw [kK_eq a1, kK_eq (show j < 1000 by omega)]
  have hi : hasK (prEs yesV 1000) (prK i) = true := hasK_old a1
  have hj : hasK (prEs nilV 200) (prK j) = true := hasK_old a2
  have hx : hasK (delK (prEs yesV 1000) (prK i)) xyK = false := hasK_del hasK_xy
  have j1 : j < 1000 := by omega
  exact all_cons rfl (all_cons hasK_xy (all_cons (decide_eq_true (by rw [prEs_length]; omega)) (prC_all a1 (all_cons (neC_ok a1) (all_cons hi (all_cons (by rw [getK_pr hi]; rfl) (prC_all a1 (all_cons (neC_ok a1) (all_cons hi (all_cons (by rw [getK_pr hi]; rfl)
    (all_cons hx (all_cons (decide_eq_false (by rw [del_length hi, prEs_length]; omega)) (all_cons hx (prC_all j1 (all_cons hj (prC_all j1 (all_cons hj (all_cons (hasK_del hasK_xy) (all_cons (decide_eq_false (by rw [del_length hj, prEs_length]; omega)) all_nil)))))))))))))))))))
theorem w_runs {n : Int} (h0 : 0 ≤ n) (h1 : n < 65536) : Runs cfgW 3 [.int .u16 (.sym n)] [] fun v _ => v = .bool (.lit true) := by
  refine runs_by cfgWOK (wCut n) (fun j => j ≤ 1000) (fun j => 1000 - j) (fun g nm hg => by cases hg) ?_ fun j hj J => ?_
  · exact to_start (some (1, 3)) 40000 0 (Nat.zero_le _) (w_init n) (w_names0 n) all_nil
  · match j, hj, J with
    | 0, _, J =>
      refine to_turnM (some (1, 3)) 40000 1 ⟨by omega, by omega⟩ (w_first n J (prEs yesV 1) (prEs nilV 1)) (w_names1 n _ _) (fun m hm p u hp hu => ?_) (fun e he E0 hE => ?_)
        (all_cons (nmC_ok (x := 0) (by omega)) (all_cons (nmC_ok (x := 40) (by omega)) (all_cons (dgN_ok (x := 0) (by omega)) (all_cons (dgN_ok (x := 40) (by omega)) (all_cons rfl (all_cons (nmC_ok (x := 0) (by omega)) (all_cons (nmC_ok (x := 40) (by omega)) (all_cons (dgN_ok (x := 0) (by omega)) (all_cons (dgN_ok (x := 40) (by omega)) all_nil)))))))))
      · obtain rfl : m = (0, 5, .int .i64 (.lit 1)) := by simpa using hm
        exact tmp_set (w_tmp n 1 1 (prEs yesV 1) (prEs nilV 1)) hp hu (int_impS rfl)
      · simp only [List.mem_cons, List.not_mem_nil, or_false] at he
        rcases he with rfl | rfl
        · cases (w_ent2 n 1 1 (prEs yesV 1) (prEs nilV 1)).symm.trans hE
          exact imp_yes1 _
        · cases (w_ent3 n 1 1 (prEs yesV 1) (prEs nilV 1)).symm.trans hE
          exact imp_nil1 _
    | i + 1, hi, J =>
      have hI : inI64 (((i + 1 : Nat) : Int) + 1) := ⟨by omega, by omega⟩
      by_cases h : i + 1 < 1000
      · by_cases h2 : i + 1 < 200
        · have m1 : min (i + 1) 200 = i + 1 := by omega
          have m2 : min (i + 2) 200 = i + 2 := by omega
          have e1 : wCut n (i + 1) = wC n (i + 1) (prEs yesV (i + 1)) (prEs nilV (i + 1)) (i + 1) := by show wK n (i + 1) (min (i + 1) 200) = _; rw [m1]; rfl
          have e2 : wCut n (i + 2) = wC n (i + 2) (prEs yesV (i + 2)) (prEs nilV (i + 2)) (i + 2) := by show wK n (i + 2) (min (i + 2) 200) = _; rw [m2]; rfl
          rw [e1]
          refine to_turnM (some (1, 3)) 40000 (i + 2) ⟨by omega, by omega⟩ (M := wC n (i + 1) (prEs yesV (i + 1)) (prEs nilV (i + 1)) (i + 1)) (by rw [e2]; exact w_turn1 n (i + 1) (i + 1) _ _ (prEs yesV (i + 2)) (prEs nilV (i + 2)) J) (by rw [e2]; exact w_names n (i + 1) (i + 2) _ _ _ _ _ _) (fun m hm => by cases hm) (fun e he E0 hE => ?_)
            (addC_all h (Nat.le_refl _) (Nat.le_refl _) (all_cons (decide_eq_false (by rw [prEs_length]; omega)) (all_cons (by rw [kK_eq h]; exact hasK_new (Nat.le_refl _) h) (all_cons (by rw [decide_eq_true (show ((i + 1 : Nat) : Int) < 200 by omega)]; rfl) (app_all (rep_all (decide_eq_false (by omega)) 3) (all_cons hI all_nil))))))
          rw [e2] at hE
          simp only [List.mem_cons, List.not_mem_nil, or_false] at he
          rcases he with rfl | rfl
          · cases (w_ent2 n (i + 2) (i + 2) (prEs yesV (i + 2)) (prEs nilV (i + 2))).symm.trans hE
            exact imp_yes _ h
          · cases (w_ent3 n (i + 2) (i + 2) (prEs yesV (i + 2)) (prEs nilV (i + 2))).symm.trans hE
            exact imp_nil _ h
        · have m1 : min (i + 1) 200 = 200 := by omega
          have m2 : min (i + 2) 200 = 200 := by omega
          have e1 : wCut n (i + 1) = wC n (i + 1) (prEs yesV (i + 1)) (prEs nilV 200) 200 := by show wK n (i + 1) (min (i + 1) 200) = _; rw [m1]; rfl
          have e2 : wCut n (i + 2) = wC n (i + 2) (prEs yesV (i + 2)) (prEs nilV 200) 200 := by show wK n (i + 2) (min (i + 2) 200) = _; rw [m2]; rfl
          rw [e1]
          refine to_turnM (some (1, 3)) 40000 (i + 2) ⟨by omega, by omega⟩ (M := wC n (i + 1) (prEs yesV (i + 1)) (prEs nilV 200) 200) (by rw [e2]; exact w_turn2 n (i + 1) 200 _ _ (prEs yesV (i + 2)) J) (by rw [e2]; exact w_names n (i + 1) (i + 2) _ _ _ _ _ _) (fun m hm => by cases hm) (fun e he E0 hE => ?_)
            (addC_all h (Nat.le_refl _) (by omega) (all_cons (decide_eq_true (by rw [prEs_length]; omega)) (all_cons (by rw [decide_eq_false (show ¬ ((i + 1 : Nat) : Int) < 200 by omega)]; rfl) (all_cons (decide_eq_true (by omega)) (all_cons hI all_nil)))))
          rw [e2] at hE
          obtain rfl : e = (2, .ent (.obj (.amap sP sB (insK (prEs yesV (i + 1)) (i + 1) (kK ((i + 1 : Nat) : Int)) yesV) (i + 1 + 1)))) := by simpa using he
          cases (w_ent2 n (i + 2) 200 (prEs yesV (i + 2)) (prEs nilV 200)).symm.trans hE
          exact imp_yes _ h
      · have e : i = 999 := by omega
        subst e
        exact to_end none 40000 (w_end n 200 (prEs yesV 1000) (prEs nilV 200) J) (endC_all h0 h1) fun H _ => rfl
theorem w_law {w : World} {n : Int} (h : (Lit.int .u16 n).wf = true) : Calls Tryd.prog 3 #[.int .u16 n] w fun e w' => e = .returned (.bool true) ∧ Below w.heap.size w w' := by
  have h : (decide ((0 : Int) ≤ n) && decide (n ≤ (65535 : Int))) = true := h
  obtain ⟨h0, h1⟩ := Bool.and_eq_true_iff.1 h
  have h0 := of_decide_eq_true h0
  have h1 := of_decide_eq_true h1
  exact law_runs (c := cfgW) (args := [.int .u16 (.sym n)]) (HeapRel.start _ _ w) (.none _) rfl (w_runs h0 (by omega))
end Go.Proofs.YtheebgojaijplaaDoor.Aes

