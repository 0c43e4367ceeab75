/-
  The symbolic simulator, seventeenth part: frames and machines; the plain steps.
-/
import Derived.Test.YtdnaaeagllejjaaEng16
import Derived.RangeFuncIn
import Derived.RangeFuncRecord
import Derived.RangeFuncNested
namespace Go.Sim
variable {α : Type}

/-- obligations of a tree -/
def Tree.Ob (t : Tree) (D : SV → List SO → Prop) (S : SS → Prop) : Prop :=
  match t with
  | .done v H => D v H
  | .stop s => S s
  | .need p t => p ∧ t.Ob D S
  | .fork b t f => (b = true → t.Ob D S) ∧ (b = false → f.Ob D S)
  | .stuck _ => False
  | .any k => ∀ z, (k z).Ob D S
theorem R.tree_ob {r : R α} {k : α → Tree} {φ : α → Prop} {D : SV → List SO → Prop} {S : SS → Prop} (h : r.Sat φ) (ho : (r.tree k).Ob D S) : ∃ a, φ a ∧ (k a).Ob D S := by
  induction r with
  | ok a => exact ⟨a, h, ho⟩
  | need p r ih => exact ih (h ho.1) ho.2
  | fork b t f iht ihf =>
    cases b with
    | true => exact iht (h.1 rfl) (ho.1 rfl)
    | false => exact ihf (h.2 rfl) (ho.2 rfl)
  | stuck n => exact ho.elim
  | any k ih => obtain ⟨z, h⟩ := h; exact ih z h (ho z)

def GlobRel (glob : Nat → Option Nat) (β : Val) : Prop := ∀ g nm, glob g = some nm → ∃ l, β nm = some l ∧ l.blk = g ∧ l.off = 0
theorem GlobRel.mono {glob : Nat → Option Nat} {β β' : Val} (h : GlobRel glob β) (hl : β.le β') : GlobRel glob β' := fun g nm hg => let ⟨l, a, b⟩ := h g nm hg; ⟨l, hl _ _ a, b⟩
def ItemRel (β : Val) : SItem → Item → Prop
  | .code c, .code c' => c' = c
  | .inBlock i, .inBlock j => j = i
  | .inLoop c, .inLoop c' => c' = c
  | .inScope c, .inScope c' => c' = c
  | .ops os l, .inRegion os' idx => os' = os ∧ ∃ pre, os.toList = pre ++ l ∧ idx = List.range' pre.length l.length
  | .inRF n, .inRangeFunc b => ∃ l, β n = some l ∧ b = l.blk
  | .endRF n, .endRangeFunc b => ∃ l, β n = some l ∧ b = l.blk
  | .beginRound, .beginRound => True
  | _, _ => False
def TodoRel (β : Val) : List SItem → List Item → Prop
  | [], [] => True
  | x :: k, y :: k' => ItemRel β x y ∧ TodoRel β k k'
  | _, _ => False
theorem ItemRel.mono {β β' : Val} (hl : β.le β') {x : SItem} {y : Item} (h : ItemRel β x y) : ItemRel β' x y := by
  cases x <;> cases y <;> first
    | exact h
    | (obtain ⟨l, a, b⟩ := h; exact ⟨l, hl _ _ a, b⟩)
theorem TodoRel.mono {β β' : Val} (hl : β.le β') : ∀ {x : List SItem} {y : List Item}, TodoRel β x y → TodoRel β' x y
  | [], [], _ => trivial
  | _ :: _, _ :: _, h => ⟨h.1.mono hl, TodoRel.mono hl h.2⟩
  | [], _ :: _, h => h.elim
  | _ :: _, [], h => h.elim
def RoundRel (β : Val) : Option Nat → Option Nat → Prop
  | none, none => True
  | some n, some b => ∃ l, β n = some l ∧ b = l.blk
  | _, _ => False
theorem RoundRel.mono {β β' : Val} (hl : β.le β') {x y : Option Nat} (h : RoundRel β x y) : RoundRel β' x y := by
  cases x <;> cases y <;> first | exact h | (obtain ⟨l, a, b⟩ := h; exact ⟨l, hl _ _ a, b⟩)
structure FrameRel (β : Val) (s : SF) (f : Frame) : Prop where
  fn : f.fn = s.fn
  tmps : SV.denL β s.tmps = some f.tmps.toList
  todo : TodoRel β s.todo f.todo
  defers : SD.denL β s.defers = some f.defers
  mode : f.mode = .run
  kind : f.kind = .normal
  round : RoundRel β s.roundOf f.roundOf
theorem FrameRel.mono {β β' : Val} (hl : β.le β') {s : SF} {f : Frame} (h : FrameRel β s f) : FrameRel β' s f :=
  ⟨h.fn, SV.denL_mono hl _ h.tmps, h.todo.mono hl, SD.denL_mono hl h.defers, h.mode, h.kind, h.round.mono hl⟩
def FramesRel (β : Val) : List SF → List Frame → Prop
  | [], [] => True
  | s :: r, f :: r' => FrameRel β s f ∧ FramesRel β r r'
  | _, _ => False
theorem FramesRel.mono {β β' : Val} (hl : β.le β') : ∀ {x : List SF} {y : List Frame}, FramesRel β x y → FramesRel β' x y
  | [], [], _ => trivial
  | _ :: _, _ :: _, h => ⟨h.1.mono hl, FramesRel.mono hl h.2⟩
  | [], _ :: _, h => h.elim
  | _ :: _, [], h => h.elim
theorem frame_eta {f : Frame} (h : f.mode = .run) : f = f.atR ⟨f.tmps, f.defers⟩ f.todo := by
  cases f; simp only [Frame.atR] at *; subst h; rfl

/-- the setting of a run: what lies beneath its frames, the world at its start, the blocks that it may write, its bottom function -/
structure Base where
  P : Program
  glob : Nat → Option Nat
  O : Nat → Prop
  w0 : World
  cs : List Frame
  fn0 : FuncId
  /-- names that stand for something from the start -/
  fix : Val
structure BRel (B : Base) (β : Val) : Prop where
  glob : GlobRel B.glob β
  fix : B.fix.le β
theorem BRel.mono {B : Base} {β β' : Val} (h : BRel B β) (hl : β.le β') : BRel B β' := ⟨h.glob.mono hl, Val.le_trans h.fix hl⟩
structure MRel (B : Base) (s : SS) (m : Machine) : Prop where
  ex : ∃ β fr frs w, m = lone fr (frs ++ B.cs) w ∧ FramesRel β s.frames (fr :: frs) ∧ HeapRel B.P B.O B.w0 β s.heap w ∧ BRel B β ∧ ((fr :: frs).getLast?).map (·.fn) = some B.fn0
structure DoneRel (B : Base) (v : SV) (H : List SO) (m : Machine) : Prop where
  ex : ∃ β fr v' w, m = lone fr B.cs w ∧ fr.fn = B.fn0 ∧ fr.leaving B.P w (.returned v') ∧ v.den β = some v' ∧ HeapRel B.P B.O B.w0 β H w ∧ BRel B β
/-- from here the run comes to an end, or to a state from which 'go' goes on -/
def After (B : Base) (go : SS → Tree) (D : SV → List SO → Prop) (S : SS → Prop) (m : Machine) : Prop :=
  ∃ m', Steps B.P m m' ∧ ((∃ s', (go s').Ob D S ∧ MRel B s' m') ∨ (∃ v H, D v H ∧ DoneRel B v H m'))
theorem After.of_steps {B : Base} {go : SS → Tree} {D : SV → List SO → Prop} {S : SS → Prop} {m m1 : Machine} (h : Steps B.P m m1) (h' : After B go D S m1) : After B go D S m :=
  let ⟨m', a, b⟩ := h'; ⟨m', h.trans a, b⟩
theorem After.step {B : Base} {go : SS → Tree} {D : SV → List SO → Prop} {S : SS → Prop} {m m1 : Machine} (h : step B.P m = .next m1) (h' : After B go D S m1) : After B go D S m := h'.of_steps (.one h)

section
variable {B : Base} {go : SS → Tree} {D : SV → List SO → Prop} {S : SS → Prop}

theorem evS_den {glob : Nat → Option Nat} {β : Val} {T : List SV} {a : Act} (hT : SV.denL β T = some a.tmps.toList) (hg : GlobRel glob β) (x : Operand) : (evS glob T x).den β = some (a.eval x) := by
  cases x with
  | tmp t =>
    show (optC (nth T t) undefS fun v => v).den β = some (a.tmps.getD t undef)
    rw [nth_eq]
    cases h : T[t]? with
    | none =>
      have hlen := denL_length hT
      have : a.tmps.size ≤ t := by
        rw [List.getElem?_eq_none_iff] at h
        simp at hlen; omega
      rw [Array.getD_eq_getD_getElem?, Array.getElem?_eq_none this]; rfl
    | some v =>
      obtain ⟨x, hx, hd⟩ := denL_get hT h
      rw [Array.getD_eq_getD_getElem?, show a.tmps[t]? = some x from by rw [← hx]; simp]
      exact hd
  | const v => exact constV_den β v
  | global g =>
    show (evGlob g glob T).den β = _
    unfold evGlob
    split
    · rename_i nm h
      obtain ⟨l, h1, h2, h3⟩ := hg g nm h
      simp [SV.den, SA.den, h1, h2, h3, SN.den, Act.eval]
    · rfl
  | func f => rfl
theorem putT_den {β : Val} {T : List SV} {a : Act} (hT : SV.denL β T = some a.tmps.toList) (dst : Option Tmp) {v : SV} {x : Value} (hv : v.den β = some x) : SV.denL β (putT T dst v) = some (a.put dst x).tmps.toList := by
  cases dst with
  | none => exact hT
  | some d =>
    show SV.denL β (setN T d v) = _
    rw [setN_eq]
    simp only [Act.put, Array.toList_setIfInBounds]
    exact denL_set hT hv
/-- the frame with another todo -/
theorem FrameRel.to {β : Val} {s : SF} {f : Frame} (h : FrameRel β s f) {k : List SItem} {k' : List Item} (hk : TodoRel β k k') : FrameRel β (s.to k) (f.atR ⟨f.tmps, f.defers⟩ k') :=
  ⟨h.fn, h.tmps, hk, h.defers, rfl, h.kind, h.round⟩
theorem last_fn {f f' : Frame} {frs : List Frame} (h : f'.fn = f.fn) : ((f' :: frs).getLast?).map (·.fn) = ((f :: frs).getLast?).map (·.fn) := by
  cases frs with
  | nil => simp [h]
  | cons g r => simp [List.getLast?_cons_cons]
/-- one step of the top frame alone, nothing else turned -/
theorem after_to {s : SF} {rest : List SF} {H : List SO} {β : Val} {fr : Frame} {frs : List Frame} {w : World} (hF : FrameRel β s fr) (hR : FramesRel β rest frs) (hH : HeapRel B.P B.O B.w0 β H w) (hG : BRel B β)
    (hl : ((fr :: frs).getLast?).map (·.fn) = some B.fn0) {k : List SItem} {k' : List Item} (hk : TodoRel β k k') (hgo : (go ⟨s.to k :: rest, H⟩).Ob D S)
    (hst : step B.P (lone (fr.atR ⟨fr.tmps, fr.defers⟩ fr.todo) (frs ++ B.cs) w) = .next (lone (fr.atR ⟨fr.tmps, fr.defers⟩ k') (frs ++ B.cs) w)) : After B go D S (lone fr (frs ++ B.cs) w) := by
  rw [frame_eta hF.mode]
  exact ⟨_, .one hst, .inl ⟨_, hgo, ⟨β, _, frs, w, rfl, ⟨hF.to hk, hR⟩, hH, hG, by have := last_fn (f := fr) (f' := fr.atR ⟨fr.tmps, fr.defers⟩ k') (frs := frs) rfl; rw [this]; exact hl⟩⟩⟩

theorem exitS_spec {β : Val} (id : Nat) : ∀ (k : List SItem) (k' : List Item), TodoRel β k k' → match exitS id k with
    | some r => ∃ r', exitTo id k' = some r' ∧ TodoRel β r r'
    | none => exitTo id k' = none
  | [], [], _ => rfl
  | [], _ :: _, h => h.elim
  | _ :: _, [], h => h.elim
  | x :: k, y :: k', h => by
    have ih := exitS_spec id k k' h.2
    obtain ⟨h1, h2⟩ := h
    cases x <;> cases y <;> first | exact h1.elim | skip
    case inBlock.inBlock i j =>
      have h1' : j = i := h1
      subst h1'
      simp only [exitS, exitTo]
      by_cases hj : j = id
      · subst hj; simp; exact h2
      · simp [hj]; exact ih
    all_goals exact ih

end
end Go.Sim
