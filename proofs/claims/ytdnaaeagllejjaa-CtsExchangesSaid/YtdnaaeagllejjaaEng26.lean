/-
  The symbolic simulator, twenty-sixth part: calls.
-/
import Derived.Test.YtdnaaeagllejjaaEng25
import Derived.Below
namespace Go.Sim
variable {α : Type}

/-- a call, run to its end -/
noncomputable def callSim (c : Cfg) (n : Nat) (f : FuncId) (args : List SV) (H : List SO) : Tree := optC (enterF c.P f args) (.stuck 500) fun g => sim c n ⟨[g], H⟩

/-- the outcome of a call that comes to its end -/
def Came (P : Program) (O : Nat → Prop) (w0 : World) (β : Val) (D : SV → List SO → Prop) (e : Ending) (w' : World) : Prop :=
  ∃ v H x β', e = .returned x ∧ D v H ∧ β.le β' ∧ v.den β' = some x ∧ HeapRel P O w0 β' H w'

theorem enter_mrel {c : Cfg} {O : Nat → Prop} {w0 w : World} {β : Val} {H : List SO} {f : FuncId} {args : List SV} {vs : List Value} {g : SF} (hH : HeapRel c.P O w0 β H w) (hG : GlobRel c.glob β) (ha : SV.denL β args = some vs) (hg : enterF c.P f args = some g) (cs : List Frame) :
    MRel ⟨c.P, c.glob, O, w0, cs, f, β⟩ ⟨[g], H⟩ (lone (Frame.enter c.P f vs.toArray .normal) cs w) := by
  obtain ⟨h1, _⟩ := enter_rel hg ha
  exact ⟨β, _, [], w, rfl, ⟨h1, trivial⟩, hH, ⟨hG, Val.le_refl β⟩, rfl⟩

/-- CALLS FROM A RUN OF THE SIMULATOR -/
theorem calls_of {c : Cfg} (hc : CfgOK c) {n : Nat} {O : Nat → Prop} {w0 w : World} {β : Val} {H : List SO} {f : FuncId} {args : List SV} {vs : List Value} (hH : HeapRel c.P O w0 β H w) (hG : GlobRel c.glob β) (ha : SV.denL β args = some vs) {D : SV → List SO → Prop}
    (hob : (callSim c n f args H).Ob D fun _ => False) : Calls c.P f vs.toArray w (Came c.P O w0 β D) := by
  intro cs
  unfold callSim at hob
  cases hg : enterF c.P f args with
  | none => rw [hg] at hob; exact hob.elim
  | some g =>
    rw [hg] at hob
    obtain ⟨m', hs, ⟨v, H', hD, hdone⟩ | ⟨s, hS, _⟩⟩ := sim_sound (B := ⟨c.P, c.glob, O, w0, cs, f, β⟩) hc rfl rfl n _ _ (enter_mrel hH hG ha hg cs) hob
    · obtain ⟨β', fr, x, w', rfl, hfn, hleave, hv, hH', hG'⟩ := hdone.ex
      exact ⟨.returned x, w', fr, ⟨v, H', x, β', rfl, hD, hG'.fix, hv, hH'⟩, hs, hfn, hleave⟩
    · exact hS.elim

/-- nothing that was there has turned -/
theorem Keep.below {w w' : World} (h : Keep (fun _ => False) w w') : Go.RowKit.Below w.heap.size w w' :=
  ⟨h.os, h.tape, h.output, h.size, fun k hk => h.block k hk fun f => f⟩

/- A world in which nothing has a name. -/
def noNames : Val := fun _ => none
theorem HeapRel.start (P : Program) (O : Nat → Prop) (w : World) : HeapRel P O w noNames [] w :=
  ⟨⟨by simp, by simp, by simp, ⟨rfl, rfl, rfl, Nat.le_refl _, fun _ _ _ => rfl⟩⟩, fun _ _ => rfl⟩
theorem GlobRel.none (β : Val) : GlobRel (fun _ => Option.none) β := fun _ _ h => by cases h
theorem getElem?_snoc {l : List α} {a : α} {n : Nat} {e : α} (h : (l ++ [a])[n]? = some e) : l[n]? = some e ∨ (n = l.length ∧ e = a) := by
  rcases Nat.lt_or_ge n l.length with hn | hn
  · rw [List.getElem?_append_left hn] at h; exact .inl h
  · rw [List.getElem?_append_right hn] at h
    right
    cases hx : n - l.length with
    | zero => rw [hx] at h; exact ⟨by omega, (Option.some.inj h).symm⟩
    | succ k => rw [hx] at h; simp at h
/-- a name more: something that is read alone, or a block of one's own -/
theorem HeapRel.snoc {P : Program} {O : Nat → Prop} {w0 : World} {β : Val} {H : List SO} {w : World} (h : HeapRel P O w0 β H w) (l : Loc) (e : SO)
    (he : EntryRel P O w0 (β.upd H.length l) w H.length e) (hf : e.owned = true → (w0.heap.size ≤ l.blk ∨ O l.blk) ∧ ∀ n e' l', H[n]? = some e' → e'.owned = true → β n = some l' → l'.blk ≠ l.blk) :
    HeapRel P O w0 (β.upd H.length l) (H ++ [e]) w ∧ β.le (β.upd H.length l) := by
  have hb := h.bound _ (Nat.le_refl _)
  have hle := Val.upd_le (l := l) hb
  have hold : ∀ n, n < H.length → (β.upd H.length l) n = β n := fun n hn => by unfold Val.upd; rw [if_neg (by omega)]
  have hlen : ∀ (n : Nat) (e : SO), H[n]? = some e → n < H.length := fun n e h => (List.getElem?_eq_some_iff.1 h).1
  refine ⟨⟨⟨fun n e' hn => ?_, fun n m e1 e2 l1 l2 h1 h2 o1 o2 hnm b1 b2 => ?_, fun n e' l' hn ho hl => ?_, h.keep⟩, fun n hn => ?_⟩, hle⟩
  · rcases getElem?_snoc hn with h' | ⟨rfl, rfl⟩
    · have h0 := h.entries n e' h'
      cases e' with
      | row c =>
        obtain ⟨l, vs, hl, hc, hx⟩ := h0
        exact ⟨l, vs, hle _ _ hl, hc.mono hle, hx⟩
      | own c wh el => exact OwnRel.kept (P := P) (e := .own c wh el) h0 hle fun _ _ _ => rfl
      | loop s p f T ps a b d => exact OwnRel.kept (P := P) (e := .loop s p f T ps a b d) h0 hle fun _ _ _ => rfl
      | deferred ds => exact OwnRel.kept (P := P) (e := .deferred ds) h0 hle fun _ _ _ => rfl
      | gone => trivial
    · exact he
  · rcases getElem?_snoc h1 with h1' | ⟨rfl, rfl⟩ <;> rcases getElem?_snoc h2 with h2' | ⟨rfl, rfl⟩
    · rw [hold _ (hlen _ _ h1')] at b1
      rw [hold _ (hlen _ _ h2')] at b2
      exact h.sep n m e1 e2 l1 l2 h1' h2' o1 o2 hnm b1 b2
    · rw [hold _ (hlen _ _ h1')] at b1
      rw [Val.upd_same] at b2; cases b2
      exact (hf o2).2 n e1 l1 h1' o1 b1
    · rw [hold _ (hlen _ _ h2')] at b2
      rw [Val.upd_same] at b1; cases b1
      exact ((hf o1).2 m e2 l2 h2' o2 b2).symm
    · exact absurd rfl hnm
  · rcases getElem?_snoc hn with h' | ⟨rfl, rfl⟩
    · rw [hold _ (hlen _ _ h')] at hl
      exact h.fresh n e' l' h' ho hl
    · rw [Val.upd_same] at hl; cases hl
      exact (hf ho).1
  · rw [List.length_append] at hn
    simp at hn
    unfold Val.upd
    rw [if_neg (by omega)]
    exact h.bound n (by omega)

end Go.Sim
