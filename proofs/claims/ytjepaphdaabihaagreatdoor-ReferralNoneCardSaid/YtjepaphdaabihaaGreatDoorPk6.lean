/-
  The symbolic simulator, forty-first part: a summary told for one state alone, whatever is drawn.
-/
import Derived.Test.YtjepaphdaabihaaGreatDoorPk5
namespace Go.Sim
variable {α : Type}

noncomputable def fitB (ro : Bool) (M : List Nat) (args : List SV) (H : List SO) : Bool := boolC (nodupN M) (boolC (keepsAt (fun n => memN n M) H M) (boolC (SV.usesL (fun n => memN n M) args) (boolC (SV.usesL (smallI ro M args H).known (smallI ro M args H).args) (allN (fun e => e.keeps (smallI ro M args H).known) (smallI ro M args H).ents) false) false) false) false
theorem small_fits {P : Program} {ro : Bool} {O : Nat → Prop} {w0 w : World} {β : Val} {H : List SO} {args : List SV} {vs : List Value} {M : List Nat} (hok : fitB ro M args H = true) (_hH : HeapRel0 P O w0 β H w) (ha : SV.denL β args = some vs) :
    (smallI ro M args H).FitsQ H ∧ SV.denL β (SV.renL (smallI ro M args H).big (smallI ro M args H).args) = some vs := by
  unfold fitB at hok
  obtain ⟨h1, hok⟩ := boolC_two hok
  obtain ⟨h2, hok⟩ := boolC_two hok
  obtain ⟨h3, hok⟩ := boolC_two hok
  obtain ⟨h4, h5⟩ := boolC_two hok
  have hM : M.Nodup := nodupN_spec M h1
  have hround : ∀ n, memN n M = true → (smallI ro M args H).big (idxN n M) = n := by
    intro n hn
    show (nth M (idxN n M)).getD 0 = n
    rw [nth_eq, idxN_spec (memN_iff.1 hn)]
    rfl
  have hget : ∀ (j : Nat) (E : SO), (smallI ro M args H).ents[j]? = some E → ∃ m e, M[j]? = some m ∧ H[m]? = some e ∧ E = rowO ro (renO (fun n => idxN n M) e) ∧ e.keeps (fun n => memN n M) = true := by
    intro j E hE
    have hE : (mapN (fun m => rowO ro (renO (fun n => idxN n M) (atE (nth H m)))) M)[j]? = some E := hE
    rw [mapN_eq, List.getElem?_map] at hE
    cases hm : M[j]? with
    | none => rw [hm] at hE; cases hE
    | some m =>
      rw [hm] at hE
      obtain ⟨e, he, hk⟩ := keepsAt_get h2 (List.mem_of_getElem? hm)
      have hE : rowO ro (renO (fun n => idxN n M) (atE (nth H m))) = E := Option.some.inj hE
      rw [nth_eq, he] at hE
      exact ⟨m, e, rfl, he, hE.symm, hk⟩
  refine ⟨⟨?_, fun i j nm hi hj => ?_, h4, fun j E hE => ?_, fun j E hE => ?_⟩, ?_⟩
  · show (mapN _ M).length = M.length
    rw [mapN_eq, List.length_map]
  · exact (List.getElem?_inj (List.getElem?_eq_some_iff.1 hi).1 hM).1 (hi.trans hj.symm)
  · obtain ⟨m, e, hm, he, rfl, hk⟩ := hget j E hE
    have hb : (smallI ro M args H).big j = m := by
      show (nth M j).getD 0 = m
      rw [nth_eq, hm]; rfl
    exact ⟨e, by rw [hb]; exact he, taken_ro ro (taken_round hround hk)⟩
  · exact SO.keeps_cuses (allN_mem h5 E (List.mem_of_getElem? hE))
  · show SV.denL β (SV.renL (smallI ro M args H).big (SV.renL (fun n => idxN n M) args)) = some vs
    rw [SV.denL_ren, SV.denL_ren]
    rw [← SV.denL_uses (p := fun n => memN n M) (β := β) (fun n hn => by show β n = β ((smallI ro M args H).big (idxN n M)); rw [hround n hn]) args h3]
    exact ha
/-- the result of one path -/
noncomputable def getR (o : Option (R SumRes)) : SumRes := optC o ⟨.nilPtr, [], []⟩ fun r => R.rec (motive := fun _ => SumRes) (fun a => a) (fun _ _ ih => ih) (fun _ _ _ a _ => a) (fun _ => ⟨.nilPtr, [], []⟩) (fun _ ih => ih fun _ => 0) r
noncomputable def pathR (t : Tree) (ds : List Bool) (I : Ifc) (base : Nat) : SumRes := getR (outG (endR I base) t ds fun _ _ => 0).2
/-- A SUMMARY TOLD FOR ONE STATE -/
noncomputable def toldM (ro : Bool) (t : Tree) (ds : List Bool) (A : List SV) (E : List SO) (els : R SumRes) (args : List SV) (H : List SO) (base : Nat) (M : List Nat) : R SumRes :=
  boolC (boolC (fitB ro M args H) (boolC (eqVL (smallI ro M args H).args A) (eqEL (smallI ro M args H).ents E) false) false) (.ok (pathR t ds ⟨M, E, A⟩ base)) els
theorem toldM_sat {c : Cfg} (hc : CfgOK c) (hg : ∀ g, c.glob g = none) {n : Nat} {f : FuncId} {ro : Bool} {ds : List Bool} {A : List SV} {E : List SO} {els : R SumRes} {O : Nat → Prop} {w0 w : World} {β : Val} {H : List SO} {base : Nat} {args : List SV} {vs : List Value} (M : List Nat)
    (hT : ∀ M : List Nat, M.length = E.length → ∀ z, ∃ ds' ps, outG (endR ⟨M, E, A⟩ base) (callSim c n f A E) ds' z = (ps, some (.ok (pathR (callSim c n f A E) ds ⟨M, E, A⟩ base))) ∧ ∀ p ∈ ps, p)
    (hH : HeapRel0 c.P O w0 β H w) (ha : SV.denL β args = some vs) (he : els.Sat (SumSem c.P H β w base f vs)) : (toldM ro (callSim c n f A E) ds A E els args H base M).Sat (SumSem c.P H β w base f vs) := by
  unfold toldM
  cases hok : boolC (fitB ro M args H) (boolC (eqVL (smallI ro M args H).args A) (eqEL (smallI ro M args H).ents E) false) false with
  | false => exact he
  | true =>
    obtain ⟨h1, hok⟩ := boolC_two hok
    obtain ⟨h2, h3⟩ := boolC_two hok
    rw [boolC_true]
    obtain ⟨hI, ha'⟩ := small_fits h1 hH ha
    have e1 := eqVL_spec _ _ h2
    have e2 := eqEL_spec _ _ h3
    have e : smallI ro M args H = ⟨M, E, A⟩ := by
      have h : smallI ro M args H = ⟨M, (smallI ro M args H).ents, (smallI ro M args H).args⟩ := rfl
      rw [h, e1, e2]
    rw [e] at hI ha'
    show SumSem c.P H β w base f vs _
    exact sum_runX hc n hH ⟨M, E, A⟩ (fun g j h => by rw [hg g] at h; cases h) ha' hI ((outG_ob (hT M (hI.len.symm))).mono fun v H h => outM_ends h)
end Go.Sim

