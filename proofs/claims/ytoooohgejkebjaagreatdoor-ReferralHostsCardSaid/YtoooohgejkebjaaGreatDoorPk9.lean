/-
  Texts behind one another: the symbolic simulator and what it is told of the program.
-/
import Derived.Test.YtoooohgejkebjaaGreatDoorPk8
import Derived.Test.YtoooohgejkebjaaGreatDoorZRfn3

/-
  The symbolic simulator, forty-second part: a run az its own summary, where maps are not looked at.
-/
namespace Go.Sim
variable {α : Type}

noncomputable def isObjE (e : SO) : Bool := SO.rec (motive := fun _ => Bool) (fun _ _ _ => false) (fun _ => false) (fun _ _ _ _ _ _ _ _ => false) (fun _ => false) false (fun _ => true) e
/-- a map's name alone -/
noncomputable def hidO (e : SO) : SO := SO.rec (motive := fun _ => SO) (fun c w el => .own c w el) (fun c => .row c) (fun _ _ _ _ _ _ _ _ => .gone) (fun _ => .gone) .gone (fun _ => .gone) e
noncomputable def nmsH (e : SO) : List Nat := boolC (isObjE e) [] (nmsE e)
noncomputable def reachH (H : List SO) (n : Nat) : List Nat → List Nat → List Nat :=
  Nat.rec (motive := fun _ => List Nat → List Nat → List Nat) (fun _ seen => seen)
    (fun _ ih todo seen => List.rec (motive := fun _ => List Nat) seen (fun a r _ => boolC (memN a seen) (ih r seen) (ih (app (optC (nth H a) [] nmsH) r) (a :: seen))) todo) n
noncomputable def keepsH (p : Nat → Bool) (H : List SO) (js : List Nat) : Bool := allN (fun m => optC (nth H m) false fun e => boolC (isObjE e) true (e.keeps p)) js
noncomputable def smallH (M : List Nat) (args : List SV) (H : List SO) : Ifc := ⟨M, mapN (fun m => hidO (rowO true (renO (fun n => idxN n M) (atE (nth H m))))) M, SV.renL (fun n => idxN n M) args⟩
noncomputable def fitH (M : List Nat) (args : List SV) (H : List SO) : Bool := boolC (nodupN M) (boolC (keepsH (fun n => memN n M) H M) (boolC (SV.usesL (fun n => memN n M) args) (boolC (SV.usesL (smallH M args H).known (smallH M args H).args) (allN (fun e => boolC (goneB e) true (e.keeps (smallH M args H).known)) (smallH M args H).ents) false) false) false) false
theorem smallH_fits {P : Program} {O : Nat → Prop} {w0 w : World} {β : Val} {H : List SO} {args : List SV} {vs : List Value} {M : List Nat} (hok : fitH M args H = true) (_hH : HeapRel0 P O w0 β H w) (ha : SV.denL β args = some vs) :
    (smallH M args H).FitsQ H ∧ SV.denL β (SV.renL (smallH M args H).big (smallH M args H).args) = some vs := by
  unfold fitH at hok
  obtain ⟨h1, hok⟩ := boolC_two hok
  obtain ⟨h2, hok⟩ := boolC_two hok
  obtain ⟨h3, hok⟩ := boolC_two hok
  obtain ⟨h4, h5⟩ := boolC_two hok
  have hM : M.Nodup := nodupN_spec M h1
  have hround : ∀ n, memN n M = true → (smallH M args H).big (idxN n M) = n := by
    intro n hn
    show (nth M (idxN n M)).getD 0 = n
    rw [nth_eq, idxN_spec (memN_iff.1 hn)]
    rfl
  have hget : ∀ (j : Nat) (E : SO), (smallH M args H).ents[j]? = some E → ∃ m e, M[j]? = some m ∧ H[m]? = some e ∧ E = hidO (rowO true (renO (fun n => idxN n M) e)) ∧ boolC (isObjE e) true (e.keeps (fun n => memN n M)) = true := by
    intro j E hE
    have hE : (mapN (fun m => hidO (rowO true (renO (fun n => idxN n M) (atE (nth H m))))) M)[j]? = some E := hE
    rw [mapN_eq, List.getElem?_map] at hE
    cases hm : M[j]? with
    | none => rw [hm] at hE; cases hE
    | some m =>
      rw [hm] at hE
      have h2' := allN_mem h2 m (List.mem_of_getElem? hm)
      rw [nth_eq] at h2'
      cases hx : H[m]? with
      | none => rw [hx] at h2'; cases h2'
      | some e =>
        rw [hx] at h2'
        have hE : hidO (rowO true (renO (fun n => idxN n M) (atE (nth H m)))) = E := Option.some.inj hE
        rw [nth_eq, hx] at hE
        exact ⟨m, e, rfl, hx, hE.symm, h2'⟩
  refine ⟨⟨?_, fun i j nm hi hj => ?_, h4, fun j E hE => ?_, fun j E hE => ?_⟩, ?_⟩
  · show (mapN _ M).length = M.length
    rw [mapN_eq, List.length_map]
  · exact (List.getElem?_inj (List.getElem?_eq_some_iff.1 hi).1 hM).1 (hi.trans hj.symm)
  · obtain ⟨m, e, hm, he, rfl, hk⟩ := hget j E hE
    have hb : (smallH M args H).big j = m := by
      show (nth M j).getD 0 = m
      rw [nth_eq, hm]; rfl
    refine ⟨e, by rw [hb]; exact he, ?_⟩
    cases e with
    | obj o => exact ⟨none, rfl, .inr ⟨o, rfl⟩⟩
    | own c w el => exact taken_ro true (taken_round hround (show (SO.own c w el).keeps _ = true from hk))
    | row c => exact taken_ro true (taken_round hround (show (SO.row c).keeps _ = true from hk))
    | loop => cases hk
    | deferred => cases hk
    | gone => cases hk
  · have h6 := allN_mem h5 E (List.mem_of_getElem? hE)
    cases hg : goneB E with
    | true => rw [goneB_iff hg]; trivial
    | false => rw [hg] at h6; exact SO.keeps_cuses h6
  · show SV.denL β (SV.renL (smallH M args H).big (SV.renL (fun n => idxN n M) args)) = some vs
    rw [SV.denL_ren, SV.denL_ren]
    rw [← SV.denL_uses (p := fun n => memN n M) (β := β) (fun n hn => by show β n = β ((smallH M args H).big (idxN n M)); rw [hround n hn]) args h3]
    exact ha
noncomputable def hidR (c : Cfg) (n : Nat) (f : FuncId) (I : Ifc) (base : Nat) : R SumRes := optC (detT (callSim c n f I.args I.ents)) (.stuck 7784) fun r => endR I base r.1 r.2
noncomputable def hidM (c : Cfg) (n : Nat) (f : FuncId) (args : List SV) (H : List SO) (base : Nat) (M : List Nat) : R SumRes := boolC (fitH M args H) (hidR c n f (smallH M args H) base) (.stuck 7785)
/-- A RUN AS A SUMMARY, without maps -/
noncomputable def hidRun (c : Cfg) (n : Nat) (f : FuncId) : Summ := fun args H base => hidM c n f args H base (reachH H 400 (SV.nmsL args) [])
theorem outM_cases (I : Ifc) (base : Nat) (turn keep : List Nat) (v : SV) (H : List SO) : (∃ r, outM I base turn keep v H = .ok r) ∨ ∃ n, outM I base turn keep v H = .stuck n := by
  unfold outM
  cases boolC (nodupN keep) (boolC (allN (fun j => Nat.ble (lenN I.names) j) keep) (boolC (v.uses (I.seen keep)) (boolC (keepsAt (I.seen keep) H turn) (boolC (keepsAt (I.seen keep) H keep) (allN (fun m => optC (nth H m) false SO.owned) (app turn keep)) false) false) false) false) false with
  | true => exact .inl ⟨_, rfl⟩
  | false => exact .inr ⟨_, rfl⟩
theorem hidRun_ok {c : Cfg} (hc : CfgOK c) (hg : ∀ g, c.glob g = none) (n : Nat) (f : FuncId) : SumOK c.P f (hidRun c n f) := by
  intro glob O w0 β H w base args vs hH hG ha
  show (hidM c n f args H base (reachH H 400 (SV.nmsL args) [])).Sat _
  generalize reachH H 400 (SV.nmsL args) [] = M
  unfold hidM
  cases hok : fitH M args H with
  | false => trivial
  | true =>
    rw [boolC_true]
    obtain ⟨hI, ha'⟩ := smallH_fits hok hH ha
    generalize smallH M args H = I at hI ha' ⊢
    unfold hidR
    cases hd : detT (callSim c n f I.args I.ents) with
    | none => trivial
    | some r =>
      obtain ⟨v, H2⟩ := r
      show (endR I base v H2).Sat _
      unfold endR
      rcases outM_cases I base (ownedOf I.ents 0) (notKnown (lenN I.names) (reachN H2 400 (app v.nms (ownedOf I.ents 0)) [])) v H2 with ⟨r, hr⟩ | ⟨k, hr⟩
      · rw [hr]
        show SumSem c.P H β w base f vs r
        exact sum_runX hc n hH I (fun g j h => by rw [hg g] at h; cases h) ha' hI ((detT_ob hd).mono fun v' H' h => by
          obtain ⟨rfl, rfl⟩ := h
          exact outM_ends hr)
      · rw [hr]; trivial
end Go.Sim


/-
  Referrals: the chapter's two pairs in order; the chapter's examples.
-/
namespace Go.Proofs.YtoooohgejkebjaaGreatDoor.Aes
open Go.Sim
open Go.Proofs
variable {α : Type}

set_option maxRecDepth 1000000
noncomputable def es2 : List (SV × SV × Nat) := [(.agg [strQ [82], strQ [83]], .bool (.lit true), 0), (.agg [strQ [83], strQ [84, 46, 88]], .bool (.lit true), 1)]
noncomputable def srE : List SO := [.obj (.map es2 2)]
noncomputable def srA : List SV := [.map 0]
noncomputable def srT : Tree := callSim cfgR1 20000 159 srA srE
def rfG : List FuncId := [13, 16, 40, 78, 11, 102]
noncomputable def cfgG0 : Cfg := cfgOf (sumsOf (roL cfgF1 rfG (rfL cfgF1)))
theorem cfgG0OK : CfgOK cfgG0 := sumsOf_ok (roL_ok cfgF1OK (rfLOK cfgF1OK) _)
noncomputable def cfgG1 : Cfg := cfgOf (sumsOf (roL cfgG0 rfG (rfL cfgF1)))
theorem cfgG1OK : CfgOK cfgG1 := sumsOf_ok (roL_ok cfgG0OK (rfLOK cfgF1OK) _)
theorem sr_runs (m0 base : Nat) (z : Nat → Nat → Nat) : mapN (fun k => outG (endR ⟨[m0], srE, srA⟩ base) srT (dirQ 1 k) z) (fromN (1 + 1) 0) = mapN (fun k => (cndQ (z 0 0) 1 0 k, some (R.ok (pathR srT [true] ⟨[m0], srE, srA⟩ base)))) (fromN (1 + 1) 0) := by kernel_rfl
theorem sr_told (base : Nat) (M : List Nat) (h : M.length = srE.length) (z : Nat → Nat → Nat) : ∃ ds ps, outG (endR ⟨M, srE, srA⟩ base) srT ds z = (ps, some (R.ok (pathR srT [true] ⟨M, srE, srA⟩ base))) ∧ ∀ p ∈ ps, p := by
  match M, h with
  | [m0], _ => exact orders 1 z (sr_runs m0 base z)
noncomputable def srS : Summ := fun args H base => toldM true srT [true] srA srE (.stuck 7796) args H base (reachN H 400 (SV.nmsL args) [])
theorem srOK : SumOK Tryz.prog 159 srS := by
  intro glob O w0 β H w base args vs hH hG ha
  exact toldM_sat cfgR1OK (fun _ => rfl) _ (fun M h z => sr_told base M h z) hH ha trivial
theorem hidOfOK {g : FuncId → Option Summ} (hc : CfgOK (cfgOf g)) (n : Nat) (f : FuncId) : SumOK Tryz.prog f (hidRun (cfgOf g) n f) := hidRun_ok hc (fun _ => rfl) n f
noncomputable def rfHid : List (FuncId × Summ) := [(37, hidRun cfgG0 4000 37), (29, hidRun cfgG0 4000 29)]
theorem rfHidOK : ∀ y ∈ rfHid, SumOK Tryz.prog y.1 y.2 := allC (hidOfOK cfgG0OK _ _) (all1 (hidOfOK cfgG0OK _ _))
noncomputable def rfA : List (FuncId × Summ) := (31, nmS) :: (159, srS) :: app rfHid (roL cfgG1 rfG (rfL cfgF4))
theorem rfAOK : ∀ y ∈ rfA, SumOK Tryz.prog y.1 y.2 := allC nmOK (allC srOK (by
  intro y hy
  rw [app_eq] at hy
  rcases List.mem_append.1 hy with hy | hy
  · exact rfHidOK y hy
  · exact roL_ok cfgG1OK (rfLOK cfgF4OK) _ y hy))
noncomputable def cfgA0 : Cfg := cfgOf (sumsOf rfA)
theorem cfgA0OK : CfgOK cfgA0 := sumsOf_ok rfAOK
noncomputable def rfH : List (FuncId × Summ) := (42, ownRun true 7777 cfgA0 4000 42) :: rfA
theorem rfHOK : ∀ y ∈ rfH, SumOK Tryz.prog y.1 y.2 := allC (runOfOK true 7777 cfgA0OK _ _) rfAOK
noncomputable def cfgF6 : Cfg := cfgOf (sumsOf rfH)
theorem cfgF6OK : CfgOK cfgF6 := sumsOf_ok rfHOK
end Go.Proofs.YtoooohgejkebjaaGreatDoor.Aes

