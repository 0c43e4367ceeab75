/-
  The block cipher, eighth part: a byte's place in a string; what is known by example.
-/
import Derived.Test.YtbgpdpeafdoomaaDoorAes7
import Derived.Laws.Externs
namespace Go.Proofs.YtbgpdpeafdoomaaDoor.Aes
open Go.Sim
open Go.Proofs
variable {α : Type}

noncomputable def strV (v : SV) : Option SStr :=
  SV.rec (motive_1 := fun _ => Option SStr) (motive_2 := fun _ => Unit) (fun _ _ => none) (fun _ => none) (fun s => some s) (fun _ => none) none (fun _ _ _ => none) none (fun _ => none) none (fun _ _ _ _ _ => none) none (fun _ _ _ => none) none (fun _ _ => none) (fun _ _ => none) (fun _ => none) () (fun _ _ _ _ => ()) v
theorem strV_spec {v : SV} {s : SStr} (h : strV v = some s) : v = .str s := by
  cases v <;> first | (cases h; done) | (cases h; rfl)
/-- the place of a byte in a string -/
noncomputable def idxI (s : SStr) (v : SV) (n : Int) : SI := SStr.rec (motive := fun _ => SI) (fun _ => optC (unl1 v) (.sym n) fun _ => .lit n) (fun _ => .sym n) (fun _ => .sym n) s
theorem idxI_den (s : SStr) (v : SV) (n : Int) : (idxI s v n).den = n := by
  unfold idxI
  cases s with
  | lit s =>
    show (optC (unl1 v) (SI.sym n) fun _ => .lit n).den = n
    cases unl1 v <;> rfl
  | sym => rfl
  | bytes => rfl
noncomputable def idxS : Summ := fun args _ _ => args2 args fun s v => optC (strV s) (.stuck 680) fun s => optC (unb1 v) (.stuck 680) fun x => .ok ⟨.int .i64 (idxI s v (firstIdx s.den x.toNat.toUInt8)), [], []⟩
theorem find_idx : ∃ fn, Tryd.prog.funcs[44]? = some fn ∧ (fn.name == "runtime.NumGoroutine") = false ∧ fn.body.isNone = true ∧ Extern.findNext fn = none ∧ Extern.find fn = some Extern.BytealgIndexByte.indexByte := ⟨_, rfl, by kernel_rfl, by kernel_rfl, by kernel_rfl, by kernel_rfl⟩
theorem idxOK : SumOK Tryd.prog 44 idxS := by
  intro glob O w0 β H w base args vs hH hG ha
  refine args2_sat fun v1 v2 hv => optC_only fun s hs => optC_only fun x hx => ?_
  rw [hv, strV_spec hs] at ha
  have ha := impL_cons (.refl _) (impL_cons (unb1_imp hx) impL_nil) _ _ ha
  cases ha
  intro hfree
  refine ⟨by simp, .inr ?_⟩
  obtain ⟨fn, h1, h2, h3, h4, h5⟩ := find_idx
  refine ⟨.int .i64 (firstIdx s.den x.toNat.toUInt8), w, β, ?_, by show some (Value.int .i64 (idxI s v2 _).den) = _; rw [idxI_den], Eff.refl _ _ _ _⟩
  rw [run_callFunc_extern h1 h2 h3 h4 h5]
  show ((Extern.BytealgIndexByte.indexByte #[.string s.den, .int .u8 (x.toNat : Int)]).run Tryd.prog w).andThen _ = _
  rw [run_indexByte_string]
  rfl

noncomputable def cfg8 : Cfg := cfgOf (sumsOf [(11, newS), (14, cryptS encL), (15, cryptS decL), (44, idxS)])
theorem cfg8OK : CfgOK cfg8 := sumsOf_ok (allC newOK (allC encryptOK (allC decryptOK (all1 idxOK))))

/- The example of the chapter. -/
noncomputable def exKey : List (BitVec 8) := mapN (fun i => BitVec.ofNat 8 i) (fromN 16 0)
noncomputable def exBlock : List (BitVec 8) := mapN (fun i => BitVec.ofNat 8 (17 * i)) (fromN 16 0)
noncomputable def exOut : List (BitVec 8) := encL (byteAt (keysL (block16 (byteAt exKey) 0))) (block16 (byteAt exBlock) 0)
def exStr : ByteArray := ⟨#[0x69, 0xc4, 0xe0, 0xd8, 0x6a, 0x7b, 0x04, 0x30, 0xd8, 0xcd, 0xb7, 0x80, 0x70, 0xb4, 0xc5, 0x5a]⟩
theorem ex_out : bytesOf (mapN (fun x => .b8 x) exOut) = exStr := by
  have h : (mapN (fun x => SI.b8 x) exOut).map (fun i => UInt8.ofNat i.den.toNat) = [0x69, 0xc4, 0xe0, 0xd8, 0x6a, 0x7b, 0x04, 0x30, 0xd8, 0xcd, 0xb7, 0x80, 0x70, 0xb4, 0xc5, 0x5a] := by kernel_rfl
  unfold bytesOf exStr
  rw [h]
noncomputable def knownT : Tree := callSim cfg8 6000 10 [] []
theorem known_run : (outN knownT).1 = [0 + 16 ≤ 16, 0 + 16 ≤ 16] ∧ outF1 [] (outN knownT).2 = some (decide (bytesOf (mapN (fun x => .b8 x) exOut) = exStr), ([], some (.bool (.lit true), []))) := by
  refine ⟨?_, ?_⟩ <;> kernel_rfl
theorem known_ob {D : SV → List SO → Prop} {S : SS → Prop} {t : Tree} (ht : knownT = t) (hD : ∀ H, D (.bool (.lit true)) H) : t.Ob D S := by
  have hk := known_run
  rw [ht] at hk
  obtain ⟨h1, h2⟩ := hk
  refine outN_ob h1 (by simp) (outF1_ob h2 (decide_eq_true ex_out) fun t' ht' => outP_ob0 ht' fun H _ => hD H)
noncomputable def knownS : Summ := fun args _ _ => List.rec (motive := fun _ => R SumRes) (.ok ⟨.bool (.lit true), [], []⟩) (fun _ _ _ => .stuck 690) args
theorem knownOK : SumOK Tryd.prog 10 knownS := by
  intro glob O w0 β H w base args vs hH hG ha
  cases args with
  | cons => trivial
  | nil =>
    refine sum_run cfg8OK rfl 6000 hH ⟨[], [], []⟩ ha (fits0 rfl) [] (by simp) (by simp) ?_
    show (callSim cfg8 6000 10 [] []).Ob _ _
    generalize ht : callSim cfg8 6000 10 [] [] = t
    exact known_ob ht fun H => ends0 rfl rfl rfl
noncomputable def cfg9 : Cfg := cfgOf (sumsOf [(11, newS), (14, cryptS encL), (15, cryptS decL), (44, idxS), (10, knownS)])
theorem cfg9OK : CfgOK cfg9 := sumsOf_ok (allC newOK (allC encryptOK (allC decryptOK (allC idxOK (all1 knownOK)))))

end Go.Proofs.YtbgpdpeafdoomaaDoor.Aes
