/-
  Texts behind one another: the symbolic simulator and what it is told of the program.
-/
import Derived.Test.YtbmgahpjgefjaaaDoorZLon1
import Derived.Test.YtbmgahpjgefjaaaDoorPk5
import Derived.WideShapes
import Derived.ChangeShapes
import Derived.ChangeSlices
import Derived.Deep.Strs

/-
  ProfileLong: the law's runs.
-/
namespace Go.Proofs.YtbmgahpjgefjaaaDoor.Aes
open Go.Sim
open Go.Proofs
open Go.RowKit

set_option maxRecDepth 1000000
noncomputable def cfgLi (b b' : Bool) (e : Int) : Cfg := cfgG globP (sumsOf [(7, slS), (8, olS b e), (9, vaS b'), (6, knS)])
theorem cfgLiOK {b b' : Bool} {e : Int} : CfgOK (cfgLi b b' e) := sumsG_ok (allS (slOK _) (allS (olOK _) (allS (vaOK _) (allS knOK (by simp)))))
noncomputable def loT (b b' : Bool) (e : Int) (p v u : Int) (l c : Nat) (x : BitVec 8) (X : Nat → BitVec 8) (n : Nat) : Tree := callSim (cfgLi b b' e) 8000 3 [fdK p v (.slice ⟨4, .lit 0⟩ (.sym l) (.sym c)), .int .i64 (.sym u), .int .u8 (.b8 x)] (shaHP [rowF X n])
noncomputable def loN (b b' : Bool) (e : Int) (p v u : Int) (x : BitVec 8) : Tree := callSim (cfgLi b b' e) 8000 3 [fdK p v .nilSlice, .int .i64 (.sym u), .int .u8 (.b8 x)] (shaHP [])
noncomputable def mrN (x : BitVec 8) : Int := 65537 + (x.toNat : Int).tmod 100
noncomputable def mkQ (n : Int) : Prop := 0 ≤ n ∧ n ≤ n ∧ n * 1 ≤ 2 ^ 48 ∧ n ≤ 9223372036854775807 ∧ 1 = 1
noncomputable def loC (b b' : Bool) (e n : Int) (p v u : Int) (x : BitVec 8) (m : Int) (l : Nat) (r : List Prop) : List Prop := inI64 (mrN x) :: mkQ (mrN x) :: (16 = 16 ∧ 65536 < (mrN x).toNat) :: inI64 (16 + mrN x) :: inI64 m :: mkQ m ::
  (p = p ∧ (0 : Int) = 0 ∧ 65552 + l < m.toNat ∧ m.toNat ≤ 2 ^ 48 ∧ (usQ p v u l ↔ b = true) ∧ e = n) :: (validK p v l ↔ b' = true) :: r
noncomputable def loR : Option (SV × List (Option SO)) := some (.bool (.lit true), [])
section
variable (p v u : Int) (l c : Nat) (x : BitVec 8) (X : Nat → BitVec 8) (n : Nat)
theorem lo_nil : outO [] (loN false false 2 p v u x) [] = (loC false false 2 2 p v u x (16 + mrN x + 0) 0 [], loR) := by kernel_rfl
theorem lo_big (b b' : Bool) (e : Int) : outO [] (loT b b' e p v u l c x X n) [true] = ([decide ((l : Int) > 40) = true], loR) := by kernel_rfl
theorem lo_err : outO [] (loT false false 2 p v u l c x X n) [false] = ((decide ((l : Int) > 40) = false) :: loC false false 2 2 p v u x (16 + mrN x + l) l [], loR) := by kernel_rfl
theorem lo_low : outO [] (loT false true 2 p v u l c x X n) [false, true, true, true] = ((decide ((l : Int) > 40) = false) :: loC false true 2 2 p v u x (16 + mrN x + l) l [decide (u < 1) = true, decide (u < 1) = true, decide (u < 1) = true], loR) := by kernel_rfl
theorem lo_high : outO [] (loT false true 2 p v u l c x X n) [false, false, true] = ((decide ((l : Int) > 40) = false) :: loC false true 2 2 p v u x (16 + mrN x + l) l [decide (u < 1) = false, decide (u > 1023) = true], loR) := by kernel_rfl
theorem lo_ok : outO [] (loT true true 5 p v u l c x X n) [false, false, false] = ((decide ((l : Int) > 40) = false) :: loC true true 5 5 p v u x (16 + mrN x + l) l [decide (u < 1) = false, decide (u > 1023) = false], loR) := by kernel_rfl
end
theorem mrN_bnd (x : BitVec 8) : 65537 ≤ mrN x ∧ mrN x < 65637 := by
  unfold mrN
  rw [Int.tmod_eq_emod_of_nonneg (by omega)]
  omega
theorem loC_all {b b' : Bool} {e n p v u : Int} {x : BitVec 8} {m : Int} {l : Nat} {r : List Prop} (hm : m = 16 + mrN x + l) (hl : l ≤ 40) (hb : usQ p v u l ↔ b = true) (hb' : validK p v l ↔ b' = true) (he : e = n) (hr : ∀ q ∈ r, q) : ∀ q ∈ loC b b' e n p v u x m l r, q := by
  have h := mrN_bnd x
  exact all_cons ⟨by omega, by omega⟩ (all_cons ⟨by omega, by omega, by omega, by omega, rfl⟩ (all_cons ⟨rfl, by omega⟩ (all_cons ⟨by omega, by omega⟩ (all_cons ⟨by omega, by omega⟩ (all_cons ⟨by omega, by omega, by omega, by omega, rfl⟩ (all_cons ⟨rfl, rfl, by omega, by omega, hb, he⟩ (all_cons hb' hr)))))))
theorem byte_wf {n : Int} (h : (Lit.int .u8 n).wf = true) : ((BitVec.ofInt 8 n).toNat : Int) = n := by
  have hr : 0 ≤ n ∧ n ≤ 255 := by
    simp [Lit.wf, IntKind.min, IntKind.max, IntKind.signed, IntKind.bits] at h
    omega
  rw [BitVec.toNat_ofInt]
  omega
theorem lo_law {w : World} {β : Val} (hH : HeapRel Tryd.prog (fun _ => False) w β (shaHP []) w) (hG : GlobRel globP β) (p v : Int) {a0 : Option Addr} {len0 cap0 : Nat} {X : Nat → BitVec 8} (h0 : ByteRow w a0 len0 cap0 X) (u : Int) {a1 : Int} (h1 : (Lit.int .u8 a1).wf = true) :
    Calls Tryd.prog 3 #[.agg #[.int .i64 p, .int .i64 v, .slice a0 len0 cap0], .int .i64 u, .int .u8 a1] w fun e w' => e = .returned (.bool true) ∧ Below w.heap.size w w' := by
  have hx : (SV.int .u8 (.b8 (BitVec.ofInt 8 a1))).den β = some (.int .u8 a1) := by
    show some (Value.int .u8 ((BitVec.ofInt 8 a1).toNat : Int)) = _
    rw [byte_wf h1]
  rcases h0 with ⟨rfl, rfl, rfl⟩ | ⟨x, rfl, hsx, hlx, _, hcx⟩
  · have hno : ¬ validK p v 0 := fun h => by obtain ⟨⟨_, h⟩ | ⟨_, h⟩, _⟩ := h <;> cases h
    refine law_by cfgLiOK 8000 hH hG (denL_cons.2 ⟨_, _, ?_, denL_cons.2 ⟨_, _, rfl, denL_cons.2 ⟨_, _, hx, rfl, rfl⟩, rfl⟩, rfl⟩) [] (lo_nil p v u (BitVec.ofInt 8 a1)) (loC_all (by simp) (by omega) ⟨fun h => absurd h.1 hno, fun h => by cases h⟩ ⟨fun h => absurd h hno, fun h => by cases h⟩ rfl all_nil)
    rfl
  · obtain ⟨β', hH', hle, hd⟩ := start_row (P := Tryd.prog) hH hsx hlx hcx
    have hG' : GlobRel globP β' := hG.mono hle
    have hx' := hx
    have hk : (fdK p v (.slice ⟨4, .lit 0⟩ (.sym len0) (.sym cap0))).den β' = some (.agg #[.int .i64 p, .int .i64 v, .slice (some x) len0 cap0]) := by
      show (SV.agg _).den β' = _
      rw [SV.den]
      simp only [Option.map_eq_some_iff]
      exact ⟨_, denL_cons.2 ⟨_, _, rfl, denL_cons.2 ⟨_, _, rfl, denL_cons.2 ⟨_, _, hd, rfl, rfl⟩, rfl⟩, rfl⟩, rfl⟩
    have ha : SV.denL β' [fdK p v (.slice ⟨4, .lit 0⟩ (.sym len0) (.sym cap0)), .int .i64 (.sym u), .int .u8 (.b8 (BitVec.ofInt 8 a1))] = some [.agg #[.int .i64 p, .int .i64 v, .slice (some x) len0 cap0], .int .i64 u, .int .u8 a1] :=
      denL_cons.2 ⟨_, _, hk, denL_cons.2 ⟨_, _, rfl, denL_cons.2 ⟨_, _, hx, rfl, rfl⟩, rfl⟩, rfl⟩
    by_cases hb : 40 < len0
    · exact law_by cfgLiOK 8000 hH' hG' ha _ (lo_big p v u len0 cap0 (BitVec.ofInt 8 a1) X cap0 false false 2) (all_cons (decide_eq_true (by omega)) all_nil)
    have e0 : decide ((len0 : Int) > 40) = false := decide_eq_false (by omega)
    by_cases hv : validK p v len0
    · by_cases h1 : u < 1
      · have e1 : decide (u < 1) = true := decide_eq_true h1
        exact law_by cfgLiOK 8000 hH' hG' ha _ (lo_low p v u len0 cap0 (BitVec.ofInt 8 a1) X cap0) (all_cons e0 (loC_all rfl (by omega) ⟨fun h => by have := h.2.1; omega, fun h => by cases h⟩ ⟨fun _ => rfl, fun _ => hv⟩ rfl (all_cons e1 (all_cons e1 (all_cons e1 all_nil)))))
      · have e1 : decide (u < 1) = false := decide_eq_false h1
        by_cases h2 : 1023 < u
        · exact law_by cfgLiOK 8000 hH' hG' ha _ (lo_high p v u len0 cap0 (BitVec.ofInt 8 a1) X cap0) (all_cons e0 (loC_all rfl (by omega) ⟨fun h => by have := h.2.2; omega, fun h => by cases h⟩ ⟨fun _ => rfl, fun _ => hv⟩ rfl (all_cons e1 (all_cons (decide_eq_true h2) all_nil))))
        · exact law_by cfgLiOK 8000 hH' hG' ha _ (lo_ok p v u len0 cap0 (BitVec.ofInt 8 a1) X cap0) (all_cons e0 (loC_all rfl (by omega) ⟨fun _ => rfl, fun _ => ⟨hv, by omega, by omega⟩⟩ ⟨fun _ => rfl, fun _ => hv⟩ rfl (all_cons e1 (all_cons (decide_eq_false h2) all_nil))))
    · exact law_by cfgLiOK 8000 hH' hG' ha _ (lo_err p v u len0 cap0 (BitVec.ofInt 8 a1) X cap0) (all_cons e0 (loC_all rfl (by omega) ⟨fun h => absurd h.1 hv, fun h => by cases h⟩ ⟨fun h => absurd h hv, fun h => by cases h⟩ rfl all_nil))
end Go.Proofs.YtbmgahpjgefjaaaDoor.Aes


/-
  A key (a struct of two numbers and a slice of bytes) that came in.
-/
namespace Go.Proofs.YtbmgahpjgefjaaaDoor.Aes
open Go.Sim Go.WideShapes Go.ChangeShapes

theorem open_key {H : Type} {enc : TypeId × Value → H} {P : Program} {w : World} {r : Reach} {b0 base : Nat} {held : Bool} {t ti ts te : TypeId} {f0 f1 f2 : Field} {v : Value} {d : DataW H} {ps : List MemPlace}
    (ht : P.underlying t = some (.struct #[f0, f1, f2])) (h0 : f0.type = ti ∧ f0.offset = 0) (h1 : f1.type = ti ∧ f1.offset = 1) (h2 : f2.type = ts ∧ f2.offset = 2) (hi : P.underlying ti = some (.int .i64)) (hs : P.underlying ts = some (.slice te)) (he : P.underlying te = some (.int .u8))
    (ci : P.cellsOf ti = 1) (cs : P.cellsOf ts = 1) (ce : P.cellsOf te = 1) (ct : P.cellsOf t = 3) (hcells : P.cellTypes P.depth t = some [ti, ti, ts])
    (hval : Value.okWide P w r b0 t v) (hd : DataW.Trod enc P w base (fun _ => true) held t v d ps) :
    ∃ p q a len cap X, v = .agg #[.int .i64 p, .int .i64 q, .slice a len cap] ∧ ByteRow w a len cap X := by
  have hval' := hval
  obtain ⟨c, rfl, hsz⟩ := okWide_struct ht hval
  obtain ⟨fuel, hf⟩ := hd
  have hf : DataW.trod enc P w base (fun _ => true) held fuel t c.toList = some (d, ps) := hf
  obtain ⟨y0, y1, y2, n, _, hl, k0, k1, k2⟩ := Go.Deep.trod_struct3 ht hf
  rw [h0.1, h0.2, ci] at k0
  rw [h1.1, h1.2, ci] at k1
  rw [h2.1, h2.2, cs] at k2
  rw [ct] at hl
  obtain ⟨z0, e0, _, _⟩ := DataW.trod_int hi k0
  obtain ⟨z1, e1, _, _⟩ := DataW.trod_int hi k1
  match hc : c.toList, hl with
  | [c0, c1, c2], _ =>
    rw [hc] at e0 e1 k2
    obtain rfl : c0 = .int .i64 z0 := by simpa using e0
    obtain rfl : c1 = .int .i64 z1 := by simpa using e1
    have k2 : DataW.trod enc P w base (fun _ => true) held n ts [c2] = some y2 := k2
    obtain rfl : c = #[.int .i64 z0, .int .i64 z1, c2] := by
      cases c; simp_all
    have hspot : ∀ a l k, c2 = .slice (some a) l k → a.spot = none := by
      rintro a l k rfl
      simp only [Value.okWide, ht] at hval'
      obtain ⟨cs', e, _, ts', hct, _, hcell⟩ := hval'
      cases e
      rw [hcells] at hct
      cases hct
      obtain ⟨u, hu, hok⟩ := hcell 2 _ rfl
      have hu : some ts = some u := hu
      cases hu
      simp only [Cell.okWide, hs, Cell.ok] at hok
      exact hok.2.2.2.1
    rcases open_ints hs he ce k2 with ⟨hcs, _⟩ | ⟨x, l, k, zs, hcs, _, hlk, hm, hz, _, hcell, hwz⟩
    · obtain rfl : c2 = .slice none 0 0 := by simpa using hcs
      exact ⟨z0, z1, none, 0, 0, _, rfl, byteRow_of (.inl ⟨rfl, rfl, rfl, rfl⟩) fun _ h => by cases h⟩
    · obtain rfl : c2 = .slice (some x) l k := by simpa using hcs
      exact ⟨z0, z1, some x, l, k, _, rfl, byteRow_of (.inr ⟨x, rfl, hlk, hm, by simpa using hz, hcell, hwz⟩) fun y hy => by cases hy; exact hspot _ _ _ rfl⟩
end Go.Proofs.YtbmgahpjgefjaaaDoor.Aes

