/-
  Texts behind one another: the symbolic simulator and what it is told of the program.
-/
import Derived.Test.YtbmgahpjgefjaaaGreatDoorPk12
import Derived.Test.YtbmgahpjgefjaaaGreatDoorPk5
import Derived.WideShapes
import Derived.ChangeShapes
import Derived.ChangeSlices
import Derived.Deep.Strs
import Derived.Test.YtbmgahpjgefjaaaGreatDoorZKys3a
import Derived.Test.YtbmgahpjgefjaaaGreatDoorZKys3b
import Derived.Test.YtbmgahpjgefjaaaGreatDoorZKys3c
import Derived.Test.YtbmgahpjgefjaaaGreatDoorZKys3d

/-
  ProfileKeys: the law's runs for a key of no bytes, and for big keys.
-/
namespace Go.Proofs.YtbmgahpjgefjaaaGreatDoor.Aes
open Go.Sim
open Go.Proofs

set_option maxRecDepth 1000000
noncomputable def yC0 : Sl := ⟨byteAt [], 0, 0, 0, false, 0⟩
noncomputable def y2 (p v p' v' : Int) (k : Sl) (m : Nat) (bo bi : List Prop) (B : Sl) (r : List Prop) : List Prop := y0 p v p' v' k bo bi (yK k m 0) B yC0 0 [IsB (byteF k.X), IsB (byteF k.X), k.o + 0 ≤ k.N ∧ 0 ≤ 1099511627776] [] ((k.o + 0 ≤ k.N) :: r)
noncomputable def zEq (bi : List Prop) (B : Sl) (r : List Prop) : List Prop := app bi ((okL nilSl ∧ okL B) :: r)
noncomputable def y3 (p v p' v' : Int) (bo bi : List Prop) (B : Sl) (r : List Prop) : List Prop :=
  app bo (((!(vlB p v 0 == vlB p v 0)) = false) :: zEq bi B (zEq bi B (((!(samB p v nilSl p' v' B == samB p v nilSl p' v' B)) = false) :: zEq [] nilSl (((!samB p v nilSl p v nilSl) = false) :: zEq [] nilSl (((!samB p v nilSl p v nilSl) = false) :: r)))))
noncomputable def ysN (p v p' v' : Int) (b : SV) (r : List SO) : Tree := callSim cfgKy 20000 6 [.agg [.int .i64 (.sym p), .int .i64 (.sym v), .nilSlice], .agg [.int .i64 (.sym p'), .int .i64 (.sym v'), b]] (shaHP r)
noncomputable def ysB (p v p' v' : Int) (y : Option Addr) (l m : Nat) (y' : Option Addr) (l' m' : Nat) : Tree := callSim cfgKy 20000 6 [kyV p v y l m, kyV p' v' y' l' m'] (shaHP [])
section
variable (p v p' v' : Int) (k b : Sl) (m m2 : Nat) (y : Option Addr) (l : Nat) (y' : Option Addr) (l' m' : Nat)
theorem ys_zbad1 : outO [] (ysT p v (k.pl m) 0 p' v' ((b.pl m2).val 5) [(b.pl m2).row]) [false, false, false, false, false, true, false, true, false, false, true, true, true, true] = (y2 p v p' v' k m (yB b) (yI b) (b.pl m2) (yBad p 0), yR) := by kernel_rfl
theorem ys_zbad0 : outO [] (ysT p v (k.pl m) 0 p' v' .nilSlice []) [false, false, false, false, true, false, true, false, false, true, true, true, true] = (y2 p v p' v' k m [] [] nilSl (yBad p 0), yR) := by kernel_rfl
theorem ys_zno1 : outO [] (ysT p v (k.pl m) 0 p' v' ((b.pl m2).val 5) [(b.pl m2).row]) [false, false, false, false, false, true, true, true, true, true, true, true, false, true, true, true, true, true] = (y2 p v p' v' k m (yB b) (yI b) (b.pl m2) (yNo p 0), yR) := by kernel_rfl
theorem ys_zno0 : outO [] (ysT p v (k.pl m) 0 p' v' .nilSlice []) [false, false, false, false, true, true, true, true, true, true, true, false, true, true, true, true, true] = (y2 p v p' v' k m [] [] nilSl (yNo p 0), yR) := by kernel_rfl
theorem ys_nbad1 : outO [] (ysN p v p' v' ((b.pl m2).val 4) [(b.pl m2).row]) [false, false, false, false, false, true, false, true, false, false, true, true, true, true] = (y3 p v p' v' (yB b) (yI b) (b.pl m2) (yBad p 0), yR) := by kernel_rfl
theorem ys_nno1 : outO [] (ysN p v p' v' ((b.pl m2).val 4) [(b.pl m2).row]) [false, false, false, false, false, true, true, true, true, true, true, true, false, true, true, true, true, true] = (y3 p v p' v' (yB b) (yI b) (b.pl m2) (yNo p 0), yR) := by kernel_rfl
theorem ys_nbad0 : outO [] (ysN p v p' v' .nilSlice []) [false, false, false, false, true, false, true, false, false, true, true, true, true] = (y3 p v p' v' [] [] nilSl (yBad p 0), yR) := by kernel_rfl
theorem ys_nno0 : outO [] (ysN p v p' v' .nilSlice []) [false, false, false, false, true, true, true, true, true, true, true, false, true, true, true, true, true] = (y3 p v p' v' [] [] nilSl (yNo p 0), yR) := by kernel_rfl
theorem ys_big1 : outO [] (ysB p v p' v' y l m y' l' m') [true, true, true] = (repN (decide ((l : Int) > 40) = true) 3, yR) := by kernel_rfl
theorem ys_big2 : outO [] (ysB p v p' v' y l m y' l' m') [false, true] = ((decide ((l : Int) > 40) = false) :: [decide ((l' : Int) > 40) = true], yR) := by kernel_rfl
end
end Go.Proofs.YtbmgahpjgefjaaaGreatDoor.Aes


/-
  A key (a struct of two numbers and a slice of bytes) that came in.
-/
namespace Go.Proofs.YtbmgahpjgefjaaaGreatDoor.Aes
open Go.Sim Go.WideShapes Go.ChangeShapes

theorem open_key {H : Type} {enc : TypeId × Value → H} {P : Program} {w : World} {r : Reach} {b0 base : Nat} {held : Bool} {t ti ts te : TypeId} {f0 f1 f2 : Field} {v : Value} {d : DataW H} {ps : List MemPlace}
    (ht : P.underlying t = some (.struct #[f0, f1, f2])) (h0 : f0.type = ti ∧ f0.offset = 0) (h1 : f1.type = ti ∧ f1.offset = 1) (h2 : f2.type = ts ∧ f2.offset = 2) (hi : P.underlying ti = some (.int .i64)) (hs : P.underlying ts = some (.slice te)) (he : P.underlying te = some (.int .u8))
    (ci : P.cellsOf ti = 1) (cs : P.cellsOf ts = 1) (ce : P.cellsOf te = 1) (ct : P.cellsOf t = 3) (hcells : P.cellTypes P.depth t = some [ti, ti, ts])
    (hval : Value.okWide P w r b0 t v) (hd : DataW.Trod enc P w base (fun _ => true) held t v d ps) :
    ∃ p q a len cap X, v = .agg #[.int .i64 p, .int .i64 q, .slice a len cap] ∧ ByteRow w a len cap X := by
  have hval' := hval
  obtain ⟨c, rfl, hsz⟩ := okWide_struct ht hval
  obtain ⟨fuel, hf⟩ := hd
  have hf : DataW.trod enc P w base (fun _ => true) held fuel t c.toList = some (d, ps) := hf
  obtain ⟨y0, y1, y2, n, _, hl, k0, k1, k2⟩ := Go.Deep.trod_struct3 ht hf
  rw [h0.1, h0.2, ci] at k0
  rw [h1.1, h1.2, ci] at k1
  rw [h2.1, h2.2, cs] at k2
  rw [ct] at hl
  obtain ⟨z0, e0, _, _⟩ := DataW.trod_int hi k0
  obtain ⟨z1, e1, _, _⟩ := DataW.trod_int hi k1
  match hc : c.toList, hl with
  | [c0, c1, c2], _ =>
    rw [hc] at e0 e1 k2
    obtain rfl : c0 = .int .i64 z0 := by simpa using e0
    obtain rfl : c1 = .int .i64 z1 := by simpa using e1
    have k2 : DataW.trod enc P w base (fun _ => true) held n ts [c2] = some y2 := k2
    obtain rfl : c = #[.int .i64 z0, .int .i64 z1, c2] := by
      cases c; simp_all
    have hspot : ∀ a l k, c2 = .slice (some a) l k → a.spot = none := by
      rintro a l k rfl
      simp only [Value.okWide, ht] at hval'
      obtain ⟨cs', e, _, ts', hct, _, hcell⟩ := hval'
      cases e
      rw [hcells] at hct
      cases hct
      obtain ⟨u, hu, hok⟩ := hcell 2 _ rfl
      have hu : some ts = some u := hu
      cases hu
      simp only [Cell.okWide, hs, Cell.ok] at hok
      exact hok.2.2.2.1
    rcases open_ints hs he ce k2 with ⟨hcs, _⟩ | ⟨x, l, k, zs, hcs, _, hlk, hm, hz, _, hcell, hwz⟩
    · obtain rfl : c2 = .slice none 0 0 := by simpa using hcs
      exact ⟨z0, z1, none, 0, 0, _, rfl, byteRow_of (.inl ⟨rfl, rfl, rfl, rfl⟩) fun _ h => by cases h⟩
    · obtain rfl : c2 = .slice (some x) l k := by simpa using hcs
      exact ⟨z0, z1, some x, l, k, _, rfl, byteRow_of (.inr ⟨x, rfl, hlk, hm, by simpa using hz, hcell, hwz⟩) fun y hy => by cases hy; exact hspot _ _ _ rfl⟩
end Go.Proofs.YtbmgahpjgefjaaaGreatDoor.Aes


/-
  The profiles: Seal, Open and Sum, where it is told that they end in an error; strings of which the lengths alone are known.
-/
namespace Go.Proofs.YtbmgahpjgefjaaaGreatDoor.Aes
open Go.Sim
open Go.Proofs
variable {α : Type}

set_option maxRecDepth 1000000
/- Seal. -/
section
variable (p v u sp sv : Int) (y : Option Addr) (l m : Nat) (y1 : Option Addr) (l1 m1 : Nat) (y2 : Option Addr) (l2 m2 : Nat)
end
/- Open. -/
section
variable (p v u sp sv : Int) (y : Option Addr) (l m : Nat) (y1 : Option Addr) (l1 m1 : Nat)
end
theorem all_app {l r : List Prop} (h : ∀ q ∈ l, q) (h' : ∀ q ∈ r, q) : ∀ q ∈ app l r, q := by
  intro q hq
  rw [app_eq, List.mem_append] at hq
  exact hq.elim (h q) (h' q)
/- Sum. -/
end Go.Proofs.YtbmgahpjgefjaaaGreatDoor.Aes


/-
  ProfileKeys: the law.
-/
namespace Go.Proofs.YtbmgahpjgefjaaaGreatDoor.Aes
open Go.Sim
open Go.Proofs
open Go.RowKit

set_option maxRecDepth 100000
theorem SlEq.refl (x : Sl) : SlEq x x := ⟨rfl, fun _ _ => rfl⟩
theorem mapN_get {β : Type} {f g : Nat → β} {k b : Nat} (h : mapN f (fromN k b) = mapN g (fromN k b)) {l : Nat} (h1 : b ≤ l) (h2 : l < b + k) : f l = g l := by
  rw [mapN_eq, mapN_eq, fromN_eq] at h
  have h3 := congrArg (fun x : List β => x[l - b]?) h
  simp only [List.getElem?_map, List.getElem?_range' (show l - b < k by omega)] at h3
  rw [show b + 1 * (l - b) = l by omega] at h3
  simpa using h3
section
variable {p v p' v' : Int} {k b : Sl} {m l : Nat} {bo bi r : List Prop} {B : Sl}
theorem tabB_lenK (X : Nat → BitVec 8) (n : Nat) : lenN (tabB X n) = n := by
  rw [lenN_eq]; unfold tabB; rw [mapN_eq, List.length_map, fromN_eq, List.length_range']
theorem yC_eq : SlEq (yK k m l) (yC k l) := ⟨rfl, fun j hj => by
  have hj : j < l := hj
  show k.X (k.o + j) = byteAt (yT k l) (0 + j)
  unfold yT
  rw [Nat.zero_add, byteAt_tab hj]⟩
theorem yC_ok (hl : l ≤ 40) : okL (yC k l) := ⟨by show 0 + l ≤ lenN (yT k l); unfold yT; rw [tabB_lenK]; omega, by show l ≤ _; omega⟩
theorem yO_eq : SlEq (yO k l) (yW k l) := ⟨rfl, fun j hj => by
  have hj : j < l := hj
  show byteAt (tabB (yW k l).F l) (0 + j) = byteAt (yT k l) (0 + j)
  rw [Nat.zero_add, byteAt_tab hj]
  show byteAt (yT k l) (0 + j) = _
  rw [Nat.zero_add]⟩
theorem yO_ok (hl : l ≤ 40) : okL (yO k l) ∧ okL (yW k l) := ⟨⟨by show 0 + l ≤ lenN (tabB _ l); rw [tabB_lenK]; omega, by show l ≤ _; omega⟩, ⟨by show 0 + l ≤ lenN (yT k l); unfold yT; rw [tabB_lenK]; omega, by show l ≤ _; omega⟩⟩
theorem same_true {x y : Sl} (h : SlEq x y) : (!samB p v x p v y) = false := by rw [samB_iff.2 ⟨rfl, rfl, h⟩]; rfl
theorem nil_ok : okL nilSl := ⟨Nat.le_refl _, Nat.zero_le _⟩
theorem y0_all {K C : Sl} {cc ci : List Prop} (hbo : ∀ q ∈ bo, q) (hbi : ∀ q ∈ bi, q) (hK : okL K) (hB : okL B) (hC : okL C) (hKC : SlEq K C) (hcc : ∀ q ∈ cc, q) (hci : ∀ q ∈ ci, q) (hr : ∀ q ∈ r, q) : ∀ q ∈ y0 p v p' v' k bo bi K B C l cc ci r, q := by
  have e : ∀ {b : Bool}, (!(b == b)) = false := by intro b; cases b <;> rfl
  have eq : ∀ {bi r : List Prop} {B : Sl}, (∀ q ∈ bi, q) → okL B → (∀ q ∈ r, q) → ∀ q ∈ yEq k bi K B r, q := fun h1 h2 h3 => all_cons (byteF_isB _) (all_app h1 (all_cons ⟨hK, h2⟩ h3))
  exact all_app hbo (all_app hcc (all_cons e (eq hbi hB (eq hbi hB (all_cons e (eq hci hC (all_cons (same_true hKC) (eq hci hC (all_cons (same_true hKC) hr)))))))))
theorem y3_all (hbo : ∀ q ∈ bo, q) (hbi : ∀ q ∈ bi, q) (hB : okL B) (hr : ∀ q ∈ r, q) : ∀ q ∈ y3 p v p' v' bo bi B r, q := by
  have e : ∀ {b : Bool}, (!(b == b)) = false := by intro b; cases b <;> rfl
  have eq : ∀ {bi r : List Prop} {B : Sl}, (∀ q ∈ bi, q) → okL B → (∀ q ∈ r, q) → ∀ q ∈ zEq bi B r, q := fun h1 h2 h3 => all_app h1 (all_cons ⟨nil_ok, h2⟩ h3)
  exact all_app hbo (all_cons e (eq hbi hB (eq hbi hB (all_cons e (eq all_nil nil_ok (all_cons (same_true (SlEq.refl _)) (eq all_nil nil_ok (all_cons (same_true (SlEq.refl _)) hr))))))))
theorem y1_all (hbo : ∀ q ∈ bo, q) (hbi : ∀ q ∈ bi, q) (hB : okL B) (hkl : k.o + l ≤ k.N) (hl : l ≤ 40) (hr : ∀ q ∈ r, q) : ∀ q ∈ y1 p v p' v' k m bo bi B l r, q :=
  y0_all hbo hbi ⟨hkl, by show l ≤ _; omega⟩ hB (yC_ok hl) yC_eq (all_cons (byteF_isB _) (all_cons ⟨hkl, by omega⟩ all_nil)) all_nil (all_cons hkl hr)
theorem y2_all (hbo : ∀ q ∈ bo, q) (hbi : ∀ q ∈ bi, q) (hB : okL B) (hkl : k.o ≤ k.N) (hr : ∀ q ∈ r, q) : ∀ q ∈ y2 p v p' v' k m bo bi B r, q :=
  y0_all hbo hbi ⟨hkl, Nat.zero_le _⟩ hB ⟨Nat.le_refl _, Nat.zero_le _⟩ ⟨rfl, fun j hj => absurd hj (Nat.not_lt_zero j)⟩ (all_cons (byteF_isB _) (all_cons (byteF_isB _) (all_cons ⟨hkl, Nat.zero_le _⟩ all_nil))) all_nil (all_cons hkl hr)
/- The ends. -/
theorem kl_cases (p : Int) : (lyI 16 32 p = 0 ∧ lyI 16 16 p = 0 ∧ p ≠ 1 ∧ p ≠ 2) ∨ (lyI 16 32 p = 16 ∧ lyI 16 16 p = 16 ∧ p = 1) ∨ (lyI 16 32 p = 32 ∧ lyI 16 16 p = 16 ∧ p = 2) := by
  unfold lyI
  by_cases h1 : p = 1
  · simp [h1]
  · by_cases h2 : p = 2
    · simp [h2]
    · simp [h1, h2]
theorem yTail_all (h : lyI 16 32 p ≠ 0) : ∀ q ∈ yTail p, q := by
  have h16 : lyI 16 16 p = 16 := by rcases kl_cases p with h' | h' | h'; exact absurd h'.1 h; exact h'.2.1; exact h'.2.1
  have e : (lyI 16 32 p == lyI 16 32 p) = true := by simp
  exact all_cons (by simp [h]) (all_cons e (all_cons e (all_cons e (all_cons (by simp [h16]) all_nil))))
theorem yNil_all (hr : ∀ q ∈ r, q) : ∀ q ∈ yNil r, q := all_cons ⟨nil_ok, nil_ok⟩ (all_cons (same_true (SlEq.refl _)) hr)
theorem not_vl (h : ¬ validK p 0 l) : (!vlB p 0 l) = true := by
  rw [show vlB p 0 l = false from by rw [Bool.eq_false_iff]; exact fun e => h (vlB_iff.1 e)]; rfl
theorem yBad_all (h : lyI 16 32 p ≠ 0) (hl : (l : Int) ≠ lyI 16 32 p) : ∀ q ∈ yBad p l, q := by
  refine all_cons (not_vl fun hv => ?_) (all_cons (by simp [h]) (all_cons (by rw [bne_iff_ne]; exact hl) (yNil_all (yTail_all h))))
  exact hl (lyI_valid.2 hv.1).2
theorem yNo_all (h : lyI 16 32 p = 0) : ∀ q ∈ yNo p l, q := by
  have h16 : lyI 16 16 p = 0 := by rcases kl_cases p with h' | h' | h'; exact h'.2.1; (rw [h'.1] at h; cases h); (rw [h'.1] at h; cases h)
  have e0 : (lyI 16 32 p == 0) = true := by simp [h]
  have e : (lyI 16 32 p == lyI 16 32 p) = true := by simp
  refine all_cons (not_vl fun hv => ?_) (all_app (repN_all e0 6) (yNil_all (all_cons e0 (all_cons e (all_cons e (all_cons e (all_cons (by simp [h16]) all_nil)))))))
  have := (lyI_valid.2 hv.1).1
  omega
theorem yOk_all (h : lyI 16 32 p ≠ 0) (hl : (l : Int) = lyI 16 32 p) (hkl : k.o + l ≤ k.N) : ∀ q ∈ yOk p k l, q := by
  have h40 : l ≤ 40 := by rcases kl_cases p with h' | h' | h' <;> omega
  have hv : validK p 0 (0 + l) := by
    rw [Nat.zero_add]
    exact ⟨lyI_valid.1 ⟨by rcases kl_cases p with h' | h' | h' <;> omega, hl⟩, by omega, by omega⟩
  exact all_cons (by rw [vlB_iff.2 hv]; rfl) (all_cons ⟨Nat.le_refl _, by omega⟩ (all_cons (by simp [h]) (all_cons (by rw [bne_eq_false_iff_eq]; exact hl) (all_cons hkl (all_cons (yO_ok h40) (all_cons (same_true yO_eq) (yTail_all h)))))))
end
theorem ys_law {w : World} {β : Val} (hH : HeapRel Tryz.prog (fun _ => False) w β (shaHP []) w) (hG : GlobRel globP β) (p v : Int) {a0 : Option Addr} {len0 cap0 : Nat} {X : Nat → BitVec 8} (h0 : ByteRow w a0 len0 cap0 X) (p' v' : Int) {a1 : Option Addr} {len1 cap1 : Nat} {Y : Nat → BitVec 8} (h1 : ByteRow w a1 len1 cap1 Y) :
    Calls Tryz.prog 6 #[.agg #[.int .i64 p, .int .i64 v, .slice a0 len0 cap0], .agg #[.int .i64 p', .int .i64 v', .slice a1 len1 cap1]] w fun e w' => e = .returned (.bool true) ∧ Below w.heap.size w w' := by
  have hvl : SV.denL β [kyV p v a0 len0 cap0, kyV p' v' a1 len1 cap1] = some [.agg #[.int .i64 p, .int .i64 v, .slice a0 len0 cap0], .agg #[.int .i64 p', .int .i64 v', .slice a1 len1 cap1]] := rfl
  by_cases hb0 : 40 < len0
  · exact law_by cfgKyOK 20000 hH hG hvl _ (ys_big1 p v p' v' cap0 a0 len0 a1 len1 cap1) (repN_all (decide_eq_true (by omega)) 3)
  by_cases hb1 : 40 < len1
  · exact law_by cfgKyOK 20000 hH hG hvl _ (ys_big2 p v p' v' cap0 a0 len0 a1 len1 cap1) (all_cons (decide_eq_false (by omega)) (all_cons (decide_eq_true (by omega)) all_nil))
  have key : ∀ {γ : Val} {nm n cap : Nat} {x : Addr} {q q' : Int}, (SV.slice ⟨nm, .lit 0⟩ (.sym n) (.sym cap)).den γ = some (.slice (some x) n cap) → ∀ {s : SV}, (∀ z, (SV.slice ⟨nm, .lit 0⟩ (.sym n) (.sym cap)).den γ = some z → s.den γ = some z) → (SV.agg [.int .i64 (.sym q), .int .i64 (.sym q'), s]).den γ = some (.agg #[.int .i64 q, .int .i64 q', .slice (some x) n cap]) := by
    intro γ nm n cap x q q' h s hs
    rw [SV.den]
    simp only [Option.map_eq_some_iff]
    exact ⟨_, denL_cons.2 ⟨_, _, rfl, denL_cons.2 ⟨_, _, rfl, denL_cons.2 ⟨_, _, hs _ h, rfl, rfl⟩, rfl⟩, rfl⟩, rfl⟩
  have hbo : ∀ q ∈ yB ⟨Y, cap1, 0, len1, false, cap1⟩, q := all_cons (decide_eq_false (by show ¬ ((len1 : Nat) : Int) > 40; omega)) all_nil
  have hbi : ∀ q ∈ yI ⟨Y, cap1, 0, len1, false, cap1⟩, q := all_cons (byteF_isB _) all_nil
  let B : Sl := ⟨Y, cap1, 0, len1, false, cap1⟩
  let K : Sl := ⟨X, cap0, 0, len0, false, cap0⟩
  rcases h0 with ⟨rfl, rfl, rfl⟩ | ⟨x0, rfl, hs0, hl0, hm0, hc0⟩
  · rcases h1 with ⟨rfl, rfl, rfl⟩ | ⟨x1, rfl, hs1, hl1, hm1, hc1⟩
    · have ha : SV.denL β [.agg [.int .i64 (.sym p), .int .i64 (.sym v), .nilSlice], .agg [.int .i64 (.sym p'), .int .i64 (.sym v'), .nilSlice]] = some [.agg #[.int .i64 p, .int .i64 v, .slice none 0 0], .agg #[.int .i64 p', .int .i64 v', .slice none 0 0]] := rfl
      by_cases hp : lyI 16 32 p = 0
      · exact law_by cfgKyOK 20000 hH hG ha _ (ys_nno0 p v p' v') (y3_all all_nil all_nil nil_ok (yNo_all hp))
      · exact law_by cfgKyOK 20000 hH hG ha _ (ys_nbad0 p v p' v') (y3_all all_nil all_nil nil_ok (yBad_all hp fun h => hp h.symm))
    · obtain ⟨β1, hH1, hle1, hd1⟩ := start_row (P := Tryz.prog) hH hs1 hl1 hc1
      have hB : okL (B.pl cap1) := ⟨by show 0 + len1 ≤ cap1; omega, by show len1 ≤ _; omega⟩
      have hd1 : (SV.slice ⟨4, .lit 0⟩ (.sym len1) (.sym cap1)).den β1 = some (.slice (some x1) len1 cap1) := hd1
      have ha : SV.denL β1 [.agg [.int .i64 (.sym p), .int .i64 (.sym v), .nilSlice], .agg [.int .i64 (.sym p'), .int .i64 (.sym v'), (B.pl cap1).val 4]] = some [.agg #[.int .i64 p, .int .i64 v, .slice none 0 0], .agg #[.int .i64 p', .int .i64 v', .slice (some x1) len1 cap1]] := denL_cons.2 ⟨_, _, rfl, denL_cons.2 ⟨_, _, key hd1 fun z hz => hz, rfl, rfl⟩, rfl⟩
      by_cases hp : lyI 16 32 p = 0
      · exact law_by cfgKyOK 20000 hH1 (hG.mono hle1) ha _ (ys_nno1 p v p' v' B cap1) (y3_all hbo hbi hB (yNo_all hp))
      · exact law_by cfgKyOK 20000 hH1 (hG.mono hle1) ha _ (ys_nbad1 p v p' v' B cap1) (y3_all hbo hbi hB (yBad_all hp fun h => hp h.symm))
  · obtain ⟨β1, hH1, hle1, hd0⟩ := start_row (P := Tryz.prog) hH hs0 hl0 hc0
    have hd0 : (SV.slice ⟨4, .lit 0⟩ (.sym len0) (.sym cap0)).den β1 = some (.slice (some x0) len0 cap0) := hd0
    have hG1 : GlobRel globP β1 := hG.mono hle1
    have hkl : K.o + len0 ≤ K.N := by show 0 + len0 ≤ cap0; omega
    rcases h1 with ⟨rfl, rfl, rfl⟩ | ⟨x1, rfl, hs1, hl1, hm1, hc1⟩
    · have ha : SV.denL β1 (ysA p v (K.pl cap0) len0 p' v' .nilSlice) = some [.agg #[.int .i64 p, .int .i64 v, .slice (some x0) len0 cap0], .agg #[.int .i64 p', .int .i64 v', .slice none 0 0]] := denL_cons.2 ⟨_, _, key hd0 fun z hz => hz, denL_cons.2 ⟨_, _, rfl, rfl, rfl⟩, rfl⟩
      have run : ∀ {ds cs}, outO [] (ysT p v (K.pl cap0) len0 p' v' .nilSlice []) ds = (cs, yR) → (∀ q ∈ cs, q) → _ := fun {ds cs} hr hc => law_by cfgKyOK 20000 hH1 hG1 ha ds hr hc
      by_cases h00 : len0 = 0
      · subst h00
        by_cases hp : lyI 16 32 p = 0
        · exact run (ys_zno0 p v p' v' K cap0) (y2_all all_nil all_nil nil_ok (Nat.zero_le _) (yNo_all hp))
        · exact run (ys_zbad0 p v p' v' K cap0) (y2_all all_nil all_nil nil_ok (Nat.zero_le _) (yBad_all hp fun h => hp h.symm))
      · by_cases hp : lyI 16 32 p = 0
        · have hc := y1_all (p := p) (v := v) (p' := p') (v' := v') (m := cap0) (bo := []) (bi := []) all_nil all_nil nil_ok hkl (by omega) (yNo_all (l := len0) hp)
          by_cases h1 : len0 ≤ 10
          · exact run (mapN_get (ys_no0_1 p v p' v' K cap0) (by omega) (by omega)) hc
          by_cases h2 : len0 ≤ 20
          · exact run (mapN_get (ys_no0_11 p v p' v' K cap0) (by omega) (by omega)) hc
          by_cases h3 : len0 ≤ 30
          · exact run (mapN_get (ys_no0_21 p v p' v' K cap0) (by omega) (by omega)) hc
          · exact run (mapN_get (ys_no0_31 p v p' v' K cap0) (by omega) (by omega)) hc
        · by_cases hle : (len0 : Int) = lyI 16 32 p
          · have hc := y1_all (p := p) (v := v) (p' := p') (v' := v') (m := cap0) (bo := []) (bi := []) all_nil all_nil nil_ok hkl (by omega) (yOk_all hp hle hkl)
            have h1632 : len0 = 16 ∨ len0 = 32 := by rcases kl_cases p with h' | h' | h' <;> omega
            rcases h1632 with h | h
            · exact run (mapN_get (ys_ok0_16 p v p' v' K cap0) (by omega) (by omega)) hc
            · exact run (mapN_get (ys_ok0_32 p v p' v' K cap0) (by omega) (by omega)) hc
          · have hc := y1_all (p := p) (v := v) (p' := p') (v' := v') (m := cap0) (bo := []) (bi := []) all_nil all_nil nil_ok hkl (by omega) (yBad_all (l := len0) hp hle)
            by_cases h1 : len0 ≤ 10
            · exact run (mapN_get (ys_bad0_1 p v p' v' K cap0) (by omega) (by omega)) hc
            by_cases h2 : len0 ≤ 20
            · exact run (mapN_get (ys_bad0_11 p v p' v' K cap0) (by omega) (by omega)) hc
            by_cases h3 : len0 ≤ 30
            · exact run (mapN_get (ys_bad0_21 p v p' v' K cap0) (by omega) (by omega)) hc
            · exact run (mapN_get (ys_bad0_31 p v p' v' K cap0) (by omega) (by omega)) hc
    · obtain ⟨β2, hH2, hle2, hd1⟩ := start_row (P := Tryz.prog) hH1 hs1 hl1 hc1
      have hd1 : (SV.slice ⟨5, .lit 0⟩ (.sym len1) (.sym cap1)).den β2 = some (.slice (some x1) len1 cap1) := hd1
      have hB : okL (B.pl cap1) := ⟨by show 0 + len1 ≤ cap1; omega, by show len1 ≤ _; omega⟩
      have ha : SV.denL β2 (ysA p v (K.pl cap0) len0 p' v' ((B.pl cap1).val 5)) = some [.agg #[.int .i64 p, .int .i64 v, .slice (some x0) len0 cap0], .agg #[.int .i64 p', .int .i64 v', .slice (some x1) len1 cap1]] := denL_cons.2 ⟨_, _, key (SV.den_mono hle2 _ hd0) fun z hz => hz, denL_cons.2 ⟨_, _, key hd1 fun z hz => hz, rfl, rfl⟩, rfl⟩
      have run : ∀ {ds cs}, outO [] (ysT p v (K.pl cap0) len0 p' v' ((B.pl cap1).val 5) [(B.pl cap1).row]) ds = (cs, yR) → (∀ q ∈ cs, q) → _ := fun {ds cs} hr hc => law_by cfgKyOK 20000 hH2 (hG1.mono hle2) ha ds hr hc
      by_cases h00 : len0 = 0
      · subst h00
        by_cases hp : lyI 16 32 p = 0
        · exact run (ys_zno1 p v p' v' K B cap0 cap1) (y2_all hbo hbi hB (Nat.zero_le _) (yNo_all hp))
        · exact run (ys_zbad1 p v p' v' K B cap0 cap1) (y2_all hbo hbi hB (Nat.zero_le _) (yBad_all hp fun h => hp h.symm))
      · by_cases hp : lyI 16 32 p = 0
        · have hc := y1_all (p := p) (v := v) (p' := p') (v' := v') (m := cap0) hbo hbi hB hkl (by omega) (yNo_all (l := len0) hp)
          by_cases h1 : len0 ≤ 10
          · exact run (mapN_get (ys_no1_1 p v p' v' K B cap0 cap1) (by omega) (by omega)) hc
          by_cases h2 : len0 ≤ 20
          · exact run (mapN_get (ys_no1_11 p v p' v' K B cap0 cap1) (by omega) (by omega)) hc
          by_cases h3 : len0 ≤ 30
          · exact run (mapN_get (ys_no1_21 p v p' v' K B cap0 cap1) (by omega) (by omega)) hc
          · exact run (mapN_get (ys_no1_31 p v p' v' K B cap0 cap1) (by omega) (by omega)) hc
        · by_cases hle : (len0 : Int) = lyI 16 32 p
          · have hc := y1_all (p := p) (v := v) (p' := p') (v' := v') (m := cap0) hbo hbi hB hkl (by omega) (yOk_all hp hle hkl)
            have h1632 : len0 = 16 ∨ len0 = 32 := by rcases kl_cases p with h' | h' | h' <;> omega
            rcases h1632 with h | h
            · exact run (mapN_get (ys_ok1_16 p v p' v' K B cap0 cap1) (by omega) (by omega)) hc
            · exact run (mapN_get (ys_ok1_32 p v p' v' K B cap0 cap1) (by omega) (by omega)) hc
          · have hc := y1_all (p := p) (v := v) (p' := p') (v' := v') (m := cap0) hbo hbi hB hkl (by omega) (yBad_all (l := len0) hp hle)
            by_cases h1 : len0 ≤ 10
            · exact run (mapN_get (ys_bad1_1 p v p' v' K B cap0 cap1) (by omega) (by omega)) hc
            by_cases h2 : len0 ≤ 20
            · exact run (mapN_get (ys_bad1_11 p v p' v' K B cap0 cap1) (by omega) (by omega)) hc
            by_cases h3 : len0 ≤ 30
            · exact run (mapN_get (ys_bad1_21 p v p' v' K B cap0 cap1) (by omega) (by omega)) hc
            · exact run (mapN_get (ys_bad1_31 p v p' v' K B cap0 cap1) (by omega) (by omega)) hc
end Go.Proofs.YtbmgahpjgefjaaaGreatDoor.Aes

