/-
  Texts behind one another: the symbolic simulator and what it is told of the program.
-/
import Derived.Test.YtbmgahpjgefjaaaGreatDoorPk13
import Derived.Test.YtbmgahpjgefjaaaGreatDoorPk9
import Derived.Test.YtbmgahpjgefjaaaGreatDoorZRmc3

/-
  The keyed hash: Equal's summary, for strings of which the first has 16 or 32 bytes.
-/
namespace Go.Proofs.YtbmgahpjgefjaaaGreatDoor.Aes
open Go.Sim
open Go.Proofs
variable {α : Type}

set_option maxRecDepth 1000000
noncomputable def eqT (n : Nat) (a b : Sl) : Tree := callSim cfg0 4000 45 [a.valN 0 n, b.val 1] [a.row, b.row]
noncomputable def orF (X Y : Nat → BitVec 8) (n : Nat) : BitVec 8 := Nat.rec (motive := fun _ => BitVec 8) (BitVec.ofInt 8 0) (fun j ih => ih ||| (X j ^^^ Y j)) n
noncomputable def eqC (a b : Sl) (n : Nat) : List Prop := Nat.rec (motive := fun _ => Nat → List Prop) (fun _ => []) (fun _ ih j => (a.o + j < a.N) :: (j < b.n) :: (b.o + j < b.N) :: ih (Nat.succ j)) n 0
section
variable (a b : Sl) (m m2 : Nat)
theorem eq_16 : outO [] (eqT 16 (a.pl m) (b.pl m2)) [false] = ((((16 : Int) != b.n) = false) :: eqC a b 16, some (.bool (.sym (((orF a.F b.F 16).toNat : Int) == 0)), [])) := by kernel_rfl
theorem eq_32 : outO [] (eqT 32 (a.pl m) (b.pl m2)) [false] = ((((32 : Int) != b.n) = false) :: eqC a b 32, some (.bool (.sym (((orF a.F b.F 32).toNat : Int) == 0)), [])) := by kernel_rfl
theorem eq_16n : outO [] (eqT 16 (a.pl m) (b.pl m2)) [true] = ([((16 : Int) != b.n) = true], some (.bool (.lit false), [])) := by kernel_rfl
theorem eq_32n : outO [] (eqT 32 (a.pl m) (b.pl m2)) [true] = ([((32 : Int) != b.n) = true], some (.bool (.lit false), [])) := by kernel_rfl
noncomputable def eqN (n : Nat) (a : Sl) : Tree := callSim cfg0 4000 45 [a.valN 0 n, .nilSlice] [a.row]
theorem eq_nil16 : outO [] (eqN 16 (a.pl m)) [] = ([], some (.bool (.lit false), [])) := by kernel_rfl
theorem eq_nil32 : outO [] (eqN 32 (a.pl m)) [] = ([], some (.bool (.lit false), [])) := by kernel_rfl
end
theorem orF_zero (X Y : Nat → BitVec 8) : ∀ n, orF X Y n = 0#8 ↔ ∀ i, i < n → X i = Y i
  | 0 => ⟨fun _ i h => absurd h (Nat.not_lt_zero i), fun _ => rfl⟩
  | n + 1 => by
    show orF X Y n ||| (X n ^^^ Y n) = 0#8 ↔ _
    rw [BitVec.or_eq_zero_iff, orF_zero X Y n, BitVec.xor_eq_zero_iff]
    constructor
    · rintro ⟨h, h'⟩ i hi
      by_cases c : i = n
      · rw [c]; exact h'
      · exact h i (by omega)
    · exact fun h => ⟨fun i hi => h i (by omega), h n (by omega)⟩
theorem eqC_all {a b : Sl} {n : Nat} (ha : a.o + n ≤ a.N) (hb : b.o + b.n ≤ b.N) (hn : b.n = n) : ∀ p ∈ eqC a b n, p := by
  have key : ∀ q j, j + q ≤ n → ∀ p ∈ (Nat.rec (motive := fun _ => Nat → List Prop) (fun _ => []) (fun _ ih j => (a.o + j < a.N) :: (j < b.n) :: (b.o + j < b.N) :: ih (Nat.succ j)) q j : List Prop), p := by
    intro q
    induction q with
    | zero => intro j _ p hp; cases hp
    | succ q ih => intro j hj; exact all_cons (by omega) (all_cons (by omega) (all_cons (by omega) (ih (j + 1) (by omega))))
  exact key n 0 (by omega)
noncomputable def eqB (a b : Sl) (n : Nat) : Bool := @decide (b.n = n ∧ ∀ i, i < n → a.F i = b.F i) (Classical.propDecidable _)
theorem eqB_iff {a b : Sl} {n : Nat} : eqB a b n = true ↔ b.n = n ∧ ∀ i, i < n → a.F i = b.F i := by
  unfold eqB; exact @decide_eq_true_iff _ (Classical.propDecidable _)
noncomputable def eqS : Summ := fun args H _ => args2 args fun av bv => partN H av fun a an n => boolC (boolC (Nat.beq n 16) true (Nat.beq n 32)) (sliceR bv (.ok ⟨.bool (.lit false), [], []⟩) fun _ _ => partL H bv fun b bn => boolC (distN [an, bn]) (.need (a.o + n ≤ a.N ∧ okL b) (.ok ⟨.bool (.sym (eqB a b n)), [], []⟩)) (.stuck 831)) (.stuck 831)
theorem endsBo {I : Ifc} {base : Nat} {b b' : SB} {H : List SO} (ho : ownsOf I.ents 0 = []) (h : b.den = b'.den) : I.Ends base [] ⟨.bool b', [], []⟩ (.bool b) H := by
  refine ⟨?_, rfl, by rw [ho]; trivial, trivial⟩
  intro γ x hx
  have hx : some (Value.bool b.den) = some x := by cases b <;> exact hx
  rw [h] at hx
  cases b' <;> exact hx
theorem eqOK : SumOK Tryz.prog 45 eqS := by
  intro glob O w0 β H w base args vs hH hG ha
  refine args2_sat fun av bv hv => partN_sat fun a an n hn1 ht1 hi1 han => boolC_only fun h12 => ?_
  rw [hv] at ha
  obtain ⟨xa, ys, hxa, hys, rfl⟩ := denL_cons.1 ha
  obtain ⟨xb, zs, hxb, hzs, rfl⟩ := denL_cons.1 hys
  obtain ⟨m, has⟩ := Sl.valN_den (hi1 _ _ hxa)
  have h12 : n = 16 ∨ n = 32 := by
    cases h : Nat.beq n 16 with
    | true => exact .inl (beq_spec h)
    | false => rw [h] at h12; exact .inr (beq_spec h12)
  refine sliceR_sat (fun hnil => ?_) fun _ _ _ _ => partL_sat fun b bn hn2 ht2 hi2 => boolC_only fun hd => fun ⟨hao, hb, _⟩ => ?_
  · subst hnil
    have key : ∀ {n cs}, ((a.pl m).valN an n).den β = some xa → outO [] (eqN n (a.pl m)) [] = (cs, some (.bool (.lit false), [])) → (∀ q ∈ cs, q) → SumSem Tryz.prog H β w base 45 (xa :: xb :: zs) ⟨.bool (.lit false), [], []⟩ := by
      intro n cs has hr hc
      refine sum_outO cfg0OK rfl 4000 hH ⟨[an], [(a.pl m).row], [(a.pl m).valN 0 n, .nilSlice]⟩ ?_ (Ifc.fits (by simp) rfl ⟨⟨ht1 _, a.row_uses _⟩, trivial⟩) [] (by simp) (by simp) hr hc fun _ _ => ends0 rfl rfl rfl
      show SV.denL β [((a.pl m).valN 0 n).ren _, .nilSlice] = _
      rw [Sl.valN_ren]
      exact denL_cons.2 ⟨_, _, has, denL_cons.2 ⟨_, _, hxb, hzs, rfl⟩, rfl⟩
    rcases h12 with rfl | rfl
    · exact key has (eq_nil16 a m) all_nil
    · exact key has (eq_nil32 a m) all_nil
  · obtain ⟨m2, _, hbs⟩ := Sl.val_den (hi2 _ _ hxb)
    have key : ∀ {n cs ds} {v : SB}, ((a.pl m).valN an n).den β = some xa → outO [] (eqT n (a.pl m) (b.pl m2)) ds = (cs, some (.bool v, [])) → (∀ q ∈ cs, q) → v.den = eqB a b n → SumSem Tryz.prog H β w base 45 (xa :: xb :: zs) ⟨.bool (.sym (eqB a b n)), [], []⟩ := by
      intro n cs ds v has hr hc hv
      refine sum_outO cfg0OK rfl 4000 hH ⟨[an, bn], [(a.pl m).row, (b.pl m2).row], [(a.pl m).valN 0 n, (b.pl m2).val 1]⟩ ?_ (Ifc.fits (distN_spec hd) rfl ⟨⟨ht1 _, a.row_uses _⟩, ⟨ht2 _, b.row_uses _⟩, trivial⟩) [] (by simp) (by simp) hr hc fun _ _ => endsBo rfl hv
      show SV.denL β [((a.pl m).valN 0 n).ren _, ((b.pl m2).val 1).ren _] = _
      rw [Sl.valN_ren, Sl.val_ren]
      exact denL_cons.2 ⟨_, _, has, denL_cons.2 ⟨_, _, hbs, hzs, rfl⟩, rfl⟩
    have e0 : ∀ {n : Nat}, b.n = n → (SB.sym (((orF a.F b.F n).toNat : Int) == 0)).den = eqB a b n := fun {n} hb => by
      show (((orF a.F b.F n).toNat : Int) == 0) = _
      rw [Bool.eq_iff_iff, eqB_iff, beq_iff_eq, ← orF_zero]
      constructor
      · exact fun h => ⟨hb, BitVec.eq_of_toNat_eq (by show _ = 0; omega)⟩
      · intro ⟨_, h⟩; rw [h]; rfl
    have e1 : ∀ {n : Nat}, b.n ≠ n → (SB.lit false).den = eqB a b n := fun {n} hb => by
      symm
      show eqB a b n = false
      rw [Bool.eq_false_iff]
      exact fun h => hb (eqB_iff.1 h).1
    have c0 : ∀ {n : Nat}, b.n = n → ((n : Int) != b.n) = false := fun h => by rw [h]; simp
    have c1 : ∀ {n : Nat}, b.n ≠ n → ((n : Int) != b.n) = true := fun h => by rw [bne_iff_ne]; omega
    rcases h12 with rfl | rfl
    · by_cases hbn : b.n = 16
      · exact key has (eq_16 a b m m2) (all_cons (c0 hbn) (eqC_all hao hb hbn)) (e0 hbn)
      · exact key has (eq_16n a b m m2) (all_cons (c1 hbn) all_nil) (e1 hbn)
    · by_cases hbn : b.n = 32
      · exact key has (eq_32 a b m m2) (all_cons (c0 hbn) (eqC_all hao hb hbn)) (e0 hbn)
      · exact key has (eq_32n a b m m2) (all_cons (c1 hbn) all_nil) (e1 hbn)
end Go.Proofs.YtbmgahpjgefjaaaGreatDoor.Aes


/-
  The profiles: Open, where it ends in an error; what is known.
-/
namespace Go.Proofs.YtbmgahpjgefjaaaGreatDoor.Aes
open Go.Sim
open Go.Proofs
variable {α : Type}

set_option maxRecDepth 1000000
noncomputable def cfgOp : Cfg := cfgOf (sumsOf [(37, usableS)])
theorem cfgOpOK : CfgOK cfgOp := sumsOf_ok (all1 usableOK)
noncomputable def opT (v u sp sv : Int) (k t : Sl) : Tree := callSim cfgOp 4000 15 [.agg [.int .i64 (.lit 1), .int .i64 (.sym v), k.valN 0 16], .int .i64 (.sym u), .agg [.int .i64 (.sym sp), .int .i64 (.sym sv), t.val 1]] [k.row, t.row]
noncomputable def opC (v u : Int) (r : List Prop) : List Prop := (decide (0 ≤ v) = true) :: (decide (v ≤ 65535) = true) :: (decide (1 ≤ u) = true) :: (decide (u ≤ 1023) = true) :: r
noncomputable def opV (e : Int) : SV := .tuple [.nilSlice, .int .i64 (.lit e)]
section
variable (v u sp sv : Int) (k t : Sl) (m m2 : Nat)
theorem op_prof : outO [] (opT v u sp sv (k.pl m) (t.pl m2)) [true, true, true, true, true, true, true, true, true, true, true, true, true, true] = (opC v u (repN ((sp != 1) = true) 10), some (opV 9, [])) := by kernel_rfl
theorem op_vers : outO [] (opT v u sp sv (k.pl m) (t.pl m2)) [true, true, true, true, false, true, true, true] = (opC v u [(sp != 1) = false, (sv != v) = true, (sv != 0) = true, (v != 0) = true], some (opV 9, [])) := by kernel_rfl
theorem op_short : outO [] (opT v u sp sv (k.pl m) (t.pl m2)) [true, true, true, true, false, false, false, false, false, true] = (opC v u [(sp != 1) = false, (sv != v) = false, (sv != v) = false, (sv != v) = false, (sv != v) = false, inI64 ((t.n : Int) - 16), decide ((t.n : Int) - 16 < 16) = true], some (opV 4, [])) := by kernel_rfl
end
noncomputable def opR (e : Int) : R SumRes := .ok ⟨opV e, [], []⟩
noncomputable def openS : Summ := fun args H _ => args3 args fun kv uv zv => kv.asAgg (.stuck 797) fun l => args3 l fun p v s => optC (litI p) (.stuck 797) fun p => boolC (Nat.beq p 1) (i64O v fun v => i64O uv fun u => zv.asAgg (.stuck 797) fun l2 => args3 l2 fun sp sv ss => i64O sp fun sp => i64O sv fun sv =>
  partN H s fun _ kn n => boolC (Nat.beq n 16) (partL H ss fun t tn => boolC (distN [kn, tn]) (.need ((0 ≤ v.den ∧ v.den ≤ 65535) ∧ 1 ≤ u.den ∧ u.den ≤ 1023)
    (isI sp 1 (sv.asLit (.stuck 797) fun a => v.asLit (.stuck 797) fun b => boolC (eqI a b) (.need (t.n < 32) (opR 4)) (boolC (eqI a 0) (.stuck 797) (boolC (eqI b 0) (.stuck 797) (opR 9)))) (opR 9))) (.stuck 797)) (.stuck 797)) (.stuck 797)
theorem repN_all {p : Prop} (h : p) : ∀ n, ∀ q ∈ repN p n, q := by
  intro n q hq
  rw [repN_eq] at hq
  rw [List.eq_of_mem_replicate hq]; exact h
theorem openOK : SumOK Tryz.prog 15 openS := by
  intro glob O w0 β H w base args vs hH hG ha
  refine args3_sat fun kv uv zv hv => ?_
  rcases asAgg_cases kv with ⟨l, rfl⟩ | hno
  case inr => rw [hno]; trivial
  refine args3_sat fun p v s hl => optC_only fun p0 hp => boolC_only fun hp1 => i64O_sat fun v' hv' => i64O_sat fun u hu => ?_
  rcases asAgg_cases zv with ⟨l2, rfl⟩ | hno
  case inr => rw [hno]; trivial
  refine args3_sat fun sp sv ss hl2 => i64O_sat fun sp' hsp => i64O_sat fun sv' hsv => partN_sat fun k kn n hn1 ht1 hi1 hkn => boolC_only fun h16 => partL_sat fun t tn hn2 ht2 hi2 => boolC_only fun hd => fun ⟨⟨hv1, hv2⟩, hu1, hu2⟩ => ?_
  have h16 := beq_spec h16
  have hp1 := beq_spec hp1
  subst hl hv' hu hl2 hsp hsv h16 hp1
  rw [hv, litI_spec hp] at ha
  obtain ⟨⟨xs, hxs⟩, zs, hzs⟩ := agg3_at ha
  obtain ⟨m, hks⟩ := Sl.valN_den (hi1 _ _ hxs)
  obtain ⟨xu, zs1, hxu, hzs1, rfl⟩ := denL_cons.1 hzs
  obtain ⟨⟨xt, hxt⟩, zs2, hzs2⟩ := agg3_at hzs1
  obtain ⟨m2, _, hts⟩ := Sl.val_den (hi2 _ _ hxt)
  have h2 : SV.denL β [.agg [.int .i64 (.sym sp'.den), .int .i64 (.sym sv'.den), (t.pl m2).val tn]] = some zs1 := agg3_den hzs1 (fun x hx => by rw [hxt] at hx; cases hx; exact hts) (int_imp0 rfl) (int_imp0 rfl)
  have h1 : SV.denL β [.agg [.int .i64 (.lit 1), .int .i64 (.sym v'.den), (k.pl m).valN kn 16], .int .i64 (.sym u.den), .agg [.int .i64 (.sym sp'.den), .int .i64 (.sym sv'.den), (t.pl m2).val tn]] = some vs := by
    have h1 := agg3_den (s' := (k.pl m).valN kn 16) (p' := .int .i64 (.lit 1)) (v' := .int .i64 (.sym v'.den)) ha (fun x hx => by rw [hxs] at hx; cases hx; exact hks) (.refl _) (int_imp0 rfl)
    obtain ⟨xa, ws, hxa, hws, rfl⟩ := denL_cons.1 h1
    refine denL_cons.2 ⟨_, _, hxa, ?_, rfl⟩
    rw [hzs] at hws
    cases hws
    exact denL_cons.2 ⟨_, _, int_imp0 rfl _ _ hxu, h2, rfl⟩
  have key : ∀ {ds cs e}, outO [] (opT v'.den u.den sp'.den sv'.den (k.pl m) (t.pl m2)) ds = (opC v'.den u.den cs, some (opV e, [])) → (∀ q ∈ cs, q) → SumSem Tryz.prog H β w base 15 vs ⟨opV e, [], []⟩ := by
    intro ds cs e hr hc
    refine sum_outO cfgOpOK rfl 4000 hH ⟨[kn, tn], [k.row, t.row], [.agg [.int .i64 (.lit 1), .int .i64 (.sym v'.den), (k.pl m).valN 0 16], .int .i64 (.sym u.den), .agg [.int .i64 (.sym sp'.den), .int .i64 (.sym sv'.den), (t.pl m2).val 1]]⟩ ?_ (Ifc.fits (distN_spec hd) rfl ⟨⟨ht1 _, k.row_uses _⟩, ⟨ht2 _, t.row_uses _⟩, trivial⟩) [] (by simp) (by simp) hr (all_cons (decide_eq_true hv1) (all_cons (decide_eq_true hv2) (all_cons (decide_eq_true hu1) (all_cons (decide_eq_true hu2) hc)))) fun _ _ => ends0 rfl rfl rfl
    show SV.denL β [.agg [.int .i64 (.lit 1), .int .i64 (.sym v'.den), ((k.pl m).valN 0 16).ren _], .int .i64 (.sym u.den), .agg [.int .i64 (.sym sp'.den), .int .i64 (.sym sv'.den), ((t.pl m2).val 1).ren _]] = _
    rw [Sl.valN_ren, Sl.val_ren]
    exact h1
  refine isI_sat (fun hs1 => ?_) fun hs1 => ?_
  · have e1 : (sp'.den != 1) = false := by rw [hs1]; rfl
    cases sv' with
    | lit a =>
      cases v' with
      | lit b =>
        refine boolC_sat (fun hab => fun ht => ?_) fun hab => boolC_sat (fun _ => trivial) fun ha0 => boolC_sat (fun _ => trivial) fun hb0 => ?_
        · have hab := eqI_spec hab
          subst hab
          have e2 : ((SI.lit a).den != (SI.lit a).den) = false := by simp
          exact key (op_short (SI.lit a).den u.den sp'.den (SI.lit a).den k t m m2) (all_cons e1 (all_cons e2 (all_cons e2 (all_cons e2 (all_cons e2 (all_cons ⟨by omega, by omega⟩ (all_cons (decide_eq_true (by omega)) all_nil)))))))
        · have ne : ∀ {x y : Int}, eqI x y = false → (x != y) = true := fun {x y} h => by
            rw [bne_iff_ne]
            intro e
            subst e
            rw [eqI_eq] at h
            simp at h
          exact key (op_vers (SI.lit b).den u.den sp'.den (SI.lit a).den k t m m2) (all_cons e1 (all_cons (ne hab) (all_cons (ne ha0) (all_cons (ne hb0) all_nil))))
      | sym b => trivial
      | b8 b => trivial
      | b32 b => trivial
      | b64 b => trivial
    | sym a => trivial
    | b8 a => trivial
    | b32 a => trivial
    | b64 a => trivial
  · exact key (op_prof v'.den u.den sp'.den sv'.den k t m m2) (repN_all (by rw [bne_iff_ne]; exact hs1) 10)
end Go.Proofs.YtbmgahpjgefjaaaGreatDoor.Aes


/-
  The reference of the profiles: Same and Equal; strings of bytes that are equal.
-/
namespace Go.Proofs.YtbmgahpjgefjaaaGreatDoor.Aes
open Go.Sim
open Go.Proofs
variable {α : Type}

set_option maxRecDepth 1000000
/-- the string of a slice's bytes -/
noncomputable def strS (t : Sl) : ByteArray := strOfFn (byteF t.X) t.o t.n
theorem strS_iff {x y : Sl} : strS x = strS y ↔ SlEq x y := by
  constructor
  · intro h
    have h1 := congrArg (fun b : ByteArray => b.data.toList) h
    simp only [strS, strOfFn, List.toList_toArray] at h1
    have hl : x.n = y.n := by simpa using congrArg List.length h1
    refine ⟨hl, fun i hi => ?_⟩
    have h2 := congrArg (fun l : List UInt8 => l[i]?) h1
    simp only [List.getElem?_map, List.getElem?_range hi, List.getElem?_range (show i < y.n by omega), Option.map_some, Option.some.injEq] at h2
    have h3 : UInt8.ofNat (((x.X (x.o + i)).toNat : Int)).toNat = UInt8.ofNat (((y.X (y.o + i)).toNat : Int)).toNat := h2
    rw [Int.toNat_natCast, Int.toNat_natCast] at h3
    have h4 := congrArg UInt8.toNat h3
    rw [UInt8.toNat_ofNat', UInt8.toNat_ofNat'] at h4
    have a := (x.X (x.o + i)).isLt
    have b := (y.X (y.o + i)).isLt
    exact BitVec.eq_of_toNat_eq (by omega)
  · rintro ⟨hl, h⟩
    unfold strS strOfFn
    rw [← hl]
    congr 2
    apply List.map_congr_left
    intro i hi
    show UInt8.ofNat (((x.X (x.o + i)).toNat : Int)).toNat = UInt8.ofNat (((y.X (y.o + i)).toNat : Int)).toNat
    rw [h i (by simpa using hi)]
/-- what is read of a slice of bytes -/
noncomputable def rdC (x : Sl) : Prop := x.o + x.n ≤ x.N ∧ ∀ i : Nat, i < x.N → True
theorem rdC_of {x : Sl} (h : okL x) : rdC x := ⟨h.1, fun _ _ => trivial⟩
section
variable (p v p' v' : Int) (x y : Sl) (m m2 : Nat)
end
end Go.Proofs.YtbmgahpjgefjaaaGreatDoor.Aes


/-
  The profiles: the lengths of a profile.
-/
namespace Go.Proofs.YtbmgahpjgefjaaaGreatDoor.Aes
open Go.Sim
open Go.Proofs
variable {α : Type}

set_option maxRecDepth 1000000
noncomputable def lnR (n : Int) : R SumRes := .ok ⟨.int .i64 (.lit n), [], []⟩
noncomputable def lnS (a b : Int) : Summ := fun args _ _ => args1 args fun pv => i64O pv fun p => isI p 1 (lnR a) (isI p 2 (lnR b) (lnR 0))
theorem lnOK {f : FuncId} {a b : Int} (h : ∀ p : Int, outO [] (callSim cfgF 400 f [.int .i64 (.sym p)] []) [true] = ([(p == 1) = true], some (.int .i64 (.lit a), []))) (h2 : ∀ p : Int, outO [] (callSim cfgF 400 f [.int .i64 (.sym p)] []) [false, true] = ([(p == 1) = false, (p == 2) = true], some (.int .i64 (.lit b), []))) (h0 : ∀ p : Int, outO [] (callSim cfgF 400 f [.int .i64 (.sym p)] []) [false, false] = ([(p == 1) = false, (p == 2) = false], some (.int .i64 (.lit 0), []))) : SumOK Tryz.prog f (lnS a b) := by
  intro glob O w0 β H w base args vs hH hG ha
  refine args1_sat fun pv hv => i64O_sat fun p hp => ?_
  subst hv hp
  have ha' : SV.denL β [.int .i64 (.sym p.den)] = some vs := denL1 ha (int_imp0 rfl)
  have key : ∀ {ds cs n}, outO [] (callSim cfgF 400 f [.int .i64 (.sym p.den)] []) ds = (cs, some (.int .i64 (.lit n), [])) → (∀ q ∈ cs, q) → SumSem Tryz.prog H β w base f vs ⟨.int .i64 (.lit n), [], []⟩ := by
    intro ds cs n hr hc
    exact sum_outO cfgFOK rfl 400 hH ⟨[], [], [.int .i64 (.sym p.den)]⟩ ha' (fits0 rfl) [] (by simp) (by simp) hr hc fun _ _ => ends0 rfl rfl rfl
  refine isI_sat (fun h1 => key (h _) (all_cons (by simp [h1]) all_nil)) fun h1 => isI_sat (fun h2' => key (h2 _) (all_cons (by simp [h1]) (all_cons (by simp [h2']) all_nil))) fun h2' => key (h0 _) (all_cons (by simp [h1]) (all_cons (by simp [h2']) all_nil))
end Go.Proofs.YtbmgahpjgefjaaaGreatDoor.Aes


/-
  The reference's derived keys.
-/
namespace Go.Proofs.YtbmgahpjgefjaaaGreatDoor.Aes
open Go.Sim
open Go.Proofs
variable {α : Type}

set_option maxRecDepth 1000000
theorem rfourOK : SumOK Tryz.prog 88 numS := numOK fun u => by kernel_rfl
theorem rlnOK : SumOK Tryz.prog 24 (lnS 16 32) := lnOK (fun p => by kernel_rfl) (fun p => by kernel_rfl) fun p => by kernel_rfl
noncomputable def cfgRd (F : HashF) : Cfg := cfgG globS (sumsOf [(52, rhmS F), (88, numS), (24, lnS 16 32)])
theorem cfgRdOK : CfgOK (cfgRd shaF) := sumsG_ok (allS rhmOK (allS (rfourOK _) (allS (rlnOK _) (by simp))))
noncomputable def rdT (F : HashF) (i n : Nat) (v u : Int) (k : Sl) (x : BitVec 8) : Tree := callSim (cfgRd F) 8000 41 [.agg [.int .i64 (.lit i), .int .i64 (.sym v), k.valN 4 n], .int .i64 (.sym u), .int .u8 (.b8 x)] (shaH [k.row])
/-- what is hashed for a derived key -/
noncomputable def rdM (u : Int) (x : BitVec 8) (n : Int) : List (BitVec 8) := app (num4 1) (0#8 :: 0#8 :: BitVec.ofInt 8 (IntKind.i64.wrap (u.tdiv 256)) :: BitVec.ofInt 8 (u.tmod 256) :: x :: 0#8 :: num4 (8 * n))
noncomputable def rdS (u : Int) (x : BitVec 8) (n : Int) : Sl := ⟨byteAt (rdM u x n), 14, 0, 14, true, 0⟩
noncomputable def rdL (F : HashF) (k : Sl) (n : Nat) (u : Int) (x : BitVec 8) : List (BitVec 8) := tabB (byteAt (tagS F (k.len n) (rdS u x n))) 32
noncomputable def rdvC (k : Sl) (n : Nat) (u : Int) (x : BitVec 8) : List Prop := [IsB (byteF k.X), k.o + n ≤ k.N ∧ okL (rdS u x n) ∧ 14 ≤ 1099511627712]
section
variable (F : HashF) (v u : Int) (k : Sl) (x : BitVec 8) (m : Nat)
theorem rd_16 : outO [14] (rdT F 1 16 v u (k.pl m) x) [] = (rdvC k 16 u x, some (deV 14 16, [some (.own (.lst (bx (rdL F k 16 u x))) false 5)])) := by kernel_rfl
theorem rd_32 : outO [14] (rdT F 2 32 v u (k.pl m) x) [] = (rdvC k 32 u x, some (deV 14 32, [some (.own (.lst (bx (rdL F k 32 u x))) false 5)])) := by kernel_rfl
end
noncomputable def rdeS (F : HashF) (i : Nat) : Summ := fun args H base => args3 args fun kv uv xv => kv.asAgg (.stuck 862) fun l => args3 l fun p v s => i64O p fun p => i64O v fun _ => i64O uv fun u => optC (unb1 xv) (.stuck 862) fun x => shaT H (partN H s fun k _ n => boolC (Nat.beq n (tagN i)) (.need (p.den = (i : Int) ∧ k.o + n ≤ k.N) (.ok ⟨deV base (tagN i), [], [.own (.lst (bx (rdL F k (tagN i) u.den x))) false 5]⟩)) (.stuck 862))
theorem rdA_uses {p : Nat → Bool} {i : Int} {n : Nat} {v u : Int} {k : Sl} {x : BitVec 8} (h4 : p 4 = true) : SV.usesL p [.agg [.int .i64 (.lit i), .int .i64 (.sym v), k.valN 4 n], .int .i64 (.sym u), .int .u8 (.b8 x)] = true := by
  show ((true && (true && ((k.valN 4 n).uses p && true))) && (true && (true && true))) = true
  rw [Sl.valN_uses _ _ _ _ h4]; rfl
theorem rdeOK {i : Nat} (hi12 : i = 1 ∨ i = 2) : SumAt Tryz.prog globS 41 (rdeS shaF i) := by
  intro O w0 β H w base args vs hH hG ha
  refine args3_sat fun kv uv xv hv => ?_
  rcases asAgg_cases kv with ⟨l, rfl⟩ | hno
  case inr => rw [hno]; trivial
  refine args3_sat fun p v s hl => i64O_sat fun p' hp => i64O_sat fun v' hv' => i64O_sat fun u hu => optC_only fun x hx => shaT_sat fun hT => partN_sat fun k kn n hn1 ht1 hi1 hkn => boolC_only fun hnt => fun ⟨hpi, hle⟩ => ?_
  have hnt := beq_spec hnt
  subst hl hp hv' hu hnt
  rw [hv] at ha
  obtain ⟨⟨xs, hxs⟩, zs, hzs⟩ := agg3_at ha
  obtain ⟨m, hks⟩ := Sl.valN_den (hi1 _ _ hxs)
  have h1 := agg3_den (s' := (k.pl m).valN kn (tagN i)) (p' := .int .i64 (.lit i)) (v' := .int .i64 (.sym v'.den)) ha (fun z hz => by rw [hxs] at hz; cases hz; exact hks) (int_imp0 hpi) (int_imp0 rfl)
  obtain ⟨xa, ws, hxa, hws, rfl⟩ := denL_cons.1 h1
  rw [hzs] at hws
  cases hws
  have ha' : SV.denL β [.agg [.int .i64 (.lit i), .int .i64 (.sym v'.den), (k.pl m).valN kn (tagN i)], .int .i64 (.sym u.den), .int .u8 (.b8 x)] = some (xa :: zs) := denL_cons.2 ⟨_, _, hxa, impL_cons (int_imp0 rfl) (impL_cons (unb1_imp hx) impL_nil) _ _ hzs, rfl⟩
  have key : outO [14] (rdT shaF i (tagN i) v'.den u.den (k.pl m) x) [] = (rdvC k (tagN i) u.den x, some (deV 14 (tagN i), [some (.own (.lst (bx (rdL shaF k (tagN i) u.den x))) false 5)])) → SumSem Tryz.prog H β w base 41 (xa :: zs) ⟨deV base (tagN i), [], [.own (.lst (bx (rdL shaF k (tagN i) u.den x))) false 5]⟩ := by
    intro hr
    refine sum_outOG cfgRdOK 8000 hH (shaI [kn] [k.row] [.agg [.int .i64 (.lit i), .int .i64 (.sym v'.den), (k.pl m).valN 4 (tagN i)], .int .i64 (.sym u.den), .int .u8 (.b8 x)]) (shaI_glob hG) ?_ (Ifc.fits (nd5 hn1) ?_ (shaI_ents hT ⟨⟨ht1 _, k.row_uses _⟩, trivial⟩)) [14] (by simp [shaI]) (by simp) hr (all_cons (byteF_isB _) (all_cons ⟨hle, ⟨by show 0 + 14 ≤ 14; omega, by show 14 ≤ _; omega⟩, by omega⟩ all_nil)) fun H2 hH2 => endsD rfl rfl (List.cons.inj hH2).1 rfl
    · show SV.denL β [.agg [.int .i64 (.lit i), .int .i64 (.sym v'.den), ((k.pl m).valN 4 (tagN i)).ren _], .int .i64 (.sym u.den), .int .u8 (.b8 x)] = _
      rw [Sl.valN_ren]; exact ha'
    · exact rdA_uses rfl
  rcases hi12 with rfl | rfl
  · exact key (rd_16 shaF v'.den u.den k x m)
  · exact key (rd_32 shaF v'.den u.den k x m)
/- Plain: the same bytes. -/
theorem rd_num {u : Int} (h1 : 1 ≤ u) (h2 : u ≤ 1023) : num4 u = [0#8, 0#8, BitVec.ofInt 8 (IntKind.i64.wrap (u.tdiv 256)), BitVec.ofInt 8 (u.tmod 256)] := by
  have e0 : u.fdiv (2 ^ 24) = 0 := by rw [Int.fdiv_eq_ediv_of_nonneg _ (by omega)]; omega
  have e1 : u.fdiv (2 ^ 16) = 0 := by rw [Int.fdiv_eq_ediv_of_nonneg _ (by omega)]; omega
  have e2 : u.fdiv (2 ^ 8) = IntKind.i64.wrap (u.tdiv 256) := by
    rw [Int.fdiv_eq_ediv_of_nonneg _ (by omega), Int.tdiv_eq_ediv_of_nonneg (by omega), IntKind.wrap_i64]
    omega
  have e3 : BitVec.ofInt 8 u = BitVec.ofInt 8 (u.tmod 256) := by
    apply BitVec.eq_of_toInt_eq
    rw [BitVec.toInt_ofInt, BitVec.toInt_ofInt, Int.tmod_eq_emod_of_nonneg (by omega)]
    simp only [Int.bmod_def]
    omega
  unfold num4
  rw [e0, e1, e2, ← e3]
  rfl
theorem rd_msg {u : Int} {x : BitVec 8} {n : Nat} (h1 : 1 ≤ u) (h2 : u ≤ 1023) : ∀ {j : Nat}, j < 14 → (rdS u x n).F j = kdfM (lblS u x) n j := by
  intro j hj
  show byteAt (rdM u x n) (0 + j) = four (slL (num4 1)) ⟨two (slL (num4 u)) (slL [x]), 4 + 1, 0, 4 + 1, true, 0⟩ (slL [0#8]) (slL (num4 (8 * (n : Int)))) j
  rw [rd_num h1 h2, Nat.zero_add]
  match j, hj with
  | 0, _ => rfl
  | 1, _ => rfl
  | 2, _ => rfl
  | 3, _ => rfl
  | 4, _ => rfl
  | 5, _ => rfl
  | 6, _ => rfl
  | 7, _ => rfl
  | 8, _ => rfl
  | 9, _ => rfl
  | 10, _ => rfl
  | 11, _ => rfl
  | 12, _ => rfl
  | 13, _ => rfl
theorem rd_eq {k : Sl} {u : Int} {x : BitVec 8} {n : Nat} (h1 : 1 ≤ u) (h2 : u ≤ 1023) : tagS shaF (k.len n) (rdS u x n) = kdfB shaF (k.len n).F n (lblS u x) n := by
  unfold tagS kdfB
  exact macB_congr fun i hi => rd_msg h1 h2 hi
/-- the derived key, as the program has it -/
theorem rd_key {k : Sl} {u : Int} {x : BitVec 8} {n : Nat} (h1 : 1 ≤ u) (h2 : u ≤ 1023) (hn : n ≤ 32) {i : Nat} (hi : i < n) : byteAt (rdL shaF k n u x) i = (dkS shaF k n u x).F i := by
  unfold rdL
  rw [rd_eq h1 h2, byteAt_tab (by omega)]
  show _ = byteAt (tabB (byteAt (kdfB shaF (k.len n).F n (lblS u x) n)) n) (0 + i)
  rw [Nat.zero_add, byteAt_tab hi]
theorem tagS_key {k k' c : Sl} (h : SlEq k k') (h64 : k.n ≤ 64) : tagS shaF k c = tagS shaF k' c := by
  have hk : keyP shaF k.F k.n = keyP shaF k'.F k'.n := by
    funext i
    unfold keyP
    have h1 : k.n = k'.n := h.1
    have h64' : k'.n ≤ 64 := by omega
    rw [if_pos h64, if_pos h64']
    by_cases c : i < k.n
    · have c' : i < k'.n := by omega
      rw [if_pos c, if_pos c']; exact h.2 i c
    · have c' : ¬ i < k'.n := by omega
      rw [if_neg c, if_neg c']
  unfold tagS macB xorP
  rw [hk]
end Go.Proofs.YtbmgahpjgefjaaaGreatDoor.Aes


/-
  The profiles: whether two keys are equal.
-/
namespace Go.Proofs.YtbmgahpjgefjaaaGreatDoor.Aes
open Go.Sim
open Go.Proofs
variable {α : Type}

set_option maxRecDepth 1000000
section
variable (p v p' v' : Int) (x y : Sl) (m m2 : Nat)
end
section
variable (p v p' v' : Int) (x y : Sl) (m m2 : Nat)
end
end Go.Proofs.YtbmgahpjgefjaaaGreatDoor.Aes


/-
  The profiles: find, usable and Valid, where it is told how they end and the key's length alone is known.
-/
namespace Go.Proofs.YtbmgahpjgefjaaaGreatDoor.Aes
open Go.Sim
open Go.Proofs
variable {α : Type}

set_option maxRecDepth 1000000
/-- a slice of which the length alone is looked at -/
noncomputable def lenQ (v : SV) (f : Nat → R α) : R α := valS v (sliceR v (f 0) fun _ l => f l.den) f
theorem lenQ_sat {v : SV} {f : Nat → R α} {φ : α → Prop} (h : ∀ n, (∀ β x, v.den β = some x → ∃ y m, x = .slice y n m) → (f n).Sat φ) : (lenQ v f).Sat φ := by
  unfold lenQ
  refine valS_sat (sliceR_sat (fun hn => h 0 fun β x hx => ?_) fun a l c hs => h _ fun β x hx => ?_) fun p n c hv => h n fun β x hx => ?_
  · subst hn; cases hx; exact ⟨_, _, rfl⟩
  · subst hs
    simp only [SV.den, Option.bind_eq_some_iff] at hx
    obtain ⟨y, _, m, _, hs⟩ := hx
    unfold sliceV at hs
    by_cases hl : l.den ≤ m
    · rw [if_pos hl] at hs
      cases hs
      exact ⟨_, _, rfl⟩
    · rw [if_neg hl] at hs; cases hs
  · subst hv; cases hx; exact ⟨_, _, rfl⟩
noncomputable def keyN (kv : SV) (f : SI → SI → Nat → R α) : R α := kv.asAgg (.stuck 834) fun l => args3 l fun p v s => i64O p fun p => i64O v fun v => lenQ s fun n => f p v n
theorem keyN_sat {kv : SV} {f : SI → SI → Nat → R α} {φ : α → Prop} (h : ∀ p v s n, kv = .agg [.int .i64 p, .int .i64 v, s] → (∀ β x, s.den β = some x → ∃ y m, x = .slice y n m) → (f p v n).Sat φ) : (keyN kv f).Sat φ := by
  unfold keyN
  rcases asAgg_cases kv with ⟨l, rfl⟩ | hno
  case inr => rw [hno]; trivial
  refine args3_sat fun p v s hl => i64O_sat fun p' hp => i64O_sat fun v' hv' => lenQ_sat fun n hn => ?_
  subst hl hp hv'
  exact h _ _ _ _ rfl hn
/-- such a key's value -/
noncomputable def kyV (p v : Int) (y : Option Addr) (n m : Nat) : SV := fdK p v (.val (.slice y n m))
theorem keyN_den {β : Val} {p v : SI} {s : SV} {n : Nat} {ys : List SV} {vs : List Value} (h : SV.denL β (.agg [.int .i64 p, .int .i64 v, s] :: ys) = some vs) (hs : ∀ β x, s.den β = some x → ∃ y m, x = .slice y n m) : ∃ y m, SV.denL β (kyV p.den v.den y n m :: ys) = some vs := by
  obtain ⟨⟨xs, hxs⟩, _⟩ := agg3_at h
  obtain ⟨y, m, rfl⟩ := hs _ _ hxs
  exact ⟨y, m, agg3_den h (fun x hx => by rw [hxs] at hx; cases hx; rfl) (int_imp0 rfl) (int_imp0 rfl)⟩
/- find. -/
noncomputable def fvT (p v : Int) (y : Option Addr) (l m : Nat) : Tree := callSim cfgF 400 48 [kyV p v y l m] []
section
variable (p v : Int) (y : Option Addr) (l m : Nat)
theorem fv_none : outO [] (fvT p v y l m) [false, false] = ([(p == 1) = false, (p == 2) = false], fdV kv0 (.lit false)) := by kernel_rfl
theorem fv_len1 : outO [] (fvT p v y l m) [true, false, false, false, false] = ([(p == 1) = true, ((l : Int) == 16) = false, ((l : Int) == 16) = false, ((l : Int) == 16) = false, ((l : Int) == 16) = false], fdV kv1 (.lit false)) := by kernel_rfl
theorem fv_neg1 : outO [] (fvT p v y l m) [true, true, false, false, false, false] = ([(p == 1) = true, ((l : Int) == 16) = true, decide (v ≥ 0) = false, decide (v ≥ 0) = false, decide (v ≥ 0) = false, decide (v ≥ 0) = false], fdV kv1 (.lit false)) := by kernel_rfl
theorem fv_ok1 : outO [] (fvT p v y l m) [true, true, true] = ([(p == 1) = true, ((l : Int) == 16) = true, decide (v ≥ 0) = true], fdV kv1 (.sym (decide (v ≤ 65535)))) := by kernel_rfl
theorem fv_len2 : outO [] (fvT p v y l m) [false, true, false, false, false, false] = ([(p == 1) = false, (p == 2) = true, ((l : Int) == 32) = false, ((l : Int) == 32) = false, ((l : Int) == 32) = false, ((l : Int) == 32) = false], fdV kv2 (.lit false)) := by kernel_rfl
theorem fv_neg2 : outO [] (fvT p v y l m) [false, true, true, false, false, false, false] = ([(p == 1) = false, (p == 2) = true, ((l : Int) == 32) = true, decide (v ≥ 0) = false, decide (v ≥ 0) = false, decide (v ≥ 0) = false, decide (v ≥ 0) = false], fdV kv2 (.lit false)) := by kernel_rfl
theorem fv_ok2 : outO [] (fvT p v y l m) [false, true, true, true] = ([(p == 1) = false, (p == 2) = true, ((l : Int) == 32) = true, decide (v ≥ 0) = true], fdV kv2 (.sym (decide (v ≤ 65535)))) := by kernel_rfl
end
noncomputable def fdQS (i : Nat) (b : Bool) : Summ := fun args _ _ => args1 args fun kv => keyN kv fun p v l => .need (kdOf p.den = i ∧ (validK p.den v.den l ↔ b = true)) (fdR (kvI i) b)
theorem fdQOK {i : Nat} {b : Bool} : SumOK Tryz.prog 48 (fdQS i b) := by
  intro glob O w0 β H w base args vs hH hG ha
  refine args1_sat fun kv hv => keyN_sat fun p v s n hk hs => fun ⟨hi, hb⟩ => ?_
  subst hv hk
  obtain ⟨y, m, ha'⟩ := keyN_den ha hs
  have h0 := fun g p => (kv_plain g p).1
  have h1 := fun g p => (kv_plain g p).2.1
  have h2 := fun g p => (kv_plain g p).2.2
  have key : ∀ {ds cs k b c}, outO [] (fvT p.den v.den y n m) ds = (cs, fdV k b) → (∀ q ∈ cs, q) → (∀ g p, k.ren g = k ∧ k.uses p = true) → b.den = c → SumSem Tryz.prog H β w base 48 vs ⟨.tuple [k, .bool (.lit c)], [], []⟩ := by
    intro ds cs k b c hr hc hk hb
    exact sum_outO cfgFOK rfl 400 hH ⟨[], [], [kyV p.den v.den y n m]⟩ ha' (fits0 rfl) [] (by simp) (by simp) hr hc fun H2 _ => endsF rfl hk hb H2
  have f4 : ∀ {q : Prop}, q → ∀ p ∈ [q, q, q, q], p := fun h => all_cons h (all_cons h (all_cons h (all_cons h all_nil)))
  show SumSem Tryz.prog H β w base 48 vs ⟨.tuple [kvI i, .bool (.lit b)], [], []⟩
  unfold kdOf at hi
  unfold validK at hb
  by_cases hp : p.den = 1
  · rw [if_pos hp] at hi
    subst hi
    have e1 : (p.den == 1) = true := by simp [hp]
    by_cases hl : n = 16
    · have e2 : ((n : Int) == 16) = true := by rw [hl]; rfl
      by_cases hg : 0 ≤ v.den
      · refine key (fv_ok1 p.den v.den y n m) (all_cons e1 (all_cons e2 (all_cons (decide_eq_true hg) all_nil))) h1 ?_
        show decide (v.den ≤ 65535) = b
        by_cases hle : v.den ≤ 65535
        · rw [decide_eq_true hle, hb.1 ⟨.inl ⟨hp, hl⟩, hg, hle⟩]
        · rw [decide_eq_false hle]
          cases b with
          | false => rfl
          | true => exact absurd (hb.2 rfl).2.2 hle
      · obtain rfl : b = false := by
          cases b with
          | false => rfl
          | true => exact absurd (hb.2 rfl).2.1 hg
        exact key (fv_neg1 p.den v.den y n m) (all_cons e1 (all_cons e2 (f4 (decide_eq_false hg)))) h1 rfl
    · obtain rfl : b = false := by
        cases b with
        | false => rfl
        | true => rcases (hb.2 rfl).1 with h | h <;> omega
      exact key (fv_len1 p.den v.den y n m) (all_cons e1 (f4 (by rw [beq_eq_false_iff_ne]; omega))) h1 rfl
  · rw [if_neg hp] at hi
    have e1 : (p.den == 1) = false := by simp [hp]
    by_cases hp2 : p.den = 2
    · rw [if_pos hp2] at hi
      subst hi
      have e3 : (p.den == 2) = true := by simp [hp2]
      by_cases hl : n = 32
      · have e2 : ((n : Int) == 32) = true := by rw [hl]; rfl
        by_cases hg : 0 ≤ v.den
        · refine key (fv_ok2 p.den v.den y n m) (all_cons e1 (all_cons e3 (all_cons e2 (all_cons (decide_eq_true hg) all_nil)))) h2 ?_
          show decide (v.den ≤ 65535) = b
          by_cases hle : v.den ≤ 65535
          · rw [decide_eq_true hle, hb.1 ⟨.inr ⟨hp2, hl⟩, hg, hle⟩]
          · rw [decide_eq_false hle]
            cases b with
            | false => rfl
            | true => exact absurd (hb.2 rfl).2.2 hle
        · obtain rfl : b = false := by
            cases b with
            | false => rfl
            | true => exact absurd (hb.2 rfl).2.1 hg
          exact key (fv_neg2 p.den v.den y n m) (all_cons e1 (all_cons e3 (all_cons e2 (f4 (decide_eq_false hg))))) h2 rfl
      · obtain rfl : b = false := by
          cases b with
          | false => rfl
          | true => rcases (hb.2 rfl).1 with h | h <;> omega
        exact key (fv_len2 p.den v.den y n m) (all_cons e1 (all_cons e3 (f4 (by rw [beq_eq_false_iff_ne]; omega)))) h2 rfl
    · rw [if_neg hp2] at hi
      subst hi
      obtain rfl : b = false := by
        cases b with
        | false => rfl
        | true => rcases (hb.2 rfl).1 with h | h <;> omega
      exact key (fv_none p.den v.den y n m) (all_cons e1 (all_cons (by simp [hp2]) all_nil)) h0 rfl
/- usable. -/
noncomputable def cfgUq (i : Nat) (b : Bool) : Cfg := cfgOf (sumsOf [(48, fdQS i b)])
theorem cfgUqOK {i : Nat} {b : Bool} : CfgOK (cfgUq i b) := sumsOf_ok (all1 fdQOK)
noncomputable def uqT (i : Nat) (b : Bool) (p v u : Int) (y : Option Addr) (l m : Nat) : Tree := callSim (cfgUq i b) 400 37 [kyV p v y l m, .int .i64 (.sym u)] []
noncomputable def fdP (i : Nat) (p v : Int) (l : Nat) (b : Bool) : Prop := kdOf p = i ∧ (validK p v l ↔ b = true)
section
variable (p v u : Int) (y : Option Addr) (l m : Nat)
theorem uq_no0 : outO [] (uqT 0 false p v u y l m) [] = ([fdP 0 p v l false], some (usV kv0 2, [])) := by kernel_rfl
theorem uq_no1 : outO [] (uqT 1 false p v u y l m) [] = ([fdP 1 p v l false], some (usV kv0 2, [])) := by kernel_rfl
theorem uq_no2 : outO [] (uqT 2 false p v u y l m) [] = ([fdP 2 p v l false], some (usV kv0 2, [])) := by kernel_rfl
theorem uq_lo1 : outO [] (uqT 1 true p v u y l m) [true, true, true] = ([fdP 1 p v l true, decide (u < 1) = true, decide (u < 1) = true, decide (u < 1) = true], some (usV kv0 2, [])) := by kernel_rfl
theorem uq_hi1 : outO [] (uqT 1 true p v u y l m) [false, true] = ([fdP 1 p v l true, decide (u < 1) = false, decide (u > 1023) = true], some (usV kv0 2, [])) := by kernel_rfl
theorem uq_ok1 : outO [] (uqT 1 true p v u y l m) [false, false] = ([fdP 1 p v l true, decide (u < 1) = false, decide (u > 1023) = false], some (usV kv1 0, [])) := by kernel_rfl
theorem uq_lo2 : outO [] (uqT 2 true p v u y l m) [true, true, true] = ([fdP 2 p v l true, decide (u < 1) = true, decide (u < 1) = true, decide (u < 1) = true], some (usV kv0 2, [])) := by kernel_rfl
theorem uq_hi2 : outO [] (uqT 2 true p v u y l m) [false, true] = ([fdP 2 p v l true, decide (u < 1) = false, decide (u > 1023) = true], some (usV kv0 2, [])) := by kernel_rfl
theorem uq_ok2 : outO [] (uqT 2 true p v u y l m) [false, false] = ([fdP 2 p v l true, decide (u < 1) = false, decide (u > 1023) = false], some (usV kv2 0, [])) := by kernel_rfl
end
theorem kd_valid {p v : Int} {l : Nat} (h : validK p v l) : (p = 1 ∧ l = 16 ∧ kdOf p = 1) ∨ (p = 2 ∧ l = 32 ∧ kdOf p = 2) := by
  rcases h.1 with ⟨rfl, h1⟩ | ⟨rfl, h1⟩
  · exact .inl ⟨rfl, h1, rfl⟩
  · exact .inr ⟨rfl, h1, rfl⟩
/-- usable, told: the key or the usage is not valid -/
noncomputable def uqE : Summ := fun args _ _ => args2 args fun kv uv => keyN kv fun p v l => i64O uv fun u => .need (¬ usQ p.den v.den u.den l) (usR kv0 2)
noncomputable def uqS (i : Int) (k : SV) : Summ := fun args _ _ => args2 args fun kv uv => keyN kv fun p v l => i64O uv fun u => .need (p.den = i ∧ usQ p.den v.den u.den l) (usR k 0)
theorem uqEOK : SumOK Tryz.prog 37 uqE := by
  intro glob O w0 β H w base args vs hH hG ha
  refine args2_sat fun kv uv hv => keyN_sat fun p v s n hk hs => i64O_sat fun u hu => fun hq => ?_
  subst hv hk hu
  obtain ⟨y, m, ha'⟩ := keyN_den ha hs
  have ha2 : SV.denL β [kyV p.den v.den y n m, .int .i64 (.sym u.den)] = some vs := impL_cons (.refl _) (impL_cons (int_imp0 rfl) impL_nil) _ _ ha'
  have h0 := fun g p => (kv_plain g p).1
  have key : ∀ {i b ds cs}, outO [] (uqT i b p.den v.den u.den y n m) ds = (cs, some (usV kv0 2, [])) → (∀ q ∈ cs, q) → SumSem Tryz.prog H β w base 37 vs ⟨usV kv0 2, [], []⟩ := by
    intro i b ds cs hr hc
    exact sum_outO cfgUqOK rfl 400 hH ⟨[], [], [kyV p.den v.den y n m, .int .i64 (.sym u.den)]⟩ ha2 (fits0 rfl) [] (by simp) (by simp) hr hc fun H2 _ => endsU rfl h0 H2
  have t1 : ∀ {q : Prop}, q → ∀ p ∈ [q, q, q], p := fun h => all_cons h (all_cons h (all_cons h all_nil))
  by_cases hval : validK p.den v.den n
  · have hu : ¬ (1 ≤ u.den ∧ u.den ≤ 1023) := fun h => hq ⟨hval, h⟩
    have ht : validK p.den v.den n ↔ true = true := ⟨fun _ => rfl, fun _ => hval⟩
    rcases kd_valid hval with ⟨_, _, hi⟩ | ⟨_, _, hi⟩
    · by_cases h1 : u.den < 1
      · exact key (uq_lo1 p.den v.den u.den y n m) (all_cons ⟨hi, ht⟩ (t1 (decide_eq_true h1)))
      · exact key (uq_hi1 p.den v.den u.den y n m) (all_cons ⟨hi, ht⟩ (all_cons (decide_eq_false h1) (all_cons (decide_eq_true (by omega)) all_nil)))
    · by_cases h1 : u.den < 1
      · exact key (uq_lo2 p.den v.den u.den y n m) (all_cons ⟨hi, ht⟩ (t1 (decide_eq_true h1)))
      · exact key (uq_hi2 p.den v.den u.den y n m) (all_cons ⟨hi, ht⟩ (all_cons (decide_eq_false h1) (all_cons (decide_eq_true (by omega)) all_nil)))
  · have hf : validK p.den v.den n ↔ false = true := ⟨fun h => absurd h hval, fun h => by cases h⟩
    rcases kdOf_cases p.den with h | h | h
    · exact key (uq_no0 p.den v.den u.den y n m) (all_cons ⟨h, hf⟩ all_nil)
    · exact key (uq_no1 p.den v.den u.den y n m) (all_cons ⟨h, hf⟩ all_nil)
    · exact key (uq_no2 p.den v.den u.den y n m) (all_cons ⟨h, hf⟩ all_nil)
theorem uqOK {i : Int} {k : SV} (hik : (i = 1 ∧ k = kv1) ∨ (i = 2 ∧ k = kv2)) : SumOK Tryz.prog 37 (uqS i k) := by
  intro glob O w0 β H w base args vs hH hG ha
  refine args2_sat fun kv uv hv => keyN_sat fun p v s n hk hs => i64O_sat fun u hu => fun ⟨hpi, hval, h1, h2⟩ => ?_
  subst hv hk hu
  obtain ⟨y, m, ha'⟩ := keyN_den ha hs
  have ha2 : SV.denL β [kyV p.den v.den y n m, .int .i64 (.sym u.den)] = some vs := impL_cons (.refl _) (impL_cons (int_imp0 rfl) impL_nil) _ _ ha'
  have e1 := fun g p => (kv_plain g p).2.1
  have e2 := fun g p => (kv_plain g p).2.2
  have ht : validK p.den v.den n ↔ true = true := ⟨fun _ => rfl, fun _ => hval⟩
  have key : ∀ {i b ds cs k}, outO [] (uqT i b p.den v.den u.den y n m) ds = (cs, some (usV k 0, [])) → (∀ q ∈ cs, q) → (∀ g p, k.ren g = k ∧ k.uses p = true) → SumSem Tryz.prog H β w base 37 vs ⟨usV k 0, [], []⟩ := by
    intro i b ds cs k hr hc hk
    exact sum_outO cfgUqOK rfl 400 hH ⟨[], [], [kyV p.den v.den y n m, .int .i64 (.sym u.den)]⟩ ha2 (fits0 rfl) [] (by simp) (by simp) hr hc fun H2 _ => endsU rfl hk H2
  have hu : ∀ {q : Prop}, q → ∀ p ∈ [q, decide (u.den < 1) = false, decide (u.den > 1023) = false], p := fun h => all_cons h (all_cons (decide_eq_false (by omega)) (all_cons (decide_eq_false (by omega)) all_nil))
  rcases kd_valid hval with ⟨hp, _, hi⟩ | ⟨hp, _, hi⟩
  · rcases hik with ⟨rfl, rfl⟩ | ⟨rfl, rfl⟩
    · exact key (uq_ok1 p.den v.den u.den y n m) (hu ⟨hi, ht⟩) e1
    · rw [hp] at hpi; cases hpi
  · rcases hik with ⟨rfl, rfl⟩ | ⟨rfl, rfl⟩
    · rw [hp] at hpi; cases hpi
    · exact key (uq_ok2 p.den v.den u.den y n m) (hu ⟨hi, ht⟩) e2
/- Valid. -/
section
variable (b : Bool) (p v : Int) (y : Option Addr) (l m : Nat)
end
end Go.Proofs.YtbmgahpjgefjaaaGreatDoor.Aes


/-
  The profiles: the chapter's examples hold.
-/
namespace Go.Proofs.YtbmgahpjgefjaaaGreatDoor.Aes
open Go.Sim
open Go.Proofs
variable {α : Type}

set_option maxRecDepth 1000000
noncomputable def cfgX (F : HashF) (E : CtsF) : Cfg := cfgG globP (sumsOf [(48, findS), (37, usableS), (50, kindsS), (17, copyS), (12, sealS F E), (15, openS)])
theorem cfgXOK : CfgOK (cfgX shaF encF) := sumsG_ok (allS (findOK _) (allS (usableOK _) (allS (kindsOK _) (allS (copyOK _) (allS sealOK (allS (openOK _) (by simp)))))))
noncomputable def knT (F : HashF) (E : CtsF) : Tree := callSim (cfgX F E) 5000 11 [] (shaHP [])
noncomputable def kaS (n : Nat) : Sl := ⟨fun i => byteAt (repN 0#8 n) (0 + i), n, 0, n, true, 0⟩
noncomputable def helloS : Sl := ⟨byteAt [104#8, 101#8, 108#8, 108#8, 111#8], 5, 0, 5, true, 0⟩
noncomputable def opN : Prop := ((0 : Int) ≤ 2 ∧ (2 : Int) ≤ 65535) ∧ (1 : Int) ≤ 1 ∧ (1 : Int) ≤ 1023
noncomputable def knC (F : HashF) (E : CtsF) : List Prop :=
  [(0 + 16 ≤ 16 ∧ 16 ≤ 1099511627776), (0 + 32 ≤ 32 ∧ 32 ≤ 1099511627776), IsB (byteF (kaS 16).X), seOK (.lit 0) (.lit 1) (kaS 16) z16 16 16, (0 + 5 ≤ 5 ∧ 5 ≤ 208), IsB (byteF (kaS 32).X), seOK (.lit 0) (.lit 1) (kaS 32) z16 32 16, 0 + 5 ≤ 5, false = false, false = false,
   IsB (byteF (kaS 16).X), IsB (byteF (two (cphS F E (kaS 16) z16 helloS 1) (tag1S F E (kaS 16) z16 helloS 1))), opN, 31 ≤ 37, IsB (byteF (kaS 16).X), IsB (byteF (two (cphS F E (kaS 16) z16 helloS 1) (tag1S F E (kaS 16) z16 helloS 1))), opN, 31 < 32,
   IsB (byteF (kaS 16).X), IsB (byteF (two (cph5 F (kaS 32) z16 helloS 1) (tag5 F (kaS 32) z16 helloS 1))), opN]
theorem kn_run (F : HashF) (E : CtsF) : outO [] (knT F E) [false, false] = (knC F E, some (.bool (.lit true), [])) := by kernel_rfl
noncomputable def knS : Summ := fun args H _ => args0 args (shaTP H (.ok ⟨.bool (.lit true), [], []⟩))
theorem knOK : SumAt Tryz.prog globP 11 knS := by
  intro O w0 β H w base args vs hH hG ha
  refine args0_sat fun hv => shaTP_sat fun hT => ?_
  rw [hv] at ha
  have hop : opN := ⟨⟨by omega, by omega⟩, by omega, by omega⟩
  have hse : ∀ n, seOK (.lit 0) (.lit 1) (kaS n) z16 n 16 := fun n => ⟨⟨by show (0 : Int) ≤ 0; omega, by show (0 : Int) ≤ 65535; omega⟩, ⟨by show (1 : Int) ≤ 1; omega, by show (1 : Int) ≤ 1023; omega⟩, by show 0 + n ≤ n; omega, by show 0 + 16 ≤ 16; omega⟩
  refine sum_outOG cfgXOK 5000 hH (shaIP [] [] []) (shaIP_glob hG) ha (Ifc.fits (by simp [shaIP]) rfl (shaIP_ents hT trivial)) [] (by simp) (by simp) (kn_run shaF encF) ?_ fun _ _ => ends0 rfl rfl rfl
  exact all_cons ⟨by omega, by omega⟩ (all_cons ⟨by omega, by omega⟩ (all_cons (byteF_isB _) (all_cons (hse 16) (all_cons ⟨by omega, by omega⟩ (all_cons (byteF_isB _) (all_cons (hse 32) (all_cons (by omega) (all_cons rfl (all_cons rfl
    (all_cons (byteF_isB _) (all_cons (byteF_isB _) (all_cons hop (all_cons (by omega) (all_cons (byteF_isB _) (all_cons (byteF_isB _) (all_cons hop (all_cons (by omega) (all_cons (byteF_isB _) (all_cons (byteF_isB _) (all_cons hop all_nil))))))))))))))))))))
end Go.Proofs.YtbmgahpjgefjaaaGreatDoor.Aes


/-
  ProfileKeys: the lengths of a profile and whether a key is valid, as values of which it is known what they are.
-/
namespace Go.Proofs.YtbmgahpjgefjaaaGreatDoor.Aes
open Go.Sim
open Go.Proofs
variable {α : Type}

set_option maxRecDepth 1000000
noncomputable def vlB (p v : Int) (l : Nat) : Bool := @decide (validK p v l) (Classical.propDecidable _)
theorem vlB_iff {p v : Int} {l : Nat} : vlB p v l = true ↔ validK p v l := by
  unfold vlB; exact @decide_eq_true_iff _ (Classical.propDecidable _)
noncomputable def vyS : Summ := fun args _ _ => args1 args fun kv => keyN kv fun p v l => .ok ⟨.bool (.sym (vlB p.den v.den l)), [], []⟩
/-- a length, by the profile -/
noncomputable def lyI (a b p : Int) : Int := if p = 1 then a else if p = 2 then b else 0
noncomputable def lyS (a b : Int) : Summ := fun args _ _ => args1 args fun pv => i64O pv fun p => .ok ⟨.int .i64 (.sym (lyI a b p.den)), [], []⟩
theorem endsI {I : Ifc} {base : Nat} {n m : SI} {H : List SO} (ho : ownsOf I.ents 0 = []) (h : n.den = m.den) : I.Ends base [] ⟨.int .i64 m, [], []⟩ (.int .i64 n) H := by
  refine ⟨?_, rfl, by rw [ho]; trivial, trivial⟩
  exact int_imp0 h
theorem lyOK {f : FuncId} {a b : Int} (h : ∀ p : Int, outO [] (callSim cfgF 400 f [.int .i64 (.sym p)] []) [true] = ([(p == 1) = true], some (.int .i64 (.lit a), []))) (h2 : ∀ p : Int, outO [] (callSim cfgF 400 f [.int .i64 (.sym p)] []) [false, true] = ([(p == 1) = false, (p == 2) = true], some (.int .i64 (.lit b), []))) (h0 : ∀ p : Int, outO [] (callSim cfgF 400 f [.int .i64 (.sym p)] []) [false, false] = ([(p == 1) = false, (p == 2) = false], some (.int .i64 (.lit 0), []))) : SumOK Tryz.prog f (lyS a b) := by
  intro glob O w0 β H w base args vs hH hG ha
  refine args1_sat fun pv hv => i64O_sat fun p hp => ?_
  subst hv hp
  have ha' : SV.denL β [.int .i64 (.sym p.den)] = some vs := denL1 ha (int_imp0 rfl)
  have key : ∀ {ds cs n}, outO [] (callSim cfgF 400 f [.int .i64 (.sym p.den)] []) ds = (cs, some (.int .i64 (.lit n), [])) → (∀ q ∈ cs, q) → n = lyI a b p.den → SumSem Tryz.prog H β w base f vs ⟨.int .i64 (.sym (lyI a b p.den)), [], []⟩ := by
    intro ds cs n hr hc hn
    exact sum_outO cfgFOK rfl 400 hH ⟨[], [], [.int .i64 (.sym p.den)]⟩ ha' (fits0 rfl) [] (by simp) (by simp) hr hc fun _ _ => endsI rfl hn
  show SumSem Tryz.prog H β w base f vs ⟨.int .i64 (.sym (lyI a b p.den)), [], []⟩
  by_cases h1 : p.den = 1
  · exact key (h _) (all_cons (by simp [h1]) all_nil) (by unfold lyI; rw [if_pos h1])
  · by_cases h2' : p.den = 2
    · exact key (h2 _) (all_cons (by simp [h1]) (all_cons (by simp [h2']) all_nil)) (by unfold lyI; rw [if_neg h1, if_pos h2'])
    · exact key (h0 _) (all_cons (by simp [h1]) (all_cons (by simp [h2']) all_nil)) (by unfold lyI; rw [if_neg h1, if_neg h2'])
theorem rlyOK : SumOK Tryz.prog 24 (lyS 16 32) := lyOK (fun p => by kernel_rfl) (fun p => by kernel_rfl) fun p => by kernel_rfl
/- The reference's Valid. -/
noncomputable def cfgRv : Cfg := cfgOf (sumsOf [(24, lyS 16 32)])
theorem cfgRvOK : CfgOK cfgRv := sumsOf_ok (all1 rlyOK)
noncomputable def rvT (p v : Int) (y : Option Addr) (l m : Nat) : Tree := callSim cfgRv 400 19 [kyV p v y l m] []
section
variable (p v : Int) (y : Option Addr) (l m : Nat)
theorem rv_a : outO [] (rvT p v y l m) [false, false, false, false, false, false, false, false] = (repN (decide (lyI 16 32 p > 0) = false) 8, some (.bool (.lit false), [])) := by kernel_rfl
theorem rv_b : outO [] (rvT p v y l m) [true, false, false, false, false] = ((decide (lyI 16 32 p > 0) = true) :: repN (((l : Int) == lyI 16 32 p) = false) 4, some (.bool (.lit false), [])) := by kernel_rfl
theorem rv_c : outO [] (rvT p v y l m) [true, true, false, false, false, false] = ((decide (lyI 16 32 p > 0) = true) :: (((l : Int) == lyI 16 32 p) = true) :: repN (decide (v ≥ 0) = false) 4, some (.bool (.lit false), [])) := by kernel_rfl
theorem rv_d : outO [] (rvT p v y l m) [true, true, true] = ([decide (lyI 16 32 p > 0) = true, ((l : Int) == lyI 16 32 p) = true, decide (v ≥ 0) = true], some (.bool (.sym (decide (v ≤ 65535))), [])) := by kernel_rfl
end
theorem lyI_valid {p : Int} {l : Nat} : (0 < lyI 16 32 p ∧ (l : Int) = lyI 16 32 p) ↔ ((p = 1 ∧ l = 16) ∨ (p = 2 ∧ l = 32)) := by
  unfold lyI
  by_cases h1 : p = 1
  · rw [if_pos h1]; omega
  · rw [if_neg h1]
    by_cases h2 : p = 2
    · rw [if_pos h2]; omega
    · rw [if_neg h2]; omega
theorem rvyOK : SumOK Tryz.prog 19 vyS := by
  intro glob O w0 β H w base args vs hH hG ha
  refine args1_sat fun kv hv => keyN_sat fun p v s n hk hs => ?_
  subst hv hk
  obtain ⟨y, m, ha'⟩ := keyN_den ha hs
  have key : ∀ {ds cs b}, outO [] (rvT p.den v.den y n m) ds = (cs, some (.bool b, [])) → (∀ q ∈ cs, q) → b.den = vlB p.den v.den n → SumSem Tryz.prog H β w base 19 vs ⟨.bool (.sym (vlB p.den v.den n)), [], []⟩ := by
    intro ds cs b hr hc hb
    exact sum_outO cfgRvOK rfl 400 hH ⟨[], [], [kyV p.den v.den y n m]⟩ ha' (fits0 rfl) [] (by simp) (by simp) hr hc fun _ _ => endsBo rfl hb
  have no : ¬ validK p.den v.den n → (SB.lit false).den = vlB p.den v.den n := fun h => by
    symm; show vlB _ _ _ = false
    rw [Bool.eq_false_iff]; exact fun e => h (vlB_iff.1 e)
  by_cases h1 : 0 < lyI 16 32 p.den
  · by_cases h2 : (n : Int) = lyI 16 32 p.den
    · have hp := lyI_valid.1 ⟨h1, h2⟩
      by_cases h3 : 0 ≤ v.den
      · refine key (rv_d p.den v.den y n m) (all_cons (decide_eq_true h1) (all_cons (by simp [h2]) (all_cons (decide_eq_true h3) all_nil))) ?_
        show decide (v.den ≤ 65535) = _
        rw [Bool.eq_iff_iff, vlB_iff, decide_eq_true_iff]
        exact ⟨fun h => ⟨hp, h3, h⟩, fun h => h.2.2⟩
      · exact key (rv_c p.den v.den y n m) (all_cons (decide_eq_true h1) (all_cons (by simp [h2]) (repN_all (decide_eq_false h3) 4))) (no fun h => h3 h.2.1)
    · exact key (rv_b p.den v.den y n m) (all_cons (decide_eq_true h1) (repN_all (by rw [beq_eq_false_iff_ne]; exact h2) 4)) (no fun h => h2 (lyI_valid.2 h.1).2)
  · exact key (rv_a p.den v.den y n m) (repN_all (decide_eq_false h1) 8) (no fun h => h1 (lyI_valid.2 h.1).1)
/- A copy of a key of a known length: its bytes one by one. -/
/- The law's configuration. -/
end Go.Proofs.YtbmgahpjgefjaaaGreatDoor.Aes


/-
  The profiles: the key stream, where the confounder and the text lie in one block: the loops.
-/
namespace Go.Proofs.YtbmgahpjgefjaaaGreatDoor.Aes
open Go.Sim
open Go.Proofs
variable {α : Type}

set_option maxRecDepth 1000000
/-- another part of the same block -/
noncomputable def Sl.cut (t : Sl) (o n : Nat) : Sl := ⟨t.X, t.N, o, n, false, 0⟩
section
variable (F : HashF) (k t : Sl) (o n m m2 m3 : Nat) (A : SgA) (J : Junk) (z : Nat → Nat → Nat)
end
end Go.Proofs.YtbmgahpjgefjaaaGreatDoor.Aes


/-
  The profiles: the key stream, where the confounder and the text lie in one block: the summary.
-/
namespace Go.Proofs.YtbmgahpjgefjaaaGreatDoor.Aes
open Go.Sim
open Go.Proofs
variable {α : Type}

set_option maxRecDepth 1000000
noncomputable def shD (F : HashF) (k c t : Sl) (v : SV) (H : List SO) : Prop := v = joinV 6 t.n ∧ ∃ G, (∀ p, p < t.n → G p = strG F k c t p) ∧ H[6]? = some (.own (.fn (byteF G) t.n) false 5)
end Go.Proofs.YtbmgahpjgefjaaaGreatDoor.Aes


/-
  The profiles: Seal, Open and Sum, where it is told that they end in an error; strings of which the lengths alone are known.
-/
namespace Go.Proofs.YtbmgahpjgefjaaaGreatDoor.Aes
open Go.Sim
open Go.Proofs
variable {α : Type}

set_option maxRecDepth 1000000
noncomputable def cfgQ (us : Summ) : Cfg := cfgOf (sumsOf [(37, us)])
theorem cfgQ0 : CfgOK (cfgQ uqE) := sumsOf_ok (all1 uqEOK)
noncomputable def vSl (y : Option Addr) (n m : Nat) : SV := .val (.slice y n m)
/- Seal. -/
section
variable (p v u sp sv : Int) (y : Option Addr) (l m : Nat) (y1 : Option Addr) (l1 m1 : Nat) (y2 : Option Addr) (l2 m2 : Nat)
end
theorem lenQ_den {β : Val} {v : SV} {n : Nat} {x : Value} (h : ∀ β x, v.den β = some x → ∃ y m, x = .slice y n m) (hx : v.den β = some x) : ∃ y m, (vSl y n m).den β = some x := by
  obtain ⟨y, m, rfl⟩ := h _ _ hx
  exact ⟨y, m, rfl⟩
/- Open. -/
section
variable (p v u sp sv : Int) (y : Option Addr) (l m : Nat) (y1 : Option Addr) (l1 m1 : Nat)
end
/-- a version of a sealed string fits a key's -/
def versQ (v sv : Int) : Prop := sv = v ∨ sv = 0 ∨ v = 0
theorem all_app {l r : List Prop} (h : ∀ q ∈ l, q) (h' : ∀ q ∈ r, q) : ∀ q ∈ app l r, q := by
  intro q hq
  rw [app_eq, List.mem_append] at hq
  exact hq.elim (h q) (h' q)
/- Sum. -/
end Go.Proofs.YtbmgahpjgefjaaaGreatDoor.Aes

