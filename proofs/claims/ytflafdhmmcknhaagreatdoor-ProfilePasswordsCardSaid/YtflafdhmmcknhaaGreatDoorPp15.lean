/-
  Texts behind one another: the symbolic simulator and what it is told of the program.
-/
import Derived.Test.YtflafdhmmcknhaaGreatDoorPzPwa0
import Derived.Test.YtflafdhmmcknhaaGreatDoorPzPwa1
import Derived.Test.YtflafdhmmcknhaaGreatDoorPzPwa2
import Derived.Test.YtflafdhmmcknhaaGreatDoorPzPwa3
import Derived.Test.YtflafdhmmcknhaaGreatDoorPzRmc3
import Derived.Test.YtflafdhmmcknhaaGreatDoorPp13
import Derived.Test.YtflafdhmmcknhaaGreatDoorPp9
import Derived.Test.YtflafdhmmcknhaaGreatDoorPp6
import Derived.Test.YtflafdhmmcknhaaGreatDoorRows
import Derived.Lib.LaidPrint
import Derived.Lib.LaidTab
import Derived.MakeChecks

/-
  The reference's keyed hash: the key block of a key of any length, HMAC with such a key.
-/
namespace Go.Proofs.YtflafdhmmcknhaaGreatDoor.Aes
open Go.Sim
open Go.Proofs
variable {α : Type}

set_option maxRecDepth 1000000
theorem mapN_atP {β : Type} {f g : Nat → β} {k b : Nat} (h : mapN f (fromN k b) = mapN g (fromN k b)) {l : Nat} (h1 : b ≤ l) (h2 : l < b + k) : f l = g l := by
  rw [mapN_eq, mapN_eq, fromN_eqr] at h
  have h3 : ∀ f : Nat → β, (List.map f (List.range' b k))[l - b]? = some (f l) := fun f => by
    rw [List.getElem?_map, List.getElem?_range' (by omega)]
    simp only [Option.map_some]
    rw [show b + 1 * (l - b) = l from by omega]
  have h4 := h3 f
  rw [h, h3 g] at h4
  exact (Option.some.inj h4).symm
theorem rb_lit (F : HashF) (k : Sl) (x : BitVec 8) (m : Nat) {n : Nat} (h : n ≤ 64) : outO [5] (rbN F (k.pl m) n x) [] = (need1 (fun i => k.o + i < k.N) n, some (rbV 5, [some (rbE (rbL k n x))])) := by
  rcases (show n < 16 ∨ (16 ≤ n ∧ n < 32) ∨ (32 ≤ n ∧ n < 48) ∨ (48 ≤ n ∧ n < 65) by omega) with h | h | h | h
  · exact mapN_atP (rb_lits0 F k x m) (Nat.zero_le _) (by omega)
  · exact mapN_atP (rb_lits1 F k x m) h.1 (by omega)
  · exact mapN_atP (rb_lits2 F k x m) h.1 (by omega)
  · exact mapN_atP (rb_lits3 F k x m) h.1 (by omega)
/-- the key block -/
noncomputable def rbX (F : HashF) (k : Sl) (x : BitVec 8) : List (BitVec 8) := tabB (xorP F k.F k.n x) 64
theorem rbX_le {k : Sl} {x : BitVec 8} (h : k.n ≤ 64) : rbL k k.n x = rbX shaF k x := by
  refine tabB_congr fun i hi => ?_
  unfold xorP keyP
  rw [if_pos h]
  rfl
theorem rbX_gt {k : Sl} {x : BitVec 8} (h : ¬ k.n ≤ 64) : rbM shaF k x = rbX shaF k x := by
  refine tabB_congr fun i hi => ?_
  unfold xorP keyP
  rw [if_neg h]
  rfl
noncomputable def rbG (F : HashF) : Summ := fun args H base => args2 args fun kv xv => optC (unb1 xv) (.stuck 860) fun x => shaT H (partL H kv fun k _ => .need (k.o + k.n ≤ k.N ∧ k.n ≤ 1099511627776) (.ok ⟨rbV base, [], [rbE (rbX F k x)]⟩))
theorem rbGOK : SumAt Tryz.prog globS 67 (rbG shaF) := by
  intro O w0 β H w base args vs hH hG ha
  refine args2_sat fun kv xv hv => optC_only fun x hx => shaT_sat fun hT => partL_sat fun k kn hn ht hk => fun ⟨hle, hb⟩ => ?_
  rw [hv] at ha
  obtain ⟨xk, ys, hxk, hys, rfl⟩ := denL_cons.1 ha
  obtain ⟨m, _, hks⟩ := Sl.val_den (hk _ _ hxk)
  by_cases h : k.n ≤ 64
  · rw [← rbX_le h]
    have hks' : ((k.pl m).valN kn k.n).den β = some xk := slice_len_imp (l := .sym k.n) (l' := .lit k.n) rfl _ _ hks
    refine sum_outOG cfgRbOK 8000 hH (shaI [kn] [k.row] [(k.pl m).valN 4 k.n, .int .u8 (.b8 x)]) (shaI_glob hG) ?_ (Ifc.fits (nd5 hn) ?_ (shaI_ents hT ⟨⟨ht _, k.row_uses _⟩, trivial⟩)) [5] (by simp [shaI]) (by simp) (rb_lit shaF k x m h) (need1_all fun i h => by omega) fun H2 hH2 => endsRb rfl rfl (List.cons.inj hH2).1
    · show SV.denL β [((k.pl m).valN 4 k.n).ren _, .int .u8 (.b8 x)] = _
      rw [Sl.valN_ren]; exact denL_cons.2 ⟨_, _, hks', impL_cons (unb1_imp hx) impL_nil _ _ hys, rfl⟩
    · show (((k.pl m).valN 4 k.n).uses _ && (true && true)) = true
      rw [Sl.valN_uses _ _ _ _ rfl]; rfl
  · rw [← rbX_gt h]
    refine sum_outOG cfgRbOK 8000 hH (shaI [kn] [k.row] [(k.pl m).val 4, .int .u8 (.b8 x)]) (shaI_glob hG) ?_ (Ifc.fits (nd5 hn) ?_ (shaI_ents hT ⟨⟨ht _, k.row_uses _⟩, trivial⟩)) [5] (by simp [shaI]) (by simp) (rb_big shaF k x m) (all_cons (decide_eq_true (by omega)) (all_cons (byteF_isB _) (all_cons ⟨hle, hb⟩ all_nil))) fun H2 hH2 => endsRb rfl rfl (List.cons.inj hH2).1
    · show SV.denL β [((k.pl m).val 4).ren _, .int .u8 (.b8 x)] = _
      rw [Sl.val_ren]; exact denL_cons.2 ⟨_, _, hks, impL_cons (unb1_imp hx) impL_nil _ _ hys, rfl⟩
    · show (((k.pl m).val 4).uses _ && (true && true)) = true
      rw [Sl.val_uses _ _ _ rfl]; rfl
/- HMAC. -/
noncomputable def cfgRg (F : HashF) : Cfg := cfgG globS (sumsOf [(66, hash32 F), (67, rbG F)])
theorem cfgRgOK : CfgOK (cfgRg shaF) := sumsG_ok (allS hash32OK (allS rbGOK (by simp)))
noncomputable def rgT (F : HashF) (k : Sl) (b : SV) (r : List SO) : Tree := callSim (cfgRg F) 8000 47 [k.val 4, b] (shaH (k.row :: r))
noncomputable def rgI (F : HashF) (k : Sl) (b : Sl) : Nat → BitVec 8 := catB (fun i => byteAt (rbX F k 0x36#8) (0 + i)) 64 (fun i => b.X (b.o + i))
noncomputable def rgO (F : HashF) (k : Sl) (I : Nat → BitVec 8) (l : Nat) : List (BitVec 8) := F (fun i => byteAt (app (rbX F k 0x5c#8) (tabB (byteAt (F (fun i => I (0 + i)) l)) 32)) (0 + i)) 96
def kOk (k : Sl) : Prop := k.o + k.n ≤ k.N ∧ k.n ≤ 1099511627776
section
variable (F : HashF) (k b : Sl) (m m2 : Nat)
theorem rg_run : outO [11] (rgT F (k.pl m) ((b.pl m2).val 5) [(b.pl m2).row]) [] = ([IsB (byteF k.X), kOk k, b.o + b.n ≤ b.N ∧ IsB (byteF b.X), 64 ≤ 64, 64 < 64 + b.n ∧ ((64 + b.n) * 1 < 140737488355328 ∧ 64 + b.n < 140737488355328) ∧ 1 = 1, IsB (byteF (rgI F k b)), 0 + (64 + b.n) ≤ 64 + b.n ∧ 64 + b.n ≤ 1099511627776, IsB (byteF k.X), kOk k, 96 ≤ 96 ∧ 96 ≤ 1099511627776], rhR 11 (rgO F k (rgI F k b) (64 + b.n))) := by kernel_rfl
theorem rg_zero : outO [10] (rgT F (k.pl m) ((b.pl m2).valN 5 0) [(b.pl m2).row]) [] = ([IsB (byteF k.X), kOk k, b.o + 0 ≤ b.N, 64 ≤ 64 ∧ 64 ≤ 1099511627776, IsB (byteF k.X), kOk k, 96 ≤ 96 ∧ 96 ≤ 1099511627776], rhR 10 (rgO F k (byteAt (rbX F k 0x36#8)) 64)) := by kernel_rfl
end
theorem rbX_at {k : Sl} {x : BitVec 8} {i : Nat} (hi : i < 64) : byteAt (rbX shaF k x) i = xorP shaF k.F k.n x i := byteAt_tab hi
theorem rgO_eq {k : Sl} {I M : Nat → BitVec 8} {m : Nat} (hI : ∀ i, i < 64 + m → I i = catF (xorP shaF k.F k.n 0x36#8) 64 M i) : rgO shaF k I (64 + m) = macB shaF k.F k.n M m := by
  unfold rgO macB
  have h1 : shaF (fun i => I (0 + i)) (64 + m) = shaF (catF (xorP shaF k.F k.n 0x36#8) 64 M) (64 + m) := shaF_congr fun i hi => by rw [Nat.zero_add, hI i hi]
  rw [h1]
  refine shaF_congr fun i hi => ?_
  have h64 : (rbX shaF k 0x5c#8).length = 64 := tabB_length _ _
  rw [Nat.zero_add, app_at, h64]
  unfold catF
  by_cases c : i < 64
  · rw [if_pos c, if_pos c, rbX_at c]
  · rw [if_neg c, if_neg c, byteAt_tab (by omega)]
theorem rgI_eq {k b : Sl} : ∀ i, i < 64 + b.n → rgI shaF k b i = catF (xorP shaF k.F k.n 0x36#8) 64 b.F i := fun i _ => by
  unfold rgI catB catF
  by_cases c : i < 64
  · rw [if_pos c, if_pos c]
    show byteAt (rbX shaF k 54#8) (0 + i) = _
    rw [Nat.zero_add, rbX_at c]
  · rw [if_neg c, if_neg c]; rfl
noncomputable def rhG (F : HashF) : Summ := fun args H base => args2 args fun kv bv => shaT H (partL H kv fun k kn => partL H bv fun b bn => boolC (distN [kn, bn]) (.need (kOk k ∧ okL b ∧ b.n ≤ 1099511627712) (.ok ⟨mkV base, [], [mkE (tagS F k b)]⟩)) (.stuck 861))
theorem rhGOK : SumAt Tryz.prog globS 47 (rhG shaF) := by
  intro O w0 β H w base args vs hH hG ha
  refine args2_sat fun kv bv hv => shaT_sat fun hT => partL_sat fun k kn hn1 ht1 hi1 => partL_sat fun b bn hn2 ht2 hi2 => boolC_only fun hd => fun ⟨hle, hb, hbig⟩ => ?_
  rw [hv] at ha
  obtain ⟨xk, ys, hxk, hys, rfl⟩ := denL_cons.1 ha
  obtain ⟨xb, zs, hxb, hzs, rfl⟩ := denL_cons.1 hys
  obtain ⟨m, _, hks⟩ := Sl.val_den (hi1 _ _ hxk)
  obtain ⟨m2, _, hbs⟩ := Sl.val_den (hi2 _ _ hxb)
  have n3 : ∀ {x : Nat}, x ∈ [kn, bn] → newOne x = true := by simp only [List.mem_cons, List.not_mem_nil, or_false]; rintro x (rfl | rfl) <;> assumption
  have key : ∀ {bv' : SV} {I : Nat → BitVec 8} {l j cs}, (bv'.ren (shaI [kn, bn] [k.row, b.row] []).big).den β = some xb → bv'.uses (shaI [kn, bn] [k.row, b.row] []).known = true → (shaI [kn, bn] [k.row, b.row] []).known j = false → 6 ≤ j →
      outO [j] (rgT shaF (k.pl m) bv' [(b.pl m2).row]) [] = (cs, rhR j (rgO shaF k I l)) → rgO shaF k I l = tagS shaF k b → (∀ q ∈ cs, q) → SumSem Tryz.prog H β w base 47 (xk :: xb :: zs) ⟨mkV base, [], [mkE (tagS shaF k b)]⟩ := by
    intro bv' I l j cs hb' hu hj h6 hr hE hc
    rw [hE] at hr
    refine sum_outOG cfgRgOK 8000 hH (shaI [kn, bn] [k.row, b.row] [(k.pl m).val 4, bv']) (shaI_glob hG) ?_ (Ifc.fits (nd4 hd fun _ => n3) ?_ (shaI_ents hT ⟨⟨ht1 _, k.row_uses _⟩, ⟨ht2 _, b.row_uses _⟩, trivial⟩)) [j] (by simp [shaI]; omega) (by simp) hr hc fun H2 hH2 => endsM hj rfl (List.cons.inj hH2).1
    · show SV.denL β [((k.pl m).val 4).ren _, bv'.ren _] = _
      rw [Sl.val_ren]; exact denL_cons.2 ⟨_, _, hks, denL_cons.2 ⟨_, _, hb', hzs, rfl⟩, rfl⟩
    · show (((k.pl m).val 4).uses _ && (bv'.uses _ && true)) = true
      rw [Sl.val_uses _ _ _ rfl, show bv'.uses (shaI [kn, bn] [k.row, b.row] [(k.pl m).val 4, bv']).known = true from hu]; rfl
  by_cases h0 : b.n = 0
  · have hb0 : (((b.pl m2).valN 5 0).ren (shaI [kn, bn] [k.row, b.row] []).big).den β = some xb := by
      rw [Sl.valN_ren]
      exact slice_len_imp (l := .sym b.n) (l' := .lit 0) h0 _ _ hbs
    have hE : rgO shaF k (byteAt (rbX shaF k 0x36#8)) 64 = tagS shaF k b := by
      refine (rgO_eq (M := b.F) (m := 0) fun i hi => ?_).trans ?_
      · rw [rbX_at (by omega)]; unfold catF; rw [if_pos (by omega)]
      · unfold tagS; rw [h0]
    exact key hb0 (Sl.valN_uses _ _ _ _ rfl) rfl (by omega) (rg_zero shaF k b m m2) hE (all_cons (byteF_isB _) (all_cons hle (all_cons (by have := hb.1; omega) (all_cons ⟨by omega, by omega⟩ (all_cons (byteF_isB _) (all_cons hle (all_cons ⟨by omega, by omega⟩ all_nil)))))))
  · have hb0 : (((b.pl m2).val 5).ren (shaI [kn, bn] [k.row, b.row] []).big).den β = some xb := by
      rw [Sl.val_ren]; exact hbs
    exact key hb0 (Sl.val_uses _ _ _ rfl) rfl (by omega) (rg_run shaF k b m m2) (rgO_eq rgI_eq) (all_cons (byteF_isB _) (all_cons hle (all_cons ⟨hb.1, byteF_isB _⟩ (all_cons (by omega) (all_cons ⟨by omega, ⟨by omega, by omega⟩, rfl⟩ (all_cons (byteF_isB _) (all_cons ⟨by omega, by omega⟩ (all_cons (byteF_isB _) (all_cons hle (all_cons ⟨by omega, by omega⟩ all_nil))))))))))
end Go.Proofs.YtflafdhmmcknhaaGreatDoor.Aes


/-
  The keyed hash: Equal's summary, for strings of which the first has 16 or 32 bytes.
-/
namespace Go.Proofs.YtflafdhmmcknhaaGreatDoor.Aes
open Go.Sim
open Go.Proofs
variable {α : Type}

set_option maxRecDepth 1000000
noncomputable def orF (X Y : Nat → BitVec 8) (n : Nat) : BitVec 8 := Nat.rec (motive := fun _ => BitVec 8) (BitVec.ofInt 8 0) (fun j ih => ih ||| (X j ^^^ Y j)) n
section
variable (a b : Sl) (m m2 : Nat)
end
end Go.Proofs.YtflafdhmmcknhaaGreatDoor.Aes


/-
  The profiles: Open, where it ends in an error; what is known.
-/
namespace Go.Proofs.YtflafdhmmcknhaaGreatDoor.Aes
open Go.Sim
open Go.Proofs
variable {α : Type}

set_option maxRecDepth 1000000
noncomputable def cfgOp : Cfg := cfgOf (sumsOf [(26, usableS)])
theorem cfgOpOK : CfgOK cfgOp := sumsOf_ok (all1 usableOK)
noncomputable def opT (v u sp sv : Int) (k t : Sl) : Tree := callSim cfgOp 4000 15 [.agg [.int .i64 (.lit 1), .int .i64 (.sym v), k.valN 0 16], .int .i64 (.sym u), .agg [.int .i64 (.sym sp), .int .i64 (.sym sv), t.val 1]] [k.row, t.row]
noncomputable def opC (v u : Int) (r : List Prop) : List Prop := (decide (0 ≤ v) = true) :: (decide (v ≤ 65535) = true) :: (decide (1 ≤ u) = true) :: (decide (u ≤ 1023) = true) :: r
noncomputable def opV (e : Int) : SV := .tuple [.nilSlice, .int .i64 (.lit e)]
section
variable (v u sp sv : Int) (k t : Sl) (m m2 : Nat)
theorem op_prof : outO [] (opT v u sp sv (k.pl m) (t.pl m2)) [true, true, true, true, true, true, true, true, true, true, true, true, true, true] = (opC v u (repN ((sp != 1) = true) 10), some (opV 9, [])) := by kernel_rfl
theorem op_vers : outO [] (opT v u sp sv (k.pl m) (t.pl m2)) [true, true, true, true, false, true, true, true] = (opC v u [(sp != 1) = false, (sv != v) = true, (sv != 0) = true, (v != 0) = true], some (opV 9, [])) := by kernel_rfl
theorem op_short : outO [] (opT v u sp sv (k.pl m) (t.pl m2)) [true, true, true, true, false, false, false, false, false, true] = (opC v u [(sp != 1) = false, (sv != v) = false, (sv != v) = false, (sv != v) = false, (sv != v) = false, inI64 ((t.n : Int) - 16), decide ((t.n : Int) - 16 < 16) = true], some (opV 4, [])) := by kernel_rfl
end
noncomputable def opR (e : Int) : R SumRes := .ok ⟨opV e, [], []⟩
noncomputable def openS : Summ := fun args H _ => args3 args fun kv uv zv => kv.asAgg (.stuck 797) fun l => args3 l fun p v s => optC (litI p) (.stuck 797) fun p => boolC (Nat.beq p 1) (i64O v fun v => i64O uv fun u => zv.asAgg (.stuck 797) fun l2 => args3 l2 fun sp sv ss => i64O sp fun sp => i64O sv fun sv =>
  partN H s fun _ kn n => boolC (Nat.beq n 16) (partL H ss fun t tn => boolC (distN [kn, tn]) (.need ((0 ≤ v.den ∧ v.den ≤ 65535) ∧ 1 ≤ u.den ∧ u.den ≤ 1023)
    (isI sp 1 (sv.asLit (.stuck 797) fun a => v.asLit (.stuck 797) fun b => boolC (eqI a b) (.need (t.n < 32) (opR 4)) (boolC (eqI a 0) (.stuck 797) (boolC (eqI b 0) (.stuck 797) (opR 9)))) (opR 9))) (.stuck 797)) (.stuck 797)) (.stuck 797)
theorem repN_all {p : Prop} (h : p) : ∀ n, ∀ q ∈ repN p n, q := by
  intro n q hq
  rw [repN_eq] at hq
  rw [List.eq_of_mem_replicate hq]; exact h
theorem openOK : SumOK Tryz.prog 15 openS := by
  intro glob O w0 β H w base args vs hH hG ha
  refine args3_sat fun kv uv zv hv => ?_
  rcases asAgg_cases kv with ⟨l, rfl⟩ | hno
  case inr => rw [hno]; trivial
  refine args3_sat fun p v s hl => optC_only fun p0 hp => boolC_only fun hp1 => i64O_sat fun v' hv' => i64O_sat fun u hu => ?_
  rcases asAgg_cases zv with ⟨l2, rfl⟩ | hno
  case inr => rw [hno]; trivial
  refine args3_sat fun sp sv ss hl2 => i64O_sat fun sp' hsp => i64O_sat fun sv' hsv => partN_sat fun k kn n hn1 ht1 hi1 hkn => boolC_only fun h16 => partL_sat fun t tn hn2 ht2 hi2 => boolC_only fun hd => fun ⟨⟨hv1, hv2⟩, hu1, hu2⟩ => ?_
  have h16 := beq_spec h16
  have hp1 := beq_spec hp1
  subst hl hv' hu hl2 hsp hsv h16 hp1
  rw [hv, litI_spec hp] at ha
  obtain ⟨⟨xs, hxs⟩, zs, hzs⟩ := agg3_at ha
  obtain ⟨m, hks⟩ := Sl.valN_den (hi1 _ _ hxs)
  obtain ⟨xu, zs1, hxu, hzs1, rfl⟩ := denL_cons.1 hzs
  obtain ⟨⟨xt, hxt⟩, zs2, hzs2⟩ := agg3_at hzs1
  obtain ⟨m2, _, hts⟩ := Sl.val_den (hi2 _ _ hxt)
  have h2 : SV.denL β [.agg [.int .i64 (.sym sp'.den), .int .i64 (.sym sv'.den), (t.pl m2).val tn]] = some zs1 := agg3_den hzs1 (fun x hx => by rw [hxt] at hx; cases hx; exact hts) (int_imp0 rfl) (int_imp0 rfl)
  have h1 : SV.denL β [.agg [.int .i64 (.lit 1), .int .i64 (.sym v'.den), (k.pl m).valN kn 16], .int .i64 (.sym u.den), .agg [.int .i64 (.sym sp'.den), .int .i64 (.sym sv'.den), (t.pl m2).val tn]] = some vs := by
    have h1 := agg3_den (s' := (k.pl m).valN kn 16) (p' := .int .i64 (.lit 1)) (v' := .int .i64 (.sym v'.den)) ha (fun x hx => by rw [hxs] at hx; cases hx; exact hks) (.refl _) (int_imp0 rfl)
    obtain ⟨xa, ws, hxa, hws, rfl⟩ := denL_cons.1 h1
    refine denL_cons.2 ⟨_, _, hxa, ?_, rfl⟩
    rw [hzs] at hws
    cases hws
    exact denL_cons.2 ⟨_, _, int_imp0 rfl _ _ hxu, h2, rfl⟩
  have key : ∀ {ds cs e}, outO [] (opT v'.den u.den sp'.den sv'.den (k.pl m) (t.pl m2)) ds = (opC v'.den u.den cs, some (opV e, [])) → (∀ q ∈ cs, q) → SumSem Tryz.prog H β w base 15 vs ⟨opV e, [], []⟩ := by
    intro ds cs e hr hc
    refine sum_outO cfgOpOK rfl 4000 hH ⟨[kn, tn], [k.row, t.row], [.agg [.int .i64 (.lit 1), .int .i64 (.sym v'.den), (k.pl m).valN 0 16], .int .i64 (.sym u.den), .agg [.int .i64 (.sym sp'.den), .int .i64 (.sym sv'.den), (t.pl m2).val 1]]⟩ ?_ (Ifc.fits (distN_spec hd) rfl ⟨⟨ht1 _, k.row_uses _⟩, ⟨ht2 _, t.row_uses _⟩, trivial⟩) [] (by simp) (by simp) hr (all_cons (decide_eq_true hv1) (all_cons (decide_eq_true hv2) (all_cons (decide_eq_true hu1) (all_cons (decide_eq_true hu2) hc)))) fun _ _ => ends0 rfl rfl rfl
    show SV.denL β [.agg [.int .i64 (.lit 1), .int .i64 (.sym v'.den), ((k.pl m).valN 0 16).ren _], .int .i64 (.sym u.den), .agg [.int .i64 (.sym sp'.den), .int .i64 (.sym sv'.den), ((t.pl m2).val 1).ren _]] = _
    rw [Sl.valN_ren, Sl.val_ren]
    exact h1
  refine isI_sat (fun hs1 => ?_) fun hs1 => ?_
  · have e1 : (sp'.den != 1) = false := by rw [hs1]; rfl
    cases sv' with
    | lit a =>
      cases v' with
      | lit b =>
        refine boolC_sat (fun hab => fun ht => ?_) fun hab => boolC_sat (fun _ => trivial) fun ha0 => boolC_sat (fun _ => trivial) fun hb0 => ?_
        · have hab := eqI_spec hab
          subst hab
          have e2 : ((SI.lit a).den != (SI.lit a).den) = false := by simp
          exact key (op_short (SI.lit a).den u.den sp'.den (SI.lit a).den k t m m2) (all_cons e1 (all_cons e2 (all_cons e2 (all_cons e2 (all_cons e2 (all_cons ⟨by omega, by omega⟩ (all_cons (decide_eq_true (by omega)) all_nil)))))))
        · have ne : ∀ {x y : Int}, eqI x y = false → (x != y) = true := fun {x y} h => by
            rw [bne_iff_ne]
            intro e
            subst e
            rw [eqI_eq] at h
            simp at h
          exact key (op_vers (SI.lit b).den u.den sp'.den (SI.lit a).den k t m m2) (all_cons e1 (all_cons (ne hab) (all_cons (ne ha0) (all_cons (ne hb0) all_nil))))
      | sym b => trivial
      | b8 b => trivial
      | b32 b => trivial
      | b64 b => trivial
    | sym a => trivial
    | b8 a => trivial
    | b32 a => trivial
    | b64 a => trivial
  · exact key (op_prof v'.den u.den sp'.den sv'.den k t m m2) (repN_all (by rw [bne_iff_ne]; exact hs1) 10)
end Go.Proofs.YtflafdhmmcknhaaGreatDoor.Aes


/-
  The reference of the profiles: Same and Equal; strings of bytes that are equal.
-/
namespace Go.Proofs.YtflafdhmmcknhaaGreatDoor.Aes
open Go.Sim
open Go.Proofs
variable {α : Type}

set_option maxRecDepth 1000000
section
variable (p v p' v' : Int) (x y : Sl) (m m2 : Nat)
end
end Go.Proofs.YtflafdhmmcknhaaGreatDoor.Aes


/-
  The profiles: the lengths of a profile.
-/
namespace Go.Proofs.YtflafdhmmcknhaaGreatDoor.Aes
open Go.Sim
open Go.Proofs
variable {α : Type}

set_option maxRecDepth 1000000
end Go.Proofs.YtflafdhmmcknhaaGreatDoor.Aes


/-
  The reference's derived keys.
-/
namespace Go.Proofs.YtflafdhmmcknhaaGreatDoor.Aes
open Go.Sim
open Go.Proofs
variable {α : Type}

set_option maxRecDepth 1000000
theorem rfourOK : SumOK Tryz.prog 48 numS := numOK fun u => by kernel_rfl
section
variable (F : HashF) (v u : Int) (k : Sl) (x : BitVec 8) (m : Nat)
end
/- Plain: the same bytes. -/
end Go.Proofs.YtflafdhmmcknhaaGreatDoor.Aes


/-
  Passwords: the keyed hash of parts, with a key that is there already.
-/
namespace Go.Proofs.YtflafdhmmcknhaaGreatDoor.Aes
open Go.Sim
open Go.Proofs
variable {α : Type}

set_option maxRecDepth 1000000
noncomputable def cfgPk : Cfg := cfgG globP (sumsOf [(39, mwSm), (40, msSm)])
theorem cfgPkOK : CfgOK cfgPk := sumsG_ok (allS mwOK (allS msOK (by simp)))
noncomputable def kyT (S : HSt) (ps : List SV) (rs : List SO) : Tree := callSim cfgPk 4000 37 [.slice ⟨5, .lit 0⟩ (.lit (lenN ps)) (.lit (lenN ps)), .ptr ⟨4, .lit 0⟩] (shaHP (.row (.lst [.ptr ⟨6, .lit 0⟩]) :: .row (.lst ps) :: .row (.lst (mcells S)) :: rs))
theorem ky_run1 (S : HSt) (a : Sl) : outO [] (kyT S [a.val 7] [a.row]) [] = (partC S (some a) (hmE (partF S (some a))), some (.agg (b32L (macF (norm (partF S (some a))))), [])) := by kernel_rfl
theorem ky_run2 (S : HSt) (a b : Sl) : outO [] (kyT S [a.val 7, b.val 8] [a.row, b.row]) [] = (partC S (some a) (partC (partF S (some a)) (some b) (hmE (partF (partF S (some a)) (some b)))), some (.agg (b32L (macF (norm (partF (partF S (some a)) (some b))))), [])) := by kernel_rfl
theorem write_n (S : HSt) (X : Nat → BitVec 8) (m : Nat) : (writeF S X m).n = S.n + m := by
  unfold writeF
  split
  · rfl
  · split <;> rfl
theorem part_n (S : HSt) (a : Sl) : (partF S (some a)).n = S.n + a.n := write_n _ _ _
theorem partC_n {S : HSt} (h0 : 0 < S.n) (hm : S.n ≤ 9007199254740992) {a : Sl} (ha : okL a) {r : List Prop} (hr : ∀ p ∈ r, p) : ∀ p ∈ partC S (some a) r, p := by
  have hn : (norm S).n = S.n := rfl
  obtain ⟨h1, h2⟩ := ha
  exact all_cons (by omega) (all_cons (by omega) (all_cons (byteF_isB _) (all_cons ⟨h1, by omega⟩ hr)))
theorem hmE_n {S : HSt} (h0 : 0 < S.n) (hm : S.n ≤ 9007199254740992) : ∀ p ∈ hmE S, p := by
  have hn : (norm S).n = S.n := rfl
  exact all_cons (by omega) (all_cons ⟨by omega, by omega⟩ all_nil)
noncomputable def kyR (S : HSt) : SumRes := ⟨.agg (b32L (macF (norm S))), [], []⟩
noncomputable def ky1 (H : List SO) (S : HSt) (cn pn mn : Nat) (l : List SV) : R SumRes := args1 l fun u => partL H u fun a an => boolC (distN [cn, pn, mn, an]) (.need (S.n = 64 ∧ okL a) (.ok (kyR (partF S (some a))))) (.stuck 776)
noncomputable def ky2 (H : List SO) (S : HSt) (cn pn mn : Nat) (l : List SV) : R SumRes := args2 l fun u v => partL H u fun a an => partL H v fun b bn => boolC (distN [cn, pn, mn, an, bn]) (.need (S.n = 64 ∧ okL a ∧ okL b) (.ok (kyR (partF (partF S (some a)) (some b))))) (.stuck 776)
noncomputable def kyS : Summ := fun args H _ => args2 args fun pv cv => shaTP H (optC (headP cv) (.stuck 777) fun cn => boolC (newOne cn) (optC (cellsE (nth H cn)) (.stuck 777) fun cl => args1 cl fun mv => optC (headP mv) (.stuck 777) fun mn => boolC (newOne mn) (macC (nth H mn) fun S => optC (slNm pv) (.stuck 777) fun pn => boolC (newOne pn) (optC (cellsE (nth H pn)) (.stuck 777) fun l => boolC (isSlO pv pn 0 (lenN l)) (boolC (Nat.beq (lenN l) 1) (ky1 H S cn pn mn l) (ky2 H S cn pn mn l)) (.stuck 777)) (.stuck 777)) (.stuck 777)) (.stuck 777))
theorem endsA {I : Ifc} {base : Nat} {L : List (BitVec 8)} {v : SV} {H : List SO} (ho : ownsOf I.ents 0 = []) (h : v = .agg (b32L L)) : I.Ends base [] ⟨.agg (b32L L), [], []⟩ v H := by
  subst h
  refine ends0 ho ?_ ?_
  · show SV.agg (b32L L) = .agg (SV.renL _ (b32L L))
    unfold b32L
    rw [bx_ren]
  · show SV.usesL (I.seen []) (b32L L) = true
    unfold b32L
    rw [bx_uses]
theorem ky_args {β : Val} {pn cn n : Nat} {pv cv : SV} {vs : List Value} (names : List Nat) (ents : List SO) (ha : SV.denL β [pv, cv] = some vs) (hp : isSlO pv pn 0 n = true) (hc : cv = .ptr ⟨cn, .lit 0⟩) :
    SV.denL β (SV.renL (shaIP (cn :: pn :: names) ents [.slice ⟨5, .lit 0⟩ (.lit n) (.lit n), .ptr ⟨4, .lit 0⟩]).big (shaIP (cn :: pn :: names) ents [.slice ⟨5, .lit 0⟩ (.lit n) (.lit n), .ptr ⟨4, .lit 0⟩]).args) = some vs := by
  rw [isSlO_spec hp, hc] at ha
  exact ha
theorem kyOK : SumAt Tryz.prog globP 37 kyS := by
  intro O w0 β H w base args vs hH hG ha
  refine args2_sat fun pv cv hv => shaTP_sat fun hT => optC_only fun cn hcn => boolC_only fun hn1 => optC_only fun cl hcl => args1_sat fun mv hmv => optC_only fun mn hmn => boolC_only fun hn2 => macC_sat fun S hm => optC_only fun pn hpn => boolC_only fun hn3 => optC_only fun l hl => boolC_only fun hp => ?_
  rw [hv] at ha
  subst hmv
  rw [nth_eq] at hcl hl hm
  rw [headP_spec hmn] at hcl
  refine boolC_sat (fun _ => ?_) fun _ => ?_
  · refine args1_sat fun u hu => partL_sat fun a an hna hta hia => boolC_only fun hd => fun ⟨h64, hok⟩ => ?_
    subst hu
    have := hok.2
    refine sum_outOG cfgPkOK 4000 hH (shaIP [cn, pn, mn, an] [.row (.lst [.ptr ⟨6, .lit 0⟩]), .row (.lst [a.val 7]), .row (.lst (mcells S)), a.row] [.slice ⟨5, .lit 0⟩ (.lit 1) (.lit 1), .ptr ⟨4, .lit 0⟩]) (shaIP_glob hG) (ky_args _ _ ha hp (headP_spec hcn)) (Ifc.fits ?_ rfl (shaIP_ents hT ⟨⟨taken_cells hcl (SV.ImpL.refl _), rfl⟩, ⟨taken_cells hl ?_, ?_⟩, ⟨hm _, mcells_uses _ _⟩, ⟨hta _, a.row_uses _⟩, trivial⟩)) [] (by simp) (by simp) (ky_run1 S a) ?_ fun _ _ => endsA rfl rfl
    · exact nd4 hd (by simp only [List.mem_cons, List.not_mem_nil, or_false]; rintro x (rfl | rfl | rfl | rfl) <;> assumption)
    · show SV.ImpL _ [(a.val 7).ren _]
      rw [Sl.val_ren]
      exact impL_cons hia impL_nil
    · show ((a.val 7).uses _ && true) = true
      rw [Sl.val_uses _ _ _ rfl]; rfl
    · exact partC_n (by omega) (by omega) hok (hmE_n (by rw [part_n]; omega) (by rw [part_n]; omega))
  · refine args2_sat fun u v hu => partL_sat fun a an hna hta hia => partL_sat fun b bn hnb htb hib => boolC_only fun hd => fun ⟨h64, hok, hokb⟩ => ?_
    subst hu
    have := hok.2
    have := hokb.2
    refine sum_outOG cfgPkOK 4000 hH (shaIP [cn, pn, mn, an, bn] [.row (.lst [.ptr ⟨6, .lit 0⟩]), .row (.lst [a.val 7, b.val 8]), .row (.lst (mcells S)), a.row, b.row] [.slice ⟨5, .lit 0⟩ (.lit 2) (.lit 2), .ptr ⟨4, .lit 0⟩]) (shaIP_glob hG) (ky_args _ _ ha hp (headP_spec hcn)) (Ifc.fits ?_ rfl (shaIP_ents hT ⟨⟨taken_cells hcl (SV.ImpL.refl _), rfl⟩, ⟨taken_cells hl ?_, ?_⟩, ⟨hm _, mcells_uses _ _⟩, ⟨hta _, a.row_uses _⟩, ⟨htb _, b.row_uses _⟩, trivial⟩)) [] (by simp) (by simp) (ky_run2 S a b) ?_ fun _ _ => endsA rfl rfl
    · exact nd4 hd (by simp only [List.mem_cons, List.not_mem_nil, or_false]; rintro x (rfl | rfl | rfl | rfl | rfl) <;> assumption)
    · show SV.ImpL _ [(a.val 7).ren _, (b.val 8).ren _]
      rw [Sl.val_ren, Sl.val_ren]
      exact impL_cons hia (impL_cons hib impL_nil)
    · show ((a.val 7).uses _ && ((b.val 8).uses _ && true)) = true
      rw [Sl.val_uses _ _ _ rfl, Sl.val_uses _ _ _ rfl]; rfl
    · exact partC_n (by omega) (by omega) hok (partC_n (by rw [part_n]; omega) (by rw [part_n]; omega) hokb (hmE_n (by rw [part_n, part_n]; omega) (by rw [part_n, part_n]; omega)))
end Go.Proofs.YtflafdhmmcknhaaGreatDoor.Aes


/-
  Passwords: the program's rounds.
-/
namespace Go.Proofs.YtflafdhmmcknhaaGreatDoor.Aes
open Go.Sim
open Go.Proofs
variable {α : Type}

set_option maxRecDepth 1000000
noncomputable def cfgPb : Cfg := cfgG globP (sumsOf [(37, kyS), (42, numS)])
theorem cfgPbOK : CfgOK cfgPb := sumsG_ok (allS kyOK (allS (dnumOK _) (by simp)))
noncomputable def keyV (nm : Nat) : SV := .func (.fn (.func 37)) [] [.ptr ⟨nm, .lit 0⟩]
noncomputable def pbH (S : HSt) (s : Sl) (t : Int) : List SO := shaHP [.row (.lst [keyV 7]), .row (.lst [s.val 9]), .row (.lst [.int .i64 (.sym t)]), .row (.lst [.ptr ⟨8, .lit 0⟩]), .row (.lst (mcells S)), s.row]
noncomputable def pbA : List SV := [.int .i64 (.lit 1), .ptr ⟨4, .lit 0⟩, .ptr ⟨5, .lit 0⟩, .ptr ⟨6, .lit 0⟩]
noncomputable def pbT (st : Option (Nat × Nat)) (S : HSt) (s : Sl) (t : Int) : Tree := callSim (cfgPb.at st) 20000 41 pbA (pbH S s t)
/-- the first hash, the next one -/
noncomputable def u0 (S : HSt) (s : Sl) : List (BitVec 8) := macF (norm (partF (partF (norm S) (some s)) (some (slL (num4 1)))))
noncomputable def uN (S : HSt) (U : Nat → BitVec 8) : List (BitVec 8) := macF (norm (partF (norm S) (some (slL (tabB U 32)))))
noncomputable def pbS0 (S : HSt) (s : Sl) (t : Int) : SS := stopOf (pbT (some (1, 3)) S s t) []
noncomputable def b32E (U : Nat → BitVec 8) : HP := .ent (.own (.lst (bx (tabB U 32))) true 69)
noncomputable def pbC (S : HSt) (s : Sl) (t : Int) (U R : Nat → BitVec 8) (j : Nat) : Cut := ⟨bareFs (pbS0 S s t).frames [[(0, .int .i64 (.lit 1)), (1, .ptr ⟨4, .lit 0⟩), (2, .ptr ⟨5, .lit 0⟩), (3, .ptr ⟨6, .lit 0⟩), (5, .ptr ⟨10, .lit 0⟩), (6, .ptr ⟨11, .lit 0⟩), (7, .ptr ⟨12, .lit 0⟩), (16, .int .i64 (.sym (t - 1))), (17, .int .i64 (.sym j))]],
  app (mapN HP.ent (takeN (pbS0 S s t).heap 11)) [b32E U, b32E R]⟩
noncomputable def pbM : List Nat := [0, 1, 2, 3, 4, 5, 6, 7, 8, 9, 10, 13, 14]
noncomputable def pbN : List Nat := [0, 1, 2, 3, 4, 5, 6, 7, 8, 9, 10, 11, 12]
noncomputable def pbI (S : HSt) (s : Sl) (t : Int) : List Prop := [0 ≤ (S.n : Int), IsB (byteF s.X), (norm S).n = 64 ∧ okL s ∧ okL (slL (num4 1)), inI64 (t - 1)]
noncomputable def xorU (R U : Nat → BitVec 8) : Nat → BitVec 8 := fun i => R i ^^^ U i
section
variable (S : HSt) (s : Sl) (t : Int) (m : Nat) (U R : Nat → BitVec 8) (j : Nat)
theorem pb_init (z : Nat → Nat → Nat) : outL [] (pbC S (s.pl m) t (byteAt (u0 S s)) (byteAt (u0 S s)) 0) pbM (pbT (some (1, 3)) S (s.pl m) t) [] z = (pbI S s t, some (.inr (modSeen [(0, 17, .int .i64 (.lit 0))] [] (seenC pbM 15 (pbC S (s.pl m) t (byteAt (u0 S s)) (byteAt (u0 S s)) 0))))) := by kernel_rfl
theorem pb_turn (J : Junk) (z : Nat → Nat → Nat) : outL [] (pbC S (s.pl m) t U R j) pbN (sim1 (cfgPb.at (some (1, 3))) 20000 ((pbC S (s.pl m) t U R j).fill J)) [true] z = ([decide ((j : Int) < t - 1) = true, 0 ≤ (S.n : Int), (norm S).n = 64 ∧ okL (slL (tabB U 32)), inI64 ((j : Int) + 1)], some (.inr (seenC pbN 14 (pbC S (s.pl m) t (byteAt (uN S U)) (xorU R (byteAt (uN S U))) (j + 1))))) := by kernel_rfl
theorem pb_end (J : Junk) (z : Nat → Nat → Nat) : outL [] (pbC S (s.pl m) t U R j) pbN (sim1 (cfgPb.at none) 20000 ((pbC S (s.pl m) t U R j).fill J)) [false] z = ([decide ((j : Int) < t - 1) = false], some (.inl (.agg (bx (tabB R 32)), []))) := by kernel_rfl
theorem pb_names0 (U' R' : Nat → BitVec 8) (i : Nat) : boolC (namesOK 10 pbM (pbC S (s.pl m) t U R j) (pbC S (s.pl m) t U' R' i)) (allN noLoopE (pbC S (s.pl m) t U' R' i).heap) false = true := by kernel_rfl
theorem pb_names (U' R' : Nat → BitVec 8) (i : Nat) : boolC (namesOK 10 pbN (pbC S (s.pl m) t U R j) (pbC S (s.pl m) t U' R' i)) (allN noLoopE (pbC S (s.pl m) t U' R' i).heap) false = true := by kernel_rfl
theorem pb_tmp : (((pbC S (s.pl m) t U R j).frames[0]?).bind fun p => p.tmps[17]?) = some (some (.int .i64 (.sym j))) := by kernel_rfl
end
end Go.Proofs.YtflafdhmmcknhaaGreatDoor.Aes


/-
  Passwords: the program's rounds: the summary.
-/
namespace Go.Proofs.YtflafdhmmcknhaaGreatDoor.Aes
open Go.Sim
open Go.Proofs
variable {α : Type}

set_option maxRecDepth 1000000
/-- the hashes one after the other, what is combined of them -/
noncomputable def uQ (S : HSt) (s : Sl) : Nat → Nat → BitVec 8
  | 0 => byteAt (u0 S s)
  | j + 1 => byteAt (uN S (uQ S s j))
noncomputable def rQ (S : HSt) (s : Sl) : Nat → Nat → BitVec 8
  | 0 => byteAt (u0 S s)
  | j + 1 => xorU (rQ S s j) (uQ S s (j + 1))
theorem tmp_setP {C : Cut} {i j : Nat} {v : SV} (h : ((C.frames[i]?).bind fun p => p.tmps[j]?) = some (some v)) {p : SP} {u : Option SV} (hp : C.frames[i]? = some p) (hu : p.tmps[j]? = some u) {w : SV} {f : Nat → Nat} (hi : w.Imp (v.ren f)) : ∃ x, u = some x ∧ w.Imp (x.ren f) := by
  rw [hp] at h
  simp only [Option.bind_some, hu, Option.some.injEq] at h
  exact ⟨v, h, hi⟩
theorem sl32_ok (U : Nat → BitVec 8) : okL (slL (tabB U 32)) := slL_ok (n := 32) (by rw [tabB_len]) (by omega)
theorem pb_runs {S : HSt} {s : Sl} {t : Int} (m : Nat) (h64 : S.n = 64) (hs : okL s) (h1 : 1 ≤ t) (h2 : t ≤ 65536) : Runs cfgPb 41 pbA (pbH S (s.pl m) t) fun v _ => v = .agg (bx (tabB (rQ S s (t - 1).toNat) 32)) := by
  have hn : (norm S).n = 64 := h64
  refine runs_by cfgPbOK (fun j => pbC S (s.pl m) t (uQ S s j) (rQ S s j) j) (fun j => j ≤ (t - 1).toNat) (fun j => (t - 1).toNat - j) (fun g nm hg => Nat.lt_of_lt_of_le (globP_lt hg) (by show 2 ≤ 10; omega)) ?_ fun j hj J => ?_
  · refine to_startM (some (1, 3)) 20000 0 (Nat.zero_le _) (pb_init S s t m) (pb_names0 S s t m _ _ 0 _ _ 0) (fun q hq p u hp hu => ?_) (by simp) (all_cons (by omega) (all_cons (byteF_isB _) (all_cons ⟨hn, hs, slL_ok (n := 4) rfl (by omega)⟩ (all_cons ⟨by omega, by omega⟩ all_nil))))
    obtain rfl : q = (0, 17, .int .i64 (.lit 0)) := by simpa using hq
    exact tmp_setP (pb_tmp S s t m _ _ 0) hp hu (int_imp0 rfl)
  · by_cases hin : j < (t - 1).toNat
    · exact to_turn (some (1, 3)) 20000 (j + 1) ⟨by omega, by omega⟩ (pb_turn S s t m (uQ S s j) (rQ S s j) j J) (pb_names S s t m _ _ j _ _ (j + 1)) (all_cons (decide_eq_true (by omega)) (all_cons (by omega) (all_cons ⟨hn, sl32_ok _⟩ (all_cons ⟨by omega, by omega⟩ all_nil))))
    · have e : j = (t - 1).toNat := by omega
      exact to_end none 20000 (pb_end S s t m (uQ S s j) (rQ S s j) j J) (all_cons (decide_eq_false (by omega)) all_nil) fun H _ => by rw [e]
/- What is looked at. -/
noncomputable def capK (c : SC) : Option Nat := match c with | .sym k => some k | _ => none
theorem capK_spec {c : SC} {k : Nat} (h : capK c = some k) : c = .sym k := by
  unfold capK at h
  split at h
  · cases h; rfl
  · cases h
noncomputable def partQ (H : List SO) (v : SV) (f : Sl → Nat → R α) : R α := v.asSlice (.stuck 770) fun a l c => optC (capK c) (.stuck 771) fun k => boolC (newOne a.nm) (bytesE (nth H a.nm) fun X N => f ⟨X, N, a.off.den, l.den, false, k⟩ a.nm) (.stuck 772)
theorem partQ_sat {H : List SO} {v : SV} {f : Sl → Nat → R α} {φ : α → Prop} (h : ∀ t nm, newOne nm = true → (∀ g, ∃ e', H[nm]? = some e' ∧ Taken g t.row e') → v.Imp ((t.pl t.k).val nm) → (f t nm).Sat φ) : (partQ H v f).Sat φ := by
  unfold partQ
  rcases asSlice_cases v with ⟨a, l, c, rfl⟩ | hv
  · refine optC_only fun k hk => boolC_only fun hn => bytesE_sat fun X N ht => h ⟨X, N, a.off.den, l.den, false, k⟩ a.nm hn (fun g => by rw [← nth_eq]; exact ht g) fun γ x hx => ?_
    rw [capK_spec hk, den_slice] at hx
    obtain ⟨A, C, hA, hC, hle, rfl⟩ := hx
    rw [show (Sl.val (Sl.pl ⟨X, N, a.off.den, l.den, false, k⟩ k) a.nm) = .slice ⟨a.nm, .sym a.off.den⟩ (.sym l.den) (.sym k) from rfl, den_slice]
    exact ⟨A, C, hA, hC, hle, rfl⟩
  · rw [hv]; trivial
noncomputable def fnK (v : SV) : Option Nat := match v with | .func (.fn (.func g)) [] [.ptr ⟨nm, .lit o⟩] => boolC (Nat.beq g 37) (boolC (Nat.beq o 0) (some nm) none) none | _ => none
theorem fnK_spec {v : SV} {nm : Nat} (h : fnK v = some nm) : v = keyV nm := by
  unfold fnK at h
  split at h
  · rename_i g nm' o
    cases h1 : Nat.beq g 37 with
    | false => rw [h1] at h; cases h
    | true =>
      cases h2 : Nat.beq o 0 with
      | false => rw [h1, h2] at h; cases h
      | true =>
        rw [h1, h2] at h
        cases h
        rw [beq_spec h1, beq_spec h2]
        rfl
  · cases h
noncomputable def pbR (S : HSt) (s : Sl) (t : Int) : SumRes := ⟨.agg (bx (tabB (rQ S s (t - 1).toNat) 32)), [], []⟩
noncomputable def pbS : Summ := fun args H _ => args4 args fun iv kv sv tv => shaTP H (optC (litI iv) (.stuck 779) fun i => boolC (Nat.beq i 1) (optC (headP kv) (.stuck 779) fun kn => optC (headP sv) (.stuck 779) fun sn => optC (headP tv) (.stuck 779) fun tn =>
  optC (cellsE (nth H kn)) (.stuck 779) fun kl => args1 kl fun fv => optC (fnK fv) (.stuck 779) fun bn => optC (cellsE (nth H bn)) (.stuck 779) fun bl => args1 bl fun mv => optC (headP mv) (.stuck 779) fun mn => macC (nth H mn) fun S =>
  optC (cellsE (nth H sn)) (.stuck 779) fun sl => args1 sl fun xv => partQ H xv fun s an => optC (cellsE (nth H tn)) (.stuck 779) fun tl => args1 tl fun nv => i64O nv fun t =>
  boolC (distN [kn, sn, tn, bn, mn, an]) (boolC (allN newOne [kn, sn, tn, bn, mn]) (.need (S.n = 64 ∧ okL s ∧ 1 ≤ t.den ∧ t.den ≤ 65536) (.ok (pbR S s t.den))) (.stuck 779)) (.stuck 779)) (.stuck 779))
theorem endsX {I : Ifc} {base : Nat} {L : List (BitVec 8)} {v : SV} {H : List SO} (ho : ownsOf I.ents 0 = []) (h : v = .agg (bx L)) : I.Ends base [] ⟨.agg (bx L), [], []⟩ v H := endsV ho h
theorem pbOK : SumAt Tryz.prog globP 41 pbS := by
  intro O w0 β H w base args vs hH hG ha
  refine args4_sat fun iv kv sv tv hv => shaTP_sat fun hT => optC_only fun i hi => boolC_only fun hi1 => optC_only fun kn hkn => optC_only fun sn hsn => optC_only fun tn htn => optC_only fun kl hkl => args1_sat fun fv hfv => optC_only fun bn hbn => optC_only fun bl hbl => args1_sat fun mv hmv => optC_only fun mn hmn => macC_sat fun S hm =>
    optC_only fun sl hsl => args1_sat fun xv hxv => partQ_sat fun s an hna hta hia => optC_only fun tl htl => args1_sat fun nv hnv => i64O_sat fun t ht => boolC_only fun hd => boolC_only fun hall => fun ⟨h64, hok, h1, h2⟩ => ?_
  subst hfv hmv hxv hnv
  rw [nth_eq] at hkl hbl hm hsl htl
  rw [fnK_spec hbn] at hkl
  rw [headP_spec hmn] at hbl
  rw [ht] at htl
  rw [hv, litI_spec hi, beq_spec hi1, headP_spec hkn, headP_spec hsn, headP_spec htn] at ha
  have hall := (allN_iff.1 hall)
  let I : Ifc := shaIP [kn, sn, tn, bn, mn, an] [.row (.lst [keyV 7]), .row (.lst [(s.pl s.k).val 9]), .row (.lst [.int .i64 (.sym t.den)]), .row (.lst [.ptr ⟨8, .lit 0⟩]), .row (.lst (mcells S)), s.row] pbA
  refine Go.Sim.sum_runs (c := cfgPb) hH I (shaIP_glob hG) ha (Ifc.fits (nd4 hd (by
      simp only [List.mem_cons, List.not_mem_nil, or_false] at hall ⊢
      rintro x (rfl | rfl | rfl | rfl | rfl | rfl)
      · exact hall _ (by simp)
      · exact hall _ (by simp)
      · exact hall _ (by simp)
      · exact hall _ (by simp)
      · exact hall _ (by simp)
      · exact hna)) rfl (shaIP_ents hT ⟨⟨taken_cells hkl (SV.ImpL.refl _), rfl⟩, ⟨taken_cells hsl ?_, ?_⟩, ⟨taken_cells htl (impL_cons (int_imp0 rfl) impL_nil), rfl⟩, ⟨taken_cells hbl (SV.ImpL.refl _), rfl⟩, ⟨hm _, mcells_uses _ _⟩, ⟨hta _, s.row_uses _⟩, trivial⟩)) [] (by simp) (by simp)
    (runs_mono (pb_runs (S := S) (s := s) s.k h64 hok h1 h2) fun v H2 hv => endsX rfl hv)
  · show SV.ImpL _ [((s.pl s.k).val 9).ren _]
    rw [Sl.val_ren]
    exact impL_cons hia impL_nil
  · show (((s.pl s.k).val 9).uses _ && true) = true
    rw [Sl.val_uses _ _ _ rfl]; rfl
end Go.Proofs.YtflafdhmmcknhaaGreatDoor.Aes


/-
  Passwords: the reference's rounds.
-/
namespace Go.Proofs.YtflafdhmmcknhaaGreatDoor.Aes
open Go.Sim
open Go.Proofs
variable {α : Type}

set_option maxRecDepth 1000000
noncomputable def cfgRp (F : HashF) : Cfg := cfgG globS (sumsOf [(47, rhG F), (48, numS)])
theorem cfgRpOK : CfgOK (cfgRp shaF) := sumsG_ok (allS rhGOK (allS (rfourOK _) (by simp)))
noncomputable def rpA (k s : Sl) (it : Int) (n : Nat) : List SV := [k.val 4, s.val 5, .int .i64 (.sym it), .int .i64 (.lit n)]
noncomputable def rpT (st : Option (Nat × Nat)) (F : HashF) (k s : Sl) (it : Int) (n : Nat) : Tree := callSim ((cfgRp F).at st) 20000 22 (rpA k s it n) (shaH [k.row, s.row])
noncomputable def rsM (s : Sl) : Nat → BitVec 8 := catB (fun i => s.X (s.o + (0 + i))) s.n (fun i => byteAt (num4 1) (0 + i))
noncomputable def rp0 (F : HashF) (k s : Sl) : List (BitVec 8) := macB F k.F k.n (fun i => rsM s (0 + i)) (s.n + 4)
noncomputable def rpN (F : HashF) (k : Sl) (U : Nat → BitVec 8) : List (BitVec 8) := macB F k.F k.n (fun i => byteAt (tabB U 32) (0 + i)) 32
noncomputable def rpS0 (F : HashF) (k s : Sl) (it : Int) (n : Nat) : SS := stopOf (rpT (some (1, 8)) F k s it n) [false]
noncomputable def rpC (F : HashF) (k s : Sl) (it : Int) (n : Nat) (U R : Nat → BitVec 8) (j : Nat) : Cut := ⟨bareFs (rpS0 F k s it n).frames [[(0, k.val 4), (1, s.val 5), (2, .int .i64 (.sym it)), (3, .int .i64 (.lit n)), (8, .nilSlice), (9, .nilSlice), (10, .int .i64 (.lit 1)), (11, mkV 6), (12, .slice ⟨7, .lit 0⟩ (.lit 32) (.rest 7 0)), (13, .int .i64 (.sym j)), (15, .nilSlice)]],
  app (mapN HP.ent (takeN (rpS0 F k s it n).heap 6)) [.ent (.own (.lst (bx (tabB U 32))) true 69), .ent (.own (.lst (bx (tabB R 32))) false 5)]⟩
noncomputable def rpM : List Nat := [0, 1, 2, 3, 4, 5, 10, 12]
noncomputable def rpO : List Nat := [0, 1, 2, 3, 4, 5, 8, 7]
noncomputable def rpP : List Nat := [0, 1, 2, 3, 4, 5, 6, 7]
noncomputable def rpI (k s : Sl) : List Prop := [s.o + s.n ≤ s.N, decide (s.n = 0) = false, (s.n * 1 < 140737488355328 ∧ s.n < 140737488355328) ∧ 1 = 1, 4 ≤ 4, 0 + s.n ≤ s.n ∧ IsB (fun i => byteF s.X (s.o + i)), ((s.n + 4) * 1 < 140737488355328 ∧ s.n + 4 < 140737488355328) ∧ 1 = 1, IsB (byteF k.X), IsB (byteF (rsM s)), kOk k ∧ (0 + (s.n + 4) ≤ s.n + 4 ∧ s.n + 4 ≤ 1099511627776) ∧ s.n + 4 ≤ 1099511627712]
noncomputable def rpU (k : Sl) (it : Int) (U : Nat → BitVec 8) (j : Nat) : List Prop := [decide ((j : Int) < it) = true, IsB (byteF k.X), kOk k ∧ okL (slL (tabB U 32)) ∧ 32 ≤ 1099511627712, inI64 ((j : Int) + 1)]
noncomputable def rpE (R : Nat → BitVec 8) : SO := .own (.lst (bx (tabB R 32))) false 5
noncomputable def rpV (nm n : Nat) : SV := .slice ⟨nm, .lit 0⟩ (.lit n) (.rest nm 0)
section
variable (F : HashF) (k s : Sl) (it : Int) (m m2 : Nat) (U R : Nat → BitVec 8) (j : Nat)
theorem rp_init16 (z : Nat → Nat → Nat) : outL [] (rpC F (k.pl m) (s.pl m2) it 16 (byteAt (rp0 F k s)) (byteAt (rp0 F k s)) 1) rpM (rpT (some (1, 8)) F (k.pl m) (s.pl m2) it 16) [false] z = (rpI k s, some (.inr (modSeen [(0, 13, .int .i64 (.lit 1))] [] (seenC rpM 13 (rpC F (k.pl m) (s.pl m2) it 16 (byteAt (rp0 F k s)) (byteAt (rp0 F k s)) 1))))) := by kernel_rfl
theorem rp_turn16 (J : Junk) (z : Nat → Nat → Nat) : outL [] (rpC F (k.pl m) (s.pl m2) it 16 U R j) rpO (sim1 ((cfgRp F).at (some (1, 8))) 20000 ((rpC F (k.pl m) (s.pl m2) it 16 U R j).fill J)) [true] z = (rpU k it U j, some (.inr (seenC rpO 9 (rpC F (k.pl m) (s.pl m2) it 16 (byteAt (rpN F k U)) (xorU R (byteAt (rpN F k U))) (j + 1))))) := by kernel_rfl
theorem rp_end16 (J : Junk) (z : Nat → Nat → Nat) : outL [8] (rpC F (k.pl m) (s.pl m2) it 16 U R j) rpP (sim1 ((cfgRp F).at none) 20000 ((rpC F (k.pl m) (s.pl m2) it 16 U R j).fill J)) [false] z = ([decide ((j : Int) < it) = false], some (.inl (rpV 8 16, [some (rpE R)]))) := by kernel_rfl
theorem rp_names16 (U' R' : Nat → BitVec 8) (i : Nat) : boolC (namesOK 6 rpM (rpC F (k.pl m) (s.pl m2) it 16 U R j) (rpC F (k.pl m) (s.pl m2) it 16 U' R' i)) (allN noLoopE (rpC F (k.pl m) (s.pl m2) it 16 U' R' i).heap) false = true := by kernel_rfl
theorem rp_nameT16 (U' R' : Nat → BitVec 8) (i : Nat) : boolC (namesOK 6 rpO (rpC F (k.pl m) (s.pl m2) it 16 U R j) (rpC F (k.pl m) (s.pl m2) it 16 U' R' i)) (allN noLoopE (rpC F (k.pl m) (s.pl m2) it 16 U' R' i).heap) false = true := by kernel_rfl
theorem rp_tmp16 : (((rpC F (k.pl m) (s.pl m2) it 16 U R j).frames[0]?).bind fun p => p.tmps[13]?) = some (some (.int .i64 (.sym j))) := by kernel_rfl
theorem rp_init32 (z : Nat → Nat → Nat) : outL [] (rpC F (k.pl m) (s.pl m2) it 32 (byteAt (rp0 F k s)) (byteAt (rp0 F k s)) 1) rpM (rpT (some (1, 8)) F (k.pl m) (s.pl m2) it 32) [false] z = (rpI k s, some (.inr (modSeen [(0, 13, .int .i64 (.lit 1))] [] (seenC rpM 13 (rpC F (k.pl m) (s.pl m2) it 32 (byteAt (rp0 F k s)) (byteAt (rp0 F k s)) 1))))) := by kernel_rfl
theorem rp_turn32 (J : Junk) (z : Nat → Nat → Nat) : outL [] (rpC F (k.pl m) (s.pl m2) it 32 U R j) rpO (sim1 ((cfgRp F).at (some (1, 8))) 20000 ((rpC F (k.pl m) (s.pl m2) it 32 U R j).fill J)) [true] z = (rpU k it U j, some (.inr (seenC rpO 9 (rpC F (k.pl m) (s.pl m2) it 32 (byteAt (rpN F k U)) (xorU R (byteAt (rpN F k U))) (j + 1))))) := by kernel_rfl
theorem rp_end32 (J : Junk) (z : Nat → Nat → Nat) : outL [8] (rpC F (k.pl m) (s.pl m2) it 32 U R j) rpP (sim1 ((cfgRp F).at none) 20000 ((rpC F (k.pl m) (s.pl m2) it 32 U R j).fill J)) [false] z = ([decide ((j : Int) < it) = false], some (.inl (rpV 8 32, [some (rpE R)]))) := by kernel_rfl
theorem rp_names32 (U' R' : Nat → BitVec 8) (i : Nat) : boolC (namesOK 6 rpM (rpC F (k.pl m) (s.pl m2) it 32 U R j) (rpC F (k.pl m) (s.pl m2) it 32 U' R' i)) (allN noLoopE (rpC F (k.pl m) (s.pl m2) it 32 U' R' i).heap) false = true := by kernel_rfl
theorem rp_nameT32 (U' R' : Nat → BitVec 8) (i : Nat) : boolC (namesOK 6 rpO (rpC F (k.pl m) (s.pl m2) it 32 U R j) (rpC F (k.pl m) (s.pl m2) it 32 U' R' i)) (allN noLoopE (rpC F (k.pl m) (s.pl m2) it 32 U' R' i).heap) false = true := by kernel_rfl
theorem rp_tmp32 : (((rpC F (k.pl m) (s.pl m2) it 32 U R j).frames[0]?).bind fun p => p.tmps[13]?) = some (some (.int .i64 (.sym j))) := by kernel_rfl
end
end Go.Proofs.YtflafdhmmcknhaaGreatDoor.Aes


/-
  Passwords: derive.Password.
-/
namespace Go.Proofs.YtflafdhmmcknhaaGreatDoor.Aes
open Go.Sim
open Go.Proofs
variable {α : Type}

set_option maxRecDepth 1000000
noncomputable def cfgPw : Cfg := cfgG globP (sumsOf [(36, newS), (41, pbS), (50, cloneS)])
theorem cfgPwOK : CfgOK cfgPw := sumsG_ok (allS newOK (allS pbOK (allS (cloneOK _) (by simp))))
noncomputable def pwT (k s : Sl) (it : Int) (n : Nat) : Tree := callSim cfgPw 20000 18 [k.val 4, s.val 5, .int .i64 (.sym it), .int .i64 (.lit n)] (shaHP [k.row, s.row])
/-- the key of a password -/
noncomputable def pwQ (k s : Sl) (it : Int) : Nat → BitVec 8 := rQ (norm (hm0 k)) s (it - 1).toNat
noncomputable def pwE (k s : Sl) (it : Int) (n : Nat) : SO := .own (.lst (bx (tabB (pwQ k s it) n))) false 5
noncomputable def pwI (k s : Sl) (it : Int) (n : Nat) : List Prop := [decide ((k.n : Int) > 4096) = false, decide ((s.n : Int) > 4096) = false, decide (it < 1) = false, decide (it > 65536) = false, IsB (byteF k.X), k.o + k.n ≤ k.N ∧ k.n ≤ 4096, 0 ≤ (64 : Int), IsB (byteF s.X), (norm (hm0 k)).n = 64 ∧ okL s ∧ 1 ≤ it ∧ it ≤ 65536, n ≤ 32]
theorem pw_run16 (k s : Sl) (it : Int) (m m2 : Nat) : outO [19] (pwT (k.pl m) (s.pl m2) it 16) (repN false 4) = (pwI k s it 16, some (kdV 19 16, [some (pwE k s it 16)])) := by kernel_rfl
theorem pw_run32 (k s : Sl) (it : Int) (m m2 : Nat) : outO [19] (pwT (k.pl m) (s.pl m2) it 32) (repN false 4) = (pwI k s it 32, some (kdV 19 32, [some (pwE k s it 32)])) := by kernel_rfl
noncomputable def pwErr : SV := .tuple [.nilSlice, .int .i64 (.lit 2)]
section
variable (k s : Sl) (it : Int) (n m m2 : Nat)
theorem pw_e1 : outO [] (pwT (k.pl m) (s.pl m2) it n) [true] = ([decide ((k.n : Int) > 4096) = true], some (pwErr, [])) := by kernel_rfl
theorem pw_e2 : outO [] (pwT (k.pl m) (s.pl m2) it n) [false, true] = ([decide ((k.n : Int) > 4096) = false, decide ((s.n : Int) > 4096) = true], some (pwErr, [])) := by kernel_rfl
theorem pw_e3 : outO [] (pwT (k.pl m) (s.pl m2) it 16) (false :: false :: repN true 3) = ((decide ((k.n : Int) > 4096) = false) :: (decide ((s.n : Int) > 4096) = false) :: repN (decide (it < 1) = true) 3, some (pwErr, [])) := by kernel_rfl
theorem pw_e4 : outO [] (pwT (k.pl m) (s.pl m2) it 16) [false, false, false, true] = ([decide ((k.n : Int) > 4096) = false, decide ((s.n : Int) > 4096) = false, decide (it < 1) = false, decide (it > 65536) = true], some (pwErr, [])) := by kernel_rfl
theorem pw_f3 : outO [] (pwT (k.pl m) (s.pl m2) it 32) (false :: false :: repN true 3) = ((decide ((k.n : Int) > 4096) = false) :: (decide ((s.n : Int) > 4096) = false) :: repN (decide (it < 1) = true) 3, some (pwErr, [])) := by kernel_rfl
theorem pw_f4 : outO [] (pwT (k.pl m) (s.pl m2) it 32) [false, false, false, true] = ([decide ((k.n : Int) > 4096) = false, decide ((s.n : Int) > 4096) = false, decide (it < 1) = false, decide (it > 65536) = true], some (pwErr, [])) := by kernel_rfl
end
end Go.Proofs.YtflafdhmmcknhaaGreatDoor.Aes


/-
  Passwords: derive.Password: the summary.
-/
namespace Go.Proofs.YtflafdhmmcknhaaGreatDoor.Aes
open Go.Sim
open Go.Proofs
variable {α : Type}

set_option maxRecDepth 1000000
def pwOk (k s : Sl) (t : Int) : Prop := (k.n ≤ 4096 ∧ s.n ≤ 4096) ∧ 1 ≤ t ∧ t ≤ 65536
noncomputable def pwBad (k s : Sl) (t : Int) : Bool := @decide (¬ pwOk k s t) (Classical.propDecidable _)
theorem pwBad_true {k s : Sl} {t : Int} (h : pwBad k s t = true) : ¬ pwOk k s t := @of_decide_eq_true _ (Classical.propDecidable _) h
theorem pwBad_false {k s : Sl} {t : Int} (h : pwBad k s t = false) : pwOk k s t := by
  have := @of_decide_eq_false _ (Classical.propDecidable _) h
  exact Classical.not_not.1 this
noncomputable def pwR (base : Nat) (k s : Sl) (t : Int) (n : Nat) : R SumRes := .fork (pwBad k s t) (.ok ⟨pwErr, [], []⟩) (.need (k.o + k.n ≤ k.N ∧ s.o + s.n ≤ s.N) (.ok ⟨kdV base n, [], [pwE k s t n]⟩))
noncomputable def pwdS : Summ := fun args H base => args4 args fun kv sv tv nv => shaTP H (partL H kv fun k kn => partL H sv fun s sn => boolC (distN [kn, sn]) (i64O tv fun t => optC (litI nv) (.stuck 786) fun n => boolC (Nat.beq n 16) (pwR base k s t.den 16) (boolC (Nat.beq n 32) (pwR base k s t.den 32) (.stuck 786))) (.stuck 786))
theorem pwC_all {k s : Sl} {it : Int} {n : Nat} (h : pwOk k s it) (h1 : k.o + k.n ≤ k.N) (h2 : s.o + s.n ≤ s.N) (hn : n ≤ 32) : ∀ p ∈ pwI k s it n, p := by
  obtain ⟨⟨a, b⟩, c, d⟩ := h
  exact all_cons (decide_eq_false (by omega)) (all_cons (decide_eq_false (by omega)) (all_cons (decide_eq_false (by omega)) (all_cons (decide_eq_false (by omega)) (all_cons (byteF_isB _) (all_cons ⟨h1, a⟩ (all_cons (by omega) (all_cons (byteF_isB _) (all_cons ⟨rfl, ⟨h2, by omega⟩, c, d⟩ (all_cons hn all_nil)))))))))
theorem rep_allP {p : Prop} (h : p) : ∀ n : Nat, ∀ q ∈ repN p n, q
  | 0, q, hq => by cases hq
  | n + 1, q, hq => by
    rcases List.mem_cons.1 (show q ∈ p :: repN p n from hq) with rfl | hq
    · exact h
    · exact rep_allP h n q hq
theorem pwdOK : SumAt Tryz.prog globP 18 pwdS := by
  intro O w0 β H w base args vs hH hG ha
  refine args4_sat fun kv sv tv nv hv => shaTP_sat fun hT => partL_sat fun k kn hn ht hk => partL_sat fun s sn hn2 ht2 hk2 => boolC_only fun hd => i64O_sat fun t htv => optC_only fun n hln => ?_
  subst htv
  rw [hv, litI_spec hln] at ha
  obtain ⟨x, ys, hx, hys, rfl⟩ := denL_cons.1 ha
  obtain ⟨y, zs, hy, hzs, rfl⟩ := denL_cons.1 hys
  obtain ⟨m, _, hx'⟩ := Sl.val_den (hk _ _ hx)
  obtain ⟨m2, _, hy'⟩ := Sl.val_den (hk2 _ _ hy)
  have hzs := impL_cons (int_imp0 (k := .i64) (a := t) (b := .sym t.den) rfl) (SV.ImpL.refl _) _ _ hzs
  let I : Nat → Ifc := fun n => shaIP [kn, sn] [k.row, s.row] [(k.pl m).val 4, (s.pl m2).val 5, .int .i64 (.sym t.den), .int .i64 (.lit n)]
  have hargs : ∀ {n : Nat}, SV.denL β [.int .i64 (.sym t.den), .int .i64 (.lit n)] = some zs → SV.denL β (SV.renL (I n).big (I n).args) = some (x :: y :: zs) := fun {n} hz => by
    show SV.denL β [((k.pl m).val 4).ren _, ((s.pl m2).val 5).ren _, .int .i64 (.sym t.den), .int .i64 (.lit n)] = _
    rw [Sl.val_ren, Sl.val_ren]
    exact denL_cons.2 ⟨_, _, hx', denL_cons.2 ⟨_, _, hy', hz, rfl⟩, rfl⟩
  have hfit : ∀ n : Nat, (I n).Fits H := fun n => Ifc.fits (nd4 hd (by simp only [List.mem_cons, List.not_mem_nil, or_false]; rintro x (rfl | rfl) <;> assumption)) (by
    show (((k.pl m).val 4).uses _ && (((s.pl m2).val 5).uses _ && (true && (true && true)))) = true
    rw [Sl.val_uses _ _ _ rfl, Sl.val_uses _ _ _ rfl]; rfl) (shaIP_ents hT ⟨⟨ht _, k.row_uses _⟩, ⟨ht2 _, s.row_uses _⟩, trivial⟩)
  have key : ∀ (n : Nat), n ≤ 32 → SV.denL β [.int .i64 (.sym t.den), .int .i64 (.lit n)] = some zs → outO [19] (pwT (k.pl m) (s.pl m2) t.den n) (repN false 4) = (pwI k s t.den n, some (kdV 19 n, [some (pwE k s t.den n)])) →
      outO [] (pwT (k.pl m) (s.pl m2) t.den n) (false :: false :: repN true 3) = ((decide ((k.n : Int) > 4096) = false) :: (decide ((s.n : Int) > 4096) = false) :: repN (decide (t.den < 1) = true) 3, some (pwErr, [])) →
      outO [] (pwT (k.pl m) (s.pl m2) t.den n) [false, false, false, true] = ([decide ((k.n : Int) > 4096) = false, decide ((s.n : Int) > 4096) = false, decide (t.den < 1) = false, decide (t.den > 65536) = true], some (pwErr, [])) →
      (pwR base k s t.den n).Sat (SumSem Tryz.prog H β w base 18 (x :: y :: zs)) := by
    intro n hn32 hz hrun hr3 hr4
    refine ⟨fun hb => ?_, fun hb => fun ⟨h1, h2⟩ => ?_⟩
    · have hb := pwBad_true hb
      by_cases c1 : k.n ≤ 4096
      · by_cases c2 : s.n ≤ 4096
        · by_cases c3 : 1 ≤ t.den
          · have c4 : ¬ t.den ≤ 65536 := fun c4 => hb ⟨⟨c1, c2⟩, c3, c4⟩
            exact sum_outOG cfgPwOK 20000 hH (I n) (shaIP_glob hG) (hargs hz) (hfit n) [] (by simp) (by simp) hr4 (all_cons (decide_eq_false (by omega)) (all_cons (decide_eq_false (by omega)) (all_cons (decide_eq_false (by omega)) (all_cons (decide_eq_true (by omega)) all_nil)))) fun _ _ => ends0 rfl rfl rfl
          · exact sum_outOG cfgPwOK 20000 hH (I n) (shaIP_glob hG) (hargs hz) (hfit n) [] (by simp) (by simp) hr3 (all_cons (decide_eq_false (by omega)) (all_cons (decide_eq_false (by omega)) (rep_allP (decide_eq_true (by omega)) 3))) fun _ _ => ends0 rfl rfl rfl
        · exact sum_outOG cfgPwOK 20000 hH (I n) (shaIP_glob hG) (hargs hz) (hfit n) [] (by simp) (by simp) (pw_e2 k s t.den n m m2) (all_cons (decide_eq_false (by omega)) (all_cons (decide_eq_true (by omega)) all_nil)) fun _ _ => ends0 rfl rfl rfl
      · exact sum_outOG cfgPwOK 20000 hH (I n) (shaIP_glob hG) (hargs hz) (hfit n) [] (by simp) (by simp) (pw_e1 k s t.den n m m2) (all_cons (decide_eq_true (by omega)) all_nil) fun _ _ => ends0 rfl rfl rfl
    · exact sum_outOG cfgPwOK 20000 hH (I n) (shaIP_glob hG) (hargs hz) (hfit n) [19] (by simp [I, shaIP]) (by simp) hrun (pwC_all (pwBad_false hb) h1 h2 hn32) fun H2 hH2 => endsK rfl rfl (List.cons.inj hH2).1 rfl
  refine boolC_sat (fun h => ?_) fun _ => boolC_only fun h => ?_
  · rw [beq_spec h] at hzs
    exact key 16 (by omega) hzs (pw_run16 k s t.den m m2) (pw_e3 k s t.den m m2) (pw_e4 k s t.den m m2)
  · rw [beq_spec h] at hzs
    exact key 32 (by omega) hzs (pw_run32 k s t.den m m2) (pw_f3 k s t.den m m2) (pw_f4 k s t.den m m2)
end Go.Proofs.YtflafdhmmcknhaaGreatDoor.Aes


/-
  Passwords: the reference's key of a password: the summary; it is the program's.
-/
namespace Go.Proofs.YtflafdhmmcknhaaGreatDoor.Aes
open Go.Sim
open Go.Proofs
variable {α : Type}

set_option maxRecDepth 1000000
noncomputable def vQ (F : HashF) (k s : Sl) : Nat → Nat → BitVec 8
  | 0 => byteAt (rp0 F k s)
  | j + 1 => byteAt (rpN F k (vQ F k s j))
noncomputable def qQ (F : HashF) (k s : Sl) : Nat → Nat → BitVec 8
  | 0 => byteAt (rp0 F k s)
  | j + 1 => xorU (qQ F k s j) (vQ F k s (j + 1))
theorem rpI_all {k s : Sl} (h1 : kOk k) (h2 : s.o + s.n ≤ s.N) (h3 : 1 ≤ s.n) (h4 : s.n ≤ 4096) : ∀ p ∈ rpI k s, p :=
  all_cons h2 (all_cons (decide_eq_false (by omega)) (all_cons ⟨⟨by omega, by omega⟩, rfl⟩ (all_cons (by omega) (all_cons ⟨by omega, byteF_isB (fun i => s.X (s.o + i))⟩ (all_cons ⟨⟨by omega, by omega⟩, rfl⟩ (all_cons (byteF_isB _) (all_cons (byteF_isB _) (all_cons ⟨h1, ⟨by omega, by omega⟩, by omega⟩ all_nil))))))))
theorem rpU_all {k : Sl} {it : Int} {U : Nat → BitVec 8} {j : Nat} (h1 : kOk k) (hj : (j : Int) < it) (hi : it ≤ 65536) : ∀ p ∈ rpU k it U j, p :=
  all_cons (decide_eq_true hj) (all_cons (byteF_isB _) (all_cons ⟨h1, sl32_ok U, by omega⟩ (all_cons ⟨by omega, by omega⟩ all_nil)))
theorem rp_runs {k s : Sl} {it : Int} (m m2 : Nat) (h1 : kOk k) (h2 : s.o + s.n ≤ s.N) (h3 : 1 ≤ s.n) (h4 : s.n ≤ 4096) (hi : 1 ≤ it) (hi2 : it ≤ 65536) {n : Nat} (hn : n = 16 ∨ n = 32) :
    Runs (cfgRp shaF) 22 (rpA (k.pl m) (s.pl m2) it n) (shaH [k.row, s.row]) fun v H => v = rpV 8 n ∧ [H[8]?] = [some (rpE (qQ shaF k s (it - 1).toNat))] := by
  have hgl : ∀ g nm, (cfgRp shaF).glob g = some nm → nm < (shaH [k.row, s.row]).length := fun g nm hg => Nat.lt_of_lt_of_le (globS_lt hg) (by show 3 ≤ 6; omega)
  rcases hn with rfl | rfl
  · refine runs_by cfgRpOK (fun j : Nat => rpC shaF (k.pl m) (s.pl m2) it 16 (vQ shaF k s j) (qQ shaF k s j) (j + 1)) (fun j => j ≤ (it - 1).toNat) (fun j => (it - 1).toNat - j) hgl ?_ fun j hj J => ?_
    · refine to_startM (some (1, 8)) 20000 0 (Nat.zero_le _) (rp_init16 shaF k s it m m2) (rp_names16 shaF k s it m m2 _ _ 1 _ _ 1) (fun q hq p u hp hu => ?_) (by simp) (rpI_all h1 h2 h3 h4)
      obtain rfl : q = (0, 13, .int .i64 (.lit 1)) := by simpa using hq
      exact tmp_setP (rp_tmp16 shaF k s it m m2 _ _ 1) hp hu (int_imp0 rfl)
    · by_cases hin : j < (it - 1).toNat
      · exact to_turn (some (1, 8)) 20000 (j + 1) ⟨by omega, by omega⟩ (rp_turn16 shaF k s it m m2 (vQ shaF k s j) (qQ shaF k s j) (j + 1) J) (rp_nameT16 shaF k s it m m2 _ _ (j + 1) _ _ (j + 2)) (rpU_all h1 (by omega) hi2)
      · have e : j = (it - 1).toNat := by omega
        exact to_end none 20000 (rp_end16 shaF k s it m m2 (vQ shaF k s j) (qQ shaF k s j) (j + 1) J) (all_cons (decide_eq_false (by omega)) all_nil) fun H hH => ⟨rfl, by rw [← e]; exact hH⟩
  · refine runs_by cfgRpOK (fun j : Nat => rpC shaF (k.pl m) (s.pl m2) it 32 (vQ shaF k s j) (qQ shaF k s j) (j + 1)) (fun j => j ≤ (it - 1).toNat) (fun j => (it - 1).toNat - j) hgl ?_ fun j hj J => ?_
    · refine to_startM (some (1, 8)) 20000 0 (Nat.zero_le _) (rp_init32 shaF k s it m m2) (rp_names32 shaF k s it m m2 _ _ 1 _ _ 1) (fun q hq p u hp hu => ?_) (by simp) (rpI_all h1 h2 h3 h4)
      obtain rfl : q = (0, 13, .int .i64 (.lit 1)) := by simpa using hq
      exact tmp_setP (rp_tmp32 shaF k s it m m2 _ _ 1) hp hu (int_imp0 rfl)
    · by_cases hin : j < (it - 1).toNat
      · exact to_turn (some (1, 8)) 20000 (j + 1) ⟨by omega, by omega⟩ (rp_turn32 shaF k s it m m2 (vQ shaF k s j) (qQ shaF k s j) (j + 1) J) (rp_nameT32 shaF k s it m m2 _ _ (j + 1) _ _ (j + 2)) (rpU_all h1 (by omega) hi2)
      · have e : j = (it - 1).toNat := by omega
        exact to_end none 20000 (rp_end32 shaF k s it m m2 (vQ shaF k s j) (qQ shaF k s j) (j + 1) J) (all_cons (decide_eq_false (by omega)) all_nil) fun H hH => ⟨rfl, by rw [← e]; exact hH⟩
theorem endsP {I : Ifc} {base j n : Nat} {L : List (BitVec 8)} {H : List SO} (hj : I.known j = false) (ho : ownsOf I.ents 0 = []) (hE : H[j]? = some (.own (.lst (bx L)) false 5)) : I.Ends base [j] ⟨rpV base n, [], [.own (.lst (bx L)) false 5]⟩ (rpV j n) H := by
  have ho' : I.out base [j] j = base := by
    unfold Ifc.out
    rw [hj]
    show base + idxN j [j] = base
    rw [show idxN j [j] = boolC (Nat.beq j j) 0 _ from rfl, Nat.beq_refl]; rfl
  have hs : I.seen [j] j = true := by
    unfold Ifc.seen
    rw [hj]
    exact (memN_iff (n := j) (l := [j])).2 List.mem_cons_self
  refine ⟨?_, ?_, by rw [ho]; trivial, ⟨given_own hE (bx_uses _ _) (by show SO.own (.lst (SV.renL _ (bx _))) _ _ = _; rw [bx_ren]), trivial⟩⟩
  · show (SV.slice ⟨I.out base [j] j, .lit 0⟩ (.lit n) (.rest (I.out base [j] j) 0)).Imp _
    rw [ho']; exact .refl _
  · show (I.seen [j] j && I.seen [j] j) = true
    rw [hs]; rfl
noncomputable def rpOk (k s : Sl) (t : Int) : Prop := kOk k ∧ (s.o + s.n ≤ s.N ∧ 1 ≤ s.n ∧ s.n ≤ 4096) ∧ 1 ≤ t ∧ t ≤ 65536
noncomputable def rpdR (F : HashF) (base : Nat) (k s : Sl) (t : Int) (n : Nat) : R SumRes := .need (rpOk k s t) (.ok ⟨rpV base n, [], [rpE (qQ F k s (t - 1).toNat)]⟩)
noncomputable def rpdS (F : HashF) : Summ := fun args H base => args4 args fun kv sv tv nv => shaT H (partL H kv fun k kn => partL H sv fun s sn => boolC (distN [kn, sn]) (i64O tv fun t => optC (litI nv) (.stuck 787) fun n => boolC (Nat.beq n 16) (rpdR F base k s t.den 16) (boolC (Nat.beq n 32) (rpdR F base k s t.den 32) (.stuck 787))) (.stuck 787))
theorem rpdOK : SumAt Tryz.prog globS 22 (rpdS shaF) := by
  intro O w0 β H w base args vs hH hG ha
  refine args4_sat fun kv sv tv nv hv => shaT_sat fun hT => partL_sat fun k kn hn ht hk => partL_sat fun s sn hn2 ht2 hk2 => boolC_only fun hd => i64O_sat fun t htv => optC_only fun n hln => ?_
  subst htv
  rw [hv, litI_spec hln] at ha
  obtain ⟨x, ys, hx, hys, rfl⟩ := denL_cons.1 ha
  obtain ⟨y, zs, hy, hzs, rfl⟩ := denL_cons.1 hys
  obtain ⟨m, _, hx'⟩ := Sl.val_den (hk _ _ hx)
  obtain ⟨m2, _, hy'⟩ := Sl.val_den (hk2 _ _ hy)
  have hzs := impL_cons (int_imp0 (k := .i64) (a := t) (b := .sym t.den) rfl) (SV.ImpL.refl _) _ _ hzs
  have key : ∀ (n : Nat), (n = 16 ∨ n = 32) → SV.denL β [.int .i64 (.sym t.den), .int .i64 (.lit n)] = some zs → (rpdR shaF base k s t.den n).Sat (SumSem Tryz.prog H β w base 22 (x :: y :: zs)) := by
    intro n hn32 hz
    rintro ⟨h1, ⟨h2, h3, h4⟩, h5, h6⟩
    let I : Ifc := shaI [kn, sn] [k.row, s.row] (rpA (k.pl m) (s.pl m2) t.den n)
    have hargs : SV.denL β (SV.renL I.big I.args) = some (x :: y :: zs) := by
      show SV.denL β [((k.pl m).val 4).ren _, ((s.pl m2).val 5).ren _, .int .i64 (.sym t.den), .int .i64 (.lit n)] = _
      rw [Sl.val_ren, Sl.val_ren]
      exact denL_cons.2 ⟨_, _, hx', denL_cons.2 ⟨_, _, hy', hz, rfl⟩, rfl⟩
    have hfit : I.Fits H := Ifc.fits (nd4 hd (by simp only [List.mem_cons, List.not_mem_nil, or_false]; rintro x (rfl | rfl) <;> assumption)) (by
      show (((k.pl m).val 4).uses _ && (((s.pl m2).val 5).uses _ && (true && (true && true)))) = true
      rw [Sl.val_uses _ _ _ rfl, Sl.val_uses _ _ _ rfl]; rfl) (shaI_ents hT ⟨⟨ht _, k.row_uses _⟩, ⟨ht2 _, s.row_uses _⟩, trivial⟩)
    exact Go.Sim.sum_runs (c := cfgRp shaF) hH I (shaI_glob hG) hargs hfit [8] (by simp [I, shaI]) (by simp) (runs_mono (rp_runs (k := k) (s := s) m m2 h1 h2 h3 h4 h5 h6 hn32) fun v H2 ⟨hv, hE⟩ => by rw [hv]; exact endsP rfl rfl (List.cons.inj hE).1)
  refine boolC_sat (fun h => ?_) fun _ => boolC_only fun h => ?_
  · rw [beq_spec h] at hzs
    exact key 16 (.inl rfl) hzs
  · rw [beq_spec h] at hzs
    exact key 32 (.inr rfl) hzs
/- Plain: the two are the same. -/
theorem mrep_norm {S : HSt} {k M : Nat → BitVec 8} {m : Nat} (h : Mrep S k M m) : Mrep (norm S) k M m := ⟨rep_norm h.rep, fun i hi => by rw [norm_K (by omega)]; exact h.K i hi⟩
theorem mrep_first (k : Sl) (a : Sl) {S : HSt} (hS : Mrep S (keyP shaF k.F k.n) (fun _ => 0#8) 0) : Mrep (partF S (some a)) (keyP shaF k.F k.n) a.F a.n := by
  have h := mrep_part (X := a.F) (n := a.n) hS
  rw [Nat.zero_add] at h
  exact h.congr fun i hi => by rw [catF_ge (by omega)]; rfl
theorem mrep_hm (k : Sl) : Mrep (norm (hm0 k)) (keyP shaF k.F k.n) (fun _ => 0#8) 0 := mrep_norm (mrep_new _ _)
theorem u0_eq (k s : Sl) : u0 (norm (hm0 k)) s = rp0 shaF k s := by
  unfold u0 rp0
  refine (mac_eq (mrep_two (mrep_first k s (mrep_norm (mrep_hm k))) (slL (num4 1)))).trans (macB_congr fun i hi => ?_)
  unfold catF rsM catB
  rw [Nat.zero_add]
  by_cases c : i < s.n
  · rw [if_pos c, if_pos c]
    show s.X (s.o + i) = s.X (s.o + (0 + i))
    rw [Nat.zero_add]
  · rw [if_neg c, if_neg c]; rfl
theorem uN_eq (k : Sl) (U : Nat → BitVec 8) : uN (norm (hm0 k)) U = rpN shaF k U := by
  unfold uN rpN
  exact mac_eq (mrep_first k (slL (tabB U 32)) (mrep_norm (mrep_hm k)))
theorem uQ_eq (k s : Sl) : ∀ j, uQ (norm (hm0 k)) s j = vQ shaF k s j
  | 0 => by show byteAt _ = byteAt _; rw [u0_eq]
  | j + 1 => by show byteAt _ = byteAt _; rw [uQ_eq k s j, uN_eq]
theorem rQ_eq (k s : Sl) : ∀ j, rQ (norm (hm0 k)) s j = qQ shaF k s j
  | 0 => by show byteAt _ = byteAt _; rw [u0_eq]
  | j + 1 => by show xorU _ _ = xorU _ _; rw [rQ_eq k s j, uQ_eq]
theorem pwQ_eq (k s : Sl) (t : Int) : pwQ k s t = qQ shaF k s (t - 1).toNat := rQ_eq k s _
end Go.Proofs.YtflafdhmmcknhaaGreatDoor.Aes


/-
  The profiles: the chapter's examples hold.
-/
namespace Go.Proofs.YtflafdhmmcknhaaGreatDoor.Aes
open Go.Sim
open Go.Proofs
variable {α : Type}

set_option maxRecDepth 1000000
noncomputable def cfgX (F : HashF) (E : CtsF) : Cfg := cfgG globP (sumsOf [(24, findS), (26, usableS), (16, kindsS), (25, copyS), (14, sealS F E), (15, openS)])
theorem cfgXOK : CfgOK (cfgX shaF encF) := sumsG_ok (allS (findOK _) (allS (usableOK _) (allS (kindsOK _) (allS (copyOK _) (allS sealOK (allS (openOK _) (by simp)))))))
noncomputable def knT (F : HashF) (E : CtsF) : Tree := callSim (cfgX F E) 5000 4 [] (shaHP [])
noncomputable def kaS (n : Nat) : Sl := ⟨fun i => byteAt (repN 0#8 n) (0 + i), n, 0, n, true, 0⟩
noncomputable def helloS : Sl := ⟨byteAt [104#8, 101#8, 108#8, 108#8, 111#8], 5, 0, 5, true, 0⟩
noncomputable def opN : Prop := ((0 : Int) ≤ 2 ∧ (2 : Int) ≤ 65535) ∧ (1 : Int) ≤ 1 ∧ (1 : Int) ≤ 1023
noncomputable def knC (F : HashF) (E : CtsF) : List Prop :=
  [(0 + 16 ≤ 16 ∧ 16 ≤ 1099511627776), (0 + 32 ≤ 32 ∧ 32 ≤ 1099511627776), IsB (byteF (kaS 16).X), seOK (.lit 0) (.lit 1) (kaS 16) z16 16 16, (0 + 5 ≤ 5 ∧ 5 ≤ 208), IsB (byteF (kaS 32).X), seOK (.lit 0) (.lit 1) (kaS 32) z16 32 16, 0 + 5 ≤ 5, false = false, false = false,
   IsB (byteF (kaS 16).X), IsB (byteF (two (cphS F E (kaS 16) z16 helloS 1) (tag1S F E (kaS 16) z16 helloS 1))), opN, 31 ≤ 37, IsB (byteF (kaS 16).X), IsB (byteF (two (cphS F E (kaS 16) z16 helloS 1) (tag1S F E (kaS 16) z16 helloS 1))), opN, 31 < 32,
   IsB (byteF (kaS 16).X), IsB (byteF (two (cph5 F (kaS 32) z16 helloS 1) (tag5 F (kaS 32) z16 helloS 1))), opN]
theorem kn_run (F : HashF) (E : CtsF) : outO [] (knT F E) [false, false] = (knC F E, some (.bool (.lit true), [])) := by kernel_rfl
noncomputable def knS : Summ := fun args H _ => args0 args (shaTP H (.ok ⟨.bool (.lit true), [], []⟩))
theorem knOK : SumAt Tryz.prog globP 4 knS := by
  intro O w0 β H w base args vs hH hG ha
  refine args0_sat fun hv => shaTP_sat fun hT => ?_
  rw [hv] at ha
  have hop : opN := ⟨⟨by omega, by omega⟩, by omega, by omega⟩
  have hse : ∀ n, seOK (.lit 0) (.lit 1) (kaS n) z16 n 16 := fun n => ⟨⟨by show (0 : Int) ≤ 0; omega, by show (0 : Int) ≤ 65535; omega⟩, ⟨by show (1 : Int) ≤ 1; omega, by show (1 : Int) ≤ 1023; omega⟩, by show 0 + n ≤ n; omega, by show 0 + 16 ≤ 16; omega⟩
  refine sum_outOG cfgXOK 5000 hH (shaIP [] [] []) (shaIP_glob hG) ha (Ifc.fits (by simp [shaIP]) rfl (shaIP_ents hT trivial)) [] (by simp) (by simp) (kn_run shaF encF) ?_ fun _ _ => ends0 rfl rfl rfl
  exact all_cons ⟨by omega, by omega⟩ (all_cons ⟨by omega, by omega⟩ (all_cons (byteF_isB _) (all_cons (hse 16) (all_cons ⟨by omega, by omega⟩ (all_cons (byteF_isB _) (all_cons (hse 32) (all_cons (by omega) (all_cons rfl (all_cons rfl
    (all_cons (byteF_isB _) (all_cons (byteF_isB _) (all_cons hop (all_cons (by omega) (all_cons (byteF_isB _) (all_cons (byteF_isB _) (all_cons hop (all_cons (by omega) (all_cons (byteF_isB _) (all_cons (byteF_isB _) (all_cons hop all_nil))))))))))))))))))))
end Go.Proofs.YtflafdhmmcknhaaGreatDoor.Aes


/-
  The profiles: whether two keys are equal.
-/
namespace Go.Proofs.YtflafdhmmcknhaaGreatDoor.Aes
open Go.Sim
open Go.Proofs
variable {α : Type}

set_option maxRecDepth 1000000
section
variable (p v p' v' : Int) (x y : Sl) (m m2 : Nat)
end
section
variable (p v p' v' : Int) (x y : Sl) (m m2 : Nat)
end
end Go.Proofs.YtflafdhmmcknhaaGreatDoor.Aes


/-
  ProfilePasswords: the law's runs.
-/
namespace Go.Proofs.YtflafdhmmcknhaaGreatDoor.Aes
open Go.Sim
open Go.Proofs
variable {α : Type}

set_option maxRecDepth 1000000
noncomputable def cfgLp (F : HashF) (b : Bool) : Cfg := cfgG globS (sumsOf [(16, kindsS), (18, pwdS), (19, kdfS F), (22, rpdS F), (47, rhG F), (48, numS), (8, vaS b), (4, knS)])
theorem cfgLpOK {b : Bool} : CfgOK (cfgLp shaF b) := sumsG_ok (allS (kindsOK _) (allS (SumAt.up pwdOK) (allS (SumAt.up kdfOK) (allS rpdOK (allS rhGOK (allS (rfourOK _) (allS (vaOK _) (allS (SumAt.up knOK) (by simp)))))))))
noncomputable def lpA (p : Int) (a b : ByteArray) (it : Int) : List SV := [.int .i64 (.sym p), .str (.sym a), .str (.sym b), .int .i64 (.sym it)]
noncomputable def lpT (F : HashF) (p : Int) (a b : ByteArray) (it : Int) : Tree := callSim (cfgLp F true) 20000 3 (lpA p a b it) (shaH [])
/- The strings, the keys. -/
noncomputable def aS (a : ByteArray) : Sl := ⟨fun i => Sim.byteOf (bytesFn a i), a.size, 0, a.size, true, 0⟩
noncomputable def nm1 : List (BitVec 8) := [97#8, 101#8, 115#8, 49#8, 50#8, 56#8, 45#8, 99#8, 116#8, 115#8, 45#8, 104#8, 109#8, 97#8, 99#8, 45#8, 115#8, 104#8, 97#8, 50#8, 53#8, 54#8, 45#8, 49#8, 50#8, 56#8, 0#8]
noncomputable def nm2 : List (BitVec 8) := [115#8, 116#8, 114#8, 101#8, 97#8, 109#8, 45#8, 104#8, 109#8, 97#8, 99#8, 45#8, 115#8, 104#8, 97#8, 50#8, 53#8, 54#8, 45#8, 50#8, 53#8, 54#8, 0#8]
noncomputable def wF (L : List (BitVec 8)) (b : ByteArray) : Nat → BitVec 8 := catB (fun i => byteAt L (0 + i)) (lenN L) (fun i => Sim.byteOf (bytesFn b (0 + i)))
noncomputable def wS (L : List (BitVec 8)) (b : ByteArray) : Sl := ⟨wF L b, lenN L + b.size, 0, lenN L + b.size, true, 0⟩
noncomputable def wG (L : List (BitVec 8)) (b : ByteArray) : Nat → BitVec 8 := catB (fun i => byteAt L (0 + i)) (lenN L) (fun i => (b.data.getD i 0).toBitVec)
noncomputable def rS (L : List (BitVec 8)) (b : ByteArray) : Sl := ⟨wG L b, lenN L + b.size, 0, lenN L + b.size, true, 0⟩
noncomputable def strP (L : List (BitVec 8)) : ByteArray := bytesOf (mapN (fun x => SI.b8 x) L)
noncomputable def kerL : List (BitVec 8) := [107#8, 101#8, 114#8, 98#8, 101#8, 114#8, 111#8, 115#8]
noncomputable def kerS : Sl := ⟨byteAt kerL, 8, 0, 8, true, 0⟩
noncomputable def kerM (n : Int) : List (BitVec 8) := app (num4 1) (app kerL (0#8 :: num4 (8 * n)))
noncomputable def pkA (F : HashF) (n : Nat) (L : List (BitVec 8)) (a b : ByteArray) (it : Int) : ByteArray := strP (tabB (byteAt (macB F (fun i => byteAt (tabB (pwQ (aS a) (wS L b) it) n) (0 + i)) n (kdfM kerS n) 17)) n)
noncomputable def pkB (F : HashF) (n : Nat) (L : List (BitVec 8)) (a b : ByteArray) (it : Int) : ByteArray := strP (tabB (byteAt (macB F (fun i => byteAt (tabB (qQ F (aS a) (rS L b) (it - 1).toNat) 32) (0 + i)) n (fun i => byteAt (kerM n) (0 + i)) 17)) n)
/- The conditions. -/
noncomputable def gDir (h : Bool) (k : Nat) : List Bool := boolC h [true, false] (repN false k)
noncomputable def gLen (n : Nat) (h : Bool) : List Prop := boolC h [decide ((n : Int) > 200) = true, decide ((n : Int) ≤ 4096) = false] (repN (decide ((n : Int) > 200) = false) 4)
noncomputable def gIt (it : Int) (h : Bool) : List Prop := boolC h [decide (it > 16) = true, decide (it ≤ 65536) = false] (repN (decide (it > 16) = false) 3)
noncomputable def gD (hA hB hT : Bool) (r : List Bool) : List Bool := app (gDir hA 4) (app (gDir hB 4) (app (gDir hT 3) r))
noncomputable def gC (a b : ByteArray) (it : Int) (hA hB hT : Bool) (r : List Prop) : List Prop := app (gLen a.size hA) (app (gLen b.size hB) (app (gIt it hT) r))
noncomputable def roomC (n : Nat) (b : ByteArray) : Prop := ((n + b.size) * 1 < 140737488355328 ∧ n + b.size < 140737488355328) ∧ 1 = 1
noncomputable def k1C (p : Int) (r : List Prop) : List Prop := ((p == 1) = true) :: r
noncomputable def k2C (p : Int) (r : List Prop) : List Prop := ((p == 1) = false) :: ((p == 2) = true) :: r
noncomputable def k0C (p : Int) (r : List Prop) : List Prop := ((p == 1) = false) :: ((p == 2) = false) :: r
noncomputable def pwN (L : List (BitVec 8)) (n : Nat) (a b : ByteArray) (it : Int) (bad : Bool) (r : List Prop) : List Prop := (0 + b.size ≤ b.size ∧ IsB (bytesFn b)) :: (n ≤ n) :: roomC n b :: IsB (bytesFn a) :: IsB (byteF (wF L b)) :: (pwBad (aS a) (wS L b) it = bad) :: r
noncomputable def rnC (n : Nat) (b : ByteArray) (r : List Prop) : List Prop := (n ≤ n) :: roomC n b :: r
noncomputable def goodC (L : List (BitVec 8)) (n m : Nat) (F : HashF) (p : Int) (a b : ByteArray) (it : Int) : List Prop := [decide (it < 1) = false, decide (it > 65536) = false, decide ((a.size : Int) > 4096) = false, decide (((n + b.size : Nat) : Int) > 4096) = false, IsB (bytesFn a), IsB (byteF (wG L b)), rpOk (aS a) (rS L b) it, (0 + m ≤ 32 ∧ m ≤ 1099511627776) ∧ (0 + 17 ≤ 17 ∧ 17 ≤ 1099511627776) ∧ 17 ≤ 1099511627712, (p == p) = true, decide (pkA F m L a b it = pkB F m L a b it) = true, validK p 0 m ↔ true = true]
noncomputable def kdN (n m : Nat) (a b : ByteArray) (r : List Prop) : List Prop := (0 + a.size ≤ a.size ∧ 0 + (n + b.size) ≤ n + b.size) :: ((m ≤ m ∧ m ≤ 4096) ∧ 8 ≤ 8 ∧ 8 ≤ 4096) :: r
noncomputable def badT (it : Int) : List Prop := repN (decide (it < 1) = true) 3
noncomputable def badU (it : Int) : List Prop := (decide (it < 1) = false) :: repN (decide (it > 65536) = true) 4
noncomputable def badA (a : ByteArray) (it : Int) : List Prop := (decide (it < 1) = false) :: (decide (it > 65536) = false) :: repN (decide ((a.size : Int) > 4096) = true) 4
noncomputable def badB (n : Nat) (a b : ByteArray) (it : Int) : List Prop := [decide (it < 1) = false, decide (it > 65536) = false, decide ((a.size : Int) > 4096) = false, decide (((n + b.size : Nat) : Int) > 4096) = true]
noncomputable def lpR : Option (SV × List (Option SO)) := some (.bool (.lit true), [])
section
variable (F : HashF) (p : Int) (a b : ByteArray) (it : Int)
theorem lp0_000 : outO [] (lpT F p a b it) (gD false false false [false, false, false, false, false]) = (gC a b it false false false (k0C p (k0C p (((p == 1) = false) :: rnC 23 b []))), lpR) := by kernel_rfl
theorem lp0_001 : outO [] (lpT F p a b it) (gD false false true [false, false, false, false, false]) = (gC a b it false false true (k0C p (k0C p (((p == 1) = false) :: rnC 23 b []))), lpR) := by kernel_rfl
theorem lp0_010 : outO [] (lpT F p a b it) (gD false true false [false, false, false, false, false]) = (gC a b it false true false (k0C p (k0C p (((p == 1) = false) :: rnC 23 b []))), lpR) := by kernel_rfl
theorem lp0_011 : outO [] (lpT F p a b it) (gD false true true [false, false, false, false, false]) = (gC a b it false true true (k0C p (k0C p (((p == 1) = false) :: rnC 23 b []))), lpR) := by kernel_rfl
theorem lp0_100 : outO [] (lpT F p a b it) (gD true false false [false, false, false, false, false]) = (gC a b it true false false (k0C p (k0C p (((p == 1) = false) :: rnC 23 b []))), lpR) := by kernel_rfl
theorem lp0_101 : outO [] (lpT F p a b it) (gD true false true [false, false, false, false, false]) = (gC a b it true false true (k0C p (k0C p (((p == 1) = false) :: rnC 23 b []))), lpR) := by kernel_rfl
theorem lp0_110 : outO [] (lpT F p a b it) (gD true true false [false, false, false, false, false]) = (gC a b it true true false (k0C p (k0C p (((p == 1) = false) :: rnC 23 b []))), lpR) := by kernel_rfl
theorem lp0_111 : outO [] (lpT F p a b it) (gD true true true [false, false, false, false, false]) = (gC a b it true true true (k0C p (k0C p (((p == 1) = false) :: rnC 23 b []))), lpR) := by kernel_rfl
theorem lp_a : outO [] (lpT F p a b it) (true :: repN true 6) = ((decide ((a.size : Int) > 200) = true) :: repN (decide ((a.size : Int) ≤ 4096) = true) 6, lpR) := by kernel_rfl
theorem lp_b0 : outO [] (lpT F p a b it) (app (gDir false 4) (true :: repN true 5)) = (app (gLen a.size false) ((decide ((b.size : Int) > 200) = true) :: repN (decide ((b.size : Int) ≤ 4096) = true) 5), lpR) := by kernel_rfl
theorem lp_t00 : outO [] (lpT F p a b it) (app (gDir false 4) (app (gDir false 4) [true, true])) = (app (gLen a.size false) (app (gLen b.size false) [decide (it > 16) = true, decide (it ≤ 65536) = true]), lpR) := by kernel_rfl
theorem lp_t01 : outO [] (lpT F p a b it) (app (gDir false 4) (app (gDir true 4) [true, true])) = (app (gLen a.size false) (app (gLen b.size true) [decide (it > 16) = true, decide (it ≤ 65536) = true]), lpR) := by kernel_rfl
theorem lp_b1 : outO [] (lpT F p a b it) (app (gDir true 4) (true :: repN true 5)) = (app (gLen a.size true) ((decide ((b.size : Int) > 200) = true) :: repN (decide ((b.size : Int) ≤ 4096) = true) 5), lpR) := by kernel_rfl
theorem lp_t10 : outO [] (lpT F p a b it) (app (gDir true 4) (app (gDir false 4) [true, true])) = (app (gLen a.size true) (app (gLen b.size false) [decide (it > 16) = true, decide (it ≤ 65536) = true]), lpR) := by kernel_rfl
theorem lp_t11 : outO [] (lpT F p a b it) (app (gDir true 4) (app (gDir true 4) [true, true])) = (app (gLen a.size true) (app (gLen b.size true) [decide (it > 16) = true, decide (it ≤ 65536) = true]), lpR) := by kernel_rfl
end
end Go.Proofs.YtflafdhmmcknhaaGreatDoor.Aes


/-
  ProfilePasswords: the law's runs, profile 1.
-/
namespace Go.Proofs.YtflafdhmmcknhaaGreatDoor.Aes
open Go.Sim
open Go.Proofs
variable {α : Type}

set_option maxRecDepth 1000000
section
variable (F : HashF) (p : Int) (a b : ByteArray) (it : Int)
theorem lp1_good : outO [] (lpT F p a b it) (gD false false false [true, false, true, true, false, false, false, false, true, true]) = (gC a b it false false false (k1C p (pwN nm1 27 a b it false (kdN 27 16 a b ((k1C p (((p == 1) = true) :: rnC 27 b (goodC nm1 27 16 F p a b it))))))), lpR) := by kernel_rfl
theorem lp1_n00 : outO [] (lpT F p a b it) (gD false false false [true, true, true, true, true, true, true]) = (gC a b it false false false (k1C p (pwN nm1 27 a b it true (((k1C p (((p == 1) = true) :: rnC 27 b (badT it))))))), lpR) := by kernel_rfl
theorem lp1_u00 : outO [] (lpT F p a b it) (gD false false true [true, true, true, true, false, true, true, true, true]) = (gC a b it false false true (k1C p (pwN nm1 27 a b it true (((k1C p (((p == 1) = true) :: rnC 27 b (badU it))))))), lpR) := by kernel_rfl
theorem lp1_n01 : outO [] (lpT F p a b it) (gD false true false [true, true, true, true, true, true, true]) = (gC a b it false true false (k1C p (pwN nm1 27 a b it true (((k1C p (((p == 1) = true) :: rnC 27 b (badT it))))))), lpR) := by kernel_rfl
theorem lp1_u01 : outO [] (lpT F p a b it) (gD false true true [true, true, true, true, false, true, true, true, true]) = (gC a b it false true true (k1C p (pwN nm1 27 a b it true (((k1C p (((p == 1) = true) :: rnC 27 b (badU it))))))), lpR) := by kernel_rfl
theorem lp1_a0 : outO [] (lpT F p a b it) (gD true false false [true, true, true, true, false, false, true, true, true, true]) = (gC a b it true false false (k1C p (pwN nm1 27 a b it true (((k1C p (((p == 1) = true) :: rnC 27 b (badA a it))))))), lpR) := by kernel_rfl
theorem lp1_n10 : outO [] (lpT F p a b it) (gD true false false [true, true, true, true, true, true, true]) = (gC a b it true false false (k1C p (pwN nm1 27 a b it true (((k1C p (((p == 1) = true) :: rnC 27 b (badT it))))))), lpR) := by kernel_rfl
theorem lp1_u10 : outO [] (lpT F p a b it) (gD true false true [true, true, true, true, false, true, true, true, true]) = (gC a b it true false true (k1C p (pwN nm1 27 a b it true (((k1C p (((p == 1) = true) :: rnC 27 b (badU it))))))), lpR) := by kernel_rfl
theorem lp1_n11 : outO [] (lpT F p a b it) (gD true true false [true, true, true, true, true, true, true]) = (gC a b it true true false (k1C p (pwN nm1 27 a b it true (((k1C p (((p == 1) = true) :: rnC 27 b (badT it))))))), lpR) := by kernel_rfl
theorem lp1_u11 : outO [] (lpT F p a b it) (gD true true true [true, true, true, true, false, true, true, true, true]) = (gC a b it true true true (k1C p (pwN nm1 27 a b it true (((k1C p (((p == 1) = true) :: rnC 27 b (badU it))))))), lpR) := by kernel_rfl
theorem lp1_a1 : outO [] (lpT F p a b it) (gD true true false [true, true, true, true, false, false, true, true, true, true]) = (gC a b it true true false (k1C p (pwN nm1 27 a b it true (((k1C p (((p == 1) = true) :: rnC 27 b (badA a it))))))), lpR) := by kernel_rfl
theorem lp1_b : outO [] (lpT F p a b it) (gD false true false [true, true, true, true, false, false, false, true]) = (gC a b it false true false (k1C p (pwN nm1 27 a b it true (((k1C p (((p == 1) = true) :: rnC 27 b (badB 27 a b it))))))), lpR) := by kernel_rfl
end
end Go.Proofs.YtflafdhmmcknhaaGreatDoor.Aes


/-
  ProfilePasswords: the law's runs, profile 2.
-/
namespace Go.Proofs.YtflafdhmmcknhaaGreatDoor.Aes
open Go.Sim
open Go.Proofs
variable {α : Type}

set_option maxRecDepth 1000000
section
variable (F : HashF) (p : Int) (a b : ByteArray) (it : Int)
theorem lp2_good : outO [] (lpT F p a b it) (gD false false false [false, true, false, false, true, false, false, false, false, false, true, true]) = (gC a b it false false false (k2C p (pwN nm2 23 a b it false (kdN 23 32 a b ((k2C p (((p == 1) = false) :: rnC 23 b (goodC nm2 23 32 F p a b it))))))), lpR) := by kernel_rfl
theorem lp2_n00 : outO [] (lpT F p a b it) (gD false false false [false, true, true, false, true, false, true, true, true]) = (gC a b it false false false (k2C p (pwN nm2 23 a b it true (((k2C p (((p == 1) = false) :: rnC 23 b (badT it))))))), lpR) := by kernel_rfl
theorem lp2_u00 : outO [] (lpT F p a b it) (gD false false true [false, true, true, false, true, false, false, true, true, true, true]) = (gC a b it false false true (k2C p (pwN nm2 23 a b it true (((k2C p (((p == 1) = false) :: rnC 23 b (badU it))))))), lpR) := by kernel_rfl
theorem lp2_n01 : outO [] (lpT F p a b it) (gD false true false [false, true, true, false, true, false, true, true, true]) = (gC a b it false true false (k2C p (pwN nm2 23 a b it true (((k2C p (((p == 1) = false) :: rnC 23 b (badT it))))))), lpR) := by kernel_rfl
theorem lp2_u01 : outO [] (lpT F p a b it) (gD false true true [false, true, true, false, true, false, false, true, true, true, true]) = (gC a b it false true true (k2C p (pwN nm2 23 a b it true (((k2C p (((p == 1) = false) :: rnC 23 b (badU it))))))), lpR) := by kernel_rfl
theorem lp2_a0 : outO [] (lpT F p a b it) (gD true false false [false, true, true, false, true, false, false, false, true, true, true, true]) = (gC a b it true false false (k2C p (pwN nm2 23 a b it true (((k2C p (((p == 1) = false) :: rnC 23 b (badA a it))))))), lpR) := by kernel_rfl
theorem lp2_n10 : outO [] (lpT F p a b it) (gD true false false [false, true, true, false, true, false, true, true, true]) = (gC a b it true false false (k2C p (pwN nm2 23 a b it true (((k2C p (((p == 1) = false) :: rnC 23 b (badT it))))))), lpR) := by kernel_rfl
theorem lp2_u10 : outO [] (lpT F p a b it) (gD true false true [false, true, true, false, true, false, false, true, true, true, true]) = (gC a b it true false true (k2C p (pwN nm2 23 a b it true (((k2C p (((p == 1) = false) :: rnC 23 b (badU it))))))), lpR) := by kernel_rfl
theorem lp2_n11 : outO [] (lpT F p a b it) (gD true true false [false, true, true, false, true, false, true, true, true]) = (gC a b it true true false (k2C p (pwN nm2 23 a b it true (((k2C p (((p == 1) = false) :: rnC 23 b (badT it))))))), lpR) := by kernel_rfl
theorem lp2_u11 : outO [] (lpT F p a b it) (gD true true true [false, true, true, false, true, false, false, true, true, true, true]) = (gC a b it true true true (k2C p (pwN nm2 23 a b it true (((k2C p (((p == 1) = false) :: rnC 23 b (badU it))))))), lpR) := by kernel_rfl
theorem lp2_a1 : outO [] (lpT F p a b it) (gD true true false [false, true, true, false, true, false, false, false, true, true, true, true]) = (gC a b it true true false (k2C p (pwN nm2 23 a b it true (((k2C p (((p == 1) = false) :: rnC 23 b (badA a it))))))), lpR) := by kernel_rfl
theorem lp2_b : outO [] (lpT F p a b it) (gD false true false [false, true, true, false, true, false, false, false, false, true]) = (gC a b it false true false (k2C p (pwN nm2 23 a b it true (((k2C p (((p == 1) = false) :: rnC 23 b (badB 23 a b it))))))), lpR) := by kernel_rfl
end
end Go.Proofs.YtflafdhmmcknhaaGreatDoor.Aes


/-
  The start of a law: rows off the card.
-/
namespace Go.Proofs.YtflafdhmmcknhaaGreatDoor.Aes
open Go.Sim
open Go.Proofs

theorem HeapRel.rows {P : Program} {W : World} {β : Val} {H : List SO} (h : ∀ n e, H[n]? = some e → ∃ c, e = .row c ∧ RowRel (fun _ => False) W β n c) (hb : ∀ n, H.length ≤ n → β n = none) : HeapRel P (fun _ => False) W β H W := by
  refine ⟨⟨fun n e hn => ?_, fun n m e e' l l' hn hm ho ho' => ?_, fun n e l hn ho => ?_, ⟨rfl, rfl, rfl, Nat.le_refl _, fun _ _ _ => rfl⟩⟩, hb⟩
  · obtain ⟨c, rfl, hc⟩ := h n e hn; exact hc
  · obtain ⟨c, rfl, hc⟩ := h n e hn; cases ho
  · obtain ⟨c, rfl, hc⟩ := h n e hn; cases ho
theorem kx_den {γ : Val} (k : IntKind) : ∀ T : List Nat, SV.denL γ (kx k T) = some (T.map fun n => Value.int k (Int.ofNat n))
  | [] => rfl
  | _ :: T => denL_cons.2 ⟨_, _, rfl, kx_den k T, rfl⟩
theorem cell_lt {W : World} {a : Addr} {x : Value} (h : W.cell? a = some x) : a.block < W.heap.size := by
  by_cases hb : a.block < W.heap.size
  · exact hb
  · unfold World.cell? at h
    have hn : W.heap[a.block]? = none := Array.getElem?_eq_none (by omega)
    simp only [hn] at h
    cases h
theorem kx_row {W : World} {β : Val} {n : Nat} {l : Sim.Loc} {k : IntKind} {L : List Nat} (hl : β n = some l) (hc : ∀ i, i < L.length → W.cell? ⟨l.blk, l.off + i, none⟩ = some (.int k ((L.getD i 0 : Nat) : Int))) : RowRel (fun _ => False) W β n (.lst (kx k L)) := by
  refine ⟨l, _, hl, kx_den k L, fun i x hx => ?_⟩
  rw [List.getElem?_map] at hx
  cases hi : L[i]? with
  | none => rw [hi] at hx; cases hx
  | some t =>
    rw [hi] at hx; cases hx
    have hlt : i < L.length := (List.getElem?_eq_some_iff.1 hi).1
    have hcell := hc i hlt
    have e : L.getD i 0 = t := by rw [List.getD_eq_getElem?_getD, hi]; rfl
    rw [e] at hcell
    exact ⟨cell_lt hcell, fun f => f, hcell⟩
theorem arr_at {P : Program} {w : World} {name : String} {g : Nat} {t e : TypeId} {k : IntKind} {n : Nat} {L : List Nat} (hn : P.globalNamed name = some g) (hy : (P.globals[g]?).map (·.type) = some t) (ht : P.underlying t = some (.array n e)) (he : P.underlying e = some (.int k)) (hce : P.cellsOf e = 1) (hct : P.cellsOf t = n)
    (h : Lib.VarReads P w name (Lib.tabData k (L.map Int.ofNat))) : ∀ i, i < L.length → w.cell? ⟨g, i, none⟩ = some (.int k ((L.getD i 0 : Nat) : Int)) := by
  obtain ⟨g', t', cs, fuel, p, hg, hty, hvar, hd⟩ := h
  obtain rfl := Option.some.inj (hn.symm.trans hg)
  obtain rfl := Option.some.inj (hy.symm.trans hty)
  intro i hi
  have hT : Lib.TabIs P w name k (L.map Int.ofNat) := by
    unfold Lib.TabIs
    rw [hvar, ← Lib.cells_of_tab ht he hce hct hd]
  have := hT.cell hn i (by simpa using hi)
  rw [this]
  simp [List.getD_eq_getElem?_getD, List.getElem?_eq_getElem hi]
theorem slice_at {P : Program} {w : World} {name : String} {g : Nat} {t e : TypeId} {k : IntKind} {l : List Nat} (hn : P.globalNamed name = some g) (hy : (P.globals[g]?).map (·.type) = some t)
    (ht : P.underlying t = some (.slice e)) (he : P.underlying e = some (.int k)) (hc : P.cellsOf e = 1) (hl : 0 < l.length) (h : Lib.VarReads P w name (Lib.sliceData k l)) :
    ∃ R o : Nat, w.cell? ⟨g, 0, none⟩ = some (.slice (some ⟨R, o, none⟩) l.length l.length) ∧ ∀ j, j < l.length → w.cell? ⟨R, o + j, none⟩ = some (.int k (l.getD j 0)) := by
  obtain ⟨R, o, c, h1, h2⟩ := Lib.tabSlice_of_reads hn hy ht he hc hl h
  refine ⟨R, o, ?_, h2⟩
  obtain ⟨g', t', cs, fuel, p, hg, hty, hvar, hd⟩ := h
  obtain rfl := Option.some.inj (hn.symm.trans hg)
  obtain rfl := Option.some.inj (hy.symm.trans hty)
  rcases DataW.trod_slice ht hd with ⟨_, hx⟩ | ⟨a, len, cap, el, rs, m, rfl, hcs, hx, _, hlc, _, hel, helem, hsp, _⟩
  · cases hx
  have e0 := congrArg Prod.fst hx
  simp only [Lib.sliceData, DataW.slice.injEq] at e0
  obtain ⟨eE, eR⟩ := e0
  have hlen : len = l.length := by
    have := congrArg List.length eE
    simp at this
    omega
  have hr := (hsp rfl).1
  have hr0 : rs.length = 0 := by
    have := congrArg List.length eR
    simp at this
    simp [this]
  have hcap : cap = l.length := by omega
  have h3 : w.cell? ⟨g, 0, none⟩ = some (.slice (some a) l.length l.length) := by
    rw [World.var?_cell hg hvar 0, ← Array.getElem?_toList, hcs, hlen, hcap]
    rfl
  rw [h1] at h3
  cases h3
  exact h1
end Go.Proofs.YtflafdhmmcknhaaGreatDoor.Aes


/-
  The start of a law that reads the tables of the hash function and of its reference.
-/
namespace Go.Proofs.YtflafdhmmcknhaaGreatDoor.Aes
open Go.Sim
open Go.Proofs

theorem sha_start {W : World} (hL : laidMetH Tryz.prog [("watchword/watchwordref04.constants", Rows.laid_watchword_watchwordref04_constants), ("watchword/sha.start", Rows.laid_watchword_sha_start), ("watchword/sha.constants", Rows.laid_watchword_sha_constants)] W) :
    ∃ β, HeapRel Tryz.prog (fun _ => False) W β (shaH []) W ∧ GlobRel globS β := by
  rw [MakeChecks.laidMetH_plain _ _ _ (by kernel_rfl)] at hL
  have e1 : (Rows.laid_watchword_watchwordref04_constants : DataW Unit) = Lib.sliceData .i64 constL := by kernel_rfl
  have e2 : (Rows.laid_watchword_sha_start : DataW Unit) = Lib.tabData .u32 (startL.map Int.ofNat) := by kernel_rfl
  have e3 : (Rows.laid_watchword_sha_constants : DataW Unit) = Lib.tabData .u32 (constL.map Int.ofNat) := by kernel_rfl
  rw [e1, e2, e3] at hL
  have r1 := Lib.laidMet.reads hL (n := "watchword/watchwordref04.constants") (d := Lib.sliceData .i64 constL) (by simp)
  have r2 := Lib.laidMet.reads hL (n := "watchword/sha.start") (d := Lib.tabData .u32 (startL.map Int.ofNat)) (by simp)
  have r3 := Lib.laidMet.reads hL (n := "watchword/sha.constants") (d := Lib.tabData .u32 (constL.map Int.ofNat)) (by simp)
  have t2 := arr_at (g := 0) (t := 97) (e := 95) (n := 8) (by kernel_rfl) (by kernel_rfl) (by kernel_rfl) (by kernel_rfl) (by kernel_rfl) (by kernel_rfl) r2
  have t3 := arr_at (g := 1) (t := 143) (e := 95) (n := 64) (by kernel_rfl) (by kernel_rfl) (by kernel_rfl) (by kernel_rfl) (by kernel_rfl) (by kernel_rfl) r3
  obtain ⟨R, o, c1, c2⟩ := slice_at (g := 2) (t := 149) (e := 3) (by kernel_rfl) (by kernel_rfl) (by kernel_rfl) (by kernel_rfl) (by kernel_rfl) (by decide) r1
  have hc64 : constL.length = 64 := rfl
  rw [hc64] at c1
  let β : Val := fun n => match n with
    | 0 => some (Sim.Loc.mk 0 0 0)
    | 1 => some (Sim.Loc.mk 1 0 0)
    | 2 => some (Sim.Loc.mk 2 0 0)
    | 3 => some (Sim.Loc.mk R o 0)
    | _ => none
  refine ⟨β, HeapRel.rows (fun n e hn => ?_) fun n hn => ?_, fun g nm hg => ?_⟩
  · match n, hn with
    | 0, hn => cases hn; exact ⟨_, rfl, kx_row (l := Sim.Loc.mk 0 0 0) rfl fun i hi => by rw [show (Sim.Loc.mk 0 0 0).off + i = i from Nat.zero_add i]; exact t2 i hi⟩
    | 1, hn => cases hn; exact ⟨_, rfl, kx_row (l := Sim.Loc.mk 1 0 0) rfl fun i hi => by rw [show (Sim.Loc.mk 1 0 0).off + i = i from Nat.zero_add i]; exact t3 i hi⟩
    | 2, hn =>
      cases hn
      refine ⟨_, rfl, Sim.Loc.mk 2 0 0, [.slice (some ⟨R, o, none⟩) 64 64], rfl, ?_, fun i x hx => ?_⟩
      · show SV.denL β [.slice ⟨3, .lit 0⟩ (.lit 64) (.lit 64)] = _
        rfl
      · cases i with
        | zero =>
          cases hx
          exact ⟨cell_lt c1, fun f => f, c1⟩
        | succ i => simp at hx
    | 3, hn => cases hn; exact ⟨_, rfl, kx_row (l := Sim.Loc.mk R o 0) rfl fun i hi => c2 i hi⟩
    | n + 4, hn => simp [shaH] at hn
  · match n, hn with
    | n + 4, _ => rfl
    | 0, hn => simp [shaH] at hn
    | 1, hn => simp [shaH] at hn
    | 2, hn => simp [shaH] at hn
    | 3, hn => simp [shaH] at hn
  · rcases boolC_some (show boolC (Nat.beq g 0) (some 0) _ = some nm from hg) with ⟨h1, h2⟩ | h
    · cases h2; exact ⟨_, rfl, (beq_spec h1).symm, rfl⟩
    · rcases boolC_some (show boolC (Nat.beq g 1) (some 1) _ = some nm from h) with ⟨h1, h2⟩ | h
      · cases h2; exact ⟨_, rfl, (beq_spec h1).symm, rfl⟩
      · obtain ⟨h1, h2⟩ := boolC_opt (show boolC (Nat.beq g 2) (some 2) none = some nm from h)
        cases h2; exact ⟨_, rfl, (beq_spec h1).symm, rfl⟩
end Go.Proofs.YtflafdhmmcknhaaGreatDoor.Aes


/-
  ProfilePasswords: the law.
-/
namespace Go.Proofs.YtflafdhmmcknhaaGreatDoor.Aes
open Go.Sim
open Go.Proofs
open Go.RowKit
variable {α : Type}

set_option maxRecDepth 100000
/- Plain. -/
theorem wFG (L : List (BitVec 8)) (b : ByteArray) : wS L b = rS L b := by
  have e : wF L b = wG L b := by
    funext i
    unfold wF wG catB
    split
    · rfl
    · show Sim.byteOf (bytesFn b (0 + (i - lenN L))) = _
      rw [Nat.zero_add]; rfl
  unfold wS rS
  rw [e]
theorem macB_congrK {K K' M M' : Nat → BitVec 8} {n m : Nat} (hn : n ≤ 64) (hK : ∀ i, i < n → K i = K' i) (hM : ∀ i, i < m → M i = M' i) : macB shaF K n M m = macB shaF K' n M' m := by
  rw [macB_congr hM]
  have hk : ∀ x, xorP shaF K n x = xorP shaF K' n x := fun x => by
    funext i
    unfold xorP keyP
    rw [if_pos hn, if_pos hn]
    by_cases c : i < n
    · rw [if_pos c, if_pos c, hK i c]
    · rw [if_neg c, if_neg c]
  unfold macB
  rw [hk, hk]
theorem ker16 : mapN (fun i => kdfM kerS ((16 : Nat) : Int) i) (fromN 17 0) = mapN (fun i => byteAt (kerM ((16 : Nat) : Int)) (0 + i)) (fromN 17 0) := by kernel_rfl
theorem ker32 : mapN (fun i => kdfM kerS ((32 : Nat) : Int) i) (fromN 17 0) = mapN (fun i => byteAt (kerM ((32 : Nat) : Int)) (0 + i)) (fromN 17 0) := by kernel_rfl
theorem pk_eq {n : Nat} (hn : n ≤ 32) (hk : mapN (fun i => kdfM kerS (n : Int) i) (fromN 17 0) = mapN (fun i => byteAt (kerM (n : Int)) (0 + i)) (fromN 17 0)) (L : List (BitVec 8)) (a b : ByteArray) (it : Int) : pkA shaF n L a b it = pkB shaF n L a b it := by
  unfold pkA pkB
  rw [wFG, pwQ_eq]
  have e := macB_congrK (n := n) (m := 17) (K := fun i => byteAt (tabB (qQ shaF (aS a) (rS L b) (it - 1).toNat) n) (0 + i)) (K' := fun i => byteAt (tabB (qQ shaF (aS a) (rS L b) (it - 1).toNat) 32) (0 + i)) (M := kdfM kerS n) (M' := fun i => byteAt (kerM n) (0 + i)) (by omega)
    (fun i hi => by show byteAt _ (0 + i) = byteAt _ (0 + i); rw [Nat.zero_add, byteAt_tab hi, byteAt_tab (by omega)]) (fun i hi => mapN_atP hk (Nat.zero_le _) (by omega))
  rw [e]
theorem bad_of {k s : Sl} {t : Int} (h : ¬ pwOk k s t) : pwBad k s t = true := @decide_eq_true _ (Classical.propDecidable _) h
theorem good_of {k s : Sl} {t : Int} (h : pwOk k s t) : pwBad k s t = false := @decide_eq_false _ (Classical.propDecidable _) (fun hn => hn h)
theorem all_appP {l m : List Prop} (h : ∀ p ∈ l, p) (h' : ∀ p ∈ m, p) : ∀ p ∈ app l m, p := by
  intro p hp
  rw [app_eq] at hp
  rcases List.mem_append.1 hp with hp | hp
  · exact h p hp
  · exact h' p hp
theorem bytesFn_isB (b : ByteArray) : IsB (bytesFn b) := byteF_isB fun i => (b.data.getD i 0).toBitVec
def isLen (n : Nat) (h : Bool) : Prop := (h = false → n ≤ 200) ∧ (h = true → 4096 < n)
def isIt (it : Int) (h : Bool) : Prop := (h = false → it ≤ 16) ∧ (h = true → 65536 < it)
theorem gLen_all {n : Nat} {h : Bool} (hl : isLen n h) : ∀ p ∈ gLen n h, p := by
  cases h with
  | false => have := hl.1 rfl; exact rep_allP (decide_eq_false (by omega)) 4
  | true => have := hl.2 rfl; exact all_cons (decide_eq_true (by omega)) (all_cons (decide_eq_false (by omega)) all_nil)
theorem gIt_all {it : Int} {h : Bool} (hl : isIt it h) : ∀ p ∈ gIt it h, p := by
  cases h with
  | false => have := hl.1 rfl; exact rep_allP (decide_eq_false (by omega)) 3
  | true => have := hl.2 rfl; exact all_cons (decide_eq_true (by omega)) (all_cons (decide_eq_false (by omega)) all_nil)
section
variable {p it : Int} {a b : ByteArray} {hA hB hT : Bool}
theorem gC_all (h1 : isLen a.size hA) (h2 : isLen b.size hB) (h3 : isIt it hT) {r : List Prop} (hr : ∀ q ∈ r, q) : ∀ q ∈ gC a b it hA hB hT r, q := all_appP (gLen_all h1) (all_appP (gLen_all h2) (all_appP (gIt_all h3) hr))
theorem roomC_ok {n : Nat} (hn : n ≤ 27) (hb : b.size ≤ 140737488351232) : roomC n b := ⟨⟨by omega, by omega⟩, rfl⟩
theorem k1_all (h : p = 1) {r : List Prop} (hr : ∀ q ∈ r, q) : ∀ q ∈ k1C p r, q := all_cons (by rw [h]; rfl) hr
theorem k2_all (h : p = 2) {r : List Prop} (hr : ∀ q ∈ r, q) : ∀ q ∈ k2C p r, q := all_cons (by rw [h]; rfl) (all_cons (by rw [h]; rfl) hr)
theorem k0_all (h : p ≠ 1) (h' : p ≠ 2) {r : List Prop} (hr : ∀ q ∈ r, q) : ∀ q ∈ k0C p r, q := all_cons (by rw [beq_eq_false_iff_ne]; exact h) (all_cons (by rw [beq_eq_false_iff_ne]; exact h') hr)
theorem rnC_all {n : Nat} (hn : n ≤ 27) (hb : b.size ≤ 140737488351232) {r : List Prop} (hr : ∀ q ∈ r, q) : ∀ q ∈ rnC n b r, q := all_cons (Nat.le_refl _) (all_cons (roomC_ok hn hb) hr)
theorem pwN_all {L : List (BitVec 8)} {n : Nat} {bad : Bool} (hn : n ≤ 27) (hb : b.size ≤ 140737488351232) (h : pwBad (aS a) (wS L b) it = bad) {r : List Prop} (hr : ∀ q ∈ r, q) : ∀ q ∈ pwN L n a b it bad r, q :=
  all_cons ⟨by omega, bytesFn_isB b⟩ (all_cons (Nat.le_refl _) (all_cons (roomC_ok hn hb) (all_cons (bytesFn_isB a) (all_cons (byteF_isB _) (all_cons h hr)))))
theorem badT_all (h : it < 1) : ∀ q ∈ badT it, q := rep_allP (decide_eq_true h) 3
theorem badU_all (h : 65536 < it) : ∀ q ∈ badU it, q := all_cons (decide_eq_false (by omega)) (rep_allP (decide_eq_true (by omega)) 4)
theorem badA_all (h1 : 1 ≤ it) (h2 : it ≤ 65536) (h : 4096 < a.size) : ∀ q ∈ badA a it, q := all_cons (decide_eq_false (by omega)) (all_cons (decide_eq_false (by omega)) (rep_allP (decide_eq_true (by omega)) 4))
theorem badB_all {n : Nat} (h1 : 1 ≤ it) (h2 : it ≤ 65536) (h3 : a.size ≤ 4096) (h : 4096 < b.size) : ∀ q ∈ badB n a b it, q := all_cons (decide_eq_false (by omega)) (all_cons (decide_eq_false (by omega)) (all_cons (decide_eq_false (by omega)) (all_cons (decide_eq_true (by omega)) all_nil)))
theorem goodC_all {L : List (BitVec 8)} {n m : Nat} (hl : lenN L = n) (hn1 : 1 ≤ n) (hn : n ≤ 27) (hm : m ≤ 32) (hk : mapN (fun i => kdfM kerS (m : Int) i) (fromN 17 0) = mapN (fun i => byteAt (kerM (m : Int)) (0 + i)) (fromN 17 0)) (ha : a.size ≤ 200) (hb : b.size ≤ 200) (h1 : 1 ≤ it) (h2 : it ≤ 16) (hv : validK p 0 m) : ∀ q ∈ goodC L n m shaF p a b it, q :=
  all_cons (decide_eq_false (by omega)) (all_cons (decide_eq_false (by omega)) (all_cons (decide_eq_false (by omega)) (all_cons (decide_eq_false (by omega)) (all_cons (bytesFn_isB a) (all_cons (byteF_isB _)
    (all_cons ⟨⟨by show 0 + a.size ≤ a.size; omega, by show a.size ≤ _; omega⟩, ⟨by show 0 + (lenN L + b.size) ≤ lenN L + b.size; omega, by show 1 ≤ lenN L + b.size; omega, by show lenN L + b.size ≤ 4096; omega⟩, h1, by omega⟩
    (all_cons ⟨⟨by omega, by omega⟩, ⟨by omega, by omega⟩, by omega⟩ (all_cons (by simp) (all_cons (decide_eq_true (pk_eq hm hk L a b it)) (all_cons ⟨fun _ => rfl, fun _ => hv⟩ all_nil))))))))))
theorem kdN_all {n m : Nat} (hm : m ≤ 32) {r : List Prop} (hr : ∀ q ∈ r, q) : ∀ q ∈ kdN n m a b r, q := all_cons ⟨by omega, by omega⟩ (all_cons ⟨⟨by omega, by omega⟩, by omega, by omega⟩ hr)
end
theorem lp_law {w : World} {β : Val} (hH : HeapRel Tryz.prog (fun _ => False) w β (shaH []) w) (hG : GlobRel globS β) (p it : Int) (a b : ByteArray) (hb : b.size ≤ 140737488351232) :
    Calls Tryz.prog 3 #[.int .i64 p, .string a, .string b, .int .i64 it] w fun e w' => e = .returned (.bool true) ∧ Below w.heap.size w w' := by
  have hv0 : SV.denL β (lpA p a b it) = some [.int .i64 p, .string a, .string b, .int .i64 it] := rfl
  have low : ∀ {cs ds}, outO [] (lpT shaF p a b it) ds = (cs, lpR) → (∀ q ∈ cs, q) → _ := fun {cs ds} hr hc => law_by cfgLpOK 20000 hH hG hv0 ds hr hc
  by_cases ma : 200 < a.size ∧ a.size ≤ 4096
  · exact low (lp_a shaF p a b it) (all_cons (decide_eq_true (by omega)) (rep_allP (decide_eq_true (by omega)) 6))
  obtain ⟨hA, h1⟩ : ∃ h, isLen a.size h := by
    by_cases c : a.size ≤ 200
    · exact ⟨false, fun _ => c, fun h => by cases h⟩
    · exact ⟨true, fun h => (by cases h), fun _ => by omega⟩
  by_cases mb : 200 < b.size ∧ b.size ≤ 4096
  · have hc := all_appP (gLen_all h1) (all_cons (decide_eq_true (show ((b.size : Nat) : Int) > 200 by omega)) (rep_allP (decide_eq_true (show ((b.size : Nat) : Int) ≤ 4096 by omega)) 5))
    cases hA with
    | false => exact low (lp_b0 shaF p a b it) hc
    | true => exact low (lp_b1 shaF p a b it) hc
  obtain ⟨hB, h2⟩ : ∃ h, isLen b.size h := by
    by_cases c : b.size ≤ 200
    · exact ⟨false, fun _ => c, fun h => by cases h⟩
    · exact ⟨true, fun h => (by cases h), fun _ => by omega⟩
  by_cases mt : 16 < it ∧ it ≤ 65536
  · have hc := all_appP (gLen_all h1) (all_appP (gLen_all h2) (all_cons (decide_eq_true (show it > 16 by omega)) (all_cons (decide_eq_true (show it ≤ 65536 by omega)) all_nil)))
    cases hA <;> cases hB
    · exact low (lp_t00 shaF p a b it) hc
    · exact low (lp_t01 shaF p a b it) hc
    · exact low (lp_t10 shaF p a b it) hc
    · exact low (lp_t11 shaF p a b it) hc
  obtain ⟨hT, h3⟩ : ∃ h, isIt it h := by
    by_cases c : it ≤ 16
    · exact ⟨false, fun _ => c, fun h => by cases h⟩
    · exact ⟨true, fun h => (by cases h), fun _ => by omega⟩
  by_cases p1 : p = 1
  · have hbad : ¬ pwOk (aS a) (wS nm1 b) it → ∀ {t : List Prop}, (∀ q ∈ t, q) → ∀ q ∈ gC a b it hA hB hT (k1C p (pwN nm1 27 a b it true (k1C p (((p == 1) = true) :: rnC 27 b t)))), q := fun hn {t} ht =>
      gC_all h1 h2 h3 (k1_all p1 (pwN_all (by omega) hb (bad_of hn) (k1_all p1 (all_cons (by rw [p1]; rfl) (rnC_all (by omega) hb ht)))))
    by_cases t1 : it < 1
    · have hc := hbad (fun h => by have := h.2.1; omega) (badT_all t1)
      have hf : hT = false := by
        cases hT with
        | false => rfl
        | true => have := h3.2 rfl; omega
      subst hf
      cases hA <;> cases hB
      · exact low (lp1_n00 shaF p a b it) hc
      · exact low (lp1_n01 shaF p a b it) hc
      · exact low (lp1_n10 shaF p a b it) hc
      · exact low (lp1_n11 shaF p a b it) hc
    cases hT with
    | true =>
      have t2 := h3.2 rfl
      have hc := hbad (fun h => by have := h.2.2; omega) (badU_all t2)
      cases hA <;> cases hB
      · exact low (lp1_u00 shaF p a b it) hc
      · exact low (lp1_u01 shaF p a b it) hc
      · exact low (lp1_u10 shaF p a b it) hc
      · exact low (lp1_u11 shaF p a b it) hc
    | false =>
      have t2 := h3.1 rfl
      cases hA with
      | true =>
        have t3 := h1.2 rfl
        have hc := hbad (fun h => by have h : a.size ≤ 4096 := h.1.1; omega) (badA_all (a := a) (it := it) (by omega) (by omega) t3)
        cases hB
        · exact low (lp1_a0 shaF p a b it) hc
        · exact low (lp1_a1 shaF p a b it) hc
      | false =>
        have t3 := h1.1 rfl
        cases hB with
        | true =>
          have t4 := h2.2 rfl
          exact low (lp1_b shaF p a b it) (hbad (fun h => by have h : 27 + b.size ≤ 4096 := h.1.2; omega) (badB_all (a := a) (b := b) (it := it) (by omega) (by omega) (by omega) t4))
        | false =>
          have t4 := h2.1 rfl
          have hok : pwOk (aS a) (wS nm1 b) it := ⟨⟨by show a.size ≤ 4096; omega, by show 27 + b.size ≤ 4096; omega⟩, by omega, by omega⟩
          exact low (lp1_good shaF p a b it) (gC_all h1 h2 h3 (k1_all p1 (pwN_all (by omega) hb (good_of hok) (kdN_all (by omega) (k1_all p1 (all_cons (by rw [p1]; rfl) (rnC_all (by omega) hb (goodC_all rfl (by omega) (by omega) (by omega) ker16 t3 t4 (by omega) t2 ⟨.inl ⟨p1, rfl⟩, by omega, by omega⟩))))))))
  by_cases p2 : p = 2
  · have hbad : ¬ pwOk (aS a) (wS nm2 b) it → ∀ {t : List Prop}, (∀ q ∈ t, q) → ∀ q ∈ gC a b it hA hB hT (k2C p (pwN nm2 23 a b it true (k2C p (((p == 1) = false) :: rnC 23 b t)))), q := fun hn {t} ht =>
      gC_all h1 h2 h3 (k2_all p2 (pwN_all (by omega) hb (bad_of hn) (k2_all p2 (all_cons (by rw [p2]; rfl) (rnC_all (by omega) hb ht)))))
    by_cases t1 : it < 1
    · have hc := hbad (fun h => by have := h.2.1; omega) (badT_all t1)
      have hf : hT = false := by
        cases hT with
        | false => rfl
        | true => have := h3.2 rfl; omega
      subst hf
      cases hA <;> cases hB
      · exact low (lp2_n00 shaF p a b it) hc
      · exact low (lp2_n01 shaF p a b it) hc
      · exact low (lp2_n10 shaF p a b it) hc
      · exact low (lp2_n11 shaF p a b it) hc
    cases hT with
    | true =>
      have t2 := h3.2 rfl
      have hc := hbad (fun h => by have := h.2.2; omega) (badU_all t2)
      cases hA <;> cases hB
      · exact low (lp2_u00 shaF p a b it) hc
      · exact low (lp2_u01 shaF p a b it) hc
      · exact low (lp2_u10 shaF p a b it) hc
      · exact low (lp2_u11 shaF p a b it) hc
    | false =>
      have t2 := h3.1 rfl
      cases hA with
      | true =>
        have t3 := h1.2 rfl
        have hc := hbad (fun h => by have h : a.size ≤ 4096 := h.1.1; omega) (badA_all (a := a) (it := it) (by omega) (by omega) t3)
        cases hB
        · exact low (lp2_a0 shaF p a b it) hc
        · exact low (lp2_a1 shaF p a b it) hc
      | false =>
        have t3 := h1.1 rfl
        cases hB with
        | true =>
          have t4 := h2.2 rfl
          exact low (lp2_b shaF p a b it) (hbad (fun h => by have h : 23 + b.size ≤ 4096 := h.1.2; omega) (badB_all (a := a) (b := b) (it := it) (by omega) (by omega) (by omega) t4))
        | false =>
          have t4 := h2.1 rfl
          have hok : pwOk (aS a) (wS nm2 b) it := ⟨⟨by show a.size ≤ 4096; omega, by show 23 + b.size ≤ 4096; omega⟩, by omega, by omega⟩
          exact low (lp2_good shaF p a b it) (gC_all h1 h2 h3 (k2_all p2 (pwN_all (by omega) hb (good_of hok) (kdN_all (by omega) (k2_all p2 (all_cons (by rw [p2]; rfl) (rnC_all (by omega) hb (goodC_all rfl (by omega) (by omega) (by omega) ker32 t3 t4 (by omega) t2 ⟨.inr ⟨p2, rfl⟩, by omega, by omega⟩))))))))
  have hc : ∀ q ∈ gC a b it hA hB hT (k0C p (k0C p (((p == 1) = false) :: rnC 23 b []))), q := gC_all h1 h2 h3 (k0_all p1 p2 (k0_all p1 p2 (all_cons (by rw [beq_eq_false_iff_ne]; exact p1) (rnC_all (by omega) hb all_nil))))
  cases hA <;> cases hB <;> cases hT
  · exact low (lp0_000 shaF p a b it) hc
  · exact low (lp0_001 shaF p a b it) hc
  · exact low (lp0_010 shaF p a b it) hc
  · exact low (lp0_011 shaF p a b it) hc
  · exact low (lp0_100 shaF p a b it) hc
  · exact low (lp0_101 shaF p a b it) hc
  · exact low (lp0_110 shaF p a b it) hc
  · exact low (lp0_111 shaF p a b it) hc
end Go.Proofs.YtflafdhmmcknhaaGreatDoor.Aes

