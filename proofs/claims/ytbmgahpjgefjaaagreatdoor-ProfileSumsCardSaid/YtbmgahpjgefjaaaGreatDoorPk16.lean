/-
  Texts behind one another: the symbolic simulator and what it is told of the program.
-/
import Derived.Test.YtbmgahpjgefjaaaGreatDoorZPro24
import Derived.Test.YtbmgahpjgefjaaaGreatDoorPk13
import Derived.Test.YtbmgahpjgefjaaaGreatDoorPk9
import Derived.Test.YtbmgahpjgefjaaaGreatDoorPk15
import Derived.Test.YtbmgahpjgefjaaaGreatDoorPk5
import Derived.WideShapes
import Derived.ChangeShapes
import Derived.ChangeSlices
import Derived.Deep.Strs

/-
  The profiles: Open, where it is told that the key and the usage are valid, and what comes of the tag: its summaries.
-/
namespace Go.Proofs.YtbmgahpjgefjaaaGreatDoor.Aes
open Go.Sim
open Go.Proofs
variable {α : Type}

set_option maxRecDepth 100000
noncomputable def opT1 (F : HashF) (i : Nat) (k : Sl) (u : Int) (t : Sl) : Bool := boolC (Nat.beq i 1) (eqB (tgA F k u (ocS t 16)) (otS t 16) 16) (eqB (tgB F k u (ocS t 32)) (otS t 32) 32)
noncomputable def opnQ (i : Nat) (p v u sp sv : Int) (k t : Sl) : Prop := p = i ∧ usQ i v u k.n ∧ sp = i ∧ versQ v sv ∧ okL k ∧ okL t ∧ 16 + tagN i ≤ t.n ∧ t.n ≤ 224 + tagN i


/- The conditions. -/
theorem dkS_ok {F : HashF} {k : Sl} {n : Nat} {u : Int} {x : BitVec 8} (hn : n ≤ 32) : okK (dkS F k n u x) := ⟨by show 0 + n ≤ n; omega, by show n ≤ 4096; omega⟩
/- It ends in ErrCheck. -/
/- It returns the text. -/
end Go.Proofs.YtbmgahpjgefjaaaGreatDoor.Aes


/-
  A keyed hash of no bytes: the summary of HMAC, where its one part is nil.
-/
namespace Go.Proofs.YtbmgahpjgefjaaaGreatDoor.Aes
open Go.Sim
open Go.Proofs
variable {α : Type}

set_option maxRecDepth 100000
theorem hm_run0 (k : Sl) : outO [] (hmT k [.nilSlice] []) [] = (hmC0 k (partC (hm0 k) none (hmE (partF (hm0 k) none))), hmV (partF (hm0 k) none)) := by kernel_rfl
/-- nil alone -/
noncomputable def nil1 (l : List SV) (t f : R α) : R α := List.rec (motive := fun _ => R α) f (fun v r _ => List.rec (motive := fun _ => R α) (sliceR v t fun _ _ => f) (fun _ _ _ => f) r) l
theorem nil1_sat {l : List SV} {t f : R α} {φ : α → Prop} (h : l = [.nilSlice] → t.Sat φ) (h' : f.Sat φ) : (nil1 l t f).Sat φ := by
  cases l with
  | nil => exact h'
  | cons v r =>
    cases r with
    | nil => exact sliceR_sat (fun hn => h (by rw [hn])) fun _ _ _ _ => h'
    | cons => exact h'
noncomputable def hmZ (F : (Nat → BitVec 8) → Nat → List (BitVec 8)) : Summ := fun args H base => args2 args fun kv pv => optC (slNm pv) (.stuck 841) fun pn => optC (cellsE (nth H pn)) (.stuck 841) fun l => nil1 l
  (shaTP H (partL H kv fun k kn => boolC (newOne pn) (boolC (isSlO pv pn 0 1) (boolC (distN [kn, pn]) (.need (k.o + k.n ≤ k.N ∧ k.n ≤ 4096) (.ok (hmRes F k (fun _ => 0#8) 0))) (.stuck 841)) (.stuck 841)) (.stuck 841))) (hmS F args H base)
theorem hmZOK : SumAt Tryz.prog globP 73 (hmZ shaF) := by
  intro O w0 β H w base args vs hH hG ha
  refine args2_sat fun kv pv hv => optC_only fun pn _ => optC_only fun l hl => nil1_sat (fun hln => shaTP_sat fun hT => partL_sat fun k kn hn ht hk => boolC_only fun hn2 => boolC_only fun hp => boolC_only fun hd => fun ⟨h1, h2⟩ => ?_) (hmOK O w0 β H w base args vs hH hG ha)
  subst hln
  rw [hv] at ha
  rw [nth_eq] at hl
  have hr := mrep_none (mrep_new (keyP shaF k.F k.n) (fun _ => 0#8))
  refine sum_outOG cfgHMOK 4000 hH (shaIP [kn, pn] [k.row, .row (.lst [.nilSlice])] [k.val 4, .slice ⟨5, .lit 0⟩ (.lit 1) (.lit 1)]) (shaIP_glob hG) (hmI_args _ _ ha hk hp) (Ifc.fits (nd4 hd ?_) (hmI_uses _ _) (shaIP_ents hT ⟨⟨ht _, k.row_uses _⟩, ⟨taken_cells hl (.refl _), rfl⟩, trivial⟩)) [] (by simp) (by simp) (hm_run0 k) ?_ fun _ _ => endsH hr rfl rfl
  · simp only [List.mem_cons, List.not_mem_nil, or_false]; rintro x (rfl | rfl) <;> assumption
  · exact all_cons (byteF_isB _) (all_cons ⟨h1, h2⟩ (partN_all (mrep_new _ (fun _ => 0#8)) (by omega) (hmE_all hr (by omega))))
end Go.Proofs.YtbmgahpjgefjaaaGreatDoor.Aes


/-
  The profiles: Sum and Verify, where it is told that the key and the usage are valid.
-/
namespace Go.Proofs.YtbmgahpjgefjaaaGreatDoor.Aes
open Go.Sim
open Go.Proofs
variable {α : Type}

set_option maxRecDepth 1000000
noncomputable def cfgSm (F : HashF) (us : Summ) : Cfg := cfgG globP (sumsOf [(37, us), (60, deS F), (73, hmZ F), (39, joinS)])
theorem cfgSmOK {us : Summ} (hu : SumOK Tryz.prog 37 us) : CfgOK (cfgSm shaF us) := sumsG_ok (allS (hu _) (allS deOK (allS hmZOK (allS (joinOK _) (by simp)))))
noncomputable def smA (i : Int) (n : Nat) (v u : Int) (k : Sl) (b : SV) : List SV := [.agg [.int .i64 (.lit i), .int .i64 (.sym v), k.valN 4 n], .int .i64 (.sym u), b]
noncomputable def sm1T (F : HashF) (v u : Int) (k t : Sl) : Tree := callSim (cfgSm F (uqS 1 kv1)) 8000 29 (smA 1 16 v u k (t.val 5)) (shaHP [k.row, t.row])
noncomputable def sm2T (F : HashF) (v u : Int) (k t : Sl) : Tree := callSim (cfgSm F (uqS 2 kv2)) 8000 29 (smA 2 32 v u k (t.val 5)) (shaHP [k.row, t.row])
noncomputable def sm1N (F : HashF) (v u : Int) (k : Sl) : Tree := callSim (cfgSm F (uqS 1 kv1)) 8000 29 (smA 1 16 v u k .nilSlice) (shaHP [k.row])
noncomputable def sm2N (F : HashF) (v u : Int) (k : Sl) : Tree := callSim (cfgSm F (uqS 2 kv2)) 8000 29 (smA 2 32 v u k .nilSlice) (shaHP [k.row])
/-- the keyed hash of which the checksum is the beginning -/
noncomputable def smY (F : HashF) (k : Sl) (u : Int) (n : Nat) (t : Sl) : Sl := ⟨byteAt (tabB (byteAt (tagS F (dkS F k n u 0x99#8) t)) 32), 32, 0, n, false, n⟩
noncomputable def smL (F : HashF) (k : Sl) (u : Int) (n : Nat) (t : Sl) : List (BitVec 8) := tabB (smY F k u n t).F n
noncomputable def smV (nm n : Nat) : SV := .tuple [deV nm n, .int .i64 (.lit 0)]
noncomputable def smR (F : HashF) (j : Nat) (k : Sl) (u : Int) (n : Nat) (t : Sl) : Option (SV × List (Option SO)) := some (smV j n, [some (.own (.lst (bx (smL F k u n t))) false 5)])
section
variable (F : HashF) (v u : Int) (k t : Sl) (m m2 : Nat)
theorem sm1_run : outO [14] (sm1T F v u (k.pl m) (t.pl m2)) [] = ([usQ1 1 v u 16, IsB (byteF k.X), k.o + 16 ≤ k.N, IsB (byteF t.X), okK (dkS F k 16 u 0x99#8) ∧ okL t, okL (smY F k u 16 t)], smR F 14 k u 16 t) := by kernel_rfl
theorem sm2_run : outO [14] (sm2T F v u (k.pl m) (t.pl m2)) [] = ([usQ1 2 v u 32, IsB (byteF k.X), k.o + 32 ≤ k.N, IsB (byteF t.X), okK (dkS F k 32 u 0x99#8) ∧ okL t, okL (smY F k u 32 t)], smR F 14 k u 32 t) := by kernel_rfl
theorem sm1_nil : outO [13] (sm1N F v u (k.pl m)) [] = ([usQ1 1 v u 16, IsB (byteF k.X), k.o + 16 ≤ k.N, okK (dkS F k 16 u 0x99#8), okL (smY F k u 16 nilSl)], smR F 13 k u 16 nilSl) := by kernel_rfl
theorem sm2_nil : outO [13] (sm2N F v u (k.pl m)) [] = ([usQ1 2 v u 32, IsB (byteF k.X), k.o + 32 ≤ k.N, okK (dkS F k 32 u 0x99#8), okL (smY F k u 32 nilSl)], smR F 13 k u 32 nilSl) := by kernel_rfl
end
noncomputable def sumS (F : HashF) (i : Nat) : Summ := fun args H base => args3 args fun kv uv bv => kv.asAgg (.stuck 842) fun l => args3 l fun p v s => i64O p fun p => i64O v fun v => i64O uv fun u => shaTP H (partL H s fun k kn => txtL H bv fun t tn => boolC (distN (kn :: optL tn))
  (.need (p.den = (i : Int) ∧ usQ i v.den u.den k.n ∧ okL k ∧ okL t) (.ok ⟨smV base (tagN i), [], [.own (.lst (bx (smL F k u.den (tagN i) t))) false 5]⟩)) (.stuck 842))
theorem endsSm {I : Ifc} {base j n : Nat} {L : List (BitVec 8)} {E : SO} {H : List SO} (hj : I.known j = false) (ho : ownsOf I.ents 0 = []) (hE : H[j]? = some E) (he : E = .own (.lst (bx L)) false 5) : I.Ends base [j] ⟨smV base n, [], [E]⟩ (smV j n) H := by
  have ho' : I.out base [j] j = base := by
    unfold Ifc.out
    rw [hj]
    show base + idxN j [j] = base
    rw [show idxN j [j] = boolC (Nat.beq j j) 0 _ from rfl, Nat.beq_refl]; rfl
  have hs : I.seen [j] j = true := by
    unfold Ifc.seen
    rw [hj]
    exact (memN_iff (n := j) (l := [j])).2 List.mem_cons_self
  subst he
  refine ⟨?_, ?_, by rw [ho]; trivial, ⟨given_own hE (bx_uses _ _) (by show SO.own (.lst (SV.renL _ (bx _))) _ _ = _; rw [bx_ren]), trivial⟩⟩
  · show (SV.tuple [.slice ⟨I.out base [j] j, .lit 0⟩ (.lit n) (.rest (I.out base [j] j) 0), .int .i64 (.lit 0)]).Imp _
    rw [ho']; exact .refl _
  · show ((I.seen [j] j && I.seen [j] j) && (true && true)) = true
    rw [hs]; rfl
theorem smA_uses {p : Nat → Bool} {i : Int} {n : Nat} {v u : Int} {k : Sl} {b : SV} (h4 : p 4 = true) (hb : b.uses p = true) : SV.usesL p (smA i n v u k b) = true := by
  show ((true && (true && ((k.valN 4 n).uses p && true))) && (true && (b.uses p && true))) = true
  rw [Sl.valN_uses _ _ _ _ h4, hb]; rfl
theorem sumSOK {i : Nat} (hi12 : i = 1 ∨ i = 2) : SumAt Tryz.prog globP 29 (sumS shaF i) := by
  intro O w0 β H w base args vs hH hG ha
  refine args3_sat fun kv uv bv hv => ?_
  rcases asAgg_cases kv with ⟨l, rfl⟩ | hno
  case inr => rw [hno]; trivial
  refine args3_sat fun p v s hl => i64O_sat fun p' hp => i64O_sat fun v' hv' => i64O_sat fun u hu => shaTP_sat fun hT => partL_sat fun k kn hn1 ht1 hi1 => ?_
  subst hl hp hv' hu
  rw [hv] at ha
  obtain ⟨⟨xs, hxs⟩, zs, hzs⟩ := agg3_at ha
  obtain ⟨xu, zs1, hxu, hzs1, rfl⟩ := denL_cons.1 hzs
  obtain ⟨xb, zs2, hxb, hzs2, rfl⟩ := denL_cons.1 hzs1
  have harg : ∀ (n0 m : Nat) (bv' : SV), ((k.pl m).valN kn n0).den β = some xs → p'.den = (i : Int) → bv'.den β = some xb → SV.denL β [.agg [.int .i64 (.lit i), .int .i64 (.sym v'.den), (k.pl m).valN kn n0], .int .i64 (.sym u.den), bv'] = some vs := by
    intro n0 m bv' hks hpi hb
    have h1 := agg3_den (s' := (k.pl m).valN kn n0) (p' := .int .i64 (.lit i)) (v' := .int .i64 (.sym v'.den)) ha (fun x hx => by rw [hxs] at hx; cases hx; exact hks) (int_imp0 hpi) (int_imp0 rfl)
    obtain ⟨xa, ws, hxa, hws, rfl⟩ := denL_cons.1 h1
    refine denL_cons.2 ⟨_, _, hxa, ?_, rfl⟩
    rw [hzs] at hws
    cases hws
    exact denL_cons.2 ⟨_, _, int_imp0 rfl _ _ hxu, denL_cons.2 ⟨_, _, hb, hzs2, rfl⟩, rfl⟩
  have hY : ∀ {n : Nat} {t : Sl}, n ≤ 32 → okL (smY shaF k u.den n t) := fun {n t} hn => ⟨by show 0 + n ≤ 32; omega, by show n ≤ _; omega⟩
  refine txtL_sat (fun hnil => boolC_only fun hd => fun ⟨hpi, hq, hk, _⟩ => ?_) fun t tn hn3 ht3 hi3 => boolC_only fun hd => fun ⟨hpi, hq, hk, ht⟩ => ?_
  · subst hnil
    have key : ∀ {n : Nat} {us : Summ} {cs}, CfgOK (cfgSm shaF us) → k.n = n → tagN i = n → (∀ m, outO [13] (callSim (cfgSm shaF us) 8000 29 (smA i n v'.den u.den (k.pl m) .nilSlice) (shaHP [(k.pl m).row])) [] = (cs, smR shaF 13 k u.den n nilSl)) → (∀ q ∈ cs, q) → SumSem Tryz.prog H β w base 29 vs ⟨smV base (tagN i), [], [.own (.lst (bx (smL shaF k u.den (tagN i) nilSl))) false 5]⟩ := by
      intro n us cs hcf hkn hti hr hc
      obtain ⟨m, hks⟩ := Sl.val_denN hkn (hi1 _ _ hxs)
      rw [hti]
      refine sum_outOG hcf 8000 hH (shaIP [kn] [(k.pl m).row] (smA i n v'.den u.den (k.pl m) .nilSlice)) (shaIP_glob hG) ?_ (Ifc.fits (nd4 hd (by simp only [List.mem_cons, List.not_mem_nil, or_false]; rintro x rfl; assumption)) ?_ (shaIP_ents hT ⟨⟨ht1 _, k.row_uses _⟩, trivial⟩)) [13] (by simp [shaIP]) (by simp) (hr m) hc fun H2 hH2 => endsSm rfl rfl (List.cons.inj hH2).1 rfl
      · show SV.denL β [.agg [.int .i64 (.lit i), .int .i64 (.sym v'.den), ((k.pl m).valN 4 n).ren _], .int .i64 (.sym u.den), .nilSlice] = _
        rw [Sl.valN_ren]
        exact harg n m .nilSlice hks hpi hxb
      · exact smA_uses rfl rfl
    rcases hi12 with rfl | rfl
    · have hkn : k.n = 16 := by rcases hq.1.1 with ⟨_, h⟩ | ⟨h, _⟩; exact h; cases h
      rw [hkn] at hq
      exact key (cfgSmOK (uqOK (.inl ⟨rfl, rfl⟩))) hkn rfl (fun m => sm1_nil shaF v'.den u.den k m) (all_cons ⟨rfl, hq⟩ (all_cons (byteF_isB _) (all_cons (by rw [← hkn]; exact hk.1) (all_cons (dkS_ok (by omega)) (all_cons (hY (by omega)) all_nil)))))
    · have hkn : k.n = 32 := by rcases hq.1.1 with ⟨h, _⟩ | ⟨_, h⟩; cases h; exact h
      rw [hkn] at hq
      exact key (cfgSmOK (uqOK (.inr ⟨rfl, rfl⟩))) hkn rfl (fun m => sm2_nil shaF v'.den u.den k m) (all_cons ⟨rfl, hq⟩ (all_cons (byteF_isB _) (all_cons (by rw [← hkn]; exact hk.1) (all_cons (dkS_ok (by omega)) (all_cons (hY (by omega)) all_nil)))))
  · obtain ⟨m2, _, hts⟩ := Sl.val_den (hi3 _ _ hxb)
    have n3 : ∀ {x : Nat}, x ∈ [kn, tn] → newOne x = true := by simp only [List.mem_cons, List.not_mem_nil, or_false]; rintro x (rfl | rfl) <;> assumption
    have key : ∀ {n : Nat} {us : Summ} {cs}, CfgOK (cfgSm shaF us) → k.n = n → tagN i = n → (∀ m, outO [14] (callSim (cfgSm shaF us) 8000 29 (smA i n v'.den u.den (k.pl m) ((t.pl m2).val 5)) (shaHP [(k.pl m).row, (t.pl m2).row])) [] = (cs, smR shaF 14 k u.den n t)) → (∀ q ∈ cs, q) → SumSem Tryz.prog H β w base 29 vs ⟨smV base (tagN i), [], [.own (.lst (bx (smL shaF k u.den (tagN i) t))) false 5]⟩ := by
      intro n us cs hcf hkn hti hr hc
      obtain ⟨m, hks⟩ := Sl.val_denN hkn (hi1 _ _ hxs)
      rw [hti]
      refine sum_outOG hcf 8000 hH (shaIP [kn, tn] [(k.pl m).row, (t.pl m2).row] (smA i n v'.den u.den (k.pl m) ((t.pl m2).val 5))) (shaIP_glob hG) ?_ (Ifc.fits (nd4 hd fun _ => n3) ?_ (shaIP_ents hT ⟨⟨ht1 _, k.row_uses _⟩, ⟨ht3 _, t.row_uses _⟩, trivial⟩)) [14] (by simp [shaIP]) (by simp) (hr m) hc fun H2 hH2 => endsSm rfl rfl (List.cons.inj hH2).1 rfl
      · show SV.denL β [.agg [.int .i64 (.lit i), .int .i64 (.sym v'.den), ((k.pl m).valN 4 n).ren _], .int .i64 (.sym u.den), ((t.pl m2).val 5).ren _] = _
        rw [Sl.valN_ren, Sl.val_ren]
        exact harg n m _ hks hpi hts
      · exact smA_uses rfl (Sl.val_uses _ _ _ rfl)
    rcases hi12 with rfl | rfl
    · have hkn : k.n = 16 := by rcases hq.1.1 with ⟨_, h⟩ | ⟨h, _⟩; exact h; cases h
      rw [hkn] at hq
      exact key (cfgSmOK (uqOK (.inl ⟨rfl, rfl⟩))) hkn rfl (fun m => sm1_run shaF v'.den u.den k t m m2) (all_cons ⟨rfl, hq⟩ (all_cons (byteF_isB _) (all_cons (by rw [← hkn]; exact hk.1) (all_cons (byteF_isB _) (all_cons ⟨dkS_ok (by omega), ht⟩ (all_cons (hY (by omega)) all_nil))))))
    · have hkn : k.n = 32 := by rcases hq.1.1 with ⟨h, _⟩ | ⟨_, h⟩; cases h; exact h
      rw [hkn] at hq
      exact key (cfgSmOK (uqOK (.inr ⟨rfl, rfl⟩))) hkn rfl (fun m => sm2_run shaF v'.den u.den k t m m2) (all_cons ⟨rfl, hq⟩ (all_cons (byteF_isB _) (all_cons (by rw [← hkn]; exact hk.1) (all_cons (byteF_isB _) (all_cons ⟨dkS_ok (by omega), ht⟩ (all_cons (hY (by omega)) all_nil))))))
end Go.Proofs.YtbmgahpjgefjaaaGreatDoor.Aes


/-
  The profiles: Verify, where it is told how it ends.
-/
namespace Go.Proofs.YtbmgahpjgefjaaaGreatDoor.Aes
open Go.Sim
open Go.Proofs
variable {α : Type}

set_option maxRecDepth 1000000
noncomputable def cfgVf (F : HashF) (i : Nat) : Cfg := cfgG globP (sumsOf [(29, sumS F i), (45, eqS)])
theorem cfgVf1 : CfgOK (cfgVf shaF 1) := sumsG_ok (allS (sumSOK (.inl rfl)) (allS (eqOK _) (by simp)))
theorem cfgVf2 : CfgOK (cfgVf shaF 2) := sumsG_ok (allS (sumSOK (.inr rfl)) (allS (eqOK _) (by simp)))
noncomputable def vfA (i : Int) (n : Nat) (v u : Int) (k : Sl) (b s : SV) : List SV := [.agg [.int .i64 (.lit i), .int .i64 (.sym v), k.valN 4 n], .int .i64 (.sym u), b, s]
noncomputable def vfT (F : HashF) (i n : Nat) (v u : Int) (k : Sl) (b s : SV) (r : List SO) : Tree := callSim (cfgVf F i) 4000 31 (vfA i n v u k b s) (shaHP (k.row :: r))
noncomputable def smA1 (F : HashF) (k : Sl) (u : Int) (i n : Nat) (b : Sl) : Sl := ⟨byteAt (smL F (k.len n) u (tagN i) b), n, 0, n, true, 0⟩
noncomputable def vfQ (i : Nat) (v u : Int) (k : Sl) (n : Nat) (b : Sl) : Prop := (i : Int) = i ∧ usQ i v u n ∧ okL (k.len n) ∧ okL b
noncomputable def vfC (F : HashF) (i n : Nat) (v u : Int) (k b s : Sl) (e : Bool) (r : List Prop) : List Prop := IsB (byteF s.X) :: (n ≤ n ∧ okL s) :: ((!eqB (smA1 F k u i n b) s n) = e) :: r
section
variable (F : HashF) (v u : Int) (k b s : Sl) (m m2 m3 : Nat)
theorem vf1_00 : outO [] (vfT F 1 16 v u (k.pl m) .nilSlice .nilSlice []) [] = (IsB (byteF k.X) :: vfQ 1 v u k 16 nilSl :: [], some (.int .i64 (.lit 10), [])) := by kernel_rfl
theorem vf1_01o : outO [] (vfT F 1 16 v u (k.pl m) .nilSlice ((s.pl m3).val 5) [(s.pl m3).row]) [false] = (IsB (byteF k.X) :: vfQ 1 v u k 16 nilSl :: vfC F 1 16 v u k nilSl s false [], some (.int .i64 (.lit 0), [])) := by kernel_rfl
theorem vf1_01e : outO [] (vfT F 1 16 v u (k.pl m) .nilSlice ((s.pl m3).val 5) [(s.pl m3).row]) [true] = (IsB (byteF k.X) :: vfQ 1 v u k 16 nilSl :: vfC F 1 16 v u k nilSl s true [], some (.int .i64 (.lit 10), [])) := by kernel_rfl
theorem vf1_10 : outO [] (vfT F 1 16 v u (k.pl m) ((b.pl m2).val 5) .nilSlice [(b.pl m2).row]) [] = (IsB (byteF k.X) :: IsB (byteF b.X) :: vfQ 1 v u k 16 b :: [], some (.int .i64 (.lit 10), [])) := by kernel_rfl
theorem vf1_11o : outO [] (vfT F 1 16 v u (k.pl m) ((b.pl m2).val 5) ((s.pl m3).val 6) [(b.pl m2).row, (s.pl m3).row]) [false] = (IsB (byteF k.X) :: IsB (byteF b.X) :: vfQ 1 v u k 16 b :: vfC F 1 16 v u k b s false [], some (.int .i64 (.lit 0), [])) := by kernel_rfl
theorem vf1_11e : outO [] (vfT F 1 16 v u (k.pl m) ((b.pl m2).val 5) ((s.pl m3).val 6) [(b.pl m2).row, (s.pl m3).row]) [true] = (IsB (byteF k.X) :: IsB (byteF b.X) :: vfQ 1 v u k 16 b :: vfC F 1 16 v u k b s true [], some (.int .i64 (.lit 10), [])) := by kernel_rfl
theorem vf2_00 : outO [] (vfT F 2 32 v u (k.pl m) .nilSlice .nilSlice []) [] = (IsB (byteF k.X) :: vfQ 2 v u k 32 nilSl :: [], some (.int .i64 (.lit 10), [])) := by kernel_rfl
theorem vf2_01o : outO [] (vfT F 2 32 v u (k.pl m) .nilSlice ((s.pl m3).val 5) [(s.pl m3).row]) [false] = (IsB (byteF k.X) :: vfQ 2 v u k 32 nilSl :: vfC F 2 32 v u k nilSl s false [], some (.int .i64 (.lit 0), [])) := by kernel_rfl
theorem vf2_01e : outO [] (vfT F 2 32 v u (k.pl m) .nilSlice ((s.pl m3).val 5) [(s.pl m3).row]) [true] = (IsB (byteF k.X) :: vfQ 2 v u k 32 nilSl :: vfC F 2 32 v u k nilSl s true [], some (.int .i64 (.lit 10), [])) := by kernel_rfl
theorem vf2_10 : outO [] (vfT F 2 32 v u (k.pl m) ((b.pl m2).val 5) .nilSlice [(b.pl m2).row]) [] = (IsB (byteF k.X) :: IsB (byteF b.X) :: vfQ 2 v u k 32 b :: [], some (.int .i64 (.lit 10), [])) := by kernel_rfl
theorem vf2_11o : outO [] (vfT F 2 32 v u (k.pl m) ((b.pl m2).val 5) ((s.pl m3).val 6) [(b.pl m2).row, (s.pl m3).row]) [false] = (IsB (byteF k.X) :: IsB (byteF b.X) :: vfQ 2 v u k 32 b :: vfC F 2 32 v u k b s false [], some (.int .i64 (.lit 0), [])) := by kernel_rfl
theorem vf2_11e : outO [] (vfT F 2 32 v u (k.pl m) ((b.pl m2).val 5) ((s.pl m3).val 6) [(b.pl m2).row, (s.pl m3).row]) [true] = (IsB (byteF k.X) :: IsB (byteF b.X) :: vfQ 2 v u k 32 b :: vfC F 2 32 v u k b s true [], some (.int .i64 (.lit 10), [])) := by kernel_rfl
end
theorem vfA_uses {p : Nat → Bool} {i : Int} {n : Nat} {v u : Int} {k : Sl} {b s : SV} (h4 : p 4 = true) (hb : b.uses p = true) (hs : s.uses p = true) : SV.usesL p (vfA i n v u k b s) = true := by
  show ((true && (true && ((k.valN 4 n).uses p && true))) && (true && (b.uses p && (s.uses p && true)))) = true
  rw [Sl.valN_uses _ _ _ _ h4, hb, hs]; rfl
end Go.Proofs.YtbmgahpjgefjaaaGreatDoor.Aes


/-
  The reference of the profiles: usable, and Sum where it is told that the key and the usage are valid.
-/
namespace Go.Proofs.YtbmgahpjgefjaaaGreatDoor.Aes
open Go.Sim
open Go.Proofs
variable {α : Type}

set_option maxRecDepth 1000000
noncomputable def cfgRu : Cfg := cfgOf (sumsOf [(19, vyS)])
theorem cfgRuOK : CfgOK cfgRu := sumsOf_ok (all1 rvyOK)
noncomputable def ruT (p v u : Int) (y : Option Addr) (l m : Nat) : Tree := callSim cfgRu 400 40 [kyV p v y l m, .int .i64 (.sym u)] []
section
variable (p v u : Int) (y : Option Addr) (l m : Nat)
theorem ru_a : outO [] (ruT p v u y l m) [false, false, false] = (repN (vlB p v l = false) 3, some (.bool (.lit false), [])) := by kernel_rfl
theorem ru_b : outO [] (ruT p v u y l m) [true, false, false, false] = ((vlB p v l = true) :: repN (decide (u ≥ 1) = false) 3, some (.bool (.lit false), [])) := by kernel_rfl
theorem ru_c : outO [] (ruT p v u y l m) [true, true] = ([vlB p v l = true, decide (u ≥ 1) = true], some (.bool (.sym (decide (u ≤ 1023))), [])) := by kernel_rfl
end
/-- the reference's usable, told how it ends -/
noncomputable def ruS (b : Bool) : Summ := fun args _ _ => args2 args fun kv uv => keyN kv fun p v l => i64O uv fun u => .need (usQ p.den v.den u.den l ↔ b = true) (.ok ⟨.bool (.lit b), [], []⟩)
theorem ruOK {b : Bool} : SumOK Tryz.prog 40 (ruS b) := by
  intro glob O w0 β H w base args vs hH hG ha
  refine args2_sat fun kv uv hv => keyN_sat fun p v s n hk hs => i64O_sat fun u hu => fun hq => ?_
  subst hv hk hu
  obtain ⟨y, m, ha'⟩ := keyN_den ha hs
  have ha2 : SV.denL β [kyV p.den v.den y n m, .int .i64 (.sym u.den)] = some vs := impL_cons (.refl _) (impL_cons (int_imp0 rfl) impL_nil) _ _ ha'
  have key : ∀ {ds cs c}, outO [] (ruT p.den v.den u.den y n m) ds = (cs, some (.bool c, [])) → (∀ q ∈ cs, q) → c.den = b → SumSem Tryz.prog H β w base 40 vs ⟨.bool (.lit b), [], []⟩ := by
    intro ds cs c hr hc hb
    exact sum_outO cfgRuOK rfl 400 hH ⟨[], [], [kyV p.den v.den y n m, .int .i64 (.sym u.den)]⟩ ha2 (fits0 rfl) [] (by simp) (by simp) hr hc fun _ _ => endsBo rfl hb
  have no : ¬ usQ p.den v.den u.den n → (SB.lit false).den = b := fun h => by
    show false = b
    cases b with
    | false => rfl
    | true => exact absurd (hq.2 rfl) h
  cases hv : vlB p.den v.den n with
  | false => exact key (ru_a p.den v.den u.den y n m) (repN_all hv 3) (no fun h => by rw [vlB_iff.2 h.1] at hv; cases hv)
  | true =>
    by_cases h1 : 1 ≤ u.den
    · refine key (ru_c p.den v.den u.den y n m) (all_cons hv (all_cons (decide_eq_true h1) all_nil)) ?_
      show decide (u.den ≤ 1023) = b
      rw [Bool.eq_iff_iff, decide_eq_true_iff, ← hq]
      exact ⟨fun h => ⟨vlB_iff.1 hv, h1, h⟩, fun h => h.2.2⟩
    · exact key (ru_b p.den v.den u.den y n m) (all_cons hv (repN_all (decide_eq_false h1) 3)) (no fun h => h1 h.2.1)
/- Sum. -/
noncomputable def cfgRs (F : HashF) (i : Nat) : Cfg := cfgG globS (sumsOf [(40, ruS true), (41, rdeS F i), (52, rhmS F), (24, lnS 16 32)])
theorem cfgRsOK {i : Nat} (hi12 : i = 1 ∨ i = 2) : CfgOK (cfgRs shaF i) := sumsG_ok (allS (ruOK _) (allS (rdeOK hi12) (allS rhmOK (allS (rlnOK _) (by simp)))))
noncomputable def rsT (F : HashF) (i n : Nat) (v u : Int) (k : Sl) (b : SV) (r : List SO) : Tree := callSim (cfgRs F i) 8000 30 (smA i n v u k b) (shaH (k.row :: r))
/-- the derived key -/
noncomputable def rdkS (F : HashF) (k : Sl) (n : Nat) (u : Int) (x : BitVec 8) : Sl := ⟨byteAt (rdL F k n u x), 32, 0, n, true, 0⟩
noncomputable def rsV (nm n : Nat) : SV := .tuple [.slice ⟨nm, .lit 0⟩ (.lit n) (.lit 32), .int .i64 (.lit 0)]
noncomputable def rsR (F : HashF) (j : Nat) (k : Sl) (u : Int) (n : Nat) (t : Sl) : Option (SV × List (Option SO)) := some (rsV j n, [some (mkE (tagS F (rdkS F k n u 0x99#8) t))])
noncomputable def rsC (k : Sl) (n : Nat) (v u : Int) (i : Int) (bi : List Prop) (b : Sl) : List Prop := (usQ i v u n ↔ true = true) :: IsB (byteF k.X) :: (i = i ∧ k.o + n ≤ k.N) :: app bi [0 + n ≤ 32 ∧ okL b ∧ b.n ≤ 1099511627712]
section
variable (F : HashF) (v u : Int) (k b : Sl) (m m2 : Nat)
theorem rs1_run : outO [8] (rsT F 1 16 v u (k.pl m) ((b.pl m2).val 5) [(b.pl m2).row]) [] = (rsC k 16 v u 1 [IsB (byteF b.X)] b, rsR F 8 k u 16 b) := by kernel_rfl
theorem rs2_run : outO [8] (rsT F 2 32 v u (k.pl m) ((b.pl m2).val 5) [(b.pl m2).row]) [] = (rsC k 32 v u 2 [IsB (byteF b.X)] b, rsR F 8 k u 32 b) := by kernel_rfl
theorem rs1_nil : outO [7] (rsT F 1 16 v u (k.pl m) .nilSlice []) [] = (rsC k 16 v u 1 [] nilSl, rsR F 7 k u 16 nilSl) := by kernel_rfl
theorem rs2_nil : outO [7] (rsT F 2 32 v u (k.pl m) .nilSlice []) [] = (rsC k 32 v u 2 [] nilSl, rsR F 7 k u 32 nilSl) := by kernel_rfl
end
theorem rdk_eq {k : Sl} {u : Int} {x : BitVec 8} {n : Nat} (h1 : 1 ≤ u) (h2 : u ≤ 1023) (hn : n ≤ 32) : SlEq (rdkS shaF k n u x) (dkS shaF k n u x) := ⟨rfl, fun i hi => by
  have hi : i < n := hi
  show byteAt (rdL shaF k n u x) (0 + i) = _
  rw [Nat.zero_add, rd_key h1 h2 hn hi]; rfl⟩
theorem rs_tag {k t : Sl} {u : Int} {n : Nat} (h : 1 ≤ u ∧ u ≤ 1023) (hn : n ≤ 32) : tagS shaF (rdkS shaF k n u 0x99#8) t = tagS shaF (dkS shaF k n u 0x99#8) t := tagS_key (rdk_eq h.1 h.2 hn) (by show n ≤ 64; omega)
noncomputable def rsumS (F : HashF) (i : Nat) : Summ := fun args H base => args3 args fun kv uv bv => kv.asAgg (.stuck 863) fun l => args3 l fun p v s => i64O p fun p => i64O v fun v => i64O uv fun u => shaT H (partL H s fun k kn => txtL H bv fun t tn => boolC (distN (kn :: optL tn))
  (.need (p.den = (i : Int) ∧ usQ i v.den u.den k.n ∧ okL k ∧ okL t ∧ t.n ≤ 1099511627712) (.ok ⟨rsV base (tagN i), [], [mkE (tagS F (dkS F k (tagN i) u.den 0x99#8) t)]⟩)) (.stuck 863))
theorem endsRs {I : Ifc} {base j n : Nat} {L : List (BitVec 8)} {H : List SO} (hj : I.known j = false) (ho : ownsOf I.ents 0 = []) (hE : H[j]? = some (mkE L)) : I.Ends base [j] ⟨rsV base n, [], [mkE L]⟩ (rsV j n) H := by
  have ho' : I.out base [j] j = base := by
    unfold Ifc.out
    rw [hj]
    show base + idxN j [j] = base
    rw [show idxN j [j] = boolC (Nat.beq j j) 0 _ from rfl, Nat.beq_refl]; rfl
  have hs : I.seen [j] j = true := by
    unfold Ifc.seen
    rw [hj]
    exact (memN_iff (n := j) (l := [j])).2 List.mem_cons_self
  refine ⟨?_, ?_, by rw [ho]; trivial, ⟨given_own hE (bx_uses _ _) (by show SO.own (.lst (SV.renL _ (bx _))) _ _ = _; rw [bx_ren]; rfl), trivial⟩⟩
  · show (SV.tuple [.slice ⟨I.out base [j] j, .lit 0⟩ (.lit n) (.lit 32), .int .i64 (.lit 0)]).Imp _
    rw [ho']; exact .refl _
  · show ((I.seen [j] j && true) && (true && true)) = true
    rw [hs]; rfl
theorem rsumOK {i : Nat} (hi12 : i = 1 ∨ i = 2) : SumAt Tryz.prog globS 30 (rsumS shaF i) := by
  intro O w0 β H w base args vs hH hG ha
  refine args3_sat fun kv uv bv hv => ?_
  rcases asAgg_cases kv with ⟨l, rfl⟩ | hno
  case inr => rw [hno]; trivial
  refine args3_sat fun p v s hl => i64O_sat fun p' hp => i64O_sat fun v' hv' => i64O_sat fun u hu => shaT_sat fun hT => partL_sat fun k kn hn1 ht1 hi1 => ?_
  subst hl hp hv' hu
  rw [hv] at ha
  obtain ⟨⟨xs, hxs⟩, zs, hzs⟩ := agg3_at ha
  obtain ⟨xu, zs1, hxu, hzs1, rfl⟩ := denL_cons.1 hzs
  obtain ⟨xb, zs2, hxb, hzs2, rfl⟩ := denL_cons.1 hzs1
  have harg : ∀ (n0 m : Nat) (bv' : SV), ((k.pl m).valN kn n0).den β = some xs → p'.den = (i : Int) → bv'.den β = some xb → SV.denL β [.agg [.int .i64 (.lit i), .int .i64 (.sym v'.den), (k.pl m).valN kn n0], .int .i64 (.sym u.den), bv'] = some vs := by
    intro n0 m bv' hks hpi hb
    have h1 := agg3_den (s' := (k.pl m).valN kn n0) (p' := .int .i64 (.lit i)) (v' := .int .i64 (.sym v'.den)) ha (fun x hx => by rw [hxs] at hx; cases hx; exact hks) (int_imp0 hpi) (int_imp0 rfl)
    obtain ⟨xa, ws, hxa, hws, rfl⟩ := denL_cons.1 h1
    refine denL_cons.2 ⟨_, _, hxa, ?_, rfl⟩
    rw [hzs] at hws
    cases hws
    exact denL_cons.2 ⟨_, _, int_imp0 rfl _ _ hxu, denL_cons.2 ⟨_, _, hb, hzs2, rfl⟩, rfl⟩
  refine txtL_sat (fun hnil => boolC_only fun hd => fun ⟨hpi, hq, hk, _, _⟩ => ?_) fun t tn hn3 ht3 hi3 => boolC_only fun hd => fun ⟨hpi, hq, hk, ht, hbig⟩ => ?_
  · subst hnil
    have key : ∀ {n : Nat} {cs}, CfgOK (cfgRs shaF i) → k.n = n → tagN i = n → n ≤ 32 → (1 ≤ u.den ∧ u.den ≤ 1023) → (∀ m, outO [7] (callSim (cfgRs shaF i) 8000 30 (smA i n v'.den u.den (k.pl m) .nilSlice) (shaH [(k.pl m).row])) [] = (cs, rsR shaF 7 k u.den n nilSl)) → (∀ q ∈ cs, q) → SumSem Tryz.prog H β w base 30 vs ⟨rsV base (tagN i), [], [mkE (tagS shaF (dkS shaF k (tagN i) u.den 0x99#8) nilSl)]⟩ := by
      intro n cs hcf hkn hti hn32 hu12 hr hc
      obtain ⟨m, hks⟩ := Sl.val_denN hkn (hi1 _ _ hxs)
      rw [hti, ← rs_tag hu12 hn32]
      refine sum_outOG hcf 8000 hH (shaI [kn] [(k.pl m).row] (smA i n v'.den u.den (k.pl m) .nilSlice)) (shaI_glob hG) ?_ (Ifc.fits (nd4 hd (by simp only [List.mem_cons, List.not_mem_nil, or_false]; rintro x rfl; assumption)) ?_ (shaI_ents hT ⟨⟨ht1 _, k.row_uses _⟩, trivial⟩)) [7] (by simp [shaI]) (by simp) (hr m) hc fun H2 hH2 => endsRs rfl rfl (List.cons.inj hH2).1
      · show SV.denL β [.agg [.int .i64 (.lit i), .int .i64 (.sym v'.den), ((k.pl m).valN 4 n).ren _], .int .i64 (.sym u.den), .nilSlice] = _
        rw [Sl.valN_ren]
        exact harg n m .nilSlice hks hpi hxb
      · exact smA_uses rfl rfl
    rcases hi12 with rfl | rfl
    · have hkn : k.n = 16 := by rcases hq.1.1 with ⟨_, h⟩ | ⟨h, _⟩; exact h; cases h
      rw [hkn] at hq
      exact key (cfgRsOK (.inl rfl)) hkn rfl (by omega) hq.2 (fun m => rs1_nil shaF v'.den u.den k m) (all_cons ⟨fun _ => rfl, fun _ => hq⟩ (all_cons (byteF_isB _) (all_cons ⟨rfl, by rw [← hkn]; exact hk.1⟩ (all_cons ⟨by omega, ⟨Nat.le_refl _, Nat.zero_le _⟩, Nat.zero_le _⟩ all_nil))))
    · have hkn : k.n = 32 := by rcases hq.1.1 with ⟨h, _⟩ | ⟨_, h⟩; cases h; exact h
      rw [hkn] at hq
      exact key (cfgRsOK (.inr rfl)) hkn rfl (by omega) hq.2 (fun m => rs2_nil shaF v'.den u.den k m) (all_cons ⟨fun _ => rfl, fun _ => hq⟩ (all_cons (byteF_isB _) (all_cons ⟨rfl, by rw [← hkn]; exact hk.1⟩ (all_cons ⟨by omega, ⟨Nat.le_refl _, Nat.zero_le _⟩, Nat.zero_le _⟩ all_nil))))
  · obtain ⟨m2, _, hts⟩ := Sl.val_den (hi3 _ _ hxb)
    have n3 : ∀ {x : Nat}, x ∈ [kn, tn] → newOne x = true := by simp only [List.mem_cons, List.not_mem_nil, or_false]; rintro x (rfl | rfl) <;> assumption
    have key : ∀ {n : Nat} {cs}, CfgOK (cfgRs shaF i) → k.n = n → tagN i = n → n ≤ 32 → (1 ≤ u.den ∧ u.den ≤ 1023) → (∀ m, outO [8] (callSim (cfgRs shaF i) 8000 30 (smA i n v'.den u.den (k.pl m) ((t.pl m2).val 5)) (shaH [(k.pl m).row, (t.pl m2).row])) [] = (cs, rsR shaF 8 k u.den n t)) → (∀ q ∈ cs, q) → SumSem Tryz.prog H β w base 30 vs ⟨rsV base (tagN i), [], [mkE (tagS shaF (dkS shaF k (tagN i) u.den 0x99#8) t)]⟩ := by
      intro n cs hcf hkn hti hn32 hu12 hr hc
      obtain ⟨m, hks⟩ := Sl.val_denN hkn (hi1 _ _ hxs)
      rw [hti, ← rs_tag hu12 hn32]
      refine sum_outOG hcf 8000 hH (shaI [kn, tn] [(k.pl m).row, (t.pl m2).row] (smA i n v'.den u.den (k.pl m) ((t.pl m2).val 5))) (shaI_glob hG) ?_ (Ifc.fits (nd4 hd fun _ => n3) ?_ (shaI_ents hT ⟨⟨ht1 _, k.row_uses _⟩, ⟨ht3 _, t.row_uses _⟩, trivial⟩)) [8] (by simp [shaI]) (by simp) (hr m) hc fun H2 hH2 => endsRs rfl rfl (List.cons.inj hH2).1
      · show SV.denL β [.agg [.int .i64 (.lit i), .int .i64 (.sym v'.den), ((k.pl m).valN 4 n).ren _], .int .i64 (.sym u.den), ((t.pl m2).val 5).ren _] = _
        rw [Sl.valN_ren, Sl.val_ren]
        exact harg n m _ hks hpi hts
      · exact smA_uses rfl (Sl.val_uses _ _ _ rfl)
    rcases hi12 with rfl | rfl
    · have hkn : k.n = 16 := by rcases hq.1.1 with ⟨_, h⟩ | ⟨h, _⟩; exact h; cases h
      rw [hkn] at hq
      exact key (cfgRsOK (.inl rfl)) hkn rfl (by omega) hq.2 (fun m => rs1_run shaF v'.den u.den k t m m2) (all_cons ⟨fun _ => rfl, fun _ => hq⟩ (all_cons (byteF_isB _) (all_cons ⟨rfl, by rw [← hkn]; exact hk.1⟩ (all_cons (byteF_isB _) (all_cons ⟨by omega, ht, hbig⟩ all_nil)))))
    · have hkn : k.n = 32 := by rcases hq.1.1 with ⟨h, _⟩ | ⟨_, h⟩; cases h; exact h
      rw [hkn] at hq
      exact key (cfgRsOK (.inr rfl)) hkn rfl (by omega) hq.2 (fun m => rs2_run shaF v'.den u.den k t m m2) (all_cons ⟨fun _ => rfl, fun _ => hq⟩ (all_cons (byteF_isB _) (all_cons ⟨rfl, by rw [← hkn]; exact hk.1⟩ (all_cons (byteF_isB _) (all_cons ⟨by omega, ht, hbig⟩ all_nil)))))
end Go.Proofs.YtbmgahpjgefjaaaGreatDoor.Aes


/-
  Verify, with its answer as a value: the program's and the reference's.
-/
namespace Go.Proofs.YtbmgahpjgefjaaaGreatDoor.Aes
open Go.Sim
open Go.Proofs
variable {α : Type}

set_option maxRecDepth 1000000
/-- what Verify answers -/
noncomputable def vfI (F : HashF) (k : Sl) (u : Int) (i : Nat) (b s : Sl) : Int := if eqB (smA1 F k u i (tagN i) b) s (tagN i) = true then 0 else 10
theorem vfI_cases (F : HashF) (k : Sl) (u : Int) (i : Nat) (b s : Sl) : ∃ e : Int, vfI F k u i b s = e ∧ ((e = 0 ∧ eqB (smA1 F k u i (tagN i) b) s (tagN i) = true) ∨ (e = 10 ∧ eqB (smA1 F k u i (tagN i) b) s (tagN i) = false)) := by
  unfold vfI
  cases h : eqB (smA1 F k u i (tagN i) b) s (tagN i) with
  | true => exact ⟨0, by simp, .inl ⟨rfl, rfl⟩⟩
  | false => exact ⟨10, by simp, .inr ⟨rfl, rfl⟩⟩
noncomputable def vfY (F : HashF) (i : Nat) : Summ := fun args H _ => args4 args fun kv uv bv sv => kv.asAgg (.stuck 843) fun l => args3 l fun p v s => i64O p fun p => i64O v fun v => i64O uv fun u => shaTP H (partL H s fun k kn => txtL H bv fun b bn => txtL H sv fun s sn => boolC (distN (kn :: app (optL bn) (optL sn)))
  (.need (p.den = (i : Int) ∧ usQ i v.den u.den k.n ∧ okL k ∧ okL b ∧ okL s) (.ok ⟨.int .i64 (.sym (vfI F k u.den i b s)), [], []⟩)) (.stuck 843))
theorem vfYOK {i : Nat} (hi12 : i = 1 ∨ i = 2) : SumAt Tryz.prog globP 31 (vfY shaF i) := by
  intro O w0 β H w base args vs hH hG ha
  refine args4_sat fun kv uv bv sv hv => ?_
  rcases asAgg_cases kv with ⟨l, rfl⟩ | hno
  case inr => rw [hno]; trivial
  refine args3_sat fun p v s hl => i64O_sat fun p' hp => i64O_sat fun v' hv' => i64O_sat fun u hu => shaTP_sat fun hT => partL_sat fun k kn hn1 ht1 hi1 => ?_
  subst hl hp hv' hu
  rw [hv] at ha
  obtain ⟨⟨xs, hxs⟩, zs, hzs⟩ := agg3_at ha
  obtain ⟨xu, zs1, hxu, hzs1, rfl⟩ := denL_cons.1 hzs
  obtain ⟨xb, zs2, hxb, hzs2, rfl⟩ := denL_cons.1 hzs1
  obtain ⟨xt, zs3, hxt, hzs3, rfl⟩ := denL_cons.1 hzs2
  have harg : ∀ (n0 m : Nat) (bv' sv' : SV), ((k.pl m).valN kn n0).den β = some xs → p'.den = (i : Int) → bv'.den β = some xb → sv'.den β = some xt → SV.denL β [.agg [.int .i64 (.lit i), .int .i64 (.sym v'.den), (k.pl m).valN kn n0], .int .i64 (.sym u.den), bv', sv'] = some vs := by
    intro n0 m bv' sv' hks hpi hb hs
    have h1 := agg3_den (s' := (k.pl m).valN kn n0) (p' := .int .i64 (.lit i)) (v' := .int .i64 (.sym v'.den)) ha (fun x hx => by rw [hxs] at hx; cases hx; exact hks) (int_imp0 hpi) (int_imp0 rfl)
    obtain ⟨xa, ws, hxa, hws, rfl⟩ := denL_cons.1 h1
    refine denL_cons.2 ⟨_, _, hxa, ?_, rfl⟩
    rw [hzs] at hws
    cases hws
    exact denL_cons.2 ⟨_, _, int_imp0 rfl _ _ hxu, denL_cons.2 ⟨_, _, hb, denL_cons.2 ⟨_, _, hs, hzs3, rfl⟩, rfl⟩, rfl⟩
  have hkl : ∀ {n : Nat}, k.n = n → okL k → okL (k.len n) := fun {n} hn hk => by subst hn; exact hk
  have e0 : ∀ {n : Nat} {b : Sl}, eqB (smA1 shaF k u.den i n b) nilSl n = true → n ≠ 0 → False := fun h hn => by
    have := (eqB_iff.1 h).1
    exact hn this.symm
  refine txtL_sat (fun hbn => txtL_sat (fun hsn => boolC_only fun hd => fun ⟨hpi, hq, hk, _, _⟩ => ?_) fun t tn hn3 ht3 hi3 => boolC_only fun hd => fun ⟨hpi, hq, hk, _, ht⟩ => ?_) fun b bn hn2 ht2 hi2 => txtL_sat (fun hsn => boolC_only fun hd => fun ⟨hpi, hq, hk, hb, _⟩ => ?_) fun t tn hn3 ht3 hi3 => boolC_only fun hd => fun ⟨hpi, hq, hk, hb, ht⟩ => ?_
  · subst hbn; subst hsn
    obtain ⟨e, he, ho⟩ := vfI_cases shaF k u.den i nilSl nilSl
    have n3 : ∀ {x : Nat}, x ∈ [kn] → newOne x = true := by simp only [List.mem_cons, List.not_mem_nil, or_false]; rintro x rfl; assumption
    have key : ∀ {n : Nat} {cs ds}, CfgOK (cfgVf shaF i) → k.n = n → (∀ m, outO [] (callSim (cfgVf shaF i) 4000 31 (vfA i n v'.den u.den (k.pl m) (.nilSlice) (.nilSlice)) (shaHP [(k.pl m).row])) ds = (cs, some (.int .i64 (.lit e), []))) → (∀ q ∈ cs, q) → SumSem Tryz.prog H β w base 31 vs ⟨.int .i64 (.sym (vfI shaF k u.den i nilSl nilSl)), [], []⟩ := by
      intro n cs ds hcf hkn hr hc
      obtain ⟨m, hks⟩ := Sl.val_denN hkn (hi1 _ _ hxs)
      refine sum_outOG hcf 4000 hH (shaIP [kn] [(k.pl m).row] (vfA i n v'.den u.den (k.pl m) (.nilSlice) (.nilSlice))) (shaIP_glob hG) ?_ (Ifc.fits (nd4 hd fun _ => n3) (vfA_uses rfl rfl rfl) (shaIP_ents hT ⟨⟨ht1 _, k.row_uses _⟩, trivial⟩)) [] (by simp) (by simp) (hr m) hc fun _ _ => endsI rfl he.symm
      show SV.denL β [.agg [.int .i64 (.lit i), .int .i64 (.sym v'.den), ((k.pl m).valN 4 n).ren _], .int .i64 (.sym u.den), .nilSlice, .nilSlice] = _
      rw [Sl.valN_ren]
      exact harg n m _ _ hks hpi hxb hxt
    rcases hi12 with rfl | rfl
    · have hkn : k.n = 16 := by rcases hq.1.1 with ⟨_, h⟩ | ⟨h, _⟩; exact h; cases h
      rw [hkn] at hq
      rcases ho with ⟨rfl, ho⟩ | ⟨rfl, ho⟩
      · exact (e0 ho (by show 16 ≠ 0; omega)).elim
      · exact key cfgVf1 hkn (fun m => vf1_00 shaF v'.den u.den k  m ) (all_cons (byteF_isB _) (all_cons ⟨rfl, hq, hkl hkn hk, ⟨Nat.le_refl _, Nat.zero_le _⟩⟩ all_nil))
    · have hkn : k.n = 32 := by rcases hq.1.1 with ⟨h, _⟩ | ⟨_, h⟩; cases h; exact h
      rw [hkn] at hq
      rcases ho with ⟨rfl, ho⟩ | ⟨rfl, ho⟩
      · exact (e0 ho (by show 32 ≠ 0; omega)).elim
      · exact key cfgVf2 hkn (fun m => vf2_00 shaF v'.den u.den k  m ) (all_cons (byteF_isB _) (all_cons ⟨rfl, hq, hkl hkn hk, ⟨Nat.le_refl _, Nat.zero_le _⟩⟩ all_nil))
  · subst hbn
    obtain ⟨e, he, ho⟩ := vfI_cases shaF k u.den i nilSl t
    obtain ⟨m3, _, hts⟩ := Sl.val_den (hi3 _ _ hxt)
    have n3 : ∀ {x : Nat}, x ∈ [kn, tn] → newOne x = true := by simp only [List.mem_cons, List.not_mem_nil, or_false]; rintro x (rfl | rfl) <;> assumption
    have key : ∀ {n : Nat} {cs ds}, CfgOK (cfgVf shaF i) → k.n = n → (∀ m, outO [] (callSim (cfgVf shaF i) 4000 31 (vfA i n v'.den u.den (k.pl m) (.nilSlice) ((t.pl m3).val 5)) (shaHP [(k.pl m).row, (t.pl m3).row])) ds = (cs, some (.int .i64 (.lit e), []))) → (∀ q ∈ cs, q) → SumSem Tryz.prog H β w base 31 vs ⟨.int .i64 (.sym (vfI shaF k u.den i nilSl t)), [], []⟩ := by
      intro n cs ds hcf hkn hr hc
      obtain ⟨m, hks⟩ := Sl.val_denN hkn (hi1 _ _ hxs)
      refine sum_outOG hcf 4000 hH (shaIP [kn, tn] [(k.pl m).row, (t.pl m3).row] (vfA i n v'.den u.den (k.pl m) (.nilSlice) ((t.pl m3).val 5))) (shaIP_glob hG) ?_ (Ifc.fits (nd4 hd fun _ => n3) (vfA_uses rfl rfl (Sl.val_uses _ _ _ rfl)) (shaIP_ents hT ⟨⟨ht1 _, k.row_uses _⟩, ⟨ht3 _, t.row_uses _⟩, trivial⟩)) [] (by simp) (by simp) (hr m) hc fun _ _ => endsI rfl he.symm
      show SV.denL β [.agg [.int .i64 (.lit i), .int .i64 (.sym v'.den), ((k.pl m).valN 4 n).ren _], .int .i64 (.sym u.den), .nilSlice, ((t.pl m3).val 5).ren _] = _
      rw [Sl.valN_ren, Sl.val_ren]
      exact harg n m _ _ hks hpi hxb hts
    rcases hi12 with rfl | rfl
    · have hkn : k.n = 16 := by rcases hq.1.1 with ⟨_, h⟩ | ⟨h, _⟩; exact h; cases h
      rw [hkn] at hq
      rcases ho with ⟨rfl, ho⟩ | ⟨rfl, ho⟩
      · exact key cfgVf1 hkn (fun m => vf1_01o shaF v'.den u.den k  t m m3) (all_cons (byteF_isB _) (all_cons ⟨rfl, hq, hkl hkn hk, ⟨Nat.le_refl _, Nat.zero_le _⟩⟩ (all_cons (byteF_isB _) (all_cons ⟨Nat.le_refl _, ht⟩ (all_cons (by rw [show eqB (smA1 shaF k u.den 1 16 nilSl) t 16 = true from ho]; rfl) all_nil)))))
      · exact key cfgVf1 hkn (fun m => vf1_01e shaF v'.den u.den k  t m m3) (all_cons (byteF_isB _) (all_cons ⟨rfl, hq, hkl hkn hk, ⟨Nat.le_refl _, Nat.zero_le _⟩⟩ (all_cons (byteF_isB _) (all_cons ⟨Nat.le_refl _, ht⟩ (all_cons (by rw [show eqB (smA1 shaF k u.den 1 16 nilSl) t 16 = false from ho]; rfl) all_nil)))))
    · have hkn : k.n = 32 := by rcases hq.1.1 with ⟨h, _⟩ | ⟨_, h⟩; cases h; exact h
      rw [hkn] at hq
      rcases ho with ⟨rfl, ho⟩ | ⟨rfl, ho⟩
      · exact key cfgVf2 hkn (fun m => vf2_01o shaF v'.den u.den k  t m m3) (all_cons (byteF_isB _) (all_cons ⟨rfl, hq, hkl hkn hk, ⟨Nat.le_refl _, Nat.zero_le _⟩⟩ (all_cons (byteF_isB _) (all_cons ⟨Nat.le_refl _, ht⟩ (all_cons (by rw [show eqB (smA1 shaF k u.den 2 32 nilSl) t 32 = true from ho]; rfl) all_nil)))))
      · exact key cfgVf2 hkn (fun m => vf2_01e shaF v'.den u.den k  t m m3) (all_cons (byteF_isB _) (all_cons ⟨rfl, hq, hkl hkn hk, ⟨Nat.le_refl _, Nat.zero_le _⟩⟩ (all_cons (byteF_isB _) (all_cons ⟨Nat.le_refl _, ht⟩ (all_cons (by rw [show eqB (smA1 shaF k u.den 2 32 nilSl) t 32 = false from ho]; rfl) all_nil)))))
  · subst hsn
    obtain ⟨e, he, ho⟩ := vfI_cases shaF k u.den i b nilSl
    obtain ⟨m2, _, hbs⟩ := Sl.val_den (hi2 _ _ hxb)
    have n3 : ∀ {x : Nat}, x ∈ [kn, bn] → newOne x = true := by simp only [List.mem_cons, List.not_mem_nil, or_false]; rintro x (rfl | rfl) <;> assumption
    have key : ∀ {n : Nat} {cs ds}, CfgOK (cfgVf shaF i) → k.n = n → (∀ m, outO [] (callSim (cfgVf shaF i) 4000 31 (vfA i n v'.den u.den (k.pl m) ((b.pl m2).val 5) (.nilSlice)) (shaHP [(k.pl m).row, (b.pl m2).row])) ds = (cs, some (.int .i64 (.lit e), []))) → (∀ q ∈ cs, q) → SumSem Tryz.prog H β w base 31 vs ⟨.int .i64 (.sym (vfI shaF k u.den i b nilSl)), [], []⟩ := by
      intro n cs ds hcf hkn hr hc
      obtain ⟨m, hks⟩ := Sl.val_denN hkn (hi1 _ _ hxs)
      refine sum_outOG hcf 4000 hH (shaIP [kn, bn] [(k.pl m).row, (b.pl m2).row] (vfA i n v'.den u.den (k.pl m) ((b.pl m2).val 5) (.nilSlice))) (shaIP_glob hG) ?_ (Ifc.fits (nd4 hd fun _ => n3) (vfA_uses rfl (Sl.val_uses _ _ _ rfl) rfl) (shaIP_ents hT ⟨⟨ht1 _, k.row_uses _⟩, ⟨ht2 _, b.row_uses _⟩, trivial⟩)) [] (by simp) (by simp) (hr m) hc fun _ _ => endsI rfl he.symm
      show SV.denL β [.agg [.int .i64 (.lit i), .int .i64 (.sym v'.den), ((k.pl m).valN 4 n).ren _], .int .i64 (.sym u.den), ((b.pl m2).val 5).ren _, .nilSlice] = _
      rw [Sl.valN_ren, Sl.val_ren]
      exact harg n m _ _ hks hpi hbs hxt
    rcases hi12 with rfl | rfl
    · have hkn : k.n = 16 := by rcases hq.1.1 with ⟨_, h⟩ | ⟨h, _⟩; exact h; cases h
      rw [hkn] at hq
      rcases ho with ⟨rfl, ho⟩ | ⟨rfl, ho⟩
      · exact (e0 ho (by show 16 ≠ 0; omega)).elim
      · exact key cfgVf1 hkn (fun m => vf1_10 shaF v'.den u.den k b  m m2 ) (all_cons (byteF_isB _) (all_cons (byteF_isB _) (all_cons ⟨rfl, hq, hkl hkn hk, hb⟩ all_nil)))
    · have hkn : k.n = 32 := by rcases hq.1.1 with ⟨h, _⟩ | ⟨_, h⟩; cases h; exact h
      rw [hkn] at hq
      rcases ho with ⟨rfl, ho⟩ | ⟨rfl, ho⟩
      · exact (e0 ho (by show 32 ≠ 0; omega)).elim
      · exact key cfgVf2 hkn (fun m => vf2_10 shaF v'.den u.den k b  m m2 ) (all_cons (byteF_isB _) (all_cons (byteF_isB _) (all_cons ⟨rfl, hq, hkl hkn hk, hb⟩ all_nil)))
  · skip
    obtain ⟨e, he, ho⟩ := vfI_cases shaF k u.den i b t
    obtain ⟨m2, _, hbs⟩ := Sl.val_den (hi2 _ _ hxb)
    obtain ⟨m3, _, hts⟩ := Sl.val_den (hi3 _ _ hxt)
    have n3 : ∀ {x : Nat}, x ∈ [kn, bn, tn] → newOne x = true := by simp only [List.mem_cons, List.not_mem_nil, or_false]; rintro x (rfl | rfl | rfl) <;> assumption
    have key : ∀ {n : Nat} {cs ds}, CfgOK (cfgVf shaF i) → k.n = n → (∀ m, outO [] (callSim (cfgVf shaF i) 4000 31 (vfA i n v'.den u.den (k.pl m) ((b.pl m2).val 5) ((t.pl m3).val 6)) (shaHP [(k.pl m).row, (b.pl m2).row, (t.pl m3).row])) ds = (cs, some (.int .i64 (.lit e), []))) → (∀ q ∈ cs, q) → SumSem Tryz.prog H β w base 31 vs ⟨.int .i64 (.sym (vfI shaF k u.den i b t)), [], []⟩ := by
      intro n cs ds hcf hkn hr hc
      obtain ⟨m, hks⟩ := Sl.val_denN hkn (hi1 _ _ hxs)
      refine sum_outOG hcf 4000 hH (shaIP [kn, bn, tn] [(k.pl m).row, (b.pl m2).row, (t.pl m3).row] (vfA i n v'.den u.den (k.pl m) ((b.pl m2).val 5) ((t.pl m3).val 6))) (shaIP_glob hG) ?_ (Ifc.fits (nd4 hd fun _ => n3) (vfA_uses rfl (Sl.val_uses _ _ _ rfl) (Sl.val_uses _ _ _ rfl)) (shaIP_ents hT ⟨⟨ht1 _, k.row_uses _⟩, ⟨ht2 _, b.row_uses _⟩, ⟨ht3 _, t.row_uses _⟩, trivial⟩)) [] (by simp) (by simp) (hr m) hc fun _ _ => endsI rfl he.symm
      show SV.denL β [.agg [.int .i64 (.lit i), .int .i64 (.sym v'.den), ((k.pl m).valN 4 n).ren _], .int .i64 (.sym u.den), ((b.pl m2).val 5).ren _, ((t.pl m3).val 6).ren _] = _
      rw [Sl.valN_ren, Sl.val_ren, Sl.val_ren]
      exact harg n m _ _ hks hpi hbs hts
    rcases hi12 with rfl | rfl
    · have hkn : k.n = 16 := by rcases hq.1.1 with ⟨_, h⟩ | ⟨h, _⟩; exact h; cases h
      rw [hkn] at hq
      rcases ho with ⟨rfl, ho⟩ | ⟨rfl, ho⟩
      · exact key cfgVf1 hkn (fun m => vf1_11o shaF v'.den u.den k b  t m m2 m3) (all_cons (byteF_isB _) (all_cons (byteF_isB _) (all_cons ⟨rfl, hq, hkl hkn hk, hb⟩ (all_cons (byteF_isB _) (all_cons ⟨Nat.le_refl _, ht⟩ (all_cons (by rw [show eqB (smA1 shaF k u.den 1 16 b) t 16 = true from ho]; rfl) all_nil))))))
      · exact key cfgVf1 hkn (fun m => vf1_11e shaF v'.den u.den k b  t m m2 m3) (all_cons (byteF_isB _) (all_cons (byteF_isB _) (all_cons ⟨rfl, hq, hkl hkn hk, hb⟩ (all_cons (byteF_isB _) (all_cons ⟨Nat.le_refl _, ht⟩ (all_cons (by rw [show eqB (smA1 shaF k u.den 1 16 b) t 16 = false from ho]; rfl) all_nil))))))
    · have hkn : k.n = 32 := by rcases hq.1.1 with ⟨h, _⟩ | ⟨_, h⟩; cases h; exact h
      rw [hkn] at hq
      rcases ho with ⟨rfl, ho⟩ | ⟨rfl, ho⟩
      · exact key cfgVf2 hkn (fun m => vf2_11o shaF v'.den u.den k b  t m m2 m3) (all_cons (byteF_isB _) (all_cons (byteF_isB _) (all_cons ⟨rfl, hq, hkl hkn hk, hb⟩ (all_cons (byteF_isB _) (all_cons ⟨Nat.le_refl _, ht⟩ (all_cons (by rw [show eqB (smA1 shaF k u.den 2 32 b) t 32 = true from ho]; rfl) all_nil))))))
      · exact key cfgVf2 hkn (fun m => vf2_11e shaF v'.den u.den k b  t m m2 m3) (all_cons (byteF_isB _) (all_cons (byteF_isB _) (all_cons ⟨rfl, hq, hkl hkn hk, hb⟩ (all_cons (byteF_isB _) (all_cons ⟨Nat.le_refl _, ht⟩ (all_cons (by rw [show eqB (smA1 shaF k u.den 2 32 b) t 32 = false from ho]; rfl) all_nil))))))
/- The reference. -/
/-- the string of bytes known one by one -/
noncomputable def strL (L : List (BitVec 8)) : ByteArray := bytesOf (mapN (fun x => SI.b8 x) L)
theorem strL_eq (X : Nat → BitVec 8) (n : Nat) : strL (tabB X n) = strS ⟨X, n, 0, n, false, 0⟩ := by
  unfold strL strS strOfFn bytesOf tabB
  congr 2
  rw [mapN_eq, mapN_eq, fromN_eq, List.map_map, List.map_map]
  refine List.ext_getElem? fun i => ?_
  simp only [List.getElem?_map]
  by_cases hi : i < n
  · rw [List.getElem?_range' hi, List.getElem?_range hi]
    show some (UInt8.ofNat (((X (0 + 1 * i)).toNat : Int)).toNat) = some (UInt8.ofNat (((X (0 + i)).toNat : Int)).toNat)
    rw [Nat.one_mul]
  · rw [List.getElem?_eq_none (by simpa using hi), List.getElem?_eq_none (by simpa using hi)]; rfl
theorem strL_iff {X : Nat → BitVec 8} {n : Nat} {s : Sl} : strL (tabB X n) = strS s ↔ s.n = n ∧ ∀ i, i < n → X i = s.F i := by
  rw [strL_eq, strS_iff]
  constructor
  · rintro ⟨h1, h2⟩
    exact ⟨h1.symm, fun i hi => by have := h2 i hi; rw [Nat.zero_add] at this; exact this⟩
  · rintro ⟨h1, h2⟩
    exact ⟨h1.symm, fun i hi => by rw [Nat.zero_add]; exact h2 i hi⟩
noncomputable def cfgRy (F : HashF) (i : Nat) : Cfg := cfgG globS (sumsOf [(30, rsumS F i)])
theorem cfgRy1 : CfgOK (cfgRy shaF 1) := sumsG_ok (allS (rsumOK (.inl rfl)) (by simp))
theorem cfgRy2 : CfgOK (cfgRy shaF 2) := sumsG_ok (allS (rsumOK (.inr rfl)) (by simp))
noncomputable def ryT (F : HashF) (i n : Nat) (v u : Int) (k : Sl) (b s : SV) (r : List SO) : Tree := callSim (cfgRy F i) 4000 32 (vfA i n v u k b s) (shaH (k.row :: r))
noncomputable def ryQ (i : Nat) (v u : Int) (k : Sl) (n : Nat) (b : Sl) : Prop := (i : Int) = i ∧ usQ i v u n ∧ okL (k.len n) ∧ okL b ∧ b.n ≤ 1099511627712
/-- the checksum -/
noncomputable def ryG (F : HashF) (k : Sl) (u : Int) (i n : Nat) (b : Sl) : Nat → BitVec 8 := byteAt (tagS F (dkS F (k.len n) (tagN i) u 0x99#8) b)
noncomputable def ryC (F : HashF) (i n : Nat) (u : Int) (k b s : Sl) (e : Bool) : List Prop := [rdC s, (!decide (strL (tabB (ryG F k u i n b) n) = strS s)) = e]
section
variable (F : HashF) (v u : Int) (k b s : Sl) (m m2 m3 : Nat)
theorem ry1_00 : outO [] (ryT F 1 16 v u (k.pl m) .nilSlice .nilSlice []) [true] = (IsB (byteF k.X) :: ryQ 1 v u k 16 nilSl :: [true = true], some (.int .i64 (.lit 10), [])) := by kernel_rfl
theorem ry1_01o : outO [] (ryT F 1 16 v u (k.pl m) .nilSlice ((s.pl m3).val 5) [(s.pl m3).row]) [false] = (IsB (byteF k.X) :: ryQ 1 v u k 16 nilSl :: ryC F 1 16 u k nilSl s false, some (.int .i64 (.lit 0), [])) := by kernel_rfl
theorem ry1_01e : outO [] (ryT F 1 16 v u (k.pl m) .nilSlice ((s.pl m3).val 5) [(s.pl m3).row]) [true] = (IsB (byteF k.X) :: ryQ 1 v u k 16 nilSl :: ryC F 1 16 u k nilSl s true, some (.int .i64 (.lit 10), [])) := by kernel_rfl
theorem ry1_10 : outO [] (ryT F 1 16 v u (k.pl m) ((b.pl m2).val 5) .nilSlice [(b.pl m2).row]) [true] = (IsB (byteF k.X) :: IsB (byteF b.X) :: ryQ 1 v u k 16 b :: [true = true], some (.int .i64 (.lit 10), [])) := by kernel_rfl
theorem ry1_11o : outO [] (ryT F 1 16 v u (k.pl m) ((b.pl m2).val 5) ((s.pl m3).val 6) [(b.pl m2).row, (s.pl m3).row]) [false] = (IsB (byteF k.X) :: IsB (byteF b.X) :: ryQ 1 v u k 16 b :: ryC F 1 16 u k b s false, some (.int .i64 (.lit 0), [])) := by kernel_rfl
theorem ry1_11e : outO [] (ryT F 1 16 v u (k.pl m) ((b.pl m2).val 5) ((s.pl m3).val 6) [(b.pl m2).row, (s.pl m3).row]) [true] = (IsB (byteF k.X) :: IsB (byteF b.X) :: ryQ 1 v u k 16 b :: ryC F 1 16 u k b s true, some (.int .i64 (.lit 10), [])) := by kernel_rfl
theorem ry2_00 : outO [] (ryT F 2 32 v u (k.pl m) .nilSlice .nilSlice []) [true] = (IsB (byteF k.X) :: ryQ 2 v u k 32 nilSl :: [true = true], some (.int .i64 (.lit 10), [])) := by kernel_rfl
theorem ry2_01o : outO [] (ryT F 2 32 v u (k.pl m) .nilSlice ((s.pl m3).val 5) [(s.pl m3).row]) [false] = (IsB (byteF k.X) :: ryQ 2 v u k 32 nilSl :: ryC F 2 32 u k nilSl s false, some (.int .i64 (.lit 0), [])) := by kernel_rfl
theorem ry2_01e : outO [] (ryT F 2 32 v u (k.pl m) .nilSlice ((s.pl m3).val 5) [(s.pl m3).row]) [true] = (IsB (byteF k.X) :: ryQ 2 v u k 32 nilSl :: ryC F 2 32 u k nilSl s true, some (.int .i64 (.lit 10), [])) := by kernel_rfl
theorem ry2_10 : outO [] (ryT F 2 32 v u (k.pl m) ((b.pl m2).val 5) .nilSlice [(b.pl m2).row]) [true] = (IsB (byteF k.X) :: IsB (byteF b.X) :: ryQ 2 v u k 32 b :: [true = true], some (.int .i64 (.lit 10), [])) := by kernel_rfl
theorem ry2_11o : outO [] (ryT F 2 32 v u (k.pl m) ((b.pl m2).val 5) ((s.pl m3).val 6) [(b.pl m2).row, (s.pl m3).row]) [false] = (IsB (byteF k.X) :: IsB (byteF b.X) :: ryQ 2 v u k 32 b :: ryC F 2 32 u k b s false, some (.int .i64 (.lit 0), [])) := by kernel_rfl
theorem ry2_11e : outO [] (ryT F 2 32 v u (k.pl m) ((b.pl m2).val 5) ((s.pl m3).val 6) [(b.pl m2).row, (s.pl m3).row]) [true] = (IsB (byteF k.X) :: IsB (byteF b.X) :: ryQ 2 v u k 32 b :: ryC F 2 32 u k b s true, some (.int .i64 (.lit 10), [])) := by kernel_rfl
end
theorem ryG_eq {k b : Sl} {u : Int} {i n : Nat} {s : Sl} (hn : n ≤ 32) (hi : tagN i = n) : (!decide (strL (tabB (ryG shaF k u i n b) n) = strS s)) = !eqB (smA1 shaF k u i n b) s n := by
  congr 1
  rw [Bool.eq_iff_iff, decide_eq_true_iff, strL_iff, eqB_iff]
  have h : ∀ j, j < n → (smA1 shaF k u i n b).F j = ryG shaF k u i n b j := fun j hj => by
    show byteAt (smL shaF (k.len n) u (tagN i) b) (0 + j) = _
    rw [hi, Nat.zero_add]
    unfold smL
    rw [byteAt_tab hj]
    show byteAt (tabB (byteAt (tagS shaF (dkS shaF (k.len n) n u 0x99#8) b)) 32) (0 + j) = _
    rw [Nat.zero_add, byteAt_tab (by omega)]
    unfold ryG
    rw [hi]
  exact ⟨fun ⟨h1, h2⟩ => ⟨h1, fun j hj => by rw [h j hj]; exact h2 j hj⟩, fun ⟨h1, h2⟩ => ⟨h1, fun j hj => by rw [← h j hj]; exact h2 j hj⟩⟩
noncomputable def ryY (F : HashF) (i : Nat) : Summ := fun args H _ => args4 args fun kv uv bv sv => kv.asAgg (.stuck 864) fun l => args3 l fun p v s => i64O p fun p => i64O v fun v => i64O uv fun u => shaT H (partL H s fun k kn => txtL H bv fun b bn => txtL H sv fun s sn => boolC (distN (kn :: app (optL bn) (optL sn)))
  (.need (p.den = (i : Int) ∧ usQ i v.den u.den k.n ∧ okL k ∧ okL b ∧ b.n ≤ 1099511627712 ∧ okL s) (.ok ⟨.int .i64 (.sym (vfI F k u.den i b s)), [], []⟩)) (.stuck 864))
theorem ryYOK {i : Nat} (hi12 : i = 1 ∨ i = 2) : SumAt Tryz.prog globS 32 (ryY shaF i) := by
  intro O w0 β H w base args vs hH hG ha
  refine args4_sat fun kv uv bv sv hv => ?_
  rcases asAgg_cases kv with ⟨l, rfl⟩ | hno
  case inr => rw [hno]; trivial
  refine args3_sat fun p v s hl => i64O_sat fun p' hp => i64O_sat fun v' hv' => i64O_sat fun u hu => shaT_sat fun hT => partL_sat fun k kn hn1 ht1 hi1 => ?_
  subst hl hp hv' hu
  rw [hv] at ha
  obtain ⟨⟨xs, hxs⟩, zs, hzs⟩ := agg3_at ha
  obtain ⟨xu, zs1, hxu, hzs1, rfl⟩ := denL_cons.1 hzs
  obtain ⟨xb, zs2, hxb, hzs2, rfl⟩ := denL_cons.1 hzs1
  obtain ⟨xt, zs3, hxt, hzs3, rfl⟩ := denL_cons.1 hzs2
  have harg : ∀ (n0 m : Nat) (bv' sv' : SV), ((k.pl m).valN kn n0).den β = some xs → p'.den = (i : Int) → bv'.den β = some xb → sv'.den β = some xt → SV.denL β [.agg [.int .i64 (.lit i), .int .i64 (.sym v'.den), (k.pl m).valN kn n0], .int .i64 (.sym u.den), bv', sv'] = some vs := by
    intro n0 m bv' sv' hks hpi hb hs
    have h1 := agg3_den (s' := (k.pl m).valN kn n0) (p' := .int .i64 (.lit i)) (v' := .int .i64 (.sym v'.den)) ha (fun x hx => by rw [hxs] at hx; cases hx; exact hks) (int_imp0 hpi) (int_imp0 rfl)
    obtain ⟨xa, ws, hxa, hws, rfl⟩ := denL_cons.1 h1
    refine denL_cons.2 ⟨_, _, hxa, ?_, rfl⟩
    rw [hzs] at hws
    cases hws
    exact denL_cons.2 ⟨_, _, int_imp0 rfl _ _ hxu, denL_cons.2 ⟨_, _, hb, denL_cons.2 ⟨_, _, hs, hzs3, rfl⟩, rfl⟩, rfl⟩
  have hkl : ∀ {n : Nat}, k.n = n → okL k → okL (k.len n) := fun {n} hn hk => by subst hn; exact hk
  have e0 : ∀ {n : Nat} {b : Sl}, eqB (smA1 shaF k u.den i n b) nilSl n = true → n ≠ 0 → False := fun h hn => by
    have := (eqB_iff.1 h).1
    exact hn this.symm
  refine txtL_sat (fun hbn => txtL_sat (fun hsn => boolC_only fun hd => fun ⟨hpi, hq, hk, _, _, _⟩ => ?_) fun t tn hn3 ht3 hi3 => boolC_only fun hd => fun ⟨hpi, hq, hk, _, _, ht⟩ => ?_) fun b bn hn2 ht2 hi2 => txtL_sat (fun hsn => boolC_only fun hd => fun ⟨hpi, hq, hk, hb, hbig, _⟩ => ?_) fun t tn hn3 ht3 hi3 => boolC_only fun hd => fun ⟨hpi, hq, hk, hb, hbig, ht⟩ => ?_
  · subst hbn; subst hsn
    obtain ⟨e, he, ho⟩ := vfI_cases shaF k u.den i nilSl nilSl
    have n3 : ∀ {x : Nat}, x ∈ [kn] → newOne x = true := by simp only [List.mem_cons, List.not_mem_nil, or_false]; rintro x rfl; assumption
    have key : ∀ {n : Nat} {cs ds}, CfgOK (cfgRy shaF i) → k.n = n → (∀ m, outO [] (callSim (cfgRy shaF i) 4000 32 (vfA i n v'.den u.den (k.pl m) (.nilSlice) (.nilSlice)) (shaH [(k.pl m).row])) ds = (cs, some (.int .i64 (.lit e), []))) → (∀ q ∈ cs, q) → SumSem Tryz.prog H β w base 32 vs ⟨.int .i64 (.sym (vfI shaF k u.den i nilSl nilSl)), [], []⟩ := by
      intro n cs ds hcf hkn hr hc
      obtain ⟨m, hks⟩ := Sl.val_denN hkn (hi1 _ _ hxs)
      refine sum_outOG hcf 4000 hH (shaI [kn] [(k.pl m).row] (vfA i n v'.den u.den (k.pl m) (.nilSlice) (.nilSlice))) (shaI_glob hG) ?_ (Ifc.fits (nd4 hd fun _ => n3) (vfA_uses rfl rfl rfl) (shaI_ents hT ⟨⟨ht1 _, k.row_uses _⟩, trivial⟩)) [] (by simp) (by simp) (hr m) hc fun _ _ => endsI rfl he.symm
      show SV.denL β [.agg [.int .i64 (.lit i), .int .i64 (.sym v'.den), ((k.pl m).valN 4 n).ren _], .int .i64 (.sym u.den), .nilSlice, .nilSlice] = _
      rw [Sl.valN_ren]
      exact harg n m _ _ hks hpi hxb hxt
    rcases hi12 with rfl | rfl
    · have hkn : k.n = 16 := by rcases hq.1.1 with ⟨_, h⟩ | ⟨h, _⟩; exact h; cases h
      rw [hkn] at hq
      rcases ho with ⟨rfl, ho⟩ | ⟨rfl, ho⟩
      · exact (e0 ho (by show 16 ≠ 0; omega)).elim
      · exact key cfgRy1 hkn (fun m => ry1_00 shaF v'.den u.den k  m ) (all_cons (byteF_isB _) (all_cons ⟨rfl, hq, hkl hkn hk, ⟨Nat.le_refl _, Nat.zero_le _⟩, Nat.zero_le _⟩ (all_cons rfl all_nil)))
    · have hkn : k.n = 32 := by rcases hq.1.1 with ⟨h, _⟩ | ⟨_, h⟩; cases h; exact h
      rw [hkn] at hq
      rcases ho with ⟨rfl, ho⟩ | ⟨rfl, ho⟩
      · exact (e0 ho (by show 32 ≠ 0; omega)).elim
      · exact key cfgRy2 hkn (fun m => ry2_00 shaF v'.den u.den k  m ) (all_cons (byteF_isB _) (all_cons ⟨rfl, hq, hkl hkn hk, ⟨Nat.le_refl _, Nat.zero_le _⟩, Nat.zero_le _⟩ (all_cons rfl all_nil)))
  · subst hbn
    obtain ⟨e, he, ho⟩ := vfI_cases shaF k u.den i nilSl t
    obtain ⟨m3, _, hts⟩ := Sl.val_den (hi3 _ _ hxt)
    have n3 : ∀ {x : Nat}, x ∈ [kn, tn] → newOne x = true := by simp only [List.mem_cons, List.not_mem_nil, or_false]; rintro x (rfl | rfl) <;> assumption
    have key : ∀ {n : Nat} {cs ds}, CfgOK (cfgRy shaF i) → k.n = n → (∀ m, outO [] (callSim (cfgRy shaF i) 4000 32 (vfA i n v'.den u.den (k.pl m) (.nilSlice) ((t.pl m3).val 5)) (shaH [(k.pl m).row, (t.pl m3).row])) ds = (cs, some (.int .i64 (.lit e), []))) → (∀ q ∈ cs, q) → SumSem Tryz.prog H β w base 32 vs ⟨.int .i64 (.sym (vfI shaF k u.den i nilSl t)), [], []⟩ := by
      intro n cs ds hcf hkn hr hc
      obtain ⟨m, hks⟩ := Sl.val_denN hkn (hi1 _ _ hxs)
      refine sum_outOG hcf 4000 hH (shaI [kn, tn] [(k.pl m).row, (t.pl m3).row] (vfA i n v'.den u.den (k.pl m) (.nilSlice) ((t.pl m3).val 5))) (shaI_glob hG) ?_ (Ifc.fits (nd4 hd fun _ => n3) (vfA_uses rfl rfl (Sl.val_uses _ _ _ rfl)) (shaI_ents hT ⟨⟨ht1 _, k.row_uses _⟩, ⟨ht3 _, t.row_uses _⟩, trivial⟩)) [] (by simp) (by simp) (hr m) hc fun _ _ => endsI rfl he.symm
      show SV.denL β [.agg [.int .i64 (.lit i), .int .i64 (.sym v'.den), ((k.pl m).valN 4 n).ren _], .int .i64 (.sym u.den), .nilSlice, ((t.pl m3).val 5).ren _] = _
      rw [Sl.valN_ren, Sl.val_ren]
      exact harg n m _ _ hks hpi hxb hts
    rcases hi12 with rfl | rfl
    · have hkn : k.n = 16 := by rcases hq.1.1 with ⟨_, h⟩ | ⟨h, _⟩; exact h; cases h
      rw [hkn] at hq
      rcases ho with ⟨rfl, ho⟩ | ⟨rfl, ho⟩
      · exact key cfgRy1 hkn (fun m => ry1_01o shaF v'.den u.den k  t m m3) (all_cons (byteF_isB _) (all_cons ⟨rfl, hq, hkl hkn hk, ⟨Nat.le_refl _, Nat.zero_le _⟩, Nat.zero_le _⟩ (all_cons (rdC_of ht) (all_cons (by rw [ryG_eq (i := 1) (n := 16) (by omega) rfl, show eqB (smA1 shaF k u.den 1 16 nilSl) t 16 = true from ho]; rfl) all_nil))))
      · exact key cfgRy1 hkn (fun m => ry1_01e shaF v'.den u.den k  t m m3) (all_cons (byteF_isB _) (all_cons ⟨rfl, hq, hkl hkn hk, ⟨Nat.le_refl _, Nat.zero_le _⟩, Nat.zero_le _⟩ (all_cons (rdC_of ht) (all_cons (by rw [ryG_eq (i := 1) (n := 16) (by omega) rfl, show eqB (smA1 shaF k u.den 1 16 nilSl) t 16 = false from ho]; rfl) all_nil))))
    · have hkn : k.n = 32 := by rcases hq.1.1 with ⟨h, _⟩ | ⟨_, h⟩; cases h; exact h
      rw [hkn] at hq
      rcases ho with ⟨rfl, ho⟩ | ⟨rfl, ho⟩
      · exact key cfgRy2 hkn (fun m => ry2_01o shaF v'.den u.den k  t m m3) (all_cons (byteF_isB _) (all_cons ⟨rfl, hq, hkl hkn hk, ⟨Nat.le_refl _, Nat.zero_le _⟩, Nat.zero_le _⟩ (all_cons (rdC_of ht) (all_cons (by rw [ryG_eq (i := 2) (n := 32) (by omega) rfl, show eqB (smA1 shaF k u.den 2 32 nilSl) t 32 = true from ho]; rfl) all_nil))))
      · exact key cfgRy2 hkn (fun m => ry2_01e shaF v'.den u.den k  t m m3) (all_cons (byteF_isB _) (all_cons ⟨rfl, hq, hkl hkn hk, ⟨Nat.le_refl _, Nat.zero_le _⟩, Nat.zero_le _⟩ (all_cons (rdC_of ht) (all_cons (by rw [ryG_eq (i := 2) (n := 32) (by omega) rfl, show eqB (smA1 shaF k u.den 2 32 nilSl) t 32 = false from ho]; rfl) all_nil))))
  · subst hsn
    obtain ⟨e, he, ho⟩ := vfI_cases shaF k u.den i b nilSl
    obtain ⟨m2, _, hbs⟩ := Sl.val_den (hi2 _ _ hxb)
    have n3 : ∀ {x : Nat}, x ∈ [kn, bn] → newOne x = true := by simp only [List.mem_cons, List.not_mem_nil, or_false]; rintro x (rfl | rfl) <;> assumption
    have key : ∀ {n : Nat} {cs ds}, CfgOK (cfgRy shaF i) → k.n = n → (∀ m, outO [] (callSim (cfgRy shaF i) 4000 32 (vfA i n v'.den u.den (k.pl m) ((b.pl m2).val 5) (.nilSlice)) (shaH [(k.pl m).row, (b.pl m2).row])) ds = (cs, some (.int .i64 (.lit e), []))) → (∀ q ∈ cs, q) → SumSem Tryz.prog H β w base 32 vs ⟨.int .i64 (.sym (vfI shaF k u.den i b nilSl)), [], []⟩ := by
      intro n cs ds hcf hkn hr hc
      obtain ⟨m, hks⟩ := Sl.val_denN hkn (hi1 _ _ hxs)
      refine sum_outOG hcf 4000 hH (shaI [kn, bn] [(k.pl m).row, (b.pl m2).row] (vfA i n v'.den u.den (k.pl m) ((b.pl m2).val 5) (.nilSlice))) (shaI_glob hG) ?_ (Ifc.fits (nd4 hd fun _ => n3) (vfA_uses rfl (Sl.val_uses _ _ _ rfl) rfl) (shaI_ents hT ⟨⟨ht1 _, k.row_uses _⟩, ⟨ht2 _, b.row_uses _⟩, trivial⟩)) [] (by simp) (by simp) (hr m) hc fun _ _ => endsI rfl he.symm
      show SV.denL β [.agg [.int .i64 (.lit i), .int .i64 (.sym v'.den), ((k.pl m).valN 4 n).ren _], .int .i64 (.sym u.den), ((b.pl m2).val 5).ren _, .nilSlice] = _
      rw [Sl.valN_ren, Sl.val_ren]
      exact harg n m _ _ hks hpi hbs hxt
    rcases hi12 with rfl | rfl
    · have hkn : k.n = 16 := by rcases hq.1.1 with ⟨_, h⟩ | ⟨h, _⟩; exact h; cases h
      rw [hkn] at hq
      rcases ho with ⟨rfl, ho⟩ | ⟨rfl, ho⟩
      · exact (e0 ho (by show 16 ≠ 0; omega)).elim
      · exact key cfgRy1 hkn (fun m => ry1_10 shaF v'.den u.den k b  m m2 ) (all_cons (byteF_isB _) (all_cons (byteF_isB _) (all_cons ⟨rfl, hq, hkl hkn hk, hb, hbig⟩ (all_cons rfl all_nil))))
    · have hkn : k.n = 32 := by rcases hq.1.1 with ⟨h, _⟩ | ⟨_, h⟩; cases h; exact h
      rw [hkn] at hq
      rcases ho with ⟨rfl, ho⟩ | ⟨rfl, ho⟩
      · exact (e0 ho (by show 32 ≠ 0; omega)).elim
      · exact key cfgRy2 hkn (fun m => ry2_10 shaF v'.den u.den k b  m m2 ) (all_cons (byteF_isB _) (all_cons (byteF_isB _) (all_cons ⟨rfl, hq, hkl hkn hk, hb, hbig⟩ (all_cons rfl all_nil))))
  · skip
    obtain ⟨e, he, ho⟩ := vfI_cases shaF k u.den i b t
    obtain ⟨m2, _, hbs⟩ := Sl.val_den (hi2 _ _ hxb)
    obtain ⟨m3, _, hts⟩ := Sl.val_den (hi3 _ _ hxt)
    have n3 : ∀ {x : Nat}, x ∈ [kn, bn, tn] → newOne x = true := by simp only [List.mem_cons, List.not_mem_nil, or_false]; rintro x (rfl | rfl | rfl) <;> assumption
    have key : ∀ {n : Nat} {cs ds}, CfgOK (cfgRy shaF i) → k.n = n → (∀ m, outO [] (callSim (cfgRy shaF i) 4000 32 (vfA i n v'.den u.den (k.pl m) ((b.pl m2).val 5) ((t.pl m3).val 6)) (shaH [(k.pl m).row, (b.pl m2).row, (t.pl m3).row])) ds = (cs, some (.int .i64 (.lit e), []))) → (∀ q ∈ cs, q) → SumSem Tryz.prog H β w base 32 vs ⟨.int .i64 (.sym (vfI shaF k u.den i b t)), [], []⟩ := by
      intro n cs ds hcf hkn hr hc
      obtain ⟨m, hks⟩ := Sl.val_denN hkn (hi1 _ _ hxs)
      refine sum_outOG hcf 4000 hH (shaI [kn, bn, tn] [(k.pl m).row, (b.pl m2).row, (t.pl m3).row] (vfA i n v'.den u.den (k.pl m) ((b.pl m2).val 5) ((t.pl m3).val 6))) (shaI_glob hG) ?_ (Ifc.fits (nd4 hd fun _ => n3) (vfA_uses rfl (Sl.val_uses _ _ _ rfl) (Sl.val_uses _ _ _ rfl)) (shaI_ents hT ⟨⟨ht1 _, k.row_uses _⟩, ⟨ht2 _, b.row_uses _⟩, ⟨ht3 _, t.row_uses _⟩, trivial⟩)) [] (by simp) (by simp) (hr m) hc fun _ _ => endsI rfl he.symm
      show SV.denL β [.agg [.int .i64 (.lit i), .int .i64 (.sym v'.den), ((k.pl m).valN 4 n).ren _], .int .i64 (.sym u.den), ((b.pl m2).val 5).ren _, ((t.pl m3).val 6).ren _] = _
      rw [Sl.valN_ren, Sl.val_ren, Sl.val_ren]
      exact harg n m _ _ hks hpi hbs hts
    rcases hi12 with rfl | rfl
    · have hkn : k.n = 16 := by rcases hq.1.1 with ⟨_, h⟩ | ⟨h, _⟩; exact h; cases h
      rw [hkn] at hq
      rcases ho with ⟨rfl, ho⟩ | ⟨rfl, ho⟩
      · exact key cfgRy1 hkn (fun m => ry1_11o shaF v'.den u.den k b  t m m2 m3) (all_cons (byteF_isB _) (all_cons (byteF_isB _) (all_cons ⟨rfl, hq, hkl hkn hk, hb, hbig⟩ (all_cons (rdC_of ht) (all_cons (by rw [ryG_eq (i := 1) (n := 16) (by omega) rfl, show eqB (smA1 shaF k u.den 1 16 b) t 16 = true from ho]; rfl) all_nil)))))
      · exact key cfgRy1 hkn (fun m => ry1_11e shaF v'.den u.den k b  t m m2 m3) (all_cons (byteF_isB _) (all_cons (byteF_isB _) (all_cons ⟨rfl, hq, hkl hkn hk, hb, hbig⟩ (all_cons (rdC_of ht) (all_cons (by rw [ryG_eq (i := 1) (n := 16) (by omega) rfl, show eqB (smA1 shaF k u.den 1 16 b) t 16 = false from ho]; rfl) all_nil)))))
    · have hkn : k.n = 32 := by rcases hq.1.1 with ⟨h, _⟩ | ⟨_, h⟩; cases h; exact h
      rw [hkn] at hq
      rcases ho with ⟨rfl, ho⟩ | ⟨rfl, ho⟩
      · exact key cfgRy2 hkn (fun m => ry2_11o shaF v'.den u.den k b  t m m2 m3) (all_cons (byteF_isB _) (all_cons (byteF_isB _) (all_cons ⟨rfl, hq, hkl hkn hk, hb, hbig⟩ (all_cons (rdC_of ht) (all_cons (by rw [ryG_eq (i := 2) (n := 32) (by omega) rfl, show eqB (smA1 shaF k u.den 2 32 b) t 32 = true from ho]; rfl) all_nil)))))
      · exact key cfgRy2 hkn (fun m => ry2_11e shaF v'.den u.den k b  t m m2 m3) (all_cons (byteF_isB _) (all_cons (byteF_isB _) (all_cons ⟨rfl, hq, hkl hkn hk, hb, hbig⟩ (all_cons (rdC_of ht) (all_cons (by rw [ryG_eq (i := 2) (n := 32) (by omega) rfl, show eqB (smA1 shaF k u.den 2 32 b) t 32 = false from ho]; rfl) all_nil)))))
end Go.Proofs.YtbmgahpjgefjaaaGreatDoor.Aes


/-
  ProfileSums: the law's runs.
-/
namespace Go.Proofs.YtbmgahpjgefjaaaGreatDoor.Aes
open Go.Sim
open Go.Proofs

set_option maxRecDepth 1000000
noncomputable def cfgLs (F : HashF) (i : Nat) : Cfg := cfgG globS (sumsOf [(29, sumS F i), (31, vfY F i), (30, rsumS F i), (32, ryY F i), (11, knS)])
theorem cfgLsOK {i : Nat} (hi : i = 1 ∨ i = 2) : CfgOK (cfgLs shaF i) := sumsG_ok (allS (SumAt.up (sumSOK hi)) (allS (SumAt.up (vfYOK hi)) (allS (rsumOK hi) (allS (ryYOK hi) (allS (SumAt.up knOK) (by simp))))))
/- Verify, where the key or the usage is not valid. -/
noncomputable def cfgQr : Cfg := cfgOf (sumsOf [(40, ruS false)])
theorem cfgQrOK : CfgOK cfgQr := sumsOf_ok (all1 ruOK)
noncomputable def vqA (p v u : Int) (y : Option Addr) (l m : Nat) (y1 : Option Addr) (l1 m1 : Nat) (y2 : Option Addr) (l2 m2 : Nat) : List SV := [kyV p v y l m, .int .i64 (.sym u), vSl y1 l1 m1, vSl y2 l2 m2]
section
variable (p v u : Int) (y : Option Addr) (l m : Nat) (y1 : Option Addr) (l1 m1 : Nat) (y2 : Option Addr) (l2 m2 : Nat)
theorem vqe_run : outO [] (callSim (cfgQ uqE) 400 31 (vqA p v u y l m y1 l1 m1 y2 l2 m2) []) [] = ([¬ usQ p v u l], some (.int .i64 (.lit 2), [])) := by kernel_rfl
theorem rqe_run : outO [] (callSim cfgQr 400 32 (vqA p v u y l m y1 l1 m1 y2 l2 m2) []) [] = ([usQ p v u l ↔ false = true], some (.int .i64 (.lit 2), [])) := by kernel_rfl
end
noncomputable def vqE : Summ := fun args _ _ => args4 args fun kv uv bv sv => keyN kv fun p v l => i64O uv fun u => lenQ bv fun _ => lenQ sv fun _ => .need (¬ usQ p.den v.den u.den l) (.ok ⟨.int .i64 (.lit 2), [], []⟩)
theorem vqeOK {c : Cfg} (hP : c.P = Tryz.prog) (hc : CfgOK c) (hg : c.glob = fun _ => none) {f : FuncId} {q : Prop → Prop} (hq : ∀ {p : Prop}, ¬ p → q p) (hr : ∀ (p v u : Int) (y : Option Addr) (l m : Nat) (y1 : Option Addr) (l1 m1 : Nat) (y2 : Option Addr) (l2 m2 : Nat), outO [] (callSim c 400 f (vqA p v u y l m y1 l1 m1 y2 l2 m2) []) [] = ([q (usQ p v u l)], some (.int .i64 (.lit 2), []))) : SumOK Tryz.prog f vqE := by
  intro glob O w0 β H w base args vs hH hG ha
  refine args4_sat fun kv uv bv sv hv => keyN_sat fun p v s n hk hs => i64O_sat fun u hu => lenQ_sat fun l1 hb => lenQ_sat fun l2 hz => fun hn => ?_
  subst hv hk hu
  obtain ⟨y, m, h1⟩ := keyN_den ha hs
  obtain ⟨xk, zs, hxk, hzs, rfl⟩ := denL_cons.1 h1
  obtain ⟨xu, zs1, hxu, hzs1, rfl⟩ := denL_cons.1 hzs
  obtain ⟨xb, zs2, hxb, hzs2, rfl⟩ := denL_cons.1 hzs1
  obtain ⟨xz, zs3, hxz, hzs3, rfl⟩ := denL_cons.1 hzs2
  obtain ⟨y1, m1, hb'⟩ := lenQ_den hb hxb
  obtain ⟨y2, m2, hz'⟩ := lenQ_den hz hxz
  have ha' : SV.denL β (vqA p.den v.den u.den y n m y1 l1 m1 y2 l2 m2) = some (xk :: xu :: xb :: xz :: zs3) := denL_cons.2 ⟨_, _, hxk, denL_cons.2 ⟨_, _, int_imp0 rfl _ _ hxu, denL_cons.2 ⟨_, _, hb', denL_cons.2 ⟨_, _, hz', hzs3, rfl⟩, rfl⟩, rfl⟩, rfl⟩
  rw [← hP] at hH ⊢
  exact sum_outO hc hg 400 hH ⟨[], [], vqA p.den v.den u.den y n m y1 l1 m1 y2 l2 m2⟩ ha' (fits0 rfl) [] (by simp) (by simp) (hr p.den v.den u.den y n m y1 l1 m1 y2 l2 m2) (all_cons (hq hn) all_nil) fun _ _ => ends0 rfl rfl rfl
theorem vqE_prog : SumOK Tryz.prog 31 vqE := vqeOK (q := fun p => ¬ p) rfl cfgQ0 rfl (fun h => h) vqe_run
theorem vqE_ref : SumOK Tryz.prog 32 vqE := vqeOK (q := fun p => p ↔ false = true) rfl cfgQrOK rfl (fun h => ⟨fun x => absurd x h, fun x => by cases x⟩) rqe_run
noncomputable def cfgLe : Cfg := cfgG globS (sumsOf [(37, uqE), (40, ruS false), (31, vqE), (32, vqE), (11, knS)])
theorem cfgLeOK : CfgOK cfgLe := sumsG_ok (allS (uqEOK _) (allS (ruOK _) (allS (vqE_prog _) (allS (vqE_ref _) (allS (SumAt.up knOK) (by simp))))))
noncomputable def lsA (i : Int) (n : Nat) (v u : Int) (k : Sl) (b s : SV) (x : BitVec 8) : List SV := [.agg [.int .i64 (.lit i), .int .i64 (.sym v), k.valN 4 n], .int .i64 (.sym u), b, s, .int .u8 (.b8 x)]
noncomputable def lsT (F : HashF) (i n : Nat) (v u : Int) (k : Sl) (b s : SV) (x : BitVec 8) (r : List SO) : Tree := callSim (cfgLs F i) 8000 7 (lsA i n v u k b s x) (shaH (k.row :: r))
noncomputable def leT (p v u : Int) (y : Option Addr) (l m : Nat) (y1 : Option Addr) (l1 m1 : Nat) (y2 : Option Addr) (l2 m2 : Nat) (x : BitVec 8) : Tree := callSim cfgLe 8000 7 [kyV p v y l m, .int .i64 (.sym u), vSl y1 l1 m1, vSl y2 l2 m2, .int .u8 (.b8 x)] (shaH [])
/-- the checksum with its last byte changed -/
noncomputable def lsO (F : HashF) (k : Sl) (u : Int) (i n : Nat) (b : Sl) (x : BitVec 8) : Sl := ⟨byteAt (app (tabB (ryG F k u i n b) (Nat.pred n)) [ryG F k u i n b (Nat.pred n) + x]), n, 0, n, true, 0⟩
noncomputable def lsQ (i : Nat) (v u : Int) (k : Sl) (n : Nat) (b s : Sl) : Prop := (i : Int) = i ∧ usQ i v u n ∧ okL (k.len n) ∧ okL b ∧ okL s
noncomputable def lsQ2 (i : Nat) (v u : Int) (k : Sl) (n : Nat) (b s : Sl) : Prop := (i : Int) = i ∧ usQ i v u n ∧ okL (k.len n) ∧ okL b ∧ b.n ≤ 1099511627712 ∧ okL s
noncomputable def lsB (k : Sl) (bi r : List Prop) : List Prop := IsB (byteF k.X) :: app bi r
noncomputable def lsI (F : HashF) (k : Sl) (u : Int) (i n : Nat) (b s : Sl) : Int := vfI F (k.len n) u i b s
noncomputable def lsC (F : HashF) (i n : Nat) (v u : Int) (k b s : Sl) (x : BitVec 8) (bo bi si : List Prop) : List Prop :=
  app bo (lsB k bi (((i : Int) = i ∧ usQ i v u n ∧ okL (k.len n) ∧ okL b) :: lsB k bi (ryQ i v u k n b :: ((!decide (strL (smL F (k.len n) u (tagN i) b) = strL (tabB (ryG F k u i n b) n))) = false) ::
    lsB k bi (app si (lsQ i v u k n b s :: lsB k bi (app si (lsQ2 i v u k n b s :: ((lsI F k u i n b s != lsI F k u i n b s) = false) :: lsB k bi (lsQ i v u k n b (lsO F k u i n b x) :: lsB k bi (lsQ2 i v u k n b (lsO F k u i n b x) :: [(lsI F k u i n b (lsO F k u i n b x) == lsI F k u i n b (lsO F k u i n b x)) = true])))))))))
noncomputable def lsR : Option (SV × List (Option SO)) := some (.bool (.lit true), [])
section
variable (F : HashF) (v u : Int) (k b s : Sl) (x : BitVec 8) (m m2 m3 : Nat)
theorem ls1_00 : outO [] (lsT F 1 16 v u (k.pl m) .nilSlice .nilSlice x []) [false, false, true] = (lsC F 1 16 v u k nilSl nilSl x [] [] [], lsR) := by kernel_rfl
theorem ls1_01 : outO [] (lsT F 1 16 v u (k.pl m) .nilSlice ((s.pl m3).val 5) x [(s.pl m3).row]) [false, false, false, true] = (lsC F 1 16 v u k nilSl s x [decide ((s.n : Int) > 200) = false] [] [IsB (byteF s.X)], lsR) := by kernel_rfl
theorem ls1_10 : outO [] (lsT F 1 16 v u (k.pl m) ((b.pl m2).val 5) .nilSlice x [(b.pl m2).row]) [false, false, false, true] = (lsC F 1 16 v u k b nilSl x [decide ((b.n : Int) > 200) = false] [IsB (byteF b.X)] [], lsR) := by kernel_rfl
theorem ls1_11 : outO [] (lsT F 1 16 v u (k.pl m) ((b.pl m2).val 5) ((s.pl m3).val 6) x [(b.pl m2).row, (s.pl m3).row]) [false, false, false, false, true] = (lsC F 1 16 v u k b s x [decide ((b.n : Int) > 200) = false, decide ((s.n : Int) > 200) = false] [IsB (byteF b.X)] [IsB (byteF s.X)], lsR) := by kernel_rfl
theorem ls2_00 : outO [] (lsT F 2 32 v u (k.pl m) .nilSlice .nilSlice x []) [false, false, true] = (lsC F 2 32 v u k nilSl nilSl x [] [] [], lsR) := by kernel_rfl
theorem ls2_01 : outO [] (lsT F 2 32 v u (k.pl m) .nilSlice ((s.pl m3).val 5) x [(s.pl m3).row]) [false, false, false, true] = (lsC F 2 32 v u k nilSl s x [decide ((s.n : Int) > 200) = false] [] [IsB (byteF s.X)], lsR) := by kernel_rfl
theorem ls2_10 : outO [] (lsT F 2 32 v u (k.pl m) ((b.pl m2).val 5) .nilSlice x [(b.pl m2).row]) [false, false, false, true] = (lsC F 2 32 v u k b nilSl x [decide ((b.n : Int) > 200) = false] [IsB (byteF b.X)] [], lsR) := by kernel_rfl
theorem ls2_11 : outO [] (lsT F 2 32 v u (k.pl m) ((b.pl m2).val 5) ((s.pl m3).val 6) x [(b.pl m2).row, (s.pl m3).row]) [false, false, false, false, true] = (lsC F 2 32 v u k b s x [decide ((b.n : Int) > 200) = false, decide ((s.n : Int) > 200) = false] [IsB (byteF b.X)] [IsB (byteF s.X)], lsR) := by kernel_rfl
end
noncomputable def leN (p v u : Int) (l : Nat) : List Prop := [¬ usQ p v u l, ¬ usQ p v u l, ¬ usQ p v u l, ¬ usQ p v u l]
section
variable (p v u : Int) (y : Option Addr) (l m : Nat) (y1 : Option Addr) (l1 m1 : Nat) (y2 : Option Addr) (l2 m2 : Nat) (x : BitVec 8)
theorem le_no : outO [] (leT p v u y l m y1 l1 m1 y2 l2 m2 x) [false, false, false] = ((decide ((l1 : Int) > 200) = false) :: (decide ((l2 : Int) > 200) = false) :: (decide ((l : Int) > 40) = false) :: (¬ usQ p v u l) :: (usQ p v u l ↔ false = true) :: leN p v u l, lsR) := by kernel_rfl
theorem le_b1 : outO [] (leT p v u y l m y1 l1 m1 y2 l2 m2 x) [true] = ([decide ((l1 : Int) > 200) = true], lsR) := by kernel_rfl
theorem le_b2 : outO [] (leT p v u y l m y1 l1 m1 y2 l2 m2 x) [false, true] = ([decide ((l1 : Int) > 200) = false, decide ((l2 : Int) > 200) = true], lsR) := by kernel_rfl
theorem le_b3 : outO [] (leT p v u y l m y1 l1 m1 y2 l2 m2 x) [false, false, true] = ([decide ((l1 : Int) > 200) = false, decide ((l2 : Int) > 200) = false, decide ((l : Int) > 40) = true], lsR) := by kernel_rfl
end
end Go.Proofs.YtbmgahpjgefjaaaGreatDoor.Aes


/-
  A key (a struct of two numbers and a slice of bytes) that came in.
-/
namespace Go.Proofs.YtbmgahpjgefjaaaGreatDoor.Aes
open Go.Sim Go.WideShapes Go.ChangeShapes

theorem open_key {H : Type} {enc : TypeId × Value → H} {P : Program} {w : World} {r : Reach} {b0 base : Nat} {held : Bool} {t ti ts te : TypeId} {f0 f1 f2 : Field} {v : Value} {d : DataW H} {ps : List MemPlace}
    (ht : P.underlying t = some (.struct #[f0, f1, f2])) (h0 : f0.type = ti ∧ f0.offset = 0) (h1 : f1.type = ti ∧ f1.offset = 1) (h2 : f2.type = ts ∧ f2.offset = 2) (hi : P.underlying ti = some (.int .i64)) (hs : P.underlying ts = some (.slice te)) (he : P.underlying te = some (.int .u8))
    (ci : P.cellsOf ti = 1) (cs : P.cellsOf ts = 1) (ce : P.cellsOf te = 1) (ct : P.cellsOf t = 3) (hcells : P.cellTypes P.depth t = some [ti, ti, ts])
    (hval : Value.okWide P w r b0 t v) (hd : DataW.Trod enc P w base (fun _ => true) held t v d ps) :
    ∃ p q a len cap X, v = .agg #[.int .i64 p, .int .i64 q, .slice a len cap] ∧ ByteRow w a len cap X := by
  have hval' := hval
  obtain ⟨c, rfl, hsz⟩ := okWide_struct ht hval
  obtain ⟨fuel, hf⟩ := hd
  have hf : DataW.trod enc P w base (fun _ => true) held fuel t c.toList = some (d, ps) := hf
  obtain ⟨y0, y1, y2, n, _, hl, k0, k1, k2⟩ := Go.Deep.trod_struct3 ht hf
  rw [h0.1, h0.2, ci] at k0
  rw [h1.1, h1.2, ci] at k1
  rw [h2.1, h2.2, cs] at k2
  rw [ct] at hl
  obtain ⟨z0, e0, _, _⟩ := DataW.trod_int hi k0
  obtain ⟨z1, e1, _, _⟩ := DataW.trod_int hi k1
  match hc : c.toList, hl with
  | [c0, c1, c2], _ =>
    rw [hc] at e0 e1 k2
    obtain rfl : c0 = .int .i64 z0 := by simpa using e0
    obtain rfl : c1 = .int .i64 z1 := by simpa using e1
    have k2 : DataW.trod enc P w base (fun _ => true) held n ts [c2] = some y2 := k2
    obtain rfl : c = #[.int .i64 z0, .int .i64 z1, c2] := by
      cases c; simp_all
    have hspot : ∀ a l k, c2 = .slice (some a) l k → a.spot = none := by
      rintro a l k rfl
      simp only [Value.okWide, ht] at hval'
      obtain ⟨cs', e, _, ts', hct, _, hcell⟩ := hval'
      cases e
      rw [hcells] at hct
      cases hct
      obtain ⟨u, hu, hok⟩ := hcell 2 _ rfl
      have hu : some ts = some u := hu
      cases hu
      simp only [Cell.okWide, hs, Cell.ok] at hok
      exact hok.2.2.2.1
    rcases open_ints hs he ce k2 with ⟨hcs, _⟩ | ⟨x, l, k, zs, hcs, _, hlk, hm, hz, _, hcell, hwz⟩
    · obtain rfl : c2 = .slice none 0 0 := by simpa using hcs
      exact ⟨z0, z1, none, 0, 0, _, rfl, byteRow_of (.inl ⟨rfl, rfl, rfl, rfl⟩) fun _ h => by cases h⟩
    · obtain rfl : c2 = .slice (some x) l k := by simpa using hcs
      exact ⟨z0, z1, some x, l, k, _, rfl, byteRow_of (.inr ⟨x, rfl, hlk, hm, by simpa using hz, hcell, hwz⟩) fun y hy => by cases hy; exact hspot _ _ _ rfl⟩
end Go.Proofs.YtbmgahpjgefjaaaGreatDoor.Aes


/-
  ProfileSums: the law.
-/
namespace Go.Proofs.YtbmgahpjgefjaaaGreatDoor.Aes
open Go.Sim
open Go.Proofs
open Go.RowKit

set_option maxRecDepth 100000
theorem tagN_c {i : Nat} (h : i = 1 ∨ i = 2) : tagN i = 16 ∨ tagN i = 32 := by rcases h with rfl | rfl; exact .inl rfl; exact .inr rfl
section
variable {i n : Nat} {v u : Int} {k b s : Sl} {x : BitVec 8} {bo bi si r : List Prop}
theorem sm_str (hn : n ≤ 32) (hi : tagN i = n) : strL (smL shaF (k.len n) u (tagN i) b) = strL (tabB (ryG shaF k u i n b) n) := by
  unfold smL
  rw [hi]
  refine congrArg strL (tabB_congr fun j hj => ?_)
  show byteAt (tabB (byteAt (tagS shaF (dkS shaF (k.len n) n u 0x99#8) b)) 32) (0 + j) = _
  rw [Nat.zero_add, byteAt_tab (by omega)]
  unfold ryG
  rw [hi]
theorem lsB_all (hbi : ∀ q ∈ bi, q) (hr : ∀ q ∈ r, q) : ∀ q ∈ lsB k bi r, q := all_cons (byteF_isB _) (all_app hbi hr)
theorem lsC_all (hn : n ≤ 32) (hi : tagN i = n) (hq : usQ i v u n) (hk : okL (k.len n)) (hb : okL b) (hs : okL s) (hbig : b.n ≤ 200) (hbo : ∀ q ∈ bo, q) (hbi : ∀ q ∈ bi, q) (hsi : ∀ q ∈ si, q) : ∀ q ∈ lsC shaF i n v u k b s x bo bi si, q := by
  have hO : okL (lsO shaF k u i n b x) := ⟨by show 0 + n ≤ n; omega, by show n ≤ _; omega⟩
  have hB : b.n ≤ 1099511627712 := by omega
  have e : ∀ z : Int, (z != z) = false := fun z => by simp
  have e' : ∀ z : Int, (z == z) = true := fun z => by simp
  exact all_app hbo (lsB_all hbi (all_cons ⟨rfl, hq, hk, hb⟩ (lsB_all hbi (all_cons ⟨rfl, hq, hk, hb, hB⟩ (all_cons (by rw [sm_str hn hi]; simp) (lsB_all hbi (all_app hsi (all_cons ⟨rfl, hq, hk, hb, hs⟩ (lsB_all hbi (all_app hsi (all_cons ⟨rfl, hq, hk, hb, hB, hs⟩ (all_cons (e _) (lsB_all hbi (all_cons ⟨rfl, hq, hk, hb, hO⟩ (lsB_all hbi (all_cons ⟨rfl, hq, hk, hb, hB, hO⟩ (all_cons (e' _) all_nil)))))))))))))))))
end
theorem ls_law {w : World} {β : Val} (hH : HeapRel Tryz.prog (fun _ => False) w β (shaH []) w) (hG : GlobRel globS β) (p v : Int) {a0 : Option Addr} {len0 cap0 : Nat} {X : Nat → BitVec 8} (h0 : ByteRow w a0 len0 cap0 X) (u : Int) {a1 : Option Addr} {len1 cap1 : Nat} {Y : Nat → BitVec 8} (h1 : ByteRow w a1 len1 cap1 Y) {a2 : Option Addr} {len2 cap2 : Nat} {Z : Nat → BitVec 8} (h2 : ByteRow w a2 len2 cap2 Z) (x : BitVec 8) :
    Calls Tryz.prog 7 #[.agg #[.int .i64 p, .int .i64 v, .slice a0 len0 cap0], .int .i64 u, .slice a1 len1 cap1, .slice a2 len2 cap2, .int .u8 x.toNat] w fun e w' => e = .returned (.bool true) ∧ Below w.heap.size w w' := by
  have hv0 : SV.denL β [kyV p v a0 len0 cap0, .int .i64 (.sym u), vSl a1 len1 cap1, vSl a2 len2 cap2, .int .u8 (.b8 x)] = some [.agg #[.int .i64 p, .int .i64 v, .slice a0 len0 cap0], .int .i64 u, .slice a1 len1 cap1, .slice a2 len2 cap2, .int .u8 x.toNat] := rfl
  have low : ∀ {cs ds}, outO [] (leT p v u a0 len0 cap0 a1 len1 cap1 a2 len2 cap2 x) ds = (cs, lsR) → (∀ q ∈ cs, q) → _ := fun {cs ds} hr hc => law_by cfgLeOK 8000 hH hG hv0 ds hr hc
  by_cases hb1 : 200 < len1
  · exact low (le_b1 p v u a0 len0 cap0 a1 len1 cap1 a2 len2 cap2 x) (all_cons (decide_eq_true (by omega)) all_nil)
  have e1 : decide ((len1 : Int) > 200) = false := decide_eq_false (by omega)
  by_cases hb2 : 200 < len2
  · exact low (le_b2 p v u a0 len0 cap0 a1 len1 cap1 a2 len2 cap2 x) (all_cons e1 (all_cons (decide_eq_true (by omega)) all_nil))
  have e2 : decide ((len2 : Int) > 200) = false := decide_eq_false (by omega)
  by_cases hbk : 40 < len0
  · exact low (le_b3 p v u a0 len0 cap0 a1 len1 cap1 a2 len2 cap2 x) (all_cons e1 (all_cons e2 (all_cons (decide_eq_true (by omega)) all_nil)))
  by_cases hval : usQ p v u len0
  case neg => exact low (le_no p v u a0 len0 cap0 a1 len1 cap1 a2 len2 cap2 x) (all_cons e1 (all_cons e2 (all_cons (decide_eq_false (by omega)) (all_cons hval (all_cons ⟨fun h => absurd h hval, fun h => by cases h⟩ (all_cons hval (all_cons hval (all_cons hval (all_cons hval all_nil)))))))))
  have hi : ∃ i : Nat, (i = 1 ∨ i = 2) ∧ p = i ∧ len0 = tagN i := by
    rcases hval.1.1 with ⟨hp, hn⟩ | ⟨hp, hn⟩
    · exact ⟨1, .inl rfl, hp, hn⟩
    · exact ⟨2, .inr rfl, hp, hn⟩
  obtain ⟨i, hi, rfl, rfl⟩ := hi
  have htag := tagN_c hi
  rcases h0 with ⟨_, h, _⟩ | ⟨x0, rfl, hs0, hl0, hm0, hc0⟩
  · omega
  obtain ⟨β1, hH1, hle1, hd0⟩ := start_row (P := Tryz.prog) hH hs0 hl0 hc0
  have hG1 : GlobRel globS β1 := hG.mono hle1
  let K : Sl := ⟨X, cap0, 0, tagN i, false, cap0⟩
  have hk : okL (K.len (tagN i)) := ⟨by show 0 + tagN i ≤ cap0; omega, by show tagN i ≤ _; omega⟩
  have hd0 : (SV.slice ⟨4, .lit 0⟩ (.sym (tagN i)) (.sym cap0)).den β1 = some (.slice (some x0) (tagN i) cap0) := hd0
  have hka : ∀ {γ : Val}, (SV.slice ⟨4, .lit 0⟩ (.sym (tagN i)) (.sym cap0)).den γ = some (.slice (some x0) (tagN i) cap0) → (SV.agg [.int .i64 (.lit i), .int .i64 (.sym v), (K.pl cap0).valN 4 (tagN i)]).den γ = some (.agg #[.int .i64 i, .int .i64 v, .slice (some x0) (tagN i) cap0]) := by
    intro γ h
    rw [SV.den]
    simp only [Option.map_eq_some_iff]
    exact ⟨_, denL_cons.2 ⟨_, _, rfl, denL_cons.2 ⟨_, _, rfl, denL_cons.2 ⟨_, _, h, rfl, rfl⟩, rfl⟩, rfl⟩, rfl⟩
  have hn : tagN i ≤ 32 := by omega
  let B : Sl := ⟨Y, cap1, 0, len1, false, cap1⟩
  let S : Sl := ⟨Z, cap2, 0, len2, false, cap2⟩
  have hB : len1 ≤ cap1 → okL B := fun h => ⟨by show 0 + len1 ≤ cap1; omega, by show len1 ≤ _; omega⟩
  have hS : len2 ≤ cap2 → okL S := fun h => ⟨by show 0 + len2 ≤ cap2; omega, by show len2 ≤ _; omega⟩
  have hB2 : B.n ≤ 200 := by show len1 ≤ 200; omega
  have hN : okL nilSl := ⟨Nat.le_refl _, Nat.zero_le _⟩
  have hN2 : nilSl.n ≤ 200 := Nat.zero_le _
  have iB : ∀ q ∈ [IsB (byteF B.X)], q := all_cons (byteF_isB _) all_nil
  have iS : ∀ q ∈ [IsB (byteF S.X)], q := all_cons (byteF_isB _) all_nil
  have args : ∀ {γ : Val} {sb ss : SV} {yb ys : Value}, (SV.slice ⟨4, .lit 0⟩ (.sym (tagN i)) (.sym cap0)).den γ = some (.slice (some x0) (tagN i) cap0) → sb.den γ = some yb → ss.den γ = some ys → SV.denL γ (lsA i (tagN i) v u (K.pl cap0) sb ss x) = some [.agg #[.int .i64 i, .int .i64 v, .slice (some x0) (tagN i) cap0], .int .i64 u, yb, ys, .int .u8 x.toNat] := fun h hb hs =>
    denL_cons.2 ⟨_, _, hka h, denL_cons.2 ⟨_, _, rfl, denL_cons.2 ⟨_, _, hb, denL_cons.2 ⟨_, _, hs, denL_cons.2 ⟨_, _, rfl, rfl, rfl⟩, rfl⟩, rfl⟩, rfl⟩, rfl⟩
  rcases h1 with ⟨rfl, rfl, rfl⟩ | ⟨x1, rfl, hs1, hl1, hm1, hc1⟩
  · rcases h2 with ⟨rfl, rfl, rfl⟩ | ⟨x2, rfl, hs2, hl2, hm2, hc2⟩
    · have ha := args (sb := .nilSlice) (ss := .nilSlice) hd0 rfl rfl
      have hc := fun (bo : List Prop) (h : ∀ q ∈ bo, q) => lsC_all (x := x) (b := nilSl) (s := nilSl) (bo := bo) (bi := []) (si := []) hn rfl hval hk hN hN hN2 h all_nil all_nil
      rcases hi with rfl | rfl
      · exact law_by (cfgLsOK (.inl rfl)) 8000 hH1 hG1 ha _ (ls1_00 shaF v u K x cap0) (hc _ all_nil)
      · exact law_by (cfgLsOK (.inr rfl)) 8000 hH1 hG1 ha _ (ls2_00 shaF v u K x cap0) (hc _ all_nil)
    · obtain ⟨β2, hH2, hle2, hd2⟩ := start_row (P := Tryz.prog) hH1 hs2 hl2 hc2
      have hd2 : ((S.pl cap2).val 5).den β2 = some (.slice (some x2) len2 cap2) := hd2
      have ha := args (sb := .nilSlice) (SV.den_mono hle2 _ hd0) rfl hd2
      have hc := fun (bo : List Prop) (h : ∀ q ∈ bo, q) => lsC_all (x := x) (b := nilSl) (s := S) (bo := bo) (bi := []) (si := [IsB (byteF S.X)]) hn rfl hval hk hN (hS hl2) hN2 h all_nil iS
      rcases hi with rfl | rfl
      · exact law_by (cfgLsOK (.inl rfl)) 8000 hH2 (hG1.mono hle2) ha _ (ls1_01 shaF v u K S x cap0 cap2) (hc _ (all_cons e2 all_nil))
      · exact law_by (cfgLsOK (.inr rfl)) 8000 hH2 (hG1.mono hle2) ha _ (ls2_01 shaF v u K S x cap0 cap2) (hc _ (all_cons e2 all_nil))
  · obtain ⟨β2, hH2, hle2, hd1⟩ := start_row (P := Tryz.prog) hH1 hs1 hl1 hc1
    have hd1 : ((B.pl cap1).val 5).den β2 = some (.slice (some x1) len1 cap1) := hd1
    have hG2 : GlobRel globS β2 := hG1.mono hle2
    rcases h2 with ⟨rfl, rfl, rfl⟩ | ⟨x2, rfl, hs2, hl2, hm2, hc2⟩
    · have ha := args (ss := .nilSlice) (SV.den_mono hle2 _ hd0) hd1 rfl
      have hc := fun (bo : List Prop) (h : ∀ q ∈ bo, q) => lsC_all (x := x) (b := B) (s := nilSl) (bo := bo) (bi := [IsB (byteF B.X)]) (si := []) hn rfl hval hk (hB hl1) hN hB2 h iB all_nil
      rcases hi with rfl | rfl
      · exact law_by (cfgLsOK (.inl rfl)) 8000 hH2 hG2 ha _ (ls1_10 shaF v u K B x cap0 cap1) (hc _ (all_cons e1 all_nil))
      · exact law_by (cfgLsOK (.inr rfl)) 8000 hH2 hG2 ha _ (ls2_10 shaF v u K B x cap0 cap1) (hc _ (all_cons e1 all_nil))
    · obtain ⟨β3, hH3, hle3, hd2⟩ := start_row (P := Tryz.prog) hH2 hs2 hl2 hc2
      have hd2 : ((S.pl cap2).val 6).den β3 = some (.slice (some x2) len2 cap2) := hd2
      have ha := args (SV.den_mono hle3 _ (SV.den_mono hle2 _ hd0)) (SV.den_mono hle3 _ hd1) hd2
      have hc := fun (bo : List Prop) (h : ∀ q ∈ bo, q) => lsC_all (x := x) (b := B) (s := S) (bo := bo) (bi := [IsB (byteF B.X)]) (si := [IsB (byteF S.X)]) hn rfl hval hk (hB hl1) (hS hl2) hB2 h iB iS
      rcases hi with rfl | rfl
      · exact law_by (cfgLsOK (.inl rfl)) 8000 hH3 (hG2.mono hle3) ha _ (ls1_11 shaF v u K B S x cap0 cap1 cap2) (hc _ (all_cons e1 (all_cons e2 all_nil)))
      · exact law_by (cfgLsOK (.inr rfl)) 8000 hH3 (hG2.mono hle3) ha _ (ls2_11 shaF v u K B S x cap0 cap1 cap2) (hc _ (all_cons e1 (all_cons e2 all_nil)))
end Go.Proofs.YtbmgahpjgefjaaaGreatDoor.Aes

