/-
  Texts behind one another: the symbolic simulator and what it is told of the program.
-/
import Derived.Test.YtflafdhmmcknhaaGreatDoorPzPro11
import Derived.Test.YtflafdhmmcknhaaGreatDoorPzPro12

/-
  The profiles: the summary of Seal, where the key's length and the profile are known.
-/
namespace Go.Proofs.YtflafdhmmcknhaaGreatDoor.Aes
open Go.Sim
open Go.Proofs
variable {α : Type}

set_option maxRecDepth 100000
noncomputable def seR (base : Nat) (p : Int) (v : SI) (n : Nat) (X : Nat → BitVec 8) : SumRes := ⟨seV base p v n, [], [.own (.fn (byteF X) n) false 5]⟩
noncomputable def seOK (v u : SI) (k c : Sl) (n cl : Nat) : Prop := (0 ≤ v.den ∧ v.den ≤ 65535) ∧ (1 ≤ u.den ∧ u.den ≤ 1023) ∧ k.o + n ≤ k.N ∧ c.o + cl ≤ c.N
noncomputable def seA (F : HashF) (E : CtsF) (H : List SO) (base : Nat) (v u : SI) (k : Sl) (kn n : Nat) (c : Sl) (cn : Nat) (tv : SV) : R SumRes :=
  boolC (Nat.beq n 16) (partL H tv fun t tn => boolC (distN [kn, cn, tn]) (.need (t.o + t.n ≤ t.N ∧ t.n ≤ 208) (.ok (seR base 1 v (16 + t.n + 16) (two (cphS F E k c t u.den) (tag1S F E k c t u.den))))) (.stuck 794)) (.stuck 794)
noncomputable def seB (F : HashF) (H : List SO) (base : Nat) (v u : SI) (k : Sl) (kn n : Nat) (c : Sl) (cn : Nat) (tv : SV) : R SumRes :=
  boolC (Nat.beq n 32) (partN H tv fun t tn tl => boolC (distN [kn, cn, tn]) (boolC (Nat.beq tl 5) (.need (t.o + 5 ≤ t.N) (.ok (seR base 2 v (16 + 5 + 32) (two (cph5 F k c t u.den) (tag5 F k c t u.den))))) (.stuck 795)) (.stuck 795)) (.stuck 795)
noncomputable def sealS (F : HashF) (E : CtsF) : Summ := fun args H base => args4 args fun kv uv cv tv => kv.asAgg (.stuck 796) fun l => args3 l fun p v s => optC (litI p) (.stuck 796) fun p => i64O v fun v => i64O uv fun u => shaTP H (partN H s fun k kn n => partN H cv fun c cn cl => .need (seOK v u k c n cl)
  (boolC (Nat.beq cl 16) (boolC (Nat.beq p 1) (seA F E H base v u k kn n c cn tv) (boolC (Nat.beq p 2) (seB F H base v u k kn n c cn tv) (.stuck 796))) (.stuck 796)))
theorem endsS {I : Ifc} {base j n : Nat} {p : Int} {v : SI} {X : Nat → BitVec 8} {H : List SO} (hj : I.known j = false) (ho : ownsOf I.ents 0 = []) (hE : H[j]? = some (.own (.fn (byteF X) n) false 5)) : I.Ends base [j] (seR base p v n X) (seV j p (.sym v.den) n) H := by
  have ho' : I.out base [j] j = base := by
    unfold Ifc.out
    rw [hj]
    show base + idxN j [j] = base
    rw [show idxN j [j] = boolC (Nat.beq j j) 0 _ from rfl, Nat.beq_refl]; rfl
  have hs : I.seen [j] j = true := by
    unfold Ifc.seen
    rw [hj]
    exact (memN_iff (n := j) (l := [j])).2 List.mem_cons_self
  refine ⟨?_, ?_, by rw [ho]; trivial, ⟨given_bytesP hE fun _ _ => rfl, trivial⟩⟩
  · show (SV.tuple [.agg [.int .i64 (.lit p), .int .i64 (.sym v.den), .slice ⟨I.out base [j] j, .lit 0⟩ (.sym n) (.rest (I.out base [j] j) 0)], .int .i64 (.lit 0)]).Imp _
    rw [ho']
    intro γ x hx
    simp only [SV.den, SV.denL, Option.map_eq_some_iff, Option.bind_eq_some_iff] at hx
    unfold seR seV joinV
    simp only [SV.den, SV.denL, Option.map_eq_some_iff, Option.bind_eq_some_iff]
    exact hx
  · show ((true && (true && ((I.seen [j] j && I.seen [j] j) && true))) && (true && true)) = true
    rw [hs]; rfl
theorem agg3_den {β : Val} {p v s s' : SV} {ys : List SV} {vs : List Value} (h : SV.denL β (.agg [p, v, s] :: ys) = some vs) (hs : ∀ x, s.den β = some x → s'.den β = some x) {p' v' : SV} (hp : p.Imp p') (hv : v.Imp v') : SV.denL β (.agg [p', v', s'] :: ys) = some vs := by
  obtain ⟨x, zs, hx, hzs, rfl⟩ := denL_cons.1 h
  refine denL_cons.2 ⟨_, _, ?_, hzs, rfl⟩
  simp only [SV.den, SV.denL, Option.map_eq_some_iff, Option.bind_eq_some_iff] at hx ⊢
  obtain ⟨us, ⟨u1, hu1, us1, ⟨u2, hu2, us2, ⟨u3, hu3, us3, hus3, rfl⟩, rfl⟩, rfl⟩, rfl⟩ := hx
  exact ⟨_, ⟨u1, hp _ _ hu1, _, ⟨u2, hv _ _ hu2, _, ⟨u3, hs _ hu3, us3, hus3, rfl⟩, rfl⟩, rfl⟩, rfl⟩
theorem agg3_at {β : Val} {p v s : SV} {ys : List SV} {vs : List Value} (h : SV.denL β (.agg [p, v, s] :: ys) = some vs) : (∃ x, s.den β = some x) ∧ ∃ zs, SV.denL β ys = some zs := by
  obtain ⟨x, zs, hx, hzs, rfl⟩ := denL_cons.1 h
  simp only [SV.den, SV.denL, Option.map_eq_some_iff, Option.bind_eq_some_iff] at hx
  obtain ⟨us, ⟨u1, hu1, us1, ⟨u2, hu2, us2, ⟨u3, hu3, us3, hus3, rfl⟩, rfl⟩, rfl⟩, rfl⟩ := hx
  exact ⟨⟨_, hu3⟩, _, hzs⟩
theorem sealOK : SumAt Tryz.prog globP 14 (sealS shaF encF) := by
  intro O w0 β H w base args vs hH hG ha
  refine args4_sat fun kv uv cv tv hv => ?_
  rcases asAgg_cases kv with ⟨l, rfl⟩ | hno
  case inr => rw [hno]; trivial
  refine args3_sat fun p v s hl => optC_only fun p0 hp => i64O_sat fun v' hv' => i64O_sat fun u hu => shaTP_sat fun hT => partN_sat fun k kn n hn1 ht1 hi1 hkn => partN_sat fun c cn cl hn2 ht2 hi2 hcl => fun ⟨⟨hv1, hv2⟩, ⟨hu1, hu2⟩, hk, hc⟩ => boolC_only fun h16 => ?_
  have h16 := beq_spec h16
  subst hl hv' hu h16
  rw [hv, litI_spec hp] at ha
  obtain ⟨⟨xs, hxs⟩, zs, hzs⟩ := agg3_at ha
  obtain ⟨m, hks⟩ := Sl.valN_den (hi1 _ _ hxs)
  obtain ⟨xu, zs1, hxu, hzs1, rfl⟩ := denL_cons.1 hzs
  obtain ⟨xc, zs2, hxc, hzs2, rfl⟩ := denL_cons.1 hzs1
  obtain ⟨xt, zs3, hxt, hzs3, rfl⟩ := denL_cons.1 hzs2
  obtain ⟨m2, hcs⟩ := Sl.valN_den (hi2 _ _ hxc)
  -- the arguments, in small names
  have harg : ∀ (p : Int) (n0 : Nat) (tv' : SV), p0 = p → n = n0 → tv'.den β = some xt → SV.denL β [.agg [.int .i64 (.lit p), .int .i64 (.sym v'.den), (k.pl m).valN kn n0], .int .i64 (.sym u.den), (c.pl m2).valN cn 16, tv'] = some vs := by
    intro p n0 tv' hpp hnn htv
    subst hpp hnn
    have h1 := agg3_den (s' := (k.pl m).valN kn n) (p' := .int .i64 (.lit (.ofNat p0))) (v' := .int .i64 (.sym v'.den)) ha (fun x hx => by rw [hxs] at hx; cases hx; exact hks) (.refl _) (int_imp0 rfl)
    obtain ⟨xa, ws, hxa, hws, rfl⟩ := denL_cons.1 h1
    refine denL_cons.2 ⟨_, _, hxa, ?_, rfl⟩
    rw [hzs] at hws
    cases hws
    exact denL_cons.2 ⟨_, _, int_imp0 rfl _ _ hxu, denL_cons.2 ⟨_, _, hcs, denL_cons.2 ⟨_, _, htv, hzs3, rfl⟩, rfl⟩, rfl⟩
  have hdk : ∀ (n : Nat) (x : BitVec 8), n ≤ 32 → okK (dkS shaF k n u.den x) := fun n x hn => ⟨by show 0 + n ≤ n; omega, by show n ≤ 4096; omega⟩
  have hc16 : okL (c.len 16) := ⟨hc, by show 16 ≤ _; omega⟩
  refine boolC_sat (fun hp1 => boolC_only fun hn16 => partL_sat fun t tn hn3 ht3 hi3 => boolC_only fun hd => fun ⟨h1, h2⟩ => ?_) fun _ => boolC_only fun hp2 => boolC_only fun hn32 => partN_sat fun t tn tl hn3 ht3 hi3 htl => boolC_only fun hd => boolC_only fun h5 => fun h1 => ?_
  · have hp1 := beq_spec hp1
    have hn16 := beq_spec hn16
    subst hn16
    obtain ⟨m3, _, hts⟩ := Sl.val_den (hi3 _ _ hxt)
    refine sum_outOG cfgSeOK 8000 hH (shaIP [kn, cn, tn] [k.row, c.row, t.row] [.agg [.int .i64 (.lit 1), .int .i64 (.sym v'.den), (k.pl m).valN 4 16], .int .i64 (.sym u.den), (c.pl m2).valN 5 16, (t.pl m3).val 6]) (shaIP_glob hG) ?_ (Ifc.fits (nd4 hd (by simp only [List.mem_cons, List.not_mem_nil, or_false]; rintro x (rfl | rfl | rfl) <;> assumption)) ?_ (shaIP_ents hT ⟨⟨ht1 _, k.row_uses _⟩, ⟨ht2 _, c.row_uses _⟩, ⟨ht3 _, t.row_uses _⟩, trivial⟩)) [20] (by simp [shaIP]) (by simp) (se_run1 shaF encF v'.den u.den k c t m m2 m3) ?_ fun H2 hH2 => endsS rfl rfl (List.cons.inj hH2).1
    · show SV.denL β [.agg [.int .i64 (.lit 1), .int .i64 (.sym v'.den), ((k.pl m).valN 4 16).ren _], .int .i64 (.sym u.den), ((c.pl m2).valN 5 16).ren _, ((t.pl m3).val 6).ren _] = _
      rw [Sl.valN_ren, Sl.valN_ren, Sl.val_ren]
      exact harg 1 16 _ (by rw [hp1]; rfl) rfl hts
    · rfl
    · have hcp : okL (cphS shaF encF k c t u.den) := ⟨by show 0 + (16 + t.n) ≤ 16 + t.n; omega, by show 16 + t.n ≤ _; omega⟩
      exact all_cons (decide_eq_true hv1) (all_cons (decide_eq_true hv2) (all_cons (decide_eq_true hu1) (all_cons (decide_eq_true hu2) (all_cons (decide_eq_false (by omega)) (all_cons (byteF_isB _) (all_cons hk (all_cons (byteF_isB _) (all_cons (byteF_isB _) (all_cons ⟨⟨hc16, by omega⟩, h1, by omega⟩ (all_cons (by omega) (all_cons (by omega) (all_cons (decide_eq_false (by omega)) (all_cons (decide_eq_true (by omega)) (all_cons (byteF_isB _) (all_cons ⟨by omega, by omega⟩ (all_cons (byteF_isB _) (all_cons hk (all_cons (byteF_isB _) (all_cons ⟨hdk 16 _ (by omega), hcp⟩ (all_cons (byteF_isB _) (all_cons ⟨⟨hcp, by show 16 + t.n ≠ 0; omega⟩, by show 0 + 16 ≤ 32; omega, by show 16 ≤ _; omega⟩ all_nil)))))))))))))))))))))
  · have hp2 := beq_spec hp2
    have hn32 := beq_spec hn32
    have h5 := beq_spec h5
    subst hn32 h5
    obtain ⟨m3, hts⟩ := Sl.valN_den (hi3 _ _ hxt)
    refine sum_outOG cfgSeOK 8000 hH (shaIP [kn, cn, tn] [k.row, c.row, t.row] [.agg [.int .i64 (.lit 2), .int .i64 (.sym v'.den), (k.pl m).valN 4 32], .int .i64 (.sym u.den), (c.pl m2).valN 5 16, (t.pl m3).valN 6 5]) (shaIP_glob hG) ?_ (Ifc.fits (nd4 hd (by simp only [List.mem_cons, List.not_mem_nil, or_false]; rintro x (rfl | rfl | rfl) <;> assumption)) ?_ (shaIP_ents hT ⟨⟨ht1 _, k.row_uses _⟩, ⟨ht2 _, c.row_uses _⟩, ⟨ht3 _, t.row_uses _⟩, trivial⟩)) [19] (by simp [shaIP]) (by simp) (se_run5 shaF encF v'.den u.den k c t m m2 m3) ?_ fun H2 hH2 => endsS rfl rfl (List.cons.inj hH2).1
    · show SV.denL β [.agg [.int .i64 (.lit 2), .int .i64 (.sym v'.den), ((k.pl m).valN 4 32).ren _], .int .i64 (.sym u.den), ((c.pl m2).valN 5 16).ren _, ((t.pl m3).valN 6 5).ren _] = _
      rw [Sl.valN_ren, Sl.valN_ren, Sl.valN_ren]
      exact harg 2 32 _ (by rw [hp2]; rfl) rfl hts
    · rfl
    · have hcp : okL (cph5 shaF k c t u.den) := ⟨by show 0 + (16 + 5) ≤ 16 + 5; omega, by show 16 + 5 ≤ _; omega⟩
      have ht5 : okL (t.len 5) := ⟨h1, by show 5 ≤ _; omega⟩
      exact all_cons (decide_eq_true hv1) (all_cons (decide_eq_true hv2) (all_cons (decide_eq_true hu1) (all_cons (decide_eq_true hu2) (all_cons (byteF_isB _) (all_cons hk (all_cons (byteF_isB _) (all_cons (byteF_isB _) (all_cons ⟨hdk 32 _ (by omega), hc16, ht5⟩ (all_cons (byteF_isB _) (all_cons ⟨⟨hc16, by omega⟩, by show 0 + 5 ≤ 5; omega, by show 5 ≤ _; omega⟩ (all_cons (byteF_isB _) (all_cons hk (all_cons (byteF_isB _) (all_cons ⟨hdk 32 _ (by omega), hcp⟩ (all_cons (byteF_isB _) (all_cons ⟨⟨hcp, by show 16 + 5 ≠ 0; omega⟩, by show 0 + 32 ≤ 32; omega, by show 32 ≤ _; omega⟩ all_nil))))))))))))))))
end Go.Proofs.YtflafdhmmcknhaaGreatDoor.Aes


/-
  The profiles: usable, where it is told whether the key and the usage are valid; Valid.
-/
namespace Go.Proofs.YtflafdhmmcknhaaGreatDoor.Aes
open Go.Sim
open Go.Proofs
variable {α : Type}

set_option maxRecDepth 100000
/- Leaves of what the looks come to. -/
theorem isI_leaf {x : SI} {n : Int} {t f : R α} {a : α} (h : x.den = n → t.Leaf a) (h' : x.den ≠ n → f.Leaf a) : (isI x n t f).Leaf a := by
  unfold isI
  by_cases hx : x.den = n
  · cases x with
    | lit m =>
      have hx : m = n := hx
      show (boolC (eqI m n) t f).Leaf a
      rw [show eqI m n = true by rw [eqI_eq]; simpa using hx]
      exact h hx
    | sym m => exact .inl ⟨by simpa using hx, h hx⟩
    | b8 m => exact .inl ⟨by simpa using hx, h hx⟩
    | b32 m => exact .inl ⟨by simpa using hx, h hx⟩
    | b64 m => exact .inl ⟨by simpa using hx, h hx⟩
  · cases x with
    | lit m =>
      have hx : m ≠ n := hx
      show (boolC (eqI m n) t f).Leaf a
      rw [show eqI m n = false by rw [eqI_eq]; simpa using hx]
      exact h' hx
    | sym m => exact .inr ⟨by simpa using hx, h' hx⟩
    | b8 m => exact .inr ⟨by simpa using hx, h' hx⟩
    | b32 m => exact .inr ⟨by simpa using hx, h' hx⟩
    | b64 m => exact .inr ⟨by simpa using hx, h' hx⟩
theorem leI_leaf {x : SI} {n : Int} {t f : R α} {a : α} (h : n ≤ x.den → t.Leaf a) (h' : ¬ n ≤ x.den → f.Leaf a) : (leI n x t f).Leaf a := by
  unfold leI
  by_cases hx : n ≤ x.den
  · cases x with
    | lit m =>
      show (boolC (decide (n ≤ m)) t f).Leaf a
      rw [decide_eq_true (show n ≤ m from hx)]
      exact h hx
    | sym m => exact .inl ⟨decide_eq_true hx, h hx⟩
    | b8 m => exact .inl ⟨decide_eq_true hx, h hx⟩
    | b32 m => exact .inl ⟨decide_eq_true hx, h hx⟩
    | b64 m => exact .inl ⟨decide_eq_true hx, h hx⟩
  · cases x with
    | lit m =>
      show (boolC (decide (n ≤ m)) t f).Leaf a
      rw [decide_eq_false (show ¬ n ≤ m from hx)]
      exact h' hx
    | sym m => exact .inr ⟨decide_eq_false hx, h' hx⟩
    | b8 m => exact .inr ⟨decide_eq_false hx, h' hx⟩
    | b32 m => exact .inr ⟨decide_eq_false hx, h' hx⟩
    | b64 m => exact .inr ⟨decide_eq_false hx, h' hx⟩
theorem isLe_leaf {x : SI} {n : Int} {t f : R SumRes} {a : SumRes} (h : x.den ≤ n → t.Leaf a) (h' : ¬ x.den ≤ n → f.Leaf a) : (fdOne.isLe x n t f).Leaf a := by
  unfold fdOne.isLe
  by_cases hx : x.den ≤ n
  · cases x with
    | lit m =>
      show (boolC (decide (m ≤ n)) t f).Leaf a
      rw [decide_eq_true (show m ≤ n from hx)]
      exact h hx
    | sym m => exact .inl ⟨decide_eq_true hx, h hx⟩
    | b8 m => exact .inl ⟨decide_eq_true hx, h hx⟩
    | b32 m => exact .inl ⟨decide_eq_true hx, h hx⟩
    | b64 m => exact .inl ⟨decide_eq_true hx, h hx⟩
  · cases x with
    | lit m =>
      show (boolC (decide (m ≤ n)) t f).Leaf a
      rw [decide_eq_false (show ¬ m ≤ n from hx)]
      exact h' hx
    | sym m => exact .inr ⟨decide_eq_false hx, h' hx⟩
    | b8 m => exact .inr ⟨decide_eq_false hx, h' hx⟩
    | b32 m => exact .inr ⟨decide_eq_false hx, h' hx⟩
    | b64 m => exact .inr ⟨decide_eq_false hx, h' hx⟩
theorem lenIs_leaf {l : SN} {n : Nat} {t f : R α} {a : α} (h : l.den = n → t.Leaf a) (h' : l.den ≠ n → f.Leaf a) : (lenIs l n t f).Leaf a := by
  unfold lenIs
  by_cases hx : l.den = n
  · cases l with
    | lit m =>
      have hx : m = n := hx
      show (boolC (Nat.beq m n) t f).Leaf a
      subst hx
      rw [Nat.beq_refl]
      exact h rfl
    | sym m => exact .inl ⟨decide_eq_true hx, h hx⟩
    | byt o x => exact .inl ⟨decide_eq_true hx, h hx⟩
  · cases l with
    | lit m =>
      have hx : m ≠ n := hx
      show (boolC (Nat.beq m n) t f).Leaf a
      rw [show Nat.beq m n = false from Bool.eq_false_iff.2 fun e => hx (beq_spec e)]
      exact h' hx
    | sym m => exact .inr ⟨decide_eq_false hx, h' hx⟩
    | byt o x => exact .inr ⟨decide_eq_false hx, h' hx⟩
/-- the key is valid -/
def validK (p v : Int) (l : Nat) : Prop := ((p = 1 ∧ l = 16) ∨ (p = 2 ∧ l = 32)) ∧ 0 ≤ v ∧ v ≤ 65535
noncomputable def usQ (p v u : Int) (l : Nat) : Prop := validK p v l ∧ 1 ≤ u ∧ u ≤ 1023
noncomputable def keyQ (H : List SO) (kv : SV) (f : SI → SI → Nat → R α) : R α := kv.asAgg (.stuck 798) fun l => args3 l fun p v s => i64O p fun p => i64O v fun v => sliceR s (f p v 0) fun a l => boolC (placedE (nth H a.nm)) (f p v l.den) (.stuck 798)
/- find, where it is told which profile and whether the key is valid. -/
noncomputable def kdOf (p : Int) : Nat := if p = 1 then 1 else if p = 2 then 2 else 0
noncomputable def kvI (i : Nat) : SV := boolC (Nat.beq i 1) kv1 (boolC (Nat.beq i 2) kv2 kv0)
noncomputable def fdGS (i : Nat) (b : Bool) : Summ := fun args H _ => args1 args fun kv => keyQ H kv fun p v l => .need (kdOf p.den = i ∧ (validK p.den v.den l ↔ b = true)) (fdR (kvI i) b)
theorem fdGOK {i : Nat} {b : Bool} : SumOK Tryz.prog 24 (fdGS i b) := by
  intro glob O w0 β H w base args vs hH hG ha
  have hS := findOK glob O w0 β H w base args vs hH hG ha
  refine args1_sat fun kv hv => ?_
  subst hv
  rcases asAgg_cases kv with ⟨l, rfl⟩ | hno
  case inr => unfold keyQ; rw [hno]; trivial
  refine args3_sat fun p v s hl => i64O_sat fun p' hp => i64O_sat fun v' hv' => ?_
  subst hl hp hv'
  have fin : ∀ {q : Prop} {c : Bool}, (q ↔ b = true) → (q ↔ c = true) → b = c := by
    intro q c h h'
    cases b <;> cases c <;> simp_all
  refine sliceR_sat (fun hn => fun ⟨hk, hval⟩ => ?_) fun a len c hs => boolC_only fun hpl => fun ⟨hk, hval⟩ => ?_
  · subst hn
    refine (show SumSem Tryz.prog H β w base 24 vs ⟨.tuple [kvI i, .bool (.lit b)], [], []⟩ from R.sat_leaf hS ?_)
    have hb : b = false := fin hval (by unfold validK; simp)
    subst hb hk
    show (isI p' 1 (fdR kv1 false) (isI p' 2 (fdR kv2 false) (fdR kv0 false))).Leaf _
    unfold kdOf
    refine isI_leaf (fun hp => ?_) fun hp => isI_leaf (fun hp2 => ?_) fun hp2 => ?_
    · rw [if_pos hp]; rfl
    · rw [if_neg hp, if_pos hp2]; rfl
    · rw [if_neg hp, if_neg hp2]; rfl
  · subst hs
    refine (show SumSem Tryz.prog H β w base 24 vs ⟨.tuple [kvI i, .bool (.lit b)], [], []⟩ from R.sat_leaf hS ?_)
    show (boolC (placedE (nth H a.nm)) (isI p' 1 (fdOne kv1 16 len v') (isI p' 2 (fdOne kv2 32 len v') (fdR kv0 false))) (.stuck 783)).Leaf _
    rw [hpl, boolC_true]
    subst hk
    have one : ∀ (k : SV) (n : Nat), ((len.den = n ∧ 0 ≤ v'.den ∧ v'.den ≤ 65535) ↔ b = true) → (fdOne k n len v').Leaf ⟨.tuple [k, .bool (.lit b)], [], []⟩ := fun k n h => by
      have no : ¬ (len.den = n ∧ 0 ≤ v'.den ∧ v'.den ≤ 65535) → (fdR k false).Leaf ⟨.tuple [k, .bool (.lit b)], [], []⟩ := fun g => by
        rw [fin h (c := false) (by simpa using g)]; rfl
      refine lenIs_leaf (fun h1 => leI_leaf (fun h2 => isLe_leaf (fun h3 => ?_) fun g => no fun h => g h.2.2) fun g => no fun h => g h.2.1) fun g => no fun h => g h.1
      rw [h.1 ⟨h1, h2, h3⟩]; rfl
    unfold kdOf
    refine isI_leaf (fun hp => ?_) fun hp => isI_leaf (fun hp2 => ?_) fun hp2 => ?_
    · rw [if_pos hp]
      refine one kv1 16 ?_
      rw [← hval]; unfold validK; rw [hp]; simp
    · rw [if_neg hp, if_pos hp2]
      refine one kv2 32 ?_
      rw [← hval]; unfold validK; rw [hp2]; simp
    · rw [if_neg hp, if_neg hp2, fin hval (c := false) (by unfold validK; simp [hp, hp2])]; rfl
/- Valid. -/
noncomputable def cfgVa (i : Nat) (b : Bool) : Cfg := cfgOf (sumsOf [(24, fdGS i b)])
theorem cfgVaOK {i : Nat} {b : Bool} : CfgOK (cfgVa i b) := sumsOf_ok (all1 fdGOK)
noncomputable def vaT (i : Nat) (b : Bool) (p v : Int) (o l m : Nat) : Tree := callSim (cfgVa i b) 400 8 [fdK p v (.slice ⟨0, .sym o⟩ (.sym l) (.sym m))] [.row (.lst [])]
noncomputable def vaN (i : Nat) (b : Bool) (p v : Int) : Tree := callSim (cfgVa i b) 400 8 [fdK p v .nilSlice] []
section
variable (b : Bool) (p v : Int) (o l m : Nat)
theorem va_run0 : outO [] (vaT 0 b p v o l m) [] = ([kdOf p = 0 ∧ (validK p v l ↔ b = true)], some (.bool (.lit b), [])) := by kernel_rfl
theorem va_run1 : outO [] (vaT 1 b p v o l m) [] = ([kdOf p = 1 ∧ (validK p v l ↔ b = true)], some (.bool (.lit b), [])) := by kernel_rfl
theorem va_run2 : outO [] (vaT 2 b p v o l m) [] = ([kdOf p = 2 ∧ (validK p v l ↔ b = true)], some (.bool (.lit b), [])) := by kernel_rfl
theorem va_nil0 : outO [] (vaN 0 b p v) [] = ([kdOf p = 0 ∧ (validK p v 0 ↔ b = true)], some (.bool (.lit b), [])) := by kernel_rfl
theorem va_nil1 : outO [] (vaN 1 b p v) [] = ([kdOf p = 1 ∧ (validK p v 0 ↔ b = true)], some (.bool (.lit b), [])) := by kernel_rfl
theorem va_nil2 : outO [] (vaN 2 b p v) [] = ([kdOf p = 2 ∧ (validK p v 0 ↔ b = true)], some (.bool (.lit b), [])) := by kernel_rfl
end
theorem kdOf_cases (p : Int) : kdOf p = 0 ∨ kdOf p = 1 ∨ kdOf p = 2 := by
  unfold kdOf
  split
  · exact .inr (.inl rfl)
  · split
    · exact .inr (.inr rfl)
    · exact .inl rfl
noncomputable def vaS (b : Bool) : Summ := fun args H _ => args1 args fun kv => keyQ H kv fun p v l => .need (validK p.den v.den l ↔ b = true) (.ok ⟨.bool (.lit b), [], []⟩)
theorem vaOK {b : Bool} : SumOK Tryz.prog 8 (vaS b) := by
  intro glob O w0 β H w base args vs hH hG ha
  refine args1_sat fun kv hv => ?_
  subst hv
  rcases asAgg_cases kv with ⟨l, rfl⟩ | hno
  case inr => unfold keyQ; rw [hno]; trivial
  refine args3_sat fun p v s hl => i64O_sat fun p' hp => i64O_sat fun v' hv' => ?_
  subst hl hp hv'
  refine sliceR_sat (fun hn => fun hval => ?_) fun a len c hs => boolC_only fun hpl => fun hval => ?_
  · subst hn
    have key : ∀ {i cs}, outO [] (vaN i b p'.den v'.den) [] = (cs, some (.bool (.lit b), [])) → (∀ q ∈ cs, q) → SumSem Tryz.prog H β w base 8 vs ⟨.bool (.lit b), [], []⟩ := by
      intro i cs hr hc
      exact sum_outO cfgVaOK rfl 400 hH ⟨[], [], [fdK p'.den v'.den .nilSlice]⟩ (agg3_den ha (fun x h => h) (int_imp0 rfl) (int_imp0 rfl)) (fits0 rfl) [] (by simp) (by simp) hr hc fun _ _ => ends0 rfl rfl rfl
    rcases kdOf_cases p'.den with h | h | h
    · exact key (va_nil0 b p'.den v'.den) (all_cons ⟨h, hval⟩ all_nil)
    · exact key (va_nil1 b p'.den v'.den) (all_cons ⟨h, hval⟩ all_nil)
    · exact key (va_nil2 b p'.den v'.den) (all_cons ⟨h, hval⟩ all_nil)
  · subst hs
    obtain ⟨⟨xs, hxs⟩, _⟩ := agg3_at ha
    obtain ⟨m, hlm, hd, _, _⟩ := slice_den hxs
    have key : ∀ {i cs}, outO [] (vaT i b p'.den v'.den a.off.den len.den m) [] = (cs, some (.bool (.lit b), [])) → (∀ q ∈ cs, q) → SumSem Tryz.prog H β w base 8 vs ⟨.bool (.lit b), [], []⟩ := by
      intro i cs hr hc
      refine sum_outO cfgVaOK rfl 400 hH ⟨[a.nm], [.row (.lst [])], [fdK p'.den v'.den (.slice ⟨0, .sym a.off.den⟩ (.sym len.den) (.sym m))]⟩ (agg3_den ha (fun x h => by rw [hxs] at h; cases h; exact hd) (int_imp0 rfl) (int_imp0 rfl)) (Ifc.fits (by simp) rfl ⟨⟨?_, rfl⟩, trivial⟩) [] (by simp) (by simp) hr hc fun _ _ => ends0 rfl rfl rfl
      rw [nth_eq] at hpl
      exact placed_any hpl
    rcases kdOf_cases p'.den with h | h | h
    · exact key (va_run0 b p'.den v'.den a.off.den len.den m) (all_cons ⟨h, hval⟩ all_nil)
    · exact key (va_run1 b p'.den v'.den a.off.den len.den m) (all_cons ⟨h, hval⟩ all_nil)
    · exact key (va_run2 b p'.den v'.den a.off.den len.den m) (all_cons ⟨h, hval⟩ all_nil)
end Go.Proofs.YtflafdhmmcknhaaGreatDoor.Aes


/-
  The profiles: the key stream, for texts of any length: the loops.
-/
namespace Go.Proofs.YtflafdhmmcknhaaGreatDoor.Aes
open Go.Sim
open Go.Proofs
variable {α : Type}

set_option maxRecDepth 1000000
structure SgA where
  i : Int
  L : Int
  j : Nat
  G : Nat → BitVec 8
  S : Nat → BitVec 8
noncomputable def sgK (F : HashF) (k c : Sl) (v : Int) : Nat → BitVec 8 := byteAt (macB F k.F k.n (two c (slL (num4 v))) (c.n + 4))
section
variable (F : HashF) (k c t : Sl) (m m2 m3 : Nat) (A : SgA) (J : Junk) (z : Nat → Nat → Nat)
end
end Go.Proofs.YtflafdhmmcknhaaGreatDoor.Aes


/-
  The profiles: the key stream, for texts of any length: the summary.
-/
namespace Go.Proofs.YtflafdhmmcknhaaGreatDoor.Aes
open Go.Sim
open Go.Proofs
variable {α : Type}

set_option maxRecDepth 1000000
/-- a byte of the stream, by its place -/
noncomputable def strG (F : HashF) (k c t : Sl) : Nat → BitVec 8 := fun p => t.X (t.o + p) ^^^ sgK F k c (((p / 32 : Nat) : Int) + 1) (p % 32)
structure SgQ (F : HashF) (k c t : Sl) (A : SgA) (q : Nat) : Prop where
  i : A.i = 32 * (q : Int)
  lt : 32 * q < t.n
  L : A.L = ((min 32 (t.n - 32 * q) : Nat) : Int)
  j : A.j ≤ min 32 (t.n - 32 * q)
  S : A.S = sgK F k c ((q : Int) + 1)
  G : ∀ p, p < t.n → A.G p = if p < 32 * q + A.j then strG F k c t p else joinG t p
noncomputable def sgD (F : HashF) (k c t : Sl) (v : SV) (H : List SO) : Prop := v = joinV 7 t.n ∧ ∃ G, (∀ p, p < t.n → G p = strG F k c t p) ∧ H[7]? = some (.own (.fn (byteF G) t.n) false 5)
end Go.Proofs.YtflafdhmmcknhaaGreatDoor.Aes


/-
  The profiles: Seal, where it is told that the key and the usage are valid: its runs.
-/
namespace Go.Proofs.YtflafdhmmcknhaaGreatDoor.Aes
open Go.Sim
open Go.Proofs
variable {α : Type}

set_option maxRecDepth 1000000
noncomputable def nilSl : Sl := ⟨fun _ => 0#8, 0, 0, 0, false, 0⟩
section
variable (F : HashF) (E D : CtsF) (v u : Int) (k c t : Sl) (m m2 m3 : Nat)
end
end Go.Proofs.YtflafdhmmcknhaaGreatDoor.Aes


/-
  The profiles: Seal, where it is told that the key and the usage are valid: its summary.
-/
namespace Go.Proofs.YtflafdhmmcknhaaGreatDoor.Aes
open Go.Sim
open Go.Proofs
variable {α : Type}

set_option maxRecDepth 100000
/- Plain facts: what is behind the end of a string does not matter. -/
theorem macB_congr {K : Nat → BitVec 8} {n : Nat} {M M' : Nat → BitVec 8} {m : Nat} (h : ∀ i, i < m → M i = M' i) : macB shaF K n M m = macB shaF K n M' m := by
  unfold macB
  rw [shaF_congr (X := catF (xorP shaF K n 0x36#8) 64 M) (Y := catF (xorP shaF K n 0x36#8) 64 M') fun i hi => ?_]
  unfold catF
  by_cases c : i < 64
  · rw [if_pos c, if_pos c]
  · rw [if_neg c, if_neg c]; exact h _ (by omega)
end Go.Proofs.YtflafdhmmcknhaaGreatDoor.Aes

