/-
  Texts behind one another: the symbolic simulator and what it is told of the program.
-/
import Derived.Test.YtbmgahpjgefjaaaDoorZPro11
import Derived.Test.YtbmgahpjgefjaaaDoorZPro12

/-
  The profiles: the summary of Seal, where the key's length and the profile are known.
-/
namespace Go.Proofs.YtbmgahpjgefjaaaDoor.Aes
open Go.Sim
open Go.Proofs
variable {α : Type}

set_option maxRecDepth 100000
noncomputable def seR (base : Nat) (p : Int) (v : SI) (n : Nat) (X : Nat → BitVec 8) : SumRes := ⟨seV base p v n, [], [.own (.fn (byteF X) n) false 5]⟩
noncomputable def seOK (v u : SI) (k c : Sl) (n cl : Nat) : Prop := (0 ≤ v.den ∧ v.den ≤ 65535) ∧ (1 ≤ u.den ∧ u.den ≤ 1023) ∧ k.o + n ≤ k.N ∧ c.o + cl ≤ c.N
noncomputable def seA (F : HashF) (E : CtsF) (H : List SO) (base : Nat) (v u : SI) (k : Sl) (kn n : Nat) (c : Sl) (cn : Nat) (tv : SV) : R SumRes :=
  boolC (Nat.beq n 16) (partL H tv fun t tn => boolC (distN [kn, cn, tn]) (.need (t.o + t.n ≤ t.N ∧ t.n ≤ 208) (.ok (seR base 1 v (16 + t.n + 16) (two (cphS F E k c t u.den) (tag1S F E k c t u.den))))) (.stuck 794)) (.stuck 794)
noncomputable def seB (F : HashF) (H : List SO) (base : Nat) (v u : SI) (k : Sl) (kn n : Nat) (c : Sl) (cn : Nat) (tv : SV) : R SumRes :=
  boolC (Nat.beq n 32) (partN H tv fun t tn tl => boolC (distN [kn, cn, tn]) (boolC (Nat.beq tl 5) (.need (t.o + 5 ≤ t.N) (.ok (seR base 2 v (16 + 5 + 32) (two (cph5 F k c t u.den) (tag5 F k c t u.den))))) (.stuck 795)) (.stuck 795)) (.stuck 795)
noncomputable def sealS (F : HashF) (E : CtsF) : Summ := fun args H base => args4 args fun kv uv cv tv => kv.asAgg (.stuck 796) fun l => args3 l fun p v s => optC (litI p) (.stuck 796) fun p => i64O v fun v => i64O uv fun u => shaTP H (partN H s fun k kn n => partN H cv fun c cn cl => .need (seOK v u k c n cl)
  (boolC (Nat.beq cl 16) (boolC (Nat.beq p 1) (seA F E H base v u k kn n c cn tv) (boolC (Nat.beq p 2) (seB F H base v u k kn n c cn tv) (.stuck 796))) (.stuck 796)))
theorem endsS {I : Ifc} {base j n : Nat} {p : Int} {v : SI} {X : Nat → BitVec 8} {H : List SO} (hj : I.known j = false) (ho : ownsOf I.ents 0 = []) (hE : H[j]? = some (.own (.fn (byteF X) n) false 5)) : I.Ends base [j] (seR base p v n X) (seV j p (.sym v.den) n) H := by
  have ho' : I.out base [j] j = base := by
    unfold Ifc.out
    rw [hj]
    show base + idxN j [j] = base
    rw [show idxN j [j] = boolC (Nat.beq j j) 0 _ from rfl, Nat.beq_refl]; rfl
  have hs : I.seen [j] j = true := by
    unfold Ifc.seen
    rw [hj]
    exact (memN_iff (n := j) (l := [j])).2 List.mem_cons_self
  refine ⟨?_, ?_, by rw [ho]; trivial, ⟨given_bytesP hE fun _ _ => rfl, trivial⟩⟩
  · show (SV.tuple [.agg [.int .i64 (.lit p), .int .i64 (.sym v.den), .slice ⟨I.out base [j] j, .lit 0⟩ (.sym n) (.rest (I.out base [j] j) 0)], .int .i64 (.lit 0)]).Imp _
    rw [ho']
    intro γ x hx
    simp only [SV.den, SV.denL, Option.map_eq_some_iff, Option.bind_eq_some_iff] at hx
    unfold seR seV joinV
    simp only [SV.den, SV.denL, Option.map_eq_some_iff, Option.bind_eq_some_iff]
    exact hx
  · show ((true && (true && ((I.seen [j] j && I.seen [j] j) && true))) && (true && true)) = true
    rw [hs]; rfl
theorem agg3_den {β : Val} {p v s s' : SV} {ys : List SV} {vs : List Value} (h : SV.denL β (.agg [p, v, s] :: ys) = some vs) (hs : ∀ x, s.den β = some x → s'.den β = some x) {p' v' : SV} (hp : p.Imp p') (hv : v.Imp v') : SV.denL β (.agg [p', v', s'] :: ys) = some vs := by
  obtain ⟨x, zs, hx, hzs, rfl⟩ := denL_cons.1 h
  refine denL_cons.2 ⟨_, _, ?_, hzs, rfl⟩
  simp only [SV.den, SV.denL, Option.map_eq_some_iff, Option.bind_eq_some_iff] at hx ⊢
  obtain ⟨us, ⟨u1, hu1, us1, ⟨u2, hu2, us2, ⟨u3, hu3, us3, hus3, rfl⟩, rfl⟩, rfl⟩, rfl⟩ := hx
  exact ⟨_, ⟨u1, hp _ _ hu1, _, ⟨u2, hv _ _ hu2, _, ⟨u3, hs _ hu3, us3, hus3, rfl⟩, rfl⟩, rfl⟩, rfl⟩
theorem agg3_at {β : Val} {p v s : SV} {ys : List SV} {vs : List Value} (h : SV.denL β (.agg [p, v, s] :: ys) = some vs) : (∃ x, s.den β = some x) ∧ ∃ zs, SV.denL β ys = some zs := by
  obtain ⟨x, zs, hx, hzs, rfl⟩ := denL_cons.1 h
  simp only [SV.den, SV.denL, Option.map_eq_some_iff, Option.bind_eq_some_iff] at hx
  obtain ⟨us, ⟨u1, hu1, us1, ⟨u2, hu2, us2, ⟨u3, hu3, us3, hus3, rfl⟩, rfl⟩, rfl⟩, rfl⟩ := hx
  exact ⟨⟨_, hu3⟩, _, hzs⟩
theorem sealOK : SumAt Tryd.prog globP 7 (sealS shaF encF) := by
  intro O w0 β H w base args vs hH hG ha
  refine args4_sat fun kv uv cv tv hv => ?_
  rcases asAgg_cases kv with ⟨l, rfl⟩ | hno
  case inr => rw [hno]; trivial
  refine args3_sat fun p v s hl => optC_only fun p0 hp => i64O_sat fun v' hv' => i64O_sat fun u hu => shaTP_sat fun hT => partN_sat fun k kn n hn1 ht1 hi1 hkn => partN_sat fun c cn cl hn2 ht2 hi2 hcl => fun ⟨⟨hv1, hv2⟩, ⟨hu1, hu2⟩, hk, hc⟩ => boolC_only fun h16 => ?_
  have h16 := beq_spec h16
  subst hl hv' hu h16
  rw [hv, litI_spec hp] at ha
  obtain ⟨⟨xs, hxs⟩, zs, hzs⟩ := agg3_at ha
  obtain ⟨m, hks⟩ := Sl.valN_den (hi1 _ _ hxs)
  obtain ⟨xu, zs1, hxu, hzs1, rfl⟩ := denL_cons.1 hzs
  obtain ⟨xc, zs2, hxc, hzs2, rfl⟩ := denL_cons.1 hzs1
  obtain ⟨xt, zs3, hxt, hzs3, rfl⟩ := denL_cons.1 hzs2
  obtain ⟨m2, hcs⟩ := Sl.valN_den (hi2 _ _ hxc)
  -- the arguments, in small names
  have harg : ∀ (p : Int) (n0 : Nat) (tv' : SV), p0 = p → n = n0 → tv'.den β = some xt → SV.denL β [.agg [.int .i64 (.lit p), .int .i64 (.sym v'.den), (k.pl m).valN kn n0], .int .i64 (.sym u.den), (c.pl m2).valN cn 16, tv'] = some vs := by
    intro p n0 tv' hpp hnn htv
    subst hpp hnn
    have h1 := agg3_den (s' := (k.pl m).valN kn n) (p' := .int .i64 (.lit (.ofNat p0))) (v' := .int .i64 (.sym v'.den)) ha (fun x hx => by rw [hxs] at hx; cases hx; exact hks) (.refl _) (int_imp0 rfl)
    obtain ⟨xa, ws, hxa, hws, rfl⟩ := denL_cons.1 h1
    refine denL_cons.2 ⟨_, _, hxa, ?_, rfl⟩
    rw [hzs] at hws
    cases hws
    exact denL_cons.2 ⟨_, _, int_imp0 rfl _ _ hxu, denL_cons.2 ⟨_, _, hcs, denL_cons.2 ⟨_, _, htv, hzs3, rfl⟩, rfl⟩, rfl⟩
  have hdk : ∀ (n : Nat) (x : BitVec 8), n ≤ 32 → okK (dkS shaF k n u.den x) := fun n x hn => ⟨by show 0 + n ≤ n; omega, by show n ≤ 4096; omega⟩
  have hc16 : okL (c.len 16) := ⟨hc, by show 16 ≤ _; omega⟩
  refine boolC_sat (fun hp1 => boolC_only fun hn16 => partL_sat fun t tn hn3 ht3 hi3 => boolC_only fun hd => fun ⟨h1, h2⟩ => ?_) fun _ => boolC_only fun hp2 => boolC_only fun hn32 => partN_sat fun t tn tl hn3 ht3 hi3 htl => boolC_only fun hd => boolC_only fun h5 => fun h1 => ?_
  · have hp1 := beq_spec hp1
    have hn16 := beq_spec hn16
    subst hn16
    obtain ⟨m3, _, hts⟩ := Sl.val_den (hi3 _ _ hxt)
    refine sum_outOG cfgSeOK 8000 hH (shaIP [kn, cn, tn] [k.row, c.row, t.row] [.agg [.int .i64 (.lit 1), .int .i64 (.sym v'.den), (k.pl m).valN 4 16], .int .i64 (.sym u.den), (c.pl m2).valN 5 16, (t.pl m3).val 6]) (shaIP_glob hG) ?_ (Ifc.fits (nd4 hd (by simp only [List.mem_cons, List.not_mem_nil, or_false]; rintro x (rfl | rfl | rfl) <;> assumption)) ?_ (shaIP_ents hT ⟨⟨ht1 _, k.row_uses _⟩, ⟨ht2 _, c.row_uses _⟩, ⟨ht3 _, t.row_uses _⟩, trivial⟩)) [20] (by simp [shaIP]) (by simp) (se_run1 shaF encF v'.den u.den k c t m m2 m3) ?_ fun H2 hH2 => endsS rfl rfl (List.cons.inj hH2).1
    · show SV.denL β [.agg [.int .i64 (.lit 1), .int .i64 (.sym v'.den), ((k.pl m).valN 4 16).ren _], .int .i64 (.sym u.den), ((c.pl m2).valN 5 16).ren _, ((t.pl m3).val 6).ren _] = _
      rw [Sl.valN_ren, Sl.valN_ren, Sl.val_ren]
      exact harg 1 16 _ (by rw [hp1]; rfl) rfl hts
    · rfl
    · have hcp : okL (cphS shaF encF k c t u.den) := ⟨by show 0 + (16 + t.n) ≤ 16 + t.n; omega, by show 16 + t.n ≤ _; omega⟩
      exact all_cons (decide_eq_true hv1) (all_cons (decide_eq_true hv2) (all_cons (decide_eq_true hu1) (all_cons (decide_eq_true hu2) (all_cons (decide_eq_false (by omega)) (all_cons (byteF_isB _) (all_cons hk (all_cons (byteF_isB _) (all_cons (byteF_isB _) (all_cons ⟨⟨hc16, by omega⟩, h1, by omega⟩ (all_cons (by omega) (all_cons (by omega) (all_cons (decide_eq_false (by omega)) (all_cons (decide_eq_true (by omega)) (all_cons (byteF_isB _) (all_cons ⟨by omega, by omega⟩ (all_cons (byteF_isB _) (all_cons hk (all_cons (byteF_isB _) (all_cons ⟨hdk 16 _ (by omega), hcp⟩ (all_cons (byteF_isB _) (all_cons ⟨⟨hcp, by show 16 + t.n ≠ 0; omega⟩, by show 0 + 16 ≤ 32; omega, by show 16 ≤ _; omega⟩ all_nil)))))))))))))))))))))
  · have hp2 := beq_spec hp2
    have hn32 := beq_spec hn32
    have h5 := beq_spec h5
    subst hn32 h5
    obtain ⟨m3, hts⟩ := Sl.valN_den (hi3 _ _ hxt)
    refine sum_outOG cfgSeOK 8000 hH (shaIP [kn, cn, tn] [k.row, c.row, t.row] [.agg [.int .i64 (.lit 2), .int .i64 (.sym v'.den), (k.pl m).valN 4 32], .int .i64 (.sym u.den), (c.pl m2).valN 5 16, (t.pl m3).valN 6 5]) (shaIP_glob hG) ?_ (Ifc.fits (nd4 hd (by simp only [List.mem_cons, List.not_mem_nil, or_false]; rintro x (rfl | rfl | rfl) <;> assumption)) ?_ (shaIP_ents hT ⟨⟨ht1 _, k.row_uses _⟩, ⟨ht2 _, c.row_uses _⟩, ⟨ht3 _, t.row_uses _⟩, trivial⟩)) [19] (by simp [shaIP]) (by simp) (se_run5 shaF encF v'.den u.den k c t m m2 m3) ?_ fun H2 hH2 => endsS rfl rfl (List.cons.inj hH2).1
    · show SV.denL β [.agg [.int .i64 (.lit 2), .int .i64 (.sym v'.den), ((k.pl m).valN 4 32).ren _], .int .i64 (.sym u.den), ((c.pl m2).valN 5 16).ren _, ((t.pl m3).valN 6 5).ren _] = _
      rw [Sl.valN_ren, Sl.valN_ren, Sl.valN_ren]
      exact harg 2 32 _ (by rw [hp2]; rfl) rfl hts
    · rfl
    · have hcp : okL (cph5 shaF k c t u.den) := ⟨by show 0 + (16 + 5) ≤ 16 + 5; omega, by show 16 + 5 ≤ _; omega⟩
      have ht5 : okL (t.len 5) := ⟨h1, by show 5 ≤ _; omega⟩
      exact all_cons (decide_eq_true hv1) (all_cons (decide_eq_true hv2) (all_cons (decide_eq_true hu1) (all_cons (decide_eq_true hu2) (all_cons (byteF_isB _) (all_cons hk (all_cons (byteF_isB _) (all_cons (byteF_isB _) (all_cons ⟨hdk 32 _ (by omega), hc16, ht5⟩ (all_cons (byteF_isB _) (all_cons ⟨⟨hc16, by omega⟩, by show 0 + 5 ≤ 5; omega, by show 5 ≤ _; omega⟩ (all_cons (byteF_isB _) (all_cons hk (all_cons (byteF_isB _) (all_cons ⟨hdk 32 _ (by omega), hcp⟩ (all_cons (byteF_isB _) (all_cons ⟨⟨hcp, by show 16 + 5 ≠ 0; omega⟩, by show 0 + 32 ≤ 32; omega, by show 32 ≤ _; omega⟩ all_nil))))))))))))))))
end Go.Proofs.YtbmgahpjgefjaaaDoor.Aes


/-
  The profiles: usable, where it is told whether the key and the usage are valid; Valid.
-/
namespace Go.Proofs.YtbmgahpjgefjaaaDoor.Aes
open Go.Sim
open Go.Proofs
variable {α : Type}

set_option maxRecDepth 100000
/- Leaves of what the looks come to. -/
theorem isI_leaf {x : SI} {n : Int} {t f : R α} {a : α} (h : x.den = n → t.Leaf a) (h' : x.den ≠ n → f.Leaf a) : (isI x n t f).Leaf a := by
  unfold isI
  by_cases hx : x.den = n
  · cases x with
    | lit m =>
      have hx : m = n := hx
      show (boolC (eqI m n) t f).Leaf a
      rw [show eqI m n = true by rw [eqI_eq]; simpa using hx]
      exact h hx
    | sym m => exact .inl ⟨by simpa using hx, h hx⟩
    | b8 m => exact .inl ⟨by simpa using hx, h hx⟩
    | b32 m => exact .inl ⟨by simpa using hx, h hx⟩
    | b64 m => exact .inl ⟨by simpa using hx, h hx⟩
  · cases x with
    | lit m =>
      have hx : m ≠ n := hx
      show (boolC (eqI m n) t f).Leaf a
      rw [show eqI m n = false by rw [eqI_eq]; simpa using hx]
      exact h' hx
    | sym m => exact .inr ⟨by simpa using hx, h' hx⟩
    | b8 m => exact .inr ⟨by simpa using hx, h' hx⟩
    | b32 m => exact .inr ⟨by simpa using hx, h' hx⟩
    | b64 m => exact .inr ⟨by simpa using hx, h' hx⟩
theorem leI_leaf {x : SI} {n : Int} {t f : R α} {a : α} (h : n ≤ x.den → t.Leaf a) (h' : ¬ n ≤ x.den → f.Leaf a) : (leI n x t f).Leaf a := by
  unfold leI
  by_cases hx : n ≤ x.den
  · cases x with
    | lit m =>
      show (boolC (decide (n ≤ m)) t f).Leaf a
      rw [decide_eq_true (show n ≤ m from hx)]
      exact h hx
    | sym m => exact .inl ⟨decide_eq_true hx, h hx⟩
    | b8 m => exact .inl ⟨decide_eq_true hx, h hx⟩
    | b32 m => exact .inl ⟨decide_eq_true hx, h hx⟩
    | b64 m => exact .inl ⟨decide_eq_true hx, h hx⟩
  · cases x with
    | lit m =>
      show (boolC (decide (n ≤ m)) t f).Leaf a
      rw [decide_eq_false (show ¬ n ≤ m from hx)]
      exact h' hx
    | sym m => exact .inr ⟨decide_eq_false hx, h' hx⟩
    | b8 m => exact .inr ⟨decide_eq_false hx, h' hx⟩
    | b32 m => exact .inr ⟨decide_eq_false hx, h' hx⟩
    | b64 m => exact .inr ⟨decide_eq_false hx, h' hx⟩
theorem isLe_leaf {x : SI} {n : Int} {t f : R SumRes} {a : SumRes} (h : x.den ≤ n → t.Leaf a) (h' : ¬ x.den ≤ n → f.Leaf a) : (fdOne.isLe x n t f).Leaf a := by
  unfold fdOne.isLe
  by_cases hx : x.den ≤ n
  · cases x with
    | lit m =>
      show (boolC (decide (m ≤ n)) t f).Leaf a
      rw [decide_eq_true (show m ≤ n from hx)]
      exact h hx
    | sym m => exact .inl ⟨decide_eq_true hx, h hx⟩
    | b8 m => exact .inl ⟨decide_eq_true hx, h hx⟩
    | b32 m => exact .inl ⟨decide_eq_true hx, h hx⟩
    | b64 m => exact .inl ⟨decide_eq_true hx, h hx⟩
  · cases x with
    | lit m =>
      show (boolC (decide (m ≤ n)) t f).Leaf a
      rw [decide_eq_false (show ¬ m ≤ n from hx)]
      exact h' hx
    | sym m => exact .inr ⟨decide_eq_false hx, h' hx⟩
    | b8 m => exact .inr ⟨decide_eq_false hx, h' hx⟩
    | b32 m => exact .inr ⟨decide_eq_false hx, h' hx⟩
    | b64 m => exact .inr ⟨decide_eq_false hx, h' hx⟩
theorem lenIs_leaf {l : SN} {n : Nat} {t f : R α} {a : α} (h : l.den = n → t.Leaf a) (h' : l.den ≠ n → f.Leaf a) : (lenIs l n t f).Leaf a := by
  unfold lenIs
  by_cases hx : l.den = n
  · cases l with
    | lit m =>
      have hx : m = n := hx
      show (boolC (Nat.beq m n) t f).Leaf a
      subst hx
      rw [Nat.beq_refl]
      exact h rfl
    | sym m => exact .inl ⟨decide_eq_true hx, h hx⟩
    | byt o x => exact .inl ⟨decide_eq_true hx, h hx⟩
  · cases l with
    | lit m =>
      have hx : m ≠ n := hx
      show (boolC (Nat.beq m n) t f).Leaf a
      rw [show Nat.beq m n = false from Bool.eq_false_iff.2 fun e => hx (beq_spec e)]
      exact h' hx
    | sym m => exact .inr ⟨decide_eq_false hx, h' hx⟩
    | byt o x => exact .inr ⟨decide_eq_false hx, h' hx⟩
/-- the key is valid -/
def validK (p v : Int) (l : Nat) : Prop := ((p = 1 ∧ l = 16) ∨ (p = 2 ∧ l = 32)) ∧ 0 ≤ v ∧ v ≤ 65535
noncomputable def usQ (p v u : Int) (l : Nat) : Prop := validK p v l ∧ 1 ≤ u ∧ u ≤ 1023
noncomputable def keyQ (H : List SO) (kv : SV) (f : SI → SI → Nat → R α) : R α := kv.asAgg (.stuck 798) fun l => args3 l fun p v s => i64O p fun p => i64O v fun v => sliceR s (f p v 0) fun a l => boolC (placedE (nth H a.nm)) (f p v l.den) (.stuck 798)
noncomputable def usOkS (i : Int) (k : SV) : Summ := fun args H _ => args2 args fun kv uv => keyQ H kv fun p v l => i64O uv fun u => .need (p.den = i ∧ validK p.den v.den l ∧ 1 ≤ u.den ∧ u.den ≤ 1023) (usR k 0)
theorem usOkOK {i : Int} {k : SV} (hik : (i = 1 ∧ k = kv1) ∨ (i = 2 ∧ k = kv2)) : SumOK Tryd.prog 18 (usOkS i k) := by
  intro glob O w0 β H w base args vs hH hG ha
  have hS := usableOK glob O w0 β H w base args vs hH hG ha
  refine args2_sat fun kv uv hv => ?_
  subst hv
  rcases asAgg_cases kv with ⟨l, rfl⟩ | hno
  case inr => unfold keyQ; rw [hno]; trivial
  refine args3_sat fun p v s hl => i64O_sat fun p' hp => i64O_sat fun v' hv' => ?_
  subst hl hp hv'
  refine sliceR_sat (fun hn => i64O_sat fun u hu => fun ⟨_, ⟨hval, _⟩, _⟩ => ?_) fun a len c hs => boolC_only fun hpl => i64O_sat fun u hu => fun ⟨hpi, ⟨hval, h2, h3⟩, h4, h5⟩ => ?_
  · rcases hval with ⟨_, h⟩ | ⟨_, h⟩ <;> cases h
  · subst hs hu
    refine (show SumSem Tryd.prog H β w base 18 vs ⟨usV k 0, [], []⟩ from R.sat_leaf hS ?_)
    show (boolC (placedE (nth H a.nm)) (isI p' 1 (usOne kv1 16 len v' u) (isI p' 2 (usOne kv2 32 len v' u) (usR kv0 2))) (.stuck 791)).Leaf _
    rw [hpl, boolC_true]
    have one : ∀ (k : SV) (n : Nat), len.den = n → (usOne k n len v' u).Leaf ⟨usV k 0, [], []⟩ := fun k n h1 =>
      lenIs_leaf (fun _ => leI_leaf (fun _ => isLe_leaf (fun _ => leI_leaf (fun _ => isLe_leaf (fun _ => rfl) fun h => absurd h5 h) fun h => absurd h4 h) fun h => absurd h3 h) fun h => absurd h2 h) fun h => absurd h1 h
    rcases hik with ⟨rfl, rfl⟩ | ⟨rfl, rfl⟩
    · refine isI_leaf (fun _ => one kv1 16 ?_) fun h => absurd hpi h
      rcases hval with ⟨_, h⟩ | ⟨h, _⟩
      · exact h
      · rw [hpi] at h; cases h
    · refine isI_leaf (fun h => by rw [hpi] at h; cases h) fun _ => isI_leaf (fun _ => one kv2 32 ?_) fun h => absurd hpi h
      rcases hval with ⟨h, _⟩ | ⟨_, h⟩
      · rw [hpi] at h; cases h
      · exact h
/- find, where it is told which profile and whether the key is valid. -/
noncomputable def kdOf (p : Int) : Nat := if p = 1 then 1 else if p = 2 then 2 else 0
noncomputable def kvI (i : Nat) : SV := boolC (Nat.beq i 1) kv1 (boolC (Nat.beq i 2) kv2 kv0)
/- Valid. -/
section
variable (b : Bool) (p v : Int) (o l m : Nat)
end
theorem kdOf_cases (p : Int) : kdOf p = 0 ∨ kdOf p = 1 ∨ kdOf p = 2 := by
  unfold kdOf
  split
  · exact .inr (.inl rfl)
  · split
    · exact .inr (.inr rfl)
    · exact .inl rfl
end Go.Proofs.YtbmgahpjgefjaaaDoor.Aes


/-
  The profiles: the key stream, for texts of any length: the loops.
-/
namespace Go.Proofs.YtbmgahpjgefjaaaDoor.Aes
open Go.Sim
open Go.Proofs
variable {α : Type}

set_option maxRecDepth 1000000
noncomputable def sgT (st : Option (Nat × Nat)) (F : HashF) (k c t : Sl) : Tree := callSim ((cfgSt F).at st) 4000 47 [k.val 4, c.val 5, t.val 6] (shaHP [k.row, c.row, t.row])
noncomputable def sgS0 (F : HashF) (k c t : Sl) : SS := stopOf (sgT (some (1, 7)) F k c t) [false, true, true]
structure SgA where
  i : Int
  L : Int
  j : Nat
  G : Nat → BitVec 8
  S : Nat → BitVec 8
noncomputable def sgC (F : HashF) (k c t : Sl) (A : SgA) : Cut :=
  ⟨bareFs (sgS0 F k c t).frames [[(0, k.val 4), (1, c.val 5), (7, .slice ⟨7, .lit 0⟩ (.sym t.n) (.rest 7 0)), (8, .int .i64 (.sym A.i)), (9, .slice ⟨8, .lit 0⟩ (.lit 32) (.lit 32)), (36, .int .i64 (.sym A.L)), (37, .int .i64 (.sym A.j))]],
   [.ent startR, .ent constR, .ent anyR, .ent anyR, .ent k.row, .ent c.row, .ent t.row, .ent (.own (.fn (byteF A.G) t.n) false 5), .ent (.own (.lst (bx (tabB A.S 32))) true 64)]⟩
noncomputable def sgK (F : HashF) (k c : Sl) (v : Int) : Nat → BitVec 8 := byteAt (macB F k.F k.n (two c (slL (num4 v))) (c.n + 4))
noncomputable def sg0 (k c t : Sl) (b : Bool) (r : List Prop) : List Prop := IsB (byteF t.X) :: okL t :: (((t.n : Int) == 0) = false) :: (decide ((0 : Int) < t.n) = true) :: IsB (byteF k.X) :: IsB (byteF c.X) :: (okK k ∧ okL c ∧ okL (slL (num4 1))) :: (decide ((t.n : Int) < 32) = b) :: r
noncomputable def sgTurnC (n : Nat) (A : SgA) : List Prop := [decide ((A.j : Int) < A.L) = true, inI64 (A.i + A.j), 0 ≤ A.i + A.j ∧ A.i + A.j < n, 0 + (A.i + A.j).toNat * 1 < n, 0 ≤ (A.j : Int) ∧ (A.j : Int) < 32, 0 + (A.j : Int).toNat * 1 < 32, 0 ≤ A.i + A.j ∧ A.i + A.j < n, 0 + (A.i + A.j).toNat * 1 < n, inI64 ((A.j : Int) + 1)]
noncomputable def sgB (A : SgA) : BitVec 8 := A.G (0 + (A.i + A.j).toNat * 1) ^^^ byteAt (tabB A.S 32) (0 + (A.j : Int).toNat * 1)
noncomputable def sgE (n : Nat) (A : SgA) : SO := .own (.fn (fun p => if p = 0 + (A.i + A.j).toNat * 1 then .int .u8 (.b8 (sgB A)) else byteF A.G p) n) false 5
noncomputable def sgG (A : SgA) : Nat → BitVec 8 := fun p => if p = 0 + (A.i + A.j).toNat * 1 then sgB A else A.G p
noncomputable def sgV (i : Int) : Int := IntKind.i64.wrap (i.tdiv 32) + 1
noncomputable def sgNextC (k c t : Sl) (A : SgA) (b : Bool) (r : List Prop) : List Prop := (decide ((A.j : Int) < A.L) = false) :: inI64 (A.i + 32) :: (decide (A.i + 32 < t.n) = true) :: inI64 (sgV (A.i + 32)) :: IsB (byteF k.X) :: IsB (byteF c.X) :: (okK k ∧ okL c ∧ okL (slL (num4 (sgV (A.i + 32))))) :: inI64 (A.i + 32 + 32) :: (decide ((t.n : Int) < A.i + 32 + 32) = b) :: r
section
variable (F : HashF) (k c t : Sl) (m m2 m3 : Nat) (A : SgA) (J : Junk) (z : Nat → Nat → Nat)
theorem sg_init1 : outL [] (sgC F (k.pl m) (c.pl m2) (t.pl m3) A) [0, 1, 2, 3, 4, 5, 6, 8, 11] (sgT (some (1, 7)) F (k.pl m) (c.pl m2) (t.pl m3)) [false, true, true] z =
    (sg0 k c t true [0 ≤ (t.n : Int) ∧ (t.n : Int) ≤ t.n, 0 ≤ (t.n : Int).toNat], some (.inr (modSeen [(0, 8, .int .i64 (.lit 0)), (0, 37, .int .i64 (.lit 0))] [] (seenC [0, 1, 2, 3, 4, 5, 6, 8, 11] 12 (sgC F (k.pl m) (c.pl m2) (t.pl m3) ⟨0, (t.n : Int).toNat, 0, joinG t, sgK F k c 1⟩))))) := by kernel_rfl
theorem sg_init2 : outL [] (sgC F (k.pl m) (c.pl m2) (t.pl m3) A) [0, 1, 2, 3, 4, 5, 6, 8, 11] (sgT (some (1, 7)) F (k.pl m) (c.pl m2) (t.pl m3)) [false, true, false] z =
    (sg0 k c t false [32 ≤ t.n], some (.inr (modSeen [(0, 8, .int .i64 (.lit 0)), (0, 37, .int .i64 (.lit 0)), (0, 36, .int .i64 (.lit 32))] [] (seenC [0, 1, 2, 3, 4, 5, 6, 8, 11] 12 (sgC F (k.pl m) (c.pl m2) (t.pl m3) ⟨0, 32, 0, joinG t, sgK F k c 1⟩))))) := by kernel_rfl
noncomputable def sgR (st : Option (Nat × Nat)) : Tree := sim1 ((cfgSt F).at st) 4000 ((sgC F (k.pl m) (c.pl m2) (t.pl m3) A).fill J)
theorem sg_turn : outL [] (sgC F (k.pl m) (c.pl m2) (t.pl m3) A) [0, 1, 2, 3, 4, 5, 6, 7, 8] (sgR F k c t m m2 m3 A J (some (1, 7))) [true] z =
    (sgTurnC t.n A, some (.inr (modSeen [] [(7, .ent (sgE t.n A))] (seenC [0, 1, 2, 3, 4, 5, 6, 7, 8] 9 (sgC F (k.pl m) (c.pl m2) (t.pl m3) ⟨A.i, A.L, A.j + 1, sgG A, A.S⟩))))) := by kernel_rfl
theorem sg_next1 : outL [] (sgC F (k.pl m) (c.pl m2) (t.pl m3) A) [0, 1, 2, 3, 4, 5, 6, 7, 11] (sgR F k c t m m2 m3 A J (some (1, 7))) [false, true, true] z =
    (sgNextC k c t A true [0 ≤ (t.n : Int) ∧ (t.n : Int) ≤ t.n, 0 ≤ A.i + 32 ∧ A.i + 32 ≤ ((t.n : Int).toNat : Int)], some (.inr (modSeen [(0, 37, .int .i64 (.lit 0))] [] (seenC [0, 1, 2, 3, 4, 5, 6, 7, 11] 12 (sgC F (k.pl m) (c.pl m2) (t.pl m3) ⟨A.i + 32, (((t.n : Int).toNat - (A.i + 32).toNat : Nat) : Int), 0, A.G, sgK F k c (sgV (A.i + 32))⟩))))) := by kernel_rfl
theorem sg_next2 : outL [] (sgC F (k.pl m) (c.pl m2) (t.pl m3) A) [0, 1, 2, 3, 4, 5, 6, 7, 11] (sgR F k c t m m2 m3 A J (some (1, 7))) [false, true, false] z =
    (sgNextC k c t A false [0 ≤ A.i + 32 + 32 ∧ A.i + 32 + 32 ≤ (t.n : Int), 0 ≤ A.i + 32 ∧ A.i + 32 ≤ ((A.i + 32 + 32).toNat : Int)], some (.inr (modSeen [(0, 37, .int .i64 (.lit 0))] [] (seenC [0, 1, 2, 3, 4, 5, 6, 7, 11] 12 (sgC F (k.pl m) (c.pl m2) (t.pl m3) ⟨A.i + 32, (((A.i + 32 + 32).toNat - (A.i + 32).toNat : Nat) : Int), 0, A.G, sgK F k c (sgV (A.i + 32))⟩))))) := by kernel_rfl
theorem sg_end : outL [7] (sgC F (k.pl m) (c.pl m2) (t.pl m3) A) [0, 1, 2, 3, 4, 5, 6, 7, 8] (sgR F k c t m m2 m3 A J none) [false, false] z =
    ([decide ((A.j : Int) < A.L) = false, inI64 (A.i + 32), decide (A.i + 32 < t.n) = false], some (.inl (joinV 7 t.n, [some (.own (.fn (byteF A.G) t.n) false 5)]))) := by kernel_rfl
theorem sg_names (B : SgA) : boolC (namesOK 7 [0, 1, 2, 3, 4, 5, 6, 7, 8] (sgC F (k.pl m) (c.pl m2) (t.pl m3) A) (sgC F (k.pl m) (c.pl m2) (t.pl m3) B)) (allN noLoopE (sgC F (k.pl m) (c.pl m2) (t.pl m3) B).heap) false = true := by kernel_rfl
theorem sg_names2 (B : SgA) : boolC (namesOK 7 [0, 1, 2, 3, 4, 5, 6, 7, 11] (sgC F (k.pl m) (c.pl m2) (t.pl m3) A) (sgC F (k.pl m) (c.pl m2) (t.pl m3) B)) (allN noLoopE (sgC F (k.pl m) (c.pl m2) (t.pl m3) B).heap) false = true := by kernel_rfl
theorem sg_names0 (B : SgA) : boolC (namesOK 7 [0, 1, 2, 3, 4, 5, 6, 8, 11] (sgC F (k.pl m) (c.pl m2) (t.pl m3) A) (sgC F (k.pl m) (c.pl m2) (t.pl m3) B)) (allN noLoopE (sgC F (k.pl m) (c.pl m2) (t.pl m3) B).heap) false = true := by kernel_rfl
end
end Go.Proofs.YtbmgahpjgefjaaaDoor.Aes


/-
  The profiles: the key stream, for texts of any length: the summary.
-/
namespace Go.Proofs.YtbmgahpjgefjaaaDoor.Aes
open Go.Sim
open Go.Proofs
variable {α : Type}

set_option maxRecDepth 1000000
theorem sgV_eq {q : Nat} (hq : q < 2 ^ 50) : sgV (32 * (q : Int)) = (q : Int) + 1 := by
  unfold sgV
  rw [show (32 * (q : Int)).tdiv 32 = (q : Int) by rw [Int.tdiv_eq_ediv_of_nonneg (by omega)]; omega]
  rw [wrap_i64 ⟨by omega, by omega⟩]
theorem tmp_imp1 {C : Cut} {i j : Nat} {v : SV} (h : ((C.frames[i]?).bind fun p => p.tmps[j]?) = some (some v)) {p : SP} {u : Option SV} (hp : C.frames[i]? = some p) (hu : p.tmps[j]? = some u) {w : SV} {f : Nat → Nat} (hi : w.Imp (v.ren f)) : ∃ x, u = some x ∧ w.Imp (x.ren f) := by
  rw [hp] at h
  simp only [Option.bind_some, hu, Option.some.injEq] at h
  exact ⟨v, h, hi⟩
theorem sg_tmps (F : HashF) (k c t : Sl) (m m2 m3 : Nat) (A : SgA) : (((sgC F (k.pl m) (c.pl m2) (t.pl m3) A).frames[0]?).bind fun p => p.tmps[8]?) = some (some (.int .i64 (.sym A.i))) ∧ (((sgC F (k.pl m) (c.pl m2) (t.pl m3) A).frames[0]?).bind fun p => p.tmps[36]?) = some (some (.int .i64 (.sym A.L))) ∧ (((sgC F (k.pl m) (c.pl m2) (t.pl m3) A).frames[0]?).bind fun p => p.tmps[37]?) = some (some (.int .i64 (.sym (A.j : Int)))) := ⟨by kernel_rfl, by kernel_rfl, by kernel_rfl⟩
/-- a byte of the stream, by its place -/
noncomputable def strG (F : HashF) (k c t : Sl) : Nat → BitVec 8 := fun p => t.X (t.o + p) ^^^ sgK F k c (((p / 32 : Nat) : Int) + 1) (p % 32)
structure SgQ (F : HashF) (k c t : Sl) (A : SgA) (q : Nat) : Prop where
  i : A.i = 32 * (q : Int)
  lt : 32 * q < t.n
  L : A.L = ((min 32 (t.n - 32 * q) : Nat) : Int)
  j : A.j ≤ min 32 (t.n - 32 * q)
  S : A.S = sgK F k c ((q : Int) + 1)
  G : ∀ p, p < t.n → A.G p = if p < 32 * q + A.j then strG F k c t p else joinG t p
noncomputable def sgD (F : HashF) (k c t : Sl) (v : SV) (H : List SO) : Prop := v = joinV 7 t.n ∧ ∃ G, (∀ p, p < t.n → G p = strG F k c t p) ∧ H[7]? = some (.own (.fn (byteF G) t.n) false 5)
theorem num4_ok (v : Int) : okL (slL (num4 v)) := slL_ok (n := 4) rfl (by omega)
theorem sg_runs {k c t : Sl} {m m2 m3 : Nat} (hk : okK k) (hc : okL c) (ht : okL t) (hn : t.n ≠ 0) : Runs (cfgSt shaF) 47 [(k.pl m).val 4, (c.pl m2).val 5, (t.pl m3).val 6] (shaHP [(k.pl m).row, (c.pl m2).row, (t.pl m3).row]) (sgD shaF k c t) := by
  have hbig : t.n ≤ 1099511627776 := ht.2
  have hn1 : ((t.n : Int) == 0) = false := by rw [beq_eq_false_iff_ne]; omega
  have hn2 : decide ((0 : Int) < t.n) = true := decide_eq_true (by omega)
  have h0 : ∀ {b r}, decide ((t.n : Int) < 32) = b → (∀ p ∈ r, p) → ∀ p ∈ sg0 k c t b r, p := fun hb hr => all_cons (byteF_isB _) (all_cons ht (all_cons hn1 (all_cons hn2 (all_cons (byteF_isB _) (all_cons (byteF_isB _) (all_cons ⟨hk, hc, num4_ok 1⟩ (all_cons hb hr)))))))
  have hg0 : ∀ p, p < t.n → joinG t p = if p < 32 * 0 + 0 then strG shaF k c t p else joinG t p := fun p _ => by rw [if_neg (by omega)]
  refine runs_by cfgStOK (sgC shaF (k.pl m) (c.pl m2) (t.pl m3)) (fun A => ∃ q, SgQ shaF k c t A q) (fun A => 33 * (t.n - A.i.toNat) + (32 - A.j)) (fun g nm hg => Nat.lt_of_lt_of_le (globP_lt hg) (by show 2 ≤ 7; omega)) ?_ fun A ⟨q, hQ⟩ J => ?_
  · by_cases hl : (t.n : Int) < 32
    · refine to_startM (some (1, 7)) 4000 ⟨0, (t.n : Int).toNat, 0, joinG t, sgK shaF k c 1⟩ ⟨0, rfl, by omega, by show (((t.n : Int).toNat : Nat) : Int) = _; omega, by show 0 ≤ _; omega, rfl, hg0⟩ (sg_init1 shaF k c t m m2 m3 ⟨0, 0, 0, joinG t, joinG t⟩) (sg_names0 shaF k c t m m2 m3 _ _) ?_ (by simp) (h0 (decide_eq_true hl) (all_cons ⟨by omega, by omega⟩ (all_cons (by omega) all_nil)))
      intro x hx p u hp hu
      simp only [List.mem_cons, List.not_mem_nil, or_false] at hx
      rcases hx with rfl | rfl
      · exact tmp_imp1 (sg_tmps _ _ _ _ _ _ _ _).1 hp hu (int_imp0 rfl)
      · exact tmp_imp1 (sg_tmps _ _ _ _ _ _ _ _).2.2 hp hu (int_imp0 rfl)
    · refine to_startM (some (1, 7)) 4000 ⟨0, 32, 0, joinG t, sgK shaF k c 1⟩ ⟨0, rfl, by omega, by show (32 : Int) = _; omega, by show 0 ≤ _; omega, rfl, hg0⟩ (sg_init2 shaF k c t m m2 m3 ⟨0, 0, 0, joinG t, joinG t⟩) (sg_names0 shaF k c t m m2 m3 _ _) ?_ (by simp) (h0 (decide_eq_false hl) (all_cons (by omega) all_nil))
      intro x hx p u hp hu
      simp only [List.mem_cons, List.not_mem_nil, or_false] at hx
      rcases hx with rfl | rfl | rfl
      · exact tmp_imp1 (sg_tmps _ _ _ _ _ _ _ _).1 hp hu (int_imp0 rfl)
      · exact tmp_imp1 (sg_tmps _ _ _ _ _ _ _ _).2.2 hp hu (int_imp0 rfl)
      · exact tmp_imp1 (sg_tmps _ _ _ _ _ _ _ _).2.1 hp hu (int_imp0 rfl)
  · obtain ⟨hi, hlt, hL, hj, hS, hG⟩ := hQ
    by_cases hjl : (A.j : Int) < A.L
    · have hidx : 0 + (A.i + A.j).toNat * 1 = 32 * q + A.j := by omega
      refine to_turnM (some (1, 7)) 4000 ⟨A.i, A.L, A.j + 1, sgG A, A.S⟩ ⟨⟨q, hi, hlt, hL, by show A.j + 1 ≤ _; omega, hS, fun p hp => ?_⟩, by show 33 * (t.n - A.i.toNat) + (32 - (A.j + 1)) < 33 * (t.n - A.i.toNat) + (32 - A.j); omega⟩ (sg_turn shaF k c t m m2 m3 A J) (sg_names shaF k c t m m2 m3 _ _) (by simp) ?_
        (all_cons (decide_eq_true hjl) (all_cons ⟨by omega, by omega⟩ (all_cons ⟨by omega, by omega⟩ (all_cons (by omega) (all_cons ⟨by omega, by omega⟩ (all_cons (by omega) (all_cons ⟨by omega, by omega⟩ (all_cons (by omega) (all_cons ⟨by omega, by omega⟩ all_nil)))))))))
      · show sgG A p = if p < 32 * q + (A.j + 1) then _ else _
        unfold sgG
        rw [hidx]
        by_cases hpi : p = 32 * q + A.j
        · rw [if_pos hpi, if_pos (by omega)]
          unfold sgB
          rw [hidx, hG _ (by omega), if_neg (by omega), byteAt_tab (by omega), hS]
          unfold strG joinG
          rw [hpi, show (32 * q + A.j) / 32 = q by omega, show (32 * q + A.j) % 32 = A.j by omega, show 0 + (A.j : Int).toNat * 1 = A.j by omega]
        · rw [if_neg hpi, hG p hp]
          by_cases hpl : p < 32 * q + A.j
          · rw [if_pos hpl, if_pos (by omega)]
          · rw [if_neg hpl, if_neg (by omega)]
      · intro e he E0 hE0
        simp only [List.mem_cons, List.not_mem_nil, or_false] at he
        subst he
        have hE0 : some (HP.ent (.own (.fn (byteF (sgG A)) t.n) false 5)) = some E0 := hE0
        cases hE0
        refine ⟨_, rfl, fn_imp_ltP fun p _ => ?_⟩
        show (if p = 0 + (A.i + A.j).toNat * 1 then SV.int .u8 (.b8 (sgB A)) else byteF A.G p).Imp (.int .u8 (.b8 (sgG A p)))
        unfold sgG
        by_cases hpi : p = 0 + (A.i + A.j).toNat * 1
        · rw [if_pos hpi, if_pos hpi]; exact .refl _
        · rw [if_neg hpi, if_neg hpi]; exact .refl _
    · have hjl' : A.j = min 32 (t.n - 32 * q) := by omega
      have e1 : decide ((A.j : Int) < A.L) = false := decide_eq_false hjl
      by_cases hnx : A.i + 32 < t.n
      · have hj32 : A.j = 32 := by omega
        have hi' : A.i + 32 = 32 * ((q + 1 : Nat) : Int) := by omega
        have hv : sgV (A.i + 32) = ((q + 1 : Nat) : Int) + 1 := by rw [hi']; exact sgV_eq (by omega)
        have hg : ∀ p, p < t.n → A.G p = if p < 32 * (q + 1) + 0 then strG shaF k c t p else joinG t p := fun p hp => by
          rw [hG p hp, show 32 * (q + 1) + 0 = 32 * q + A.j by omega]
        have hC : ∀ {b r}, decide ((t.n : Int) < A.i + 32 + 32) = b → (∀ p ∈ r, p) → ∀ p ∈ sgNextC k c t A b r, p := fun hb hr => all_cons e1 (all_cons ⟨by omega, by omega⟩ (all_cons (decide_eq_true hnx) (all_cons (by rw [hv]; exact ⟨by omega, by omega⟩) (all_cons (byteF_isB _) (all_cons (byteF_isB _) (all_cons ⟨hk, hc, num4_ok _⟩ (all_cons ⟨by omega, by omega⟩ (all_cons hb hr))))))))
        have hT : ∀ (B : SgA), B.j = 0 → ∀ x ∈ ([(0, 37, .int .i64 (.lit 0))] : List (Nat × Nat × SV)), ∀ p u, (sgC shaF (k.pl m) (c.pl m2) (t.pl m3) B).frames[x.1]? = some p → p.tmps[x.2.1]? = some u → ∃ w, u = some w ∧ x.2.2.Imp (w.ren (nameOf [0, 1, 2, 3, 4, 5, 6, 7, 11] 12)) := by
          intro B hB x hx p u hp hu
          simp only [List.mem_cons, List.not_mem_nil, or_false] at hx
          subst hx
          refine tmp_imp1 (sg_tmps _ _ _ _ _ _ _ _).2.2 hp hu (int_imp0 ?_)
          show (0 : Int) = (B.j : Int)
          rw [hB]; rfl
        by_cases hl : (t.n : Int) < A.i + 32 + 32
        · refine to_turnM (some (1, 7)) 4000 ⟨A.i + 32, (((t.n : Int).toNat - (A.i + 32).toNat : Nat) : Int), 0, A.G, sgK shaF k c (sgV (A.i + 32))⟩ ⟨⟨q + 1, hi', by omega, by show (((t.n : Int).toNat - (A.i + 32).toNat : Nat) : Int) = _; omega, by show 0 ≤ _; omega, by show sgK shaF k c (sgV (A.i + 32)) = _; rw [hv], hg⟩, by show 33 * (t.n - (A.i + 32).toNat) + (32 - 0) < 33 * (t.n - A.i.toNat) + (32 - A.j); omega⟩ (sg_next1 shaF k c t m m2 m3 A J) (sg_names2 shaF k c t m m2 m3 _ _) (hT _ rfl) (by simp) (hC (decide_eq_true hl) (all_cons ⟨by omega, by omega⟩ (all_cons ⟨by omega, by omega⟩ all_nil)))
        · refine to_turnM (some (1, 7)) 4000 ⟨A.i + 32, (((A.i + 32 + 32).toNat - (A.i + 32).toNat : Nat) : Int), 0, A.G, sgK shaF k c (sgV (A.i + 32))⟩ ⟨⟨q + 1, hi', by omega, by show (((A.i + 32 + 32).toNat - (A.i + 32).toNat : Nat) : Int) = _; omega, by show 0 ≤ _; omega, by show sgK shaF k c (sgV (A.i + 32)) = _; rw [hv], hg⟩, by show 33 * (t.n - (A.i + 32).toNat) + (32 - 0) < 33 * (t.n - A.i.toNat) + (32 - A.j); omega⟩ (sg_next2 shaF k c t m m2 m3 A J) (sg_names2 shaF k c t m m2 m3 _ _) (hT _ rfl) (by simp) (hC (decide_eq_false hl) (all_cons ⟨by omega, by omega⟩ (all_cons ⟨by omega, by omega⟩ all_nil)))
      · refine to_end none 4000 (sg_end shaF k c t m m2 m3 A J) (all_cons e1 (all_cons ⟨by omega, by omega⟩ (all_cons (decide_eq_false hnx) all_nil))) fun H hH => ⟨rfl, A.G, fun p hp => ?_, (List.cons.inj hH).1⟩
        rw [hG p hp, if_pos (by omega)]
theorem sg_zero (F : HashF) (k c t : Sl) (m m2 m3 : Nat) : outO [] (sgT none F (k.pl m) (c.pl m2) (t.pl m3)) [true] = ([IsB (byteF t.X), okL t, ((t.n : Int) == 0) = true], some (.nilSlice, [])) := by kernel_rfl
noncomputable def cfgNl : Cfg := cfgG globP (sumsOf [])
theorem cfgNlOK : CfgOK cfgNl := sumsG_ok (by simp)
theorem sg_nil (k c : Sl) (m m2 : Nat) : outO [] (callSim cfgNl 4000 47 [(k.pl m).val 4, (c.pl m2).val 5, .nilSlice] (shaHP [k.row, c.row])) [] = ([], some (.nilSlice, [])) := by kernel_rfl
noncomputable def stGS (F : HashF) : Summ := fun args H base => args3 args fun kv cv tv => shaTP H (partL H kv fun k kn => partL H cv fun c cn => sliceR tv (boolC (distN [kn, cn]) (.ok ⟨.nilSlice, [], []⟩) (.stuck 793)) fun _ _ => partL H tv fun t tn => boolC (distN [kn, cn, tn]) (.need (okK k ∧ okL c ∧ okL t) (isI (.sym t.n) 0 (.ok ⟨.nilSlice, [], []⟩) (.ok (bytesR base t.n (strG F k c t))))) (.stuck 793))
theorem stGOK : SumAt Tryd.prog globP 47 (stGS shaF) := by
  intro O w0 β H w base args vs hH hG ha
  refine args3_sat fun kv cv tv hv => shaTP_sat fun hT => partL_sat fun k kn hn ht hk => partL_sat fun c cn hn2 ht2 hk2 => ?_
  rw [hv] at ha
  obtain ⟨x, ys, hx, hys, rfl⟩ := denL_cons.1 ha
  obtain ⟨y, zs, hy, hzs, rfl⟩ := denL_cons.1 hys
  obtain ⟨q, qs, hq, hqs, rfl⟩ := denL_cons.1 hzs
  obtain ⟨m, _, hx'⟩ := Sl.val_den (hk _ _ hx)
  obtain ⟨m2, _, hy'⟩ := Sl.val_den (hk2 _ _ hy)
  refine sliceR_sat (fun hnil => boolC_only fun hd => ?_) fun _ _ _ _ => partL_sat fun t tn hn3 ht3 hk3 => boolC_only fun hd => fun ⟨h1, h2, h3⟩ => ?_
  · subst hnil
    refine sum_outOG cfgNlOK 4000 hH (shaIP [kn, cn] [k.row, c.row] [(k.pl m).val 4, (c.pl m2).val 5, .nilSlice]) (shaIP_glob hG) ?_ (Ifc.fits (nd4 hd (by simp only [List.mem_cons, List.not_mem_nil, or_false]; rintro x (rfl | rfl) <;> assumption)) ?_ (shaIP_ents hT ⟨⟨ht _, k.row_uses _⟩, ⟨ht2 _, c.row_uses _⟩, trivial⟩)) [] (by simp [shaIP]) (by simp) (sg_nil k c m m2) all_nil fun H2 _ => ends0 rfl rfl rfl
    · show SV.denL β [((k.pl m).val 4).ren _, ((c.pl m2).val 5).ren _, .nilSlice] = _
      rw [Sl.val_ren, Sl.val_ren]
      exact denL_cons.2 ⟨_, _, hx', denL_cons.2 ⟨_, _, hy', denL_cons.2 ⟨_, _, hq, hqs, rfl⟩, rfl⟩, rfl⟩
    · show (((k.pl m).val 4).uses _ && (((c.pl m2).val 5).uses _ && (true && true))) = true
      rw [Sl.val_uses _ _ _ rfl, Sl.val_uses _ _ _ rfl]; rfl
  · obtain ⟨m3, _, hq'⟩ := Sl.val_den (hk3 _ _ hq)
    have hfit : Ifc.Fits (shaIP [kn, cn, tn] [k.row, c.row, t.row] [(k.pl m).val 4, (c.pl m2).val 5, (t.pl m3).val 6]) H := by
      refine Ifc.fits (nd4 hd (by simp only [List.mem_cons, List.not_mem_nil, or_false]; rintro x (rfl | rfl | rfl) <;> assumption)) ?_ (shaIP_ents hT ⟨⟨ht _, k.row_uses _⟩, ⟨ht2 _, c.row_uses _⟩, ⟨ht3 _, t.row_uses _⟩, trivial⟩)
      show (((k.pl m).val 4).uses _ && (((c.pl m2).val 5).uses _ && (((t.pl m3).val 6).uses _ && true))) = true
      rw [Sl.val_uses _ _ _ rfl, Sl.val_uses _ _ _ rfl, Sl.val_uses _ _ _ rfl]; rfl
    have harg : SV.denL β (SV.renL (shaIP [kn, cn, tn] [k.row, c.row, t.row] [(k.pl m).val 4, (c.pl m2).val 5, (t.pl m3).val 6]).big [(k.pl m).val 4, (c.pl m2).val 5, (t.pl m3).val 6]) = some (x :: y :: q :: qs) := by
      show SV.denL β [((k.pl m).val 4).ren _, ((c.pl m2).val 5).ren _, ((t.pl m3).val 6).ren _] = _
      rw [Sl.val_ren, Sl.val_ren, Sl.val_ren]
      exact denL_cons.2 ⟨_, _, hx', denL_cons.2 ⟨_, _, hy', denL_cons.2 ⟨_, _, hq', hqs, rfl⟩, rfl⟩, rfl⟩
    refine isI_sat (fun h0 => ?_) fun h0 => ?_
    · have h0 : (t.n : Int) = 0 := h0
      exact sum_outOG cfgStOK 4000 hH (shaIP [kn, cn, tn] [k.row, c.row, t.row] [(k.pl m).val 4, (c.pl m2).val 5, (t.pl m3).val 6]) (shaIP_glob hG) harg hfit [] (by simp [shaIP]) (by simp) (sg_zero shaF k c t m m2 m3) (all_cons (byteF_isB _) (all_cons h3 (all_cons (by rw [h0]; rfl) all_nil))) fun H2 _ => ends0 rfl rfl rfl
    · have h0 : (t.n : Int) ≠ 0 := h0
      refine Go.Sim.sum_runs (c := cfgSt shaF) hH (shaIP [kn, cn, tn] [k.row, c.row, t.row] [(k.pl m).val 4, (c.pl m2).val 5, (t.pl m3).val 6]) (shaIP_glob hG) harg hfit [7] (by simp [shaIP]) (by simp) (runs_mono (sg_runs h1 h2 h3 (by omega)) fun v H2 ⟨hv, G, hGe, hE⟩ => ?_)
      subst hv
      exact endsB rfl rfl hE rfl hGe
end Go.Proofs.YtbmgahpjgefjaaaDoor.Aes


/-
  The profiles: Seal, where it is told that the key and the usage are valid: its runs.
-/
namespace Go.Proofs.YtbmgahpjgefjaaaDoor.Aes
open Go.Sim
open Go.Proofs
variable {α : Type}

set_option maxRecDepth 1000000
noncomputable def cfgSG (F : HashF) (E D : CtsF) (us : Summ) : Cfg := cfgG globP (sumsOf [(18, us), (26, deS F), (30, hmS F), (33, mkS (tagB F)), (36, mkS (tagS F)), (20, joinS), (28, numS), (47, stGS F), (45, ctsS E), (46, ctsS D)])
theorem cfgSGOK {us : Summ} (hu : SumOK Tryd.prog 18 us) : CfgOK (cfgSG shaF encF decF us) := sumsG_ok (allS (hu _) (allS deOK (allS hmOK (allS mk1OK (allS mk2OK (allS (joinOK _) (allS (pnumOK _) (allS stGOK (allS (encOK _) (allS (decOK _) (by simp)))))))))))
noncomputable def sgArgs (i : Int) (n : Nat) (v u : Int) (k c : Sl) (t : SV) : List SV := [.agg [.int .i64 (.lit i), .int .i64 (.sym v), k.valN 4 n], .int .i64 (.sym u), c.valN 5 16, t]
noncomputable def sg1T (F : HashF) (E D : CtsF) (v u : Int) (k c t : Sl) : Tree := callSim (cfgSG F E D (usOkS 1 kv1)) 8000 7 (sgArgs 1 16 v u k c (t.val 6)) (shaHP [k.row, c.row, t.row])
noncomputable def sg1N (F : HashF) (E D : CtsF) (v u : Int) (k c : Sl) : Tree := callSim (cfgSG F E D (usOkS 1 kv1)) 8000 7 (sgArgs 1 16 v u k c .nilSlice) (shaHP [k.row, c.row])
noncomputable def sg2T (F : HashF) (E D : CtsF) (v u : Int) (k c t : Sl) : Tree := callSim (cfgSG F E D (usOkS 2 kv2)) 8000 7 (sgArgs 2 32 v u k c (t.val 6)) (shaHP [k.row, c.row, t.row])
noncomputable def sg2N (F : HashF) (E D : CtsF) (v u : Int) (k c : Sl) : Tree := callSim (cfgSG F E D (usOkS 2 kv2)) 8000 7 (sgArgs 2 32 v u k c .nilSlice) (shaHP [k.row, c.row])
/-- a slice that is the whole of its block -/
noncomputable def allSl (X : Nat → BitVec 8) (n : Nat) : Sl := ⟨X, n, 0, n, true, 0⟩
noncomputable def nilSl : Sl := ⟨fun _ => 0#8, 0, 0, 0, false, 0⟩
noncomputable def usQ1 (i : Int) (v u : Int) (l : Nat) : Prop := i = i ∧ validK i v l ∧ 1 ≤ u ∧ u ≤ 1023
/-- the ciphertexts, by what is joined -/
noncomputable def cpA (F : HashF) (E : CtsF) (k : Sl) (u : Int) (M : Nat → BitVec 8) (n : Nat) : Sl := allSl (byteAt (E (block16 (dkS F k 16 u 0xaa#8).X 0) (block16 z16.X 0) (fun j => M (0 + j)) n)) n
noncomputable def tgA (F : HashF) (k : Sl) (u : Int) (x : Sl) : Sl := ⟨byteAt (tabB (byteAt (tagB F (dkS F k 16 u 0x55#8) x)) 32), 32, 0, 16, false, 16⟩
noncomputable def tgB (F : HashF) (k : Sl) (u : Int) (x : Sl) : Sl := ⟨byteAt (tabB (byteAt (tagS F (dkS F k 32 u 0x55#8) x)) 32), 32, 0, 32, false, 32⟩
noncomputable def sgO (nm : Nat) (i v : Int) (x y : Sl) (n : Nat) : Option (SV × List (Option SO)) := some (seV nm i (.sym v) n, [some (.own (.fn (byteF (two x y)) n) false 5)])
noncomputable def tgC (k : Sl) (dk x y : Sl) (n : Nat) : List Prop := [IsB (byteF k.X), k.o + n ≤ k.N, IsB (byteF x.X), okK dk ∧ okL x, IsB (byteF x.X), (okL x ∧ x.n ≠ 0) ∧ okL y]
noncomputable def c1C (F : HashF) (E : CtsF) (k : Sl) (u : Int) (M : Nat → BitVec 8) (n : Nat) (r : List Prop) : List Prop := IsB (byteF M) :: (0 + n ≤ n ∧ n ≤ 224) :: app (tgC k (dkS F k 16 u 0x55#8) (cpA F E k u M n) (tgA F k u (cpA F E k u M n)) 16) r
section
variable (F : HashF) (E D : CtsF) (v u : Int) (k c t : Sl) (m m2 m3 : Nat)
theorem sg1_run : outO [20] (sg1T F E D v u (k.pl m) (c.pl m2) (t.pl m3)) [false, false, true] =
    (usQ1 1 v u 16 :: (decide ((t.n : Int) > 65536) = false) :: IsB (byteF k.X) :: (k.o + 16 ≤ k.N) :: IsB (byteF c.X) :: IsB (byteF t.X) :: ((okL (c.len 16) ∧ 16 ≠ 0) ∧ okL t) :: (0 + 16 ≤ 16) :: (0 + 16 ≤ 16) :: (decide (16 + t.n < 16) = false) :: (decide (16 + t.n < 131073) = true) :: c1C F E k u (two (c.len 16) t) (16 + t.n) [],
     sgO 20 1 v (cpA F E k u (two (c.len 16) t) (16 + t.n)) (tgA F k u (cpA F E k u (two (c.len 16) t) (16 + t.n))) (16 + t.n + 16)) := by kernel_rfl
theorem sg1_nil : outO [19] (sg1N F E D v u (k.pl m) (c.pl m2)) [false, true] =
    (usQ1 1 v u 16 :: IsB (byteF k.X) :: (k.o + 16 ≤ k.N) :: IsB (byteF c.X) :: (okL (c.len 16) ∧ 16 ≠ 0) :: (0 + 16 ≤ 16) :: (0 + 16 ≤ 16) :: (decide (16 < 16) = false) :: (decide (16 < 131073) = true) :: c1C F E k u (c.len 16).F 16 [], sgO 19 1 v (cpA F E k u (c.len 16).F 16) (tgA F k u (cpA F E k u (c.len 16).F 16)) (16 + 16)) := by kernel_rfl
noncomputable def str2 : Sl := allSl (strG F (dkS F k 32 u 0xaa#8) (c.len 16) t) t.n
noncomputable def cpB : Sl := allSl (two (c.len 16) (str2 F u k c t)) (16 + t.n)
noncomputable def c2C (r : List Prop) : List Prop := usQ1 2 v u 32 :: (decide ((t.n : Int) > 65536) = false) :: IsB (byteF k.X) :: (k.o + 32 ≤ k.N) :: IsB (byteF c.X) :: IsB (byteF t.X) :: (okK (dkS F k 32 u 0xaa#8) ∧ okL (c.len 16) ∧ okL t) :: r
theorem sg2_run : outO [19] (sg2T F E D v u (k.pl m) (c.pl m2) (t.pl m3)) [false, false] =
    (c2C F v u k c t ((((t.n : Int) == 0) = false) :: IsB (byteF c.X) :: IsB (byteF (str2 F u k c t).X) :: ((okL (c.len 16) ∧ 16 ≠ 0) ∧ okL (str2 F u k c t)) :: tgC k (dkS F k 32 u 0x55#8) (cpB F u k c t) (tgB F k u (cpB F u k c t)) 32), sgO 19 2 v (cpB F u k c t) (tgB F k u (cpB F u k c t)) (16 + t.n + 32)) := by kernel_rfl
noncomputable def c2N (r : List Prop) : List Prop := IsB (byteF c.X) :: (okL (c.len 16) ∧ 16 ≠ 0) :: app (tgC k (dkS F k 32 u 0x55#8) (allSl (c.len 16).F 16) (tgB F k u (allSl (c.len 16).F 16)) 32) r
theorem sg2_zero : outO [18] (sg2T F E D v u (k.pl m) (c.pl m2) (t.pl m3)) [false, true] =
    (c2C F v u k c t ((((t.n : Int) == 0) = true) :: c2N F u k c []), sgO 18 2 v (allSl (c.len 16).F 16) (tgB F k u (allSl (c.len 16).F 16)) (16 + 32)) := by kernel_rfl
theorem sg2_nil : outO [17] (sg2N F E D v u (k.pl m) (c.pl m2)) [] =
    (usQ1 2 v u 32 :: IsB (byteF k.X) :: (k.o + 32 ≤ k.N) :: IsB (byteF c.X) :: c2N F u k c [], sgO 17 2 v (allSl (c.len 16).F 16) (tgB F k u (allSl (c.len 16).F 16)) (16 + 32)) := by kernel_rfl
end
end Go.Proofs.YtbmgahpjgefjaaaDoor.Aes


/-
  The profiles: Seal, where it is told that the key and the usage are valid: its summary.
-/
namespace Go.Proofs.YtbmgahpjgefjaaaDoor.Aes
open Go.Sim
open Go.Proofs
variable {α : Type}

set_option maxRecDepth 100000
/- Plain facts: what is behind the end of a string does not matter. -/
theorem macB_congr {K : Nat → BitVec 8} {n : Nat} {M M' : Nat → BitVec 8} {m : Nat} (h : ∀ i, i < m → M i = M' i) : macB shaF K n M m = macB shaF K n M' m := by
  unfold macB
  rw [shaF_congr (X := catF (xorP shaF K n 0x36#8) 64 M) (Y := catF (xorP shaF K n 0x36#8) 64 M') fun i hi => ?_]
  unfold catF
  by_cases c : i < 64
  · rw [if_pos c, if_pos c]
  · rw [if_neg c, if_neg c]; exact h _ (by omega)
theorem encF_congr {K V : Blk} {P P' : Nat → BitVec 8} {l : Nat} (h : ∀ i, i < l → P i = P' i) : encF K V P l = encF K V P' l := by
  unfold encF encBs
  rw [show cpadF P l = cpadF P' l from funext fun j => by
    unfold cpadF
    by_cases c : j < l
    · rw [if_pos c, if_pos c, h j c]
    · rw [if_neg c, if_neg c]]
theorem two_at {a b : Sl} {i : Nat} : two a b i = if i < a.n then a.X (a.o + i) else b.X (b.o + (i - a.n)) := rfl
/-- two slices of the same bytes -/
def SlEq (x y : Sl) : Prop := x.n = y.n ∧ ∀ i, i < x.n → x.X (x.o + i) = y.X (y.o + i)
theorem tagS_congr {k x y : Sl} (h : SlEq x y) : tagS shaF k x = tagS shaF k y := by
  unfold tagS
  rw [← h.1]
  exact macB_congr fun i hi => h.2 i hi
theorem tagB_congr {k x y : Sl} (h : SlEq x y) : tagB shaF k x = tagB shaF k y := by
  unfold tagB
  rw [← h.1]
  refine macB_congr fun i hi => ?_
  rw [two_at, two_at]
  by_cases c : i < z16.n
  · rw [if_pos c, if_pos c]
  · rw [if_neg c, if_neg c]
    exact h.2 _ (by have : z16.n = 16 := rfl; omega)
theorem cpA_congr {k : Sl} {u : Int} {M M' : Nat → BitVec 8} {n : Nat} (h : ∀ i, i < n → M i = M' i) : cpA shaF encF k u M n = cpA shaF encF k u M' n := by
  unfold cpA
  rw [encF_congr (P := fun j => M (0 + j)) (P' := fun j => M' (0 + j)) fun i hi => by rw [Nat.zero_add]; exact h i hi]
theorem tgB_congr {k : Sl} {u : Int} {x y : Sl} (h : SlEq x y) : tgB shaF k u x = tgB shaF k u y := by
  unfold tgB; rw [tagS_congr h]
theorem two_congr {a b a' b' : Sl} (ha : SlEq a a') (hb : SlEq b b') {i : Nat} (hi : i < a.n + b.n) : two a b i = two a' b' i := by
  rw [two_at, two_at, ← ha.1]
  by_cases c : i < a.n
  · rw [if_pos c, if_pos c]; exact ha.2 i c
  · rw [if_neg c, if_neg c]; exact hb.2 _ (by omega)
/-- the ciphertext, the tag, the sealed string -/
noncomputable def tagN (i : Nat) : Nat := boolC (Nat.beq i 1) 16 32
noncomputable def sealC (F : HashF) (E : CtsF) (i : Nat) (k : Sl) (u : Int) (c t : Sl) : Sl := boolC (Nat.beq i 1) (cpA F E k u (two (c.len 16) t) (16 + t.n)) (cpB F u k c t)
noncomputable def sealT (F : HashF) (i : Nat) (k : Sl) (u : Int) (x : Sl) : Sl := boolC (Nat.beq i 1) (tgA F k u x) (tgB F k u x)
noncomputable def sealB (F : HashF) (E : CtsF) (i : Nat) (k : Sl) (u : Int) (c t : Sl) : Nat → BitVec 8 := two (sealC F E i k u c t) (sealT F i k u (sealC F E i k u c t))
noncomputable def optL (o : Option Nat) : List Nat := optC o [] fun n => [n]
noncomputable def txtL (H : List SO) (v : SV) (f : Sl → Option Nat → R α) : R α := sliceR v (f nilSl none) fun _ _ => partL H v fun t tn => f t (some tn)
noncomputable def sgV2 (base : Nat) (p v : SI) (n : Nat) : SV := .tuple [.agg [.int .i64 p, .int .i64 v, joinV base n], .int .i64 (.lit 0)]
noncomputable def sealGS (F : HashF) (E : CtsF) (i : Nat) : Summ := fun args H base => args4 args fun kv uv cv tv => kv.asAgg (.stuck 830) fun l => args3 l fun p v s => i64O p fun p => i64O v fun v => i64O uv fun u => shaTP H (partL H s fun k kn => partL H cv fun c cn => txtL H tv fun t tn =>
  boolC (distN (kn :: cn :: optL tn)) (.need (p.den = (i : Int) ∧ usQ i v.den u.den k.n ∧ c.n = 16 ∧ okL k ∧ okL c ∧ okL t ∧ t.n ≤ 208) (.ok ⟨sgV2 base p v (16 + t.n + tagN i), [], [.own (.fn (byteF (sealB F E i k u.den c t)) (16 + t.n + tagN i)) false 5]⟩)) (.stuck 830))
theorem endsS2 {I : Ifc} {base j n n' : Nat} {i : Int} {p v : SI} {X X' : Nat → BitVec 8} {H : List SO} (hj : I.known j = false) (ho : ownsOf I.ents 0 = []) (hp : p.den = i) (hE : H[j]? = some (.own (.fn (byteF X) n) false 5)) (hn : n = n') (hX : ∀ x, x < n → X x = X' x) :
    I.Ends base [j] ⟨sgV2 base p v n', [], [.own (.fn (byteF X') n') false 5]⟩ (seV j i (.sym v.den) n) H := by
  subst hn
  have ho' : I.out base [j] j = base := by
    unfold Ifc.out
    rw [hj]
    show base + idxN j [j] = base
    rw [show idxN j [j] = boolC (Nat.beq j j) 0 _ from rfl, Nat.beq_refl]; rfl
  have hs : I.seen [j] j = true := by
    unfold Ifc.seen
    rw [hj]
    exact (memN_iff (n := j) (l := [j])).2 List.mem_cons_self
  refine ⟨?_, ?_, by rw [ho]; trivial, ⟨given_bytesP hE hX, trivial⟩⟩
  · show (SV.tuple [.agg [.int .i64 (.lit i), .int .i64 (.sym v.den), .slice ⟨I.out base [j] j, .lit 0⟩ (.sym n) (.rest (I.out base [j] j) 0)], .int .i64 (.lit 0)]).Imp _
    rw [ho']
    subst hp
    intro γ x hx
    simp only [SV.den, SV.denL, Option.map_eq_some_iff, Option.bind_eq_some_iff] at hx
    unfold sgV2 joinV
    simp only [SV.den, SV.denL, Option.map_eq_some_iff, Option.bind_eq_some_iff]
    exact hx
  · show ((true && (true && ((I.seen [j] j && I.seen [j] j) && true))) && (true && true)) = true
    rw [hs]; rfl
theorem Sl.val_denN {t : Sl} {nm n : Nat} (hn : t.n = n) {γ : Val} {x : Value} (h : (t.val nm).den γ = some x) : ∃ m, ((t.pl m).valN nm n).den γ = some x := by
  subst hn
  obtain ⟨m, _, hd⟩ := Sl.val_den h
  exact ⟨m, slice_len_imp (l := .sym t.n) (l' := .lit t.n) rfl _ _ hd⟩
theorem txtL_sat {H : List SO} {v : SV} {f : Sl → Option Nat → R α} {φ : α → Prop} (h0 : v = .nilSlice → (f nilSl none).Sat φ) (h : ∀ t nm, newOne nm = true → (∀ g, ∃ e', H[nm]? = some e' ∧ Taken g t.row e') → v.Imp (t.val nm) → (f t (some nm)).Sat φ) : (txtL H v f).Sat φ :=
  sliceR_sat h0 fun _ _ _ _ => partL_sat fun t tn hn ht hi => h t tn hn ht hi
theorem sealGOK {i : Nat} (hi12 : i = 1 ∨ i = 2) : SumAt Tryd.prog globP 7 (sealGS shaF encF i) := by
  intro O w0 β H w base args vs hH hG ha
  refine args4_sat fun kv uv cv tv hv => ?_
  rcases asAgg_cases kv with ⟨l, rfl⟩ | hno
  case inr => rw [hno]; trivial
  refine args3_sat fun p v s hl => i64O_sat fun p' hp => i64O_sat fun v' hv' => i64O_sat fun u hu => shaTP_sat fun hT => partL_sat fun k kn hn1 ht1 hi1 => partL_sat fun c cn hn2 ht2 hi2 => ?_
  subst hl hp hv' hu
  rw [hv] at ha
  obtain ⟨⟨xs, hxs⟩, zs, hzs⟩ := agg3_at ha
  obtain ⟨xu, zs1, hxu, hzs1, rfl⟩ := denL_cons.1 hzs
  obtain ⟨xc, zs2, hxc, hzs2, rfl⟩ := denL_cons.1 hzs1
  obtain ⟨xt, zs3, hxt, hzs3, rfl⟩ := denL_cons.1 hzs2
  -- the arguments, in small names
  have harg : ∀ (n0 m m2 : Nat) (tv' : SV), ((k.pl m).valN kn n0).den β = some xs → ((c.pl m2).valN cn 16).den β = some xc → p'.den = (i : Int) → tv'.den β = some xt → SV.denL β [.agg [.int .i64 (.lit i), .int .i64 (.sym v'.den), (k.pl m).valN kn n0], .int .i64 (.sym u.den), (c.pl m2).valN cn 16, tv'] = some vs := by
    intro n0 m m2 tv' hks hcs hpi htv
    have h1 := agg3_den (s' := (k.pl m).valN kn n0) (p' := .int .i64 (.lit i)) (v' := .int .i64 (.sym v'.den)) ha (fun x hx => by rw [hxs] at hx; cases hx; exact hks) (int_imp0 hpi) (int_imp0 rfl)
    obtain ⟨xa, ws, hxa, hws, rfl⟩ := denL_cons.1 h1
    refine denL_cons.2 ⟨_, _, hxa, ?_, rfl⟩
    rw [hzs] at hws
    cases hws
    exact denL_cons.2 ⟨_, _, int_imp0 rfl _ _ hxu, denL_cons.2 ⟨_, _, hcs, denL_cons.2 ⟨_, _, htv, hzs3, rfl⟩, rfl⟩, rfl⟩
  have hdk : ∀ (n : Nat) (x : BitVec 8), n ≤ 32 → okK (dkS shaF k n u.den x) := fun n x hn => ⟨by show 0 + n ≤ n; omega, by show n ≤ 4096; omega⟩
  have hallo : ∀ {X : Nat → BitVec 8} {n : Nat}, n ≤ 1099511627776 → okL (allSl X n) := fun h => ⟨by show 0 + _ ≤ _; rw [Nat.zero_add]; exact Nat.le_refl _, h⟩
  have htg : ∀ {n0 : Nat} {x y : Sl} {b : BitVec 8}, n0 ≤ 32 → k.o + n0 ≤ k.N → okL x → x.n ≠ 0 → okL y → ∀ q ∈ tgC k (dkS shaF k n0 u.den b) x y n0, q := fun h1 h2 hx h0 hy => all_cons (byteF_isB _) (all_cons h2 (all_cons (byteF_isB _) (all_cons ⟨hdk _ _ h1, hx⟩ (all_cons (byteF_isB _) (all_cons ⟨⟨hx, h0⟩, hy⟩ all_nil)))))
  have hc1 : ∀ {M : Nat → BitVec 8} {n : Nat}, n ≠ 0 → n ≤ 224 → k.o + 16 ≤ k.N → ∀ q ∈ c1C shaF encF k u.den M n [], q := fun h0 hn hk => all_cons (byteF_isB _) (all_cons ⟨by omega, hn⟩ (htg (by omega) hk (hallo (by omega)) h0 ⟨by show 0 + 16 ≤ 32; omega, by show 16 ≤ _; omega⟩))
  have n3 : ∀ {x : Nat}, x ∈ [kn, cn] → newOne x = true := by simp only [List.mem_cons, List.not_mem_nil, or_false]; rintro x (rfl | rfl) <;> assumption
  refine txtL_sat (fun hnil => boolC_only fun hd => fun ⟨hpi, hq, hc16, hk, hc, _, _⟩ => ?_) fun t tn hn3 ht3 hi3 => boolC_only fun hd => fun ⟨hpi, hq, hc16, hk, hc, ht, h208⟩ => ?_
  · -- no text
    subst hnil
    obtain ⟨m2, hcs⟩ := Sl.val_denN hc16 (hi2 _ _ hxc)
    have hc' : okL (c.len 16) := by rw [← hc16]; exact hc
    have fit : ∀ (n0 m : Nat) (j0 : Int), Ifc.Fits (shaIP [kn, cn] [(k.pl m).row, (c.pl m2).row] (sgArgs j0 n0 v'.den u.den (k.pl m) (c.pl m2) .nilSlice)) H := fun n0 m j0 => by
      exact Ifc.fits (nd4 hd fun _ => n3) rfl (shaIP_ents hT ⟨⟨ht1 _, k.row_uses _⟩, ⟨ht2 _, c.row_uses _⟩, trivial⟩)
    have arg : ∀ {n0 m : Nat}, ((k.pl m).valN kn n0).den β = some xs → SV.denL β (SV.renL (shaIP [kn, cn] [(k.pl m).row, (c.pl m2).row] (sgArgs i n0 v'.den u.den (k.pl m) (c.pl m2) .nilSlice)).big (sgArgs i n0 v'.den u.den (k.pl m) (c.pl m2) .nilSlice)) = some vs := fun {n0 m} hks => by
      show SV.denL β [.agg [.int .i64 (.lit i), .int .i64 (.sym v'.den), ((k.pl m).valN 4 n0).ren _], .int .i64 (.sym u.den), ((c.pl m2).valN 5 16).ren _, .nilSlice] = _
      rw [Sl.valN_ren, Sl.valN_ren]
      exact harg n0 m m2 .nilSlice hks hcs hpi hxt
    have e16 : ∀ x, x < 16 → (c.len 16).F x = two (c.len 16) nilSl x := fun x hx => by rw [two_at, if_pos (show x < (c.len 16).n from hx)]; rfl
    rcases hi12 with rfl | rfl
    · have hkn : k.n = 16 := by rcases hq.1.1 with ⟨_, h⟩ | ⟨h, _⟩; exact h; cases h
      obtain ⟨m, hks⟩ := Sl.val_denN hkn (hi1 _ _ hxs)
      have hk16 : k.o + 16 ≤ k.N := by rw [← hkn]; exact hk.1
      refine sum_outOG (cfgSGOK (usOkOK (.inl ⟨rfl, rfl⟩))) 8000 hH (shaIP [kn, cn] [(k.pl m).row, (c.pl m2).row] (sgArgs 1 16 v'.den u.den (k.pl m) (c.pl m2) .nilSlice)) (shaIP_glob hG) (arg hks) (fit 16 m 1) [19] (by simp [shaIP]) (by simp) (sg1_nil shaF encF decF v'.den u.den k c m m2) ?_ fun H2 hH2 => endsS2 rfl rfl hpi (List.cons.inj hH2).1 rfl fun x _ => ?_
      · rw [hkn] at hq
        exact all_cons ⟨rfl, hq⟩ (all_cons (byteF_isB _) (all_cons hk16 (all_cons (byteF_isB _) (all_cons ⟨hc', by omega⟩ (all_cons (by omega) (all_cons (by omega) (all_cons (decide_eq_false (by omega)) (all_cons (decide_eq_true (by omega)) (hc1 (by omega) (by omega) hk16)))))))))
      · show two _ _ x = two (cpA shaF encF k u.den (two (c.len 16) nilSl) 16) (tgA shaF k u.den (cpA shaF encF k u.den (two (c.len 16) nilSl) 16)) x
        rw [cpA_congr e16]
    · have hkn : k.n = 32 := by rcases hq.1.1 with ⟨h, _⟩ | ⟨_, h⟩; cases h; exact h
      obtain ⟨m, hks⟩ := Sl.val_denN hkn (hi1 _ _ hxs)
      have hk16 : k.o + 32 ≤ k.N := by rw [← hkn]; exact hk.1
      refine sum_outOG (cfgSGOK (usOkOK (.inr ⟨rfl, rfl⟩))) 8000 hH (shaIP [kn, cn] [(k.pl m).row, (c.pl m2).row] (sgArgs 2 32 v'.den u.den (k.pl m) (c.pl m2) .nilSlice)) (shaIP_glob hG) (arg hks) (fit 32 m 2) [17] (by simp [shaIP]) (by simp) (sg2_nil shaF encF decF v'.den u.den k c m m2) ?_ fun H2 hH2 => endsS2 rfl rfl hpi (List.cons.inj hH2).1 rfl fun x hx => ?_
      · rw [hkn] at hq
        exact all_cons ⟨rfl, hq⟩ (all_cons (byteF_isB _) (all_cons hk16 (all_cons (byteF_isB _) (all_cons (byteF_isB _) (all_cons ⟨hc', by omega⟩ (htg (by omega) hk16 (hallo (by omega)) (by show 16 ≠ 0; omega) ⟨by show 0 + 32 ≤ 32; omega, by show 32 ≤ _; omega⟩))))))
      · have hE : SlEq (allSl (c.len 16).F 16) (cpB shaF u.den k c nilSl) := ⟨rfl, fun j hj => by show (c.len 16).F (0 + j) = two (c.len 16) (str2 shaF u.den k c nilSl) (0 + j); rw [Nat.zero_add, two_at, if_pos (show j < (c.len 16).n from hj)]; rfl⟩
        show two (allSl (c.len 16).F 16) (tgB shaF k u.den (allSl (c.len 16).F 16)) x = two (cpB shaF u.den k c nilSl) (tgB shaF k u.den (cpB shaF u.den k c nilSl)) x
        rw [tgB_congr hE]
        exact two_congr hE ⟨rfl, fun _ _ => rfl⟩ hx
  · obtain ⟨m2, hcs⟩ := Sl.val_denN hc16 (hi2 _ _ hxc)
    obtain ⟨m3, _, hts⟩ := Sl.val_den (hi3 _ _ hxt)
    have hc' : okL (c.len 16) := by rw [← hc16]; exact hc
    have n4 : ∀ {x : Nat}, x ∈ [kn, cn, tn] → newOne x = true := by simp only [List.mem_cons, List.not_mem_nil, or_false]; rintro x (rfl | rfl | rfl) <;> assumption
    have fit : ∀ (n0 m : Nat) (j0 : Int), Ifc.Fits (shaIP [kn, cn, tn] [(k.pl m).row, (c.pl m2).row, (t.pl m3).row] (sgArgs j0 n0 v'.den u.den (k.pl m) (c.pl m2) ((t.pl m3).val 6))) H := fun n0 m j0 =>
      Ifc.fits (nd4 hd fun _ => n4) rfl (shaIP_ents hT ⟨⟨ht1 _, k.row_uses _⟩, ⟨ht2 _, c.row_uses _⟩, ⟨ht3 _, t.row_uses _⟩, trivial⟩)
    have arg : ∀ {n0 m : Nat}, ((k.pl m).valN kn n0).den β = some xs → SV.denL β (SV.renL (shaIP [kn, cn, tn] [(k.pl m).row, (c.pl m2).row, (t.pl m3).row] (sgArgs i n0 v'.den u.den (k.pl m) (c.pl m2) ((t.pl m3).val 6))).big (sgArgs i n0 v'.den u.den (k.pl m) (c.pl m2) ((t.pl m3).val 6))) = some vs := fun {n0 m} hks => by
      show SV.denL β [.agg [.int .i64 (.lit i), .int .i64 (.sym v'.den), ((k.pl m).valN 4 n0).ren _], .int .i64 (.sym u.den), ((c.pl m2).valN 5 16).ren _, ((t.pl m3).val 6).ren _] = _
      rw [Sl.valN_ren, Sl.valN_ren, Sl.val_ren]
      exact harg n0 m m2 ((t.pl m3).val tn) hks hcs hpi hts
    have ht0 : decide ((t.n : Int) > 65536) = false := decide_eq_false (by omega)
    rcases hi12 with rfl | rfl
    · have hkn : k.n = 16 := by rcases hq.1.1 with ⟨_, h⟩ | ⟨h, _⟩; exact h; cases h
      obtain ⟨m, hks⟩ := Sl.val_denN hkn (hi1 _ _ hxs)
      have hk16 : k.o + 16 ≤ k.N := by rw [← hkn]; exact hk.1
      refine sum_outOG (cfgSGOK (usOkOK (.inl ⟨rfl, rfl⟩))) 8000 hH (shaIP [kn, cn, tn] [(k.pl m).row, (c.pl m2).row, (t.pl m3).row] (sgArgs 1 16 v'.den u.den (k.pl m) (c.pl m2) ((t.pl m3).val 6))) (shaIP_glob hG) (arg hks) (fit 16 m 1) [20] (by simp [shaIP]) (by simp) (sg1_run shaF encF decF v'.den u.den k c t m m2 m3) ?_ fun H2 hH2 => endsS2 rfl rfl hpi (List.cons.inj hH2).1 rfl fun x _ => rfl
      rw [hkn] at hq
      exact all_cons ⟨rfl, hq⟩ (all_cons ht0 (all_cons (byteF_isB _) (all_cons hk16 (all_cons (byteF_isB _) (all_cons (byteF_isB _) (all_cons ⟨⟨hc', by omega⟩, ht⟩ (all_cons (by omega) (all_cons (by omega) (all_cons (decide_eq_false (by omega)) (all_cons (decide_eq_true (by omega)) (hc1 (by omega) (by omega) hk16)))))))))))
    · have hkn : k.n = 32 := by rcases hq.1.1 with ⟨h, _⟩ | ⟨_, h⟩; cases h; exact h
      obtain ⟨m, hks⟩ := Sl.val_denN hkn (hi1 _ _ hxs)
      have hk16 : k.o + 32 ≤ k.N := by rw [← hkn]; exact hk.1
      rw [hkn] at hq
      have hpre : ∀ {r : List Prop}, (∀ q ∈ r, q) → ∀ q ∈ c2C shaF v'.den u.den k c t r, q := fun hr => all_cons ⟨rfl, hq⟩ (all_cons ht0 (all_cons (byteF_isB _) (all_cons hk16 (all_cons (byteF_isB _) (all_cons (byteF_isB _) (all_cons ⟨hdk _ _ (by omega), hc', ht⟩ hr))))))
      have hy : ∀ {x : Sl}, okL (tgB shaF k u.den x) := ⟨by show 0 + 32 ≤ 32; omega, by show 32 ≤ _; omega⟩
      by_cases h0 : (t.n : Int) = 0
      · have h0' : t.n = 0 := by omega
        refine sum_outOG (cfgSGOK (usOkOK (.inr ⟨rfl, rfl⟩))) 8000 hH (shaIP [kn, cn, tn] [(k.pl m).row, (c.pl m2).row, (t.pl m3).row] (sgArgs 2 32 v'.den u.den (k.pl m) (c.pl m2) ((t.pl m3).val 6))) (shaIP_glob hG) (arg hks) (fit 32 m 2) [18] (by simp [shaIP]) (by simp) (sg2_zero shaF encF decF v'.den u.den k c t m m2 m3) ?_ fun H2 hH2 => endsS2 rfl rfl hpi (List.cons.inj hH2).1 (by rw [h0']; rfl) fun x hx => ?_
        · exact hpre (all_cons (by rw [h0]; rfl) (all_cons (byteF_isB _) (all_cons ⟨hc', by omega⟩ (htg (by omega) hk16 (hallo (by omega)) (by show 16 ≠ 0; omega) hy))))
        · have hE : SlEq (allSl (c.len 16).F 16) (cpB shaF u.den k c t) := ⟨by show 16 = 16 + t.n; omega, fun j hj => by show (c.len 16).F (0 + j) = two (c.len 16) (str2 shaF u.den k c t) (0 + j); rw [Nat.zero_add, two_at, if_pos (show j < (c.len 16).n from hj)]; rfl⟩
          show two (allSl (c.len 16).F 16) (tgB shaF k u.den (allSl (c.len 16).F 16)) x = two (cpB shaF u.den k c t) (tgB shaF k u.den (cpB shaF u.den k c t)) x
          rw [tgB_congr hE]
          exact two_congr hE ⟨rfl, fun _ _ => rfl⟩ hx
      · refine sum_outOG (cfgSGOK (usOkOK (.inr ⟨rfl, rfl⟩))) 8000 hH (shaIP [kn, cn, tn] [(k.pl m).row, (c.pl m2).row, (t.pl m3).row] (sgArgs 2 32 v'.den u.den (k.pl m) (c.pl m2) ((t.pl m3).val 6))) (shaIP_glob hG) (arg hks) (fit 32 m 2) [19] (by simp [shaIP]) (by simp) (sg2_run shaF encF decF v'.den u.den k c t m m2 m3) ?_ fun H2 hH2 => endsS2 rfl rfl hpi (List.cons.inj hH2).1 rfl fun x _ => rfl
        have hst : okL (str2 shaF u.den k c t) := hallo (by omega)
        exact hpre (all_cons (by rw [beq_eq_false_iff_ne]; exact h0) (all_cons (byteF_isB _) (all_cons (byteF_isB _) (all_cons ⟨⟨hc', by omega⟩, hst⟩ (htg (by omega) hk16 (hallo (by omega)) (by show 16 + t.n ≠ 0; omega) hy)))))
end Go.Proofs.YtbmgahpjgefjaaaDoor.Aes


/-
  The keyed hash: Equal's summary, for strings of which the first has 16 or 32 bytes.
-/
namespace Go.Proofs.YtbmgahpjgefjaaaDoor.Aes
open Go.Sim
open Go.Proofs
variable {α : Type}

set_option maxRecDepth 1000000
noncomputable def eqT (n : Nat) (a b : Sl) : Tree := callSim cfg0 4000 21 [a.valN 0 n, b.val 1] [a.row, b.row]
noncomputable def orF (X Y : Nat → BitVec 8) (n : Nat) : BitVec 8 := Nat.rec (motive := fun _ => BitVec 8) (BitVec.ofInt 8 0) (fun j ih => ih ||| (X j ^^^ Y j)) n
noncomputable def eqC (a b : Sl) (n : Nat) : List Prop := Nat.rec (motive := fun _ => Nat → List Prop) (fun _ => []) (fun _ ih j => (a.o + j < a.N) :: (j < b.n) :: (b.o + j < b.N) :: ih (Nat.succ j)) n 0
section
variable (a b : Sl) (m m2 : Nat)
theorem eq_16 : outO [] (eqT 16 (a.pl m) (b.pl m2)) [false] = ((((16 : Int) != b.n) = false) :: eqC a b 16, some (.bool (.sym (((orF a.F b.F 16).toNat : Int) == 0)), [])) := by kernel_rfl
theorem eq_32 : outO [] (eqT 32 (a.pl m) (b.pl m2)) [false] = ((((32 : Int) != b.n) = false) :: eqC a b 32, some (.bool (.sym (((orF a.F b.F 32).toNat : Int) == 0)), [])) := by kernel_rfl
theorem eq_16n : outO [] (eqT 16 (a.pl m) (b.pl m2)) [true] = ([((16 : Int) != b.n) = true], some (.bool (.lit false), [])) := by kernel_rfl
theorem eq_32n : outO [] (eqT 32 (a.pl m) (b.pl m2)) [true] = ([((32 : Int) != b.n) = true], some (.bool (.lit false), [])) := by kernel_rfl
noncomputable def eqN (n : Nat) (a : Sl) : Tree := callSim cfg0 4000 21 [a.valN 0 n, .nilSlice] [a.row]
theorem eq_nil16 : outO [] (eqN 16 (a.pl m)) [] = ([], some (.bool (.lit false), [])) := by kernel_rfl
theorem eq_nil32 : outO [] (eqN 32 (a.pl m)) [] = ([], some (.bool (.lit false), [])) := by kernel_rfl
end
theorem orF_zero (X Y : Nat → BitVec 8) : ∀ n, orF X Y n = 0#8 ↔ ∀ i, i < n → X i = Y i
  | 0 => ⟨fun _ i h => absurd h (Nat.not_lt_zero i), fun _ => rfl⟩
  | n + 1 => by
    show orF X Y n ||| (X n ^^^ Y n) = 0#8 ↔ _
    rw [BitVec.or_eq_zero_iff, orF_zero X Y n, BitVec.xor_eq_zero_iff]
    constructor
    · rintro ⟨h, h'⟩ i hi
      by_cases c : i = n
      · rw [c]; exact h'
      · exact h i (by omega)
    · exact fun h => ⟨fun i hi => h i (by omega), h n (by omega)⟩
theorem eqC_all {a b : Sl} {n : Nat} (ha : a.o + n ≤ a.N) (hb : b.o + b.n ≤ b.N) (hn : b.n = n) : ∀ p ∈ eqC a b n, p := by
  have key : ∀ q j, j + q ≤ n → ∀ p ∈ (Nat.rec (motive := fun _ => Nat → List Prop) (fun _ => []) (fun _ ih j => (a.o + j < a.N) :: (j < b.n) :: (b.o + j < b.N) :: ih (Nat.succ j)) q j : List Prop), p := by
    intro q
    induction q with
    | zero => intro j _ p hp; cases hp
    | succ q ih => intro j hj; exact all_cons (by omega) (all_cons (by omega) (all_cons (by omega) (ih (j + 1) (by omega))))
  exact key n 0 (by omega)
noncomputable def eqB (a b : Sl) (n : Nat) : Bool := @decide (b.n = n ∧ ∀ i, i < n → a.F i = b.F i) (Classical.propDecidable _)
theorem eqB_iff {a b : Sl} {n : Nat} : eqB a b n = true ↔ b.n = n ∧ ∀ i, i < n → a.F i = b.F i := by
  unfold eqB; exact @decide_eq_true_iff _ (Classical.propDecidable _)
noncomputable def eqS : Summ := fun args H _ => args2 args fun av bv => partN H av fun a an n => boolC (boolC (Nat.beq n 16) true (Nat.beq n 32)) (sliceR bv (.ok ⟨.bool (.lit false), [], []⟩) fun _ _ => partL H bv fun b bn => boolC (distN [an, bn]) (.need (a.o + n ≤ a.N ∧ okL b) (.ok ⟨.bool (.sym (eqB a b n)), [], []⟩)) (.stuck 831)) (.stuck 831)
theorem endsBo {I : Ifc} {base : Nat} {b b' : SB} {H : List SO} (ho : ownsOf I.ents 0 = []) (h : b.den = b'.den) : I.Ends base [] ⟨.bool b', [], []⟩ (.bool b) H := by
  refine ⟨?_, rfl, by rw [ho]; trivial, trivial⟩
  intro γ x hx
  have hx : some (Value.bool b.den) = some x := by cases b <;> exact hx
  rw [h] at hx
  cases b' <;> exact hx
theorem eqOK : SumOK Tryd.prog 21 eqS := by
  intro glob O w0 β H w base args vs hH hG ha
  refine args2_sat fun av bv hv => partN_sat fun a an n hn1 ht1 hi1 han => boolC_only fun h12 => ?_
  rw [hv] at ha
  obtain ⟨xa, ys, hxa, hys, rfl⟩ := denL_cons.1 ha
  obtain ⟨xb, zs, hxb, hzs, rfl⟩ := denL_cons.1 hys
  obtain ⟨m, has⟩ := Sl.valN_den (hi1 _ _ hxa)
  have h12 : n = 16 ∨ n = 32 := by
    cases h : Nat.beq n 16 with
    | true => exact .inl (beq_spec h)
    | false => rw [h] at h12; exact .inr (beq_spec h12)
  refine sliceR_sat (fun hnil => ?_) fun _ _ _ _ => partL_sat fun b bn hn2 ht2 hi2 => boolC_only fun hd => fun ⟨hao, hb, _⟩ => ?_
  · subst hnil
    have key : ∀ {n cs}, ((a.pl m).valN an n).den β = some xa → outO [] (eqN n (a.pl m)) [] = (cs, some (.bool (.lit false), [])) → (∀ q ∈ cs, q) → SumSem Tryd.prog H β w base 21 (xa :: xb :: zs) ⟨.bool (.lit false), [], []⟩ := by
      intro n cs has hr hc
      refine sum_outO cfg0OK rfl 4000 hH ⟨[an], [(a.pl m).row], [(a.pl m).valN 0 n, .nilSlice]⟩ ?_ (Ifc.fits (by simp) rfl ⟨⟨ht1 _, a.row_uses _⟩, trivial⟩) [] (by simp) (by simp) hr hc fun _ _ => ends0 rfl rfl rfl
      show SV.denL β [((a.pl m).valN 0 n).ren _, .nilSlice] = _
      rw [Sl.valN_ren]
      exact denL_cons.2 ⟨_, _, has, denL_cons.2 ⟨_, _, hxb, hzs, rfl⟩, rfl⟩
    rcases h12 with rfl | rfl
    · exact key has (eq_nil16 a m) all_nil
    · exact key has (eq_nil32 a m) all_nil
  · obtain ⟨m2, _, hbs⟩ := Sl.val_den (hi2 _ _ hxb)
    have key : ∀ {n cs ds} {v : SB}, ((a.pl m).valN an n).den β = some xa → outO [] (eqT n (a.pl m) (b.pl m2)) ds = (cs, some (.bool v, [])) → (∀ q ∈ cs, q) → v.den = eqB a b n → SumSem Tryd.prog H β w base 21 (xa :: xb :: zs) ⟨.bool (.sym (eqB a b n)), [], []⟩ := by
      intro n cs ds v has hr hc hv
      refine sum_outO cfg0OK rfl 4000 hH ⟨[an, bn], [(a.pl m).row, (b.pl m2).row], [(a.pl m).valN 0 n, (b.pl m2).val 1]⟩ ?_ (Ifc.fits (distN_spec hd) rfl ⟨⟨ht1 _, a.row_uses _⟩, ⟨ht2 _, b.row_uses _⟩, trivial⟩) [] (by simp) (by simp) hr hc fun _ _ => endsBo rfl hv
      show SV.denL β [((a.pl m).valN 0 n).ren _, ((b.pl m2).val 1).ren _] = _
      rw [Sl.valN_ren, Sl.val_ren]
      exact denL_cons.2 ⟨_, _, has, denL_cons.2 ⟨_, _, hbs, hzs, rfl⟩, rfl⟩
    have e0 : ∀ {n : Nat}, b.n = n → (SB.sym (((orF a.F b.F n).toNat : Int) == 0)).den = eqB a b n := fun {n} hb => by
      show (((orF a.F b.F n).toNat : Int) == 0) = _
      rw [Bool.eq_iff_iff, eqB_iff, beq_iff_eq, ← orF_zero]
      constructor
      · exact fun h => ⟨hb, BitVec.eq_of_toNat_eq (by show _ = 0; omega)⟩
      · intro ⟨_, h⟩; rw [h]; rfl
    have e1 : ∀ {n : Nat}, b.n ≠ n → (SB.lit false).den = eqB a b n := fun {n} hb => by
      symm
      show eqB a b n = false
      rw [Bool.eq_false_iff]
      exact fun h => hb (eqB_iff.1 h).1
    have c0 : ∀ {n : Nat}, b.n = n → ((n : Int) != b.n) = false := fun h => by rw [h]; simp
    have c1 : ∀ {n : Nat}, b.n ≠ n → ((n : Int) != b.n) = true := fun h => by rw [bne_iff_ne]; omega
    rcases h12 with rfl | rfl
    · by_cases hbn : b.n = 16
      · exact key has (eq_16 a b m m2) (all_cons (c0 hbn) (eqC_all hao hb hbn)) (e0 hbn)
      · exact key has (eq_16n a b m m2) (all_cons (c1 hbn) all_nil) (e1 hbn)
    · by_cases hbn : b.n = 32
      · exact key has (eq_32 a b m m2) (all_cons (c0 hbn) (eqC_all hao hb hbn)) (e0 hbn)
      · exact key has (eq_32n a b m m2) (all_cons (c1 hbn) all_nil) (e1 hbn)
end Go.Proofs.YtbmgahpjgefjaaaDoor.Aes


/-
  The profiles: the key stream, where the confounder and the text lie in one block: the loops.
-/
namespace Go.Proofs.YtbmgahpjgefjaaaDoor.Aes
open Go.Sim
open Go.Proofs
variable {α : Type}

set_option maxRecDepth 1000000
/-- another part of the same block -/
noncomputable def Sl.cut (t : Sl) (o n : Nat) : Sl := ⟨t.X, t.N, o, n, false, 0⟩
noncomputable def shT1 (st : Option (Nat × Nat)) (F : HashF) (k c t : Sl) : Tree := callSim ((cfgSt F).at st) 4000 47 [k.val 4, c.val 5, t.val 5] (shaHP [k.row, t.row])
noncomputable def shS01 (F : HashF) (k c t : Sl) : SS := stopOf (shT1 (some (1, 7)) F k c t) [false, true, true]
noncomputable def shC1 (F : HashF) (k c t : Sl) (A : SgA) : Cut :=
  ⟨bareFs (shS01 F k c t).frames [[(0, k.val 4), (1, c.val 5), (7, .slice ⟨6, .lit 0⟩ (.sym t.n) (.rest 6 0)), (8, .int .i64 (.sym A.i)), (9, .slice ⟨7, .lit 0⟩ (.lit 32) (.lit 32)), (36, .int .i64 (.sym A.L)), (37, .int .i64 (.sym A.j))]],
   [.ent startR, .ent constR, .ent anyR, .ent anyR, .ent k.row, .ent t.row, .ent (.own (.fn (byteF A.G) t.n) false 5), .ent (.own (.lst (bx (tabB A.S 32))) true 64)]⟩
section
variable (F : HashF) (k t : Sl) (o n m m2 m3 : Nat) (A : SgA) (J : Junk) (z : Nat → Nat → Nat)
theorem sh_init1 : outL [] (shC1 F (k.pl m) ((t.cut o n).pl m2) (t.pl m3) A) [0, 1, 2, 3, 4, 5, 7, 10] (shT1 (some (1, 7)) F (k.pl m) ((t.cut o n).pl m2) (t.pl m3)) [false, true, true] z =
    (sg0 k (t.cut o n) t true [0 ≤ (t.n : Int) ∧ (t.n : Int) ≤ t.n, 0 ≤ (t.n : Int).toNat], some (.inr (modSeen [(0, 8, .int .i64 (.lit 0)), (0, 37, .int .i64 (.lit 0))] [] (seenC [0, 1, 2, 3, 4, 5, 7, 10] 11 (shC1 F (k.pl m) ((t.cut o n).pl m2) (t.pl m3) ⟨0, (t.n : Int).toNat, 0, joinG t, sgK F k (t.cut o n) 1⟩))))) := by kernel_rfl
theorem sh_init2 : outL [] (shC1 F (k.pl m) ((t.cut o n).pl m2) (t.pl m3) A) [0, 1, 2, 3, 4, 5, 7, 10] (shT1 (some (1, 7)) F (k.pl m) ((t.cut o n).pl m2) (t.pl m3)) [false, true, false] z =
    (sg0 k (t.cut o n) t false [32 ≤ t.n], some (.inr (modSeen [(0, 8, .int .i64 (.lit 0)), (0, 37, .int .i64 (.lit 0)), (0, 36, .int .i64 (.lit 32))] [] (seenC [0, 1, 2, 3, 4, 5, 7, 10] 11 (shC1 F (k.pl m) ((t.cut o n).pl m2) (t.pl m3) ⟨0, 32, 0, joinG t, sgK F k (t.cut o n) 1⟩))))) := by kernel_rfl
noncomputable def shR1 (st : Option (Nat × Nat)) : Tree := sim1 ((cfgSt F).at st) 4000 ((shC1 F (k.pl m) ((t.cut o n).pl m2) (t.pl m3) A).fill J)
theorem sh_turn : outL [] (shC1 F (k.pl m) ((t.cut o n).pl m2) (t.pl m3) A) [0, 1, 2, 3, 4, 5, 6, 7] (shR1 F k t o n m m2 m3 A J (some (1, 7))) [true] z =
    (sgTurnC t.n A, some (.inr (modSeen [] [(6, .ent (sgE t.n A))] (seenC [0, 1, 2, 3, 4, 5, 6, 7] 8 (shC1 F (k.pl m) ((t.cut o n).pl m2) (t.pl m3) ⟨A.i, A.L, A.j + 1, sgG A, A.S⟩))))) := by kernel_rfl
theorem sh_next1 : outL [] (shC1 F (k.pl m) ((t.cut o n).pl m2) (t.pl m3) A) [0, 1, 2, 3, 4, 5, 6, 10] (shR1 F k t o n m m2 m3 A J (some (1, 7))) [false, true, true] z =
    (sgNextC k (t.cut o n) t A true [0 ≤ (t.n : Int) ∧ (t.n : Int) ≤ t.n, 0 ≤ A.i + 32 ∧ A.i + 32 ≤ ((t.n : Int).toNat : Int)], some (.inr (modSeen [(0, 37, .int .i64 (.lit 0))] [] (seenC [0, 1, 2, 3, 4, 5, 6, 10] 11 (shC1 F (k.pl m) ((t.cut o n).pl m2) (t.pl m3) ⟨A.i + 32, (((t.n : Int).toNat - (A.i + 32).toNat : Nat) : Int), 0, A.G, sgK F k (t.cut o n) (sgV (A.i + 32))⟩))))) := by kernel_rfl
theorem sh_next2 : outL [] (shC1 F (k.pl m) ((t.cut o n).pl m2) (t.pl m3) A) [0, 1, 2, 3, 4, 5, 6, 10] (shR1 F k t o n m m2 m3 A J (some (1, 7))) [false, true, false] z =
    (sgNextC k (t.cut o n) t A false [0 ≤ A.i + 32 + 32 ∧ A.i + 32 + 32 ≤ (t.n : Int), 0 ≤ A.i + 32 ∧ A.i + 32 ≤ ((A.i + 32 + 32).toNat : Int)], some (.inr (modSeen [(0, 37, .int .i64 (.lit 0))] [] (seenC [0, 1, 2, 3, 4, 5, 6, 10] 11 (shC1 F (k.pl m) ((t.cut o n).pl m2) (t.pl m3) ⟨A.i + 32, (((A.i + 32 + 32).toNat - (A.i + 32).toNat : Nat) : Int), 0, A.G, sgK F k (t.cut o n) (sgV (A.i + 32))⟩))))) := by kernel_rfl
theorem sh_end : outL [6] (shC1 F (k.pl m) ((t.cut o n).pl m2) (t.pl m3) A) [0, 1, 2, 3, 4, 5, 6, 7] (shR1 F k t o n m m2 m3 A J none) [false, false] z =
    ([decide ((A.j : Int) < A.L) = false, inI64 (A.i + 32), decide (A.i + 32 < t.n) = false], some (.inl (joinV 6 t.n, [some (.own (.fn (byteF A.G) t.n) false 5)]))) := by kernel_rfl
theorem sh_names (B : SgA) : boolC (namesOK 6 [0, 1, 2, 3, 4, 5, 6, 7] (shC1 F (k.pl m) ((t.cut o n).pl m2) (t.pl m3) A) (shC1 F (k.pl m) ((t.cut o n).pl m2) (t.pl m3) B)) (allN noLoopE (shC1 F (k.pl m) ((t.cut o n).pl m2) (t.pl m3) B).heap) false = true := by kernel_rfl
theorem sh_names2 (B : SgA) : boolC (namesOK 6 [0, 1, 2, 3, 4, 5, 6, 10] (shC1 F (k.pl m) ((t.cut o n).pl m2) (t.pl m3) A) (shC1 F (k.pl m) ((t.cut o n).pl m2) (t.pl m3) B)) (allN noLoopE (shC1 F (k.pl m) ((t.cut o n).pl m2) (t.pl m3) B).heap) false = true := by kernel_rfl
theorem sh_names0 (B : SgA) : boolC (namesOK 6 [0, 1, 2, 3, 4, 5, 7, 10] (shC1 F (k.pl m) ((t.cut o n).pl m2) (t.pl m3) A) (shC1 F (k.pl m) ((t.cut o n).pl m2) (t.pl m3) B)) (allN noLoopE (shC1 F (k.pl m) ((t.cut o n).pl m2) (t.pl m3) B).heap) false = true := by kernel_rfl
end
end Go.Proofs.YtbmgahpjgefjaaaDoor.Aes


/-
  The profiles: the key stream, where the confounder and the text lie in one block: the summary.
-/
namespace Go.Proofs.YtbmgahpjgefjaaaDoor.Aes
open Go.Sim
open Go.Proofs
variable {α : Type}

set_option maxRecDepth 1000000
theorem sh_tmps (F : HashF) (k t : Sl) (o n m m2 m3 : Nat) (A : SgA) : (((shC1 F (k.pl m) ((t.cut o n).pl m2) (t.pl m3) A).frames[0]?).bind fun p => p.tmps[8]?) = some (some (.int .i64 (.sym A.i))) ∧ (((shC1 F (k.pl m) ((t.cut o n).pl m2) (t.pl m3) A).frames[0]?).bind fun p => p.tmps[36]?) = some (some (.int .i64 (.sym A.L))) ∧ (((shC1 F (k.pl m) ((t.cut o n).pl m2) (t.pl m3) A).frames[0]?).bind fun p => p.tmps[37]?) = some (some (.int .i64 (.sym (A.j : Int)))) := ⟨by kernel_rfl, by kernel_rfl, by kernel_rfl⟩
noncomputable def shD (F : HashF) (k c t : Sl) (v : SV) (H : List SO) : Prop := v = joinV 6 t.n ∧ ∃ G, (∀ p, p < t.n → G p = strG F k c t p) ∧ H[6]? = some (.own (.fn (byteF G) t.n) false 5)
theorem sh_runs {k t : Sl} {o n m m2 m3 : Nat} (hk : okK k) (hc : okL (t.cut o n)) (ht : okL t) (hn : t.n ≠ 0) : Runs (cfgSt shaF) 47 [(k.pl m).val 4, ((t.cut o n).pl m2).val 5, (t.pl m3).val 5] (shaHP [(k.pl m).row, (t.pl m3).row]) (shD shaF k (t.cut o n) t) := by
  have hbig : t.n ≤ 1099511627776 := ht.2
  have hn1 : ((t.n : Int) == 0) = false := by rw [beq_eq_false_iff_ne]; omega
  have hn2 : decide ((0 : Int) < t.n) = true := decide_eq_true (by omega)
  have h0 : ∀ {b r}, decide ((t.n : Int) < 32) = b → (∀ p ∈ r, p) → ∀ p ∈ sg0 k (t.cut o n) t b r, p := fun hb hr => all_cons (byteF_isB _) (all_cons ht (all_cons hn1 (all_cons hn2 (all_cons (byteF_isB _) (all_cons (byteF_isB _) (all_cons ⟨hk, hc, num4_ok 1⟩ (all_cons hb hr)))))))
  have hg0 : ∀ p, p < t.n → joinG t p = if p < 32 * 0 + 0 then strG shaF k (t.cut o n) t p else joinG t p := fun p _ => by rw [if_neg (by omega)]
  refine runs_by cfgStOK (shC1 shaF (k.pl m) ((t.cut o n).pl m2) (t.pl m3)) (fun A => ∃ q, SgQ shaF k (t.cut o n) t A q) (fun A => 33 * (t.n - A.i.toNat) + (32 - A.j)) (fun g nm hg => Nat.lt_of_lt_of_le (globP_lt hg) (by show 2 ≤ 6; omega)) ?_ fun A ⟨q, hQ⟩ J => ?_
  · by_cases hl : (t.n : Int) < 32
    · refine to_startM (some (1, 7)) 4000 ⟨0, (t.n : Int).toNat, 0, joinG t, sgK shaF k (t.cut o n) 1⟩ ⟨0, rfl, by omega, by show (((t.n : Int).toNat : Nat) : Int) = _; omega, by show 0 ≤ _; omega, rfl, hg0⟩ (sh_init1 shaF k t o n m m2 m3 ⟨0, 0, 0, joinG t, joinG t⟩) (sh_names0 shaF k t o n m m2 m3 _ _) ?_ (by simp) (h0 (decide_eq_true hl) (all_cons ⟨by omega, by omega⟩ (all_cons (by omega) all_nil)))
      intro x hx p u hp hu
      simp only [List.mem_cons, List.not_mem_nil, or_false] at hx
      rcases hx with rfl | rfl
      · exact tmp_imp1 (sh_tmps _ _ _ _ _ _ _ _ _).1 hp hu (int_imp0 rfl)
      · exact tmp_imp1 (sh_tmps _ _ _ _ _ _ _ _ _).2.2 hp hu (int_imp0 rfl)
    · refine to_startM (some (1, 7)) 4000 ⟨0, 32, 0, joinG t, sgK shaF k (t.cut o n) 1⟩ ⟨0, rfl, by omega, by show (32 : Int) = _; omega, by show 0 ≤ _; omega, rfl, hg0⟩ (sh_init2 shaF k t o n m m2 m3 ⟨0, 0, 0, joinG t, joinG t⟩) (sh_names0 shaF k t o n m m2 m3 _ _) ?_ (by simp) (h0 (decide_eq_false hl) (all_cons (by omega) all_nil))
      intro x hx p u hp hu
      simp only [List.mem_cons, List.not_mem_nil, or_false] at hx
      rcases hx with rfl | rfl | rfl
      · exact tmp_imp1 (sh_tmps _ _ _ _ _ _ _ _ _).1 hp hu (int_imp0 rfl)
      · exact tmp_imp1 (sh_tmps _ _ _ _ _ _ _ _ _).2.2 hp hu (int_imp0 rfl)
      · exact tmp_imp1 (sh_tmps _ _ _ _ _ _ _ _ _).2.1 hp hu (int_imp0 rfl)
  · obtain ⟨hi, hlt, hL, hj, hS, hG⟩ := hQ
    by_cases hjl : (A.j : Int) < A.L
    · have hidx : 0 + (A.i + A.j).toNat * 1 = 32 * q + A.j := by omega
      refine to_turnM (some (1, 7)) 4000 ⟨A.i, A.L, A.j + 1, sgG A, A.S⟩ ⟨⟨q, hi, hlt, hL, by show A.j + 1 ≤ _; omega, hS, fun p hp => ?_⟩, by show 33 * (t.n - A.i.toNat) + (32 - (A.j + 1)) < 33 * (t.n - A.i.toNat) + (32 - A.j); omega⟩ (sh_turn shaF k t o n m m2 m3 A J) (sh_names shaF k t o n m m2 m3 _ _) (by simp) ?_
        (all_cons (decide_eq_true hjl) (all_cons ⟨by omega, by omega⟩ (all_cons ⟨by omega, by omega⟩ (all_cons (by omega) (all_cons ⟨by omega, by omega⟩ (all_cons (by omega) (all_cons ⟨by omega, by omega⟩ (all_cons (by omega) (all_cons ⟨by omega, by omega⟩ all_nil)))))))))
      · show sgG A p = if p < 32 * q + (A.j + 1) then _ else _
        unfold sgG
        rw [hidx]
        by_cases hpi : p = 32 * q + A.j
        · rw [if_pos hpi, if_pos (by omega)]
          unfold sgB
          rw [hidx, hG _ (by omega), if_neg (by omega), byteAt_tab (by omega), hS]
          unfold strG joinG
          rw [hpi, show (32 * q + A.j) / 32 = q by omega, show (32 * q + A.j) % 32 = A.j by omega, show 0 + (A.j : Int).toNat * 1 = A.j by omega]
        · rw [if_neg hpi, hG p hp]
          by_cases hpl : p < 32 * q + A.j
          · rw [if_pos hpl, if_pos (by omega)]
          · rw [if_neg hpl, if_neg (by omega)]
      · intro e he E0 hE0
        simp only [List.mem_cons, List.not_mem_nil, or_false] at he
        subst he
        have hE0 : some (HP.ent (.own (.fn (byteF (sgG A)) t.n) false 5)) = some E0 := hE0
        cases hE0
        refine ⟨_, rfl, fn_imp_ltP fun p _ => ?_⟩
        show (if p = 0 + (A.i + A.j).toNat * 1 then SV.int .u8 (.b8 (sgB A)) else byteF A.G p).Imp (.int .u8 (.b8 (sgG A p)))
        unfold sgG
        by_cases hpi : p = 0 + (A.i + A.j).toNat * 1
        · rw [if_pos hpi, if_pos hpi]; exact .refl _
        · rw [if_neg hpi, if_neg hpi]; exact .refl _
    · have hjl' : A.j = min 32 (t.n - 32 * q) := by omega
      have e1 : decide ((A.j : Int) < A.L) = false := decide_eq_false hjl
      by_cases hnx : A.i + 32 < t.n
      · have hj32 : A.j = 32 := by omega
        have hi' : A.i + 32 = 32 * ((q + 1 : Nat) : Int) := by omega
        have hv : sgV (A.i + 32) = ((q + 1 : Nat) : Int) + 1 := by rw [hi']; exact sgV_eq (by omega)
        have hg : ∀ p, p < t.n → A.G p = if p < 32 * (q + 1) + 0 then strG shaF k (t.cut o n) t p else joinG t p := fun p hp => by
          rw [hG p hp, show 32 * (q + 1) + 0 = 32 * q + A.j by omega]
        have hC : ∀ {b r}, decide ((t.n : Int) < A.i + 32 + 32) = b → (∀ p ∈ r, p) → ∀ p ∈ sgNextC k (t.cut o n) t A b r, p := fun hb hr => all_cons e1 (all_cons ⟨by omega, by omega⟩ (all_cons (decide_eq_true hnx) (all_cons (by rw [hv]; exact ⟨by omega, by omega⟩) (all_cons (byteF_isB _) (all_cons (byteF_isB _) (all_cons ⟨hk, hc, num4_ok _⟩ (all_cons ⟨by omega, by omega⟩ (all_cons hb hr))))))))
        have hT : ∀ (B : SgA), B.j = 0 → ∀ x ∈ ([(0, 37, .int .i64 (.lit 0))] : List (Nat × Nat × SV)), ∀ p u, (shC1 shaF (k.pl m) ((t.cut o n).pl m2) (t.pl m3) B).frames[x.1]? = some p → p.tmps[x.2.1]? = some u → ∃ w, u = some w ∧ x.2.2.Imp (w.ren (nameOf [0, 1, 2, 3, 4, 5, 6, 10] 11)) := by
          intro B hB x hx p u hp hu
          simp only [List.mem_cons, List.not_mem_nil, or_false] at hx
          subst hx
          refine tmp_imp1 (sh_tmps _ _ _ _ _ _ _ _ _).2.2 hp hu (int_imp0 ?_)
          show (0 : Int) = (B.j : Int)
          rw [hB]; rfl
        by_cases hl : (t.n : Int) < A.i + 32 + 32
        · refine to_turnM (some (1, 7)) 4000 ⟨A.i + 32, (((t.n : Int).toNat - (A.i + 32).toNat : Nat) : Int), 0, A.G, sgK shaF k (t.cut o n) (sgV (A.i + 32))⟩ ⟨⟨q + 1, hi', by omega, by show (((t.n : Int).toNat - (A.i + 32).toNat : Nat) : Int) = _; omega, by show 0 ≤ _; omega, by show sgK shaF k (t.cut o n) (sgV (A.i + 32)) = _; rw [hv], hg⟩, by show 33 * (t.n - (A.i + 32).toNat) + (32 - 0) < 33 * (t.n - A.i.toNat) + (32 - A.j); omega⟩ (sh_next1 shaF k t o n m m2 m3 A J) (sh_names2 shaF k t o n m m2 m3 _ _) (hT _ rfl) (by simp) (hC (decide_eq_true hl) (all_cons ⟨by omega, by omega⟩ (all_cons ⟨by omega, by omega⟩ all_nil)))
        · refine to_turnM (some (1, 7)) 4000 ⟨A.i + 32, (((A.i + 32 + 32).toNat - (A.i + 32).toNat : Nat) : Int), 0, A.G, sgK shaF k (t.cut o n) (sgV (A.i + 32))⟩ ⟨⟨q + 1, hi', by omega, by show (((A.i + 32 + 32).toNat - (A.i + 32).toNat : Nat) : Int) = _; omega, by show 0 ≤ _; omega, by show sgK shaF k (t.cut o n) (sgV (A.i + 32)) = _; rw [hv], hg⟩, by show 33 * (t.n - (A.i + 32).toNat) + (32 - 0) < 33 * (t.n - A.i.toNat) + (32 - A.j); omega⟩ (sh_next2 shaF k t o n m m2 m3 A J) (sh_names2 shaF k t o n m m2 m3 _ _) (hT _ rfl) (by simp) (hC (decide_eq_false hl) (all_cons ⟨by omega, by omega⟩ (all_cons ⟨by omega, by omega⟩ all_nil)))
      · refine to_end none 4000 (sh_end shaF k t o n m m2 m3 A J) (all_cons e1 (all_cons ⟨by omega, by omega⟩ (all_cons (decide_eq_false hnx) all_nil))) fun H hH => ⟨rfl, A.G, fun p hp => ?_, (List.cons.inj hH).1⟩
        rw [hG p hp, if_pos (by omega)]
theorem sh_zero (F : HashF) (k t : Sl) (o n m m2 m3 : Nat) : outO [] (shT1 none F (k.pl m) ((t.cut o n).pl m2) (t.pl m3)) [true] = ([IsB (byteF t.X), okL t, ((t.n : Int) == 0) = true], some (.nilSlice, [])) := by kernel_rfl
/-- two slices of one block -/
noncomputable def partLL (H : List SO) (cv tv : SV) (no : R α) (f : Sl → Sl → Nat → R α) : R α := cv.asSlice no fun a l _ => tv.asSlice no fun a2 l2 c2 => boolC (Nat.beq a.nm a2.nm) (optC (capL a2.nm c2) (.stuck 832) fun bk => boolC (newOne a.nm) (bytesE (nth H a.nm) fun X N => f ⟨X, N, a.off.den, l.den, false, 0⟩ ⟨X, N, a2.off.den, l2.den, bk.1, bk.2⟩ a.nm) (.stuck 832)) no
theorem partLL_sat {H : List SO} {cv tv : SV} {no : R α} {f : Sl → Sl → Nat → R α} {φ : α → Prop} (h0 : no.Sat φ) (h : ∀ t o n nm, newOne nm = true → (∀ g, ∃ e', H[nm]? = some e' ∧ Taken g t.row e') → (∀ β x, cv.den β = some x → ∃ m, (((t.cut o n).pl m).val nm).den β = some x) → tv.Imp (t.val nm) → (f (t.cut o n) t nm).Sat φ) : (partLL H cv tv no f).Sat φ := by
  unfold partLL
  rcases asSlice_cases cv with ⟨a, l, c, rfl⟩ | hv
  case inr => rw [hv]; exact h0
  rcases asSlice_cases tv with ⟨a2, l2, c2, rfl⟩ | hv
  case inr =>
    have : ∀ g : SA → SN → SC → R α, (tv.asSlice no g).Sat φ := fun g => by rw [hv]; exact h0
    exact this _
  refine boolC_sat (fun hnm => optC_only fun bk hbk => boolC_only fun hn => bytesE_sat fun X N ht => h ⟨X, N, a2.off.den, l2.den, bk.1, bk.2⟩ a.off.den l.den a.nm hn (fun g => by rw [← nth_eq]; exact ht g) (fun β x hx => ?_) fun γ x hx => ?_) fun _ => h0
  · obtain ⟨m, _, hd, _, _⟩ := slice_den hx
    exact ⟨m, hd⟩
  · have hnm := beq_spec hnm
    rw [den_slice] at hx
    obtain ⟨A, C, hA, hC, hle, rfl⟩ := hx
    rw [show (Sl.val ⟨X, N, a2.off.den, l2.den, bk.1, bk.2⟩ a.nm) = .slice ⟨a.nm, .sym a2.off.den⟩ (.sym l2.den) (boolC bk.1 (.rest a.nm bk.2) (.sym bk.2)) from rfl, hnm, den_slice]
    exact ⟨A, C, hA, by rw [← capL_den hbk]; exact hC, hle, rfl⟩
noncomputable def stHS (F : HashF) : Summ := fun args H base => args3 args fun kv cv tv => partLL H cv tv (stGS F args H base) fun c t tn => shaTP H (partL H kv fun k kn => boolC (distN [kn, tn]) (.need (okK k ∧ okL c ∧ okL t) (isI (.sym t.n) 0 (.ok ⟨.nilSlice, [], []⟩) (.ok (bytesR base t.n (strG F k c t))))) (.stuck 833))
theorem stHOK : SumAt Tryd.prog globP 47 (stHS shaF) := by
  intro O w0 β H w base args vs hH hG ha
  refine args3_sat fun kv cv tv hv => partLL_sat (stGOK O w0 β H w base args vs hH hG ha) fun t o n tn hn3 ht3 hic hit => shaTP_sat fun hT => partL_sat fun k kn hn ht hk => boolC_only fun hd => fun ⟨h1, h2, h3⟩ => ?_
  rw [hv] at ha
  obtain ⟨x, ys, hx, hys, rfl⟩ := denL_cons.1 ha
  obtain ⟨y, zs, hy, hzs, rfl⟩ := denL_cons.1 hys
  obtain ⟨q, qs, hq, hqs, rfl⟩ := denL_cons.1 hzs
  obtain ⟨m, _, hx'⟩ := Sl.val_den (hk _ _ hx)
  obtain ⟨m2, hy'⟩ := hic _ _ hy
  obtain ⟨m3, _, hq'⟩ := Sl.val_den (hit _ _ hq)
  have hfit : Ifc.Fits (shaIP [kn, tn] [(k.pl m).row, (t.pl m3).row] [(k.pl m).val 4, ((t.cut o n).pl m2).val 5, (t.pl m3).val 5]) H := by
    refine Ifc.fits (nd4 hd (by simp only [List.mem_cons, List.not_mem_nil, or_false]; rintro x (rfl | rfl) <;> assumption)) rfl (shaIP_ents hT ⟨⟨ht _, k.row_uses _⟩, ⟨ht3 _, t.row_uses _⟩, trivial⟩)
  have harg : SV.denL β (SV.renL (shaIP [kn, tn] [(k.pl m).row, (t.pl m3).row] [(k.pl m).val 4, ((t.cut o n).pl m2).val 5, (t.pl m3).val 5]).big [(k.pl m).val 4, ((t.cut o n).pl m2).val 5, (t.pl m3).val 5]) = some (x :: y :: q :: qs) := by
    show SV.denL β [((k.pl m).val 4).ren _, (((t.cut o n).pl m2).val 5).ren _, ((t.pl m3).val 5).ren _] = _
    rw [Sl.val_ren, Sl.val_ren, Sl.val_ren]
    exact denL_cons.2 ⟨_, _, hx', denL_cons.2 ⟨_, _, hy', denL_cons.2 ⟨_, _, hq', hqs, rfl⟩, rfl⟩, rfl⟩
  refine isI_sat (fun h0 => ?_) fun h0 => ?_
  · have h0 : (t.n : Int) = 0 := h0
    exact sum_outOG cfgStOK 4000 hH (shaIP [kn, tn] [(k.pl m).row, (t.pl m3).row] [(k.pl m).val 4, ((t.cut o n).pl m2).val 5, (t.pl m3).val 5]) (shaIP_glob hG) harg hfit [] (by simp [shaIP]) (by simp) (sh_zero shaF k t o n m m2 m3) (all_cons (byteF_isB _) (all_cons h3 (all_cons (by rw [h0]; rfl) all_nil))) fun H2 _ => ends0 rfl rfl rfl
  · have h0 : (t.n : Int) ≠ 0 := h0
    refine Go.Sim.sum_runs (c := cfgSt shaF) hH (shaIP [kn, tn] [(k.pl m).row, (t.pl m3).row] [(k.pl m).val 4, ((t.cut o n).pl m2).val 5, (t.pl m3).val 5]) (shaIP_glob hG) harg hfit [6] (by simp [shaIP]) (by simp) (runs_mono (sh_runs h1 h2 h3 (by omega)) fun v H2 ⟨hv, G, hGe, hE⟩ => ?_)
    subst hv
    exact endsB rfl rfl hE rfl hGe
end Go.Proofs.YtbmgahpjgefjaaaDoor.Aes


/-
  The profiles: find, usable and Valid, where it is told how they end and the key's length alone is known.
-/
namespace Go.Proofs.YtbmgahpjgefjaaaDoor.Aes
open Go.Sim
open Go.Proofs
variable {α : Type}

set_option maxRecDepth 1000000
/-- a slice of which the length alone is looked at -/
noncomputable def lenQ (v : SV) (f : Nat → R α) : R α := valS v (sliceR v (f 0) fun _ l => f l.den) f
theorem lenQ_sat {v : SV} {f : Nat → R α} {φ : α → Prop} (h : ∀ n, (∀ β x, v.den β = some x → ∃ y m, x = .slice y n m) → (f n).Sat φ) : (lenQ v f).Sat φ := by
  unfold lenQ
  refine valS_sat (sliceR_sat (fun hn => h 0 fun β x hx => ?_) fun a l c hs => h _ fun β x hx => ?_) fun p n c hv => h n fun β x hx => ?_
  · subst hn; cases hx; exact ⟨_, _, rfl⟩
  · subst hs
    simp only [SV.den, Option.bind_eq_some_iff] at hx
    obtain ⟨y, _, m, _, hs⟩ := hx
    unfold sliceV at hs
    by_cases hl : l.den ≤ m
    · rw [if_pos hl] at hs
      cases hs
      exact ⟨_, _, rfl⟩
    · rw [if_neg hl] at hs; cases hs
  · subst hv; cases hx; exact ⟨_, _, rfl⟩
noncomputable def keyN (kv : SV) (f : SI → SI → Nat → R α) : R α := kv.asAgg (.stuck 834) fun l => args3 l fun p v s => i64O p fun p => i64O v fun v => lenQ s fun n => f p v n
theorem keyN_sat {kv : SV} {f : SI → SI → Nat → R α} {φ : α → Prop} (h : ∀ p v s n, kv = .agg [.int .i64 p, .int .i64 v, s] → (∀ β x, s.den β = some x → ∃ y m, x = .slice y n m) → (f p v n).Sat φ) : (keyN kv f).Sat φ := by
  unfold keyN
  rcases asAgg_cases kv with ⟨l, rfl⟩ | hno
  case inr => rw [hno]; trivial
  refine args3_sat fun p v s hl => i64O_sat fun p' hp => i64O_sat fun v' hv' => lenQ_sat fun n hn => ?_
  subst hl hp hv'
  exact h _ _ _ _ rfl hn
/-- such a key's value -/
noncomputable def kyV (p v : Int) (y : Option Addr) (n m : Nat) : SV := fdK p v (.val (.slice y n m))
theorem keyN_den {β : Val} {p v : SI} {s : SV} {n : Nat} {ys : List SV} {vs : List Value} (h : SV.denL β (.agg [.int .i64 p, .int .i64 v, s] :: ys) = some vs) (hs : ∀ β x, s.den β = some x → ∃ y m, x = .slice y n m) : ∃ y m, SV.denL β (kyV p.den v.den y n m :: ys) = some vs := by
  obtain ⟨⟨xs, hxs⟩, _⟩ := agg3_at h
  obtain ⟨y, m, rfl⟩ := hs _ _ hxs
  exact ⟨y, m, agg3_den h (fun x hx => by rw [hxs] at hx; cases hx; rfl) (int_imp0 rfl) (int_imp0 rfl)⟩
/- find. -/
noncomputable def fvT (p v : Int) (y : Option Addr) (l m : Nat) : Tree := callSim cfgF 400 22 [kyV p v y l m] []
section
variable (p v : Int) (y : Option Addr) (l m : Nat)
theorem fv_none : outO [] (fvT p v y l m) [false, false] = ([(p == 1) = false, (p == 2) = false], fdV kv0 (.lit false)) := by kernel_rfl
theorem fv_len1 : outO [] (fvT p v y l m) [true, false, false, false, false] = ([(p == 1) = true, ((l : Int) == 16) = false, ((l : Int) == 16) = false, ((l : Int) == 16) = false, ((l : Int) == 16) = false], fdV kv1 (.lit false)) := by kernel_rfl
theorem fv_neg1 : outO [] (fvT p v y l m) [true, true, false, false, false, false] = ([(p == 1) = true, ((l : Int) == 16) = true, decide (v ≥ 0) = false, decide (v ≥ 0) = false, decide (v ≥ 0) = false, decide (v ≥ 0) = false], fdV kv1 (.lit false)) := by kernel_rfl
theorem fv_ok1 : outO [] (fvT p v y l m) [true, true, true] = ([(p == 1) = true, ((l : Int) == 16) = true, decide (v ≥ 0) = true], fdV kv1 (.sym (decide (v ≤ 65535)))) := by kernel_rfl
theorem fv_len2 : outO [] (fvT p v y l m) [false, true, false, false, false, false] = ([(p == 1) = false, (p == 2) = true, ((l : Int) == 32) = false, ((l : Int) == 32) = false, ((l : Int) == 32) = false, ((l : Int) == 32) = false], fdV kv2 (.lit false)) := by kernel_rfl
theorem fv_neg2 : outO [] (fvT p v y l m) [false, true, true, false, false, false, false] = ([(p == 1) = false, (p == 2) = true, ((l : Int) == 32) = true, decide (v ≥ 0) = false, decide (v ≥ 0) = false, decide (v ≥ 0) = false, decide (v ≥ 0) = false], fdV kv2 (.lit false)) := by kernel_rfl
theorem fv_ok2 : outO [] (fvT p v y l m) [false, true, true, true] = ([(p == 1) = false, (p == 2) = true, ((l : Int) == 32) = true, decide (v ≥ 0) = true], fdV kv2 (.sym (decide (v ≤ 65535)))) := by kernel_rfl
end
noncomputable def fdQS (i : Nat) (b : Bool) : Summ := fun args _ _ => args1 args fun kv => keyN kv fun p v l => .need (kdOf p.den = i ∧ (validK p.den v.den l ↔ b = true)) (fdR (kvI i) b)
theorem fdQOK {i : Nat} {b : Bool} : SumOK Tryd.prog 22 (fdQS i b) := by
  intro glob O w0 β H w base args vs hH hG ha
  refine args1_sat fun kv hv => keyN_sat fun p v s n hk hs => fun ⟨hi, hb⟩ => ?_
  subst hv hk
  obtain ⟨y, m, ha'⟩ := keyN_den ha hs
  have h0 := fun g p => (kv_plain g p).1
  have h1 := fun g p => (kv_plain g p).2.1
  have h2 := fun g p => (kv_plain g p).2.2
  have key : ∀ {ds cs k b c}, outO [] (fvT p.den v.den y n m) ds = (cs, fdV k b) → (∀ q ∈ cs, q) → (∀ g p, k.ren g = k ∧ k.uses p = true) → b.den = c → SumSem Tryd.prog H β w base 22 vs ⟨.tuple [k, .bool (.lit c)], [], []⟩ := by
    intro ds cs k b c hr hc hk hb
    exact sum_outO cfgFOK rfl 400 hH ⟨[], [], [kyV p.den v.den y n m]⟩ ha' (fits0 rfl) [] (by simp) (by simp) hr hc fun H2 _ => endsF rfl hk hb H2
  have f4 : ∀ {q : Prop}, q → ∀ p ∈ [q, q, q, q], p := fun h => all_cons h (all_cons h (all_cons h (all_cons h all_nil)))
  show SumSem Tryd.prog H β w base 22 vs ⟨.tuple [kvI i, .bool (.lit b)], [], []⟩
  unfold kdOf at hi
  unfold validK at hb
  by_cases hp : p.den = 1
  · rw [if_pos hp] at hi
    subst hi
    have e1 : (p.den == 1) = true := by simp [hp]
    by_cases hl : n = 16
    · have e2 : ((n : Int) == 16) = true := by rw [hl]; rfl
      by_cases hg : 0 ≤ v.den
      · refine key (fv_ok1 p.den v.den y n m) (all_cons e1 (all_cons e2 (all_cons (decide_eq_true hg) all_nil))) h1 ?_
        show decide (v.den ≤ 65535) = b
        by_cases hle : v.den ≤ 65535
        · rw [decide_eq_true hle, hb.1 ⟨.inl ⟨hp, hl⟩, hg, hle⟩]
        · rw [decide_eq_false hle]
          cases b with
          | false => rfl
          | true => exact absurd (hb.2 rfl).2.2 hle
      · obtain rfl : b = false := by
          cases b with
          | false => rfl
          | true => exact absurd (hb.2 rfl).2.1 hg
        exact key (fv_neg1 p.den v.den y n m) (all_cons e1 (all_cons e2 (f4 (decide_eq_false hg)))) h1 rfl
    · obtain rfl : b = false := by
        cases b with
        | false => rfl
        | true => rcases (hb.2 rfl).1 with h | h <;> omega
      exact key (fv_len1 p.den v.den y n m) (all_cons e1 (f4 (by rw [beq_eq_false_iff_ne]; omega))) h1 rfl
  · rw [if_neg hp] at hi
    have e1 : (p.den == 1) = false := by simp [hp]
    by_cases hp2 : p.den = 2
    · rw [if_pos hp2] at hi
      subst hi
      have e3 : (p.den == 2) = true := by simp [hp2]
      by_cases hl : n = 32
      · have e2 : ((n : Int) == 32) = true := by rw [hl]; rfl
        by_cases hg : 0 ≤ v.den
        · refine key (fv_ok2 p.den v.den y n m) (all_cons e1 (all_cons e3 (all_cons e2 (all_cons (decide_eq_true hg) all_nil)))) h2 ?_
          show decide (v.den ≤ 65535) = b
          by_cases hle : v.den ≤ 65535
          · rw [decide_eq_true hle, hb.1 ⟨.inr ⟨hp2, hl⟩, hg, hle⟩]
          · rw [decide_eq_false hle]
            cases b with
            | false => rfl
            | true => exact absurd (hb.2 rfl).2.2 hle
        · obtain rfl : b = false := by
            cases b with
            | false => rfl
            | true => exact absurd (hb.2 rfl).2.1 hg
          exact key (fv_neg2 p.den v.den y n m) (all_cons e1 (all_cons e3 (all_cons e2 (f4 (decide_eq_false hg))))) h2 rfl
      · obtain rfl : b = false := by
          cases b with
          | false => rfl
          | true => rcases (hb.2 rfl).1 with h | h <;> omega
        exact key (fv_len2 p.den v.den y n m) (all_cons e1 (all_cons e3 (f4 (by rw [beq_eq_false_iff_ne]; omega)))) h2 rfl
    · rw [if_neg hp2] at hi
      subst hi
      obtain rfl : b = false := by
        cases b with
        | false => rfl
        | true => rcases (hb.2 rfl).1 with h | h <;> omega
      exact key (fv_none p.den v.den y n m) (all_cons e1 (all_cons (by simp [hp2]) all_nil)) h0 rfl
/- usable. -/
noncomputable def cfgUq (i : Nat) (b : Bool) : Cfg := cfgOf (sumsOf [(22, fdQS i b)])
theorem cfgUqOK {i : Nat} {b : Bool} : CfgOK (cfgUq i b) := sumsOf_ok (all1 fdQOK)
noncomputable def uqT (i : Nat) (b : Bool) (p v u : Int) (y : Option Addr) (l m : Nat) : Tree := callSim (cfgUq i b) 400 18 [kyV p v y l m, .int .i64 (.sym u)] []
noncomputable def fdP (i : Nat) (p v : Int) (l : Nat) (b : Bool) : Prop := kdOf p = i ∧ (validK p v l ↔ b = true)
section
variable (p v u : Int) (y : Option Addr) (l m : Nat)
theorem uq_ok1 : outO [] (uqT 1 true p v u y l m) [false, false] = ([fdP 1 p v l true, decide (u < 1) = false, decide (u > 1023) = false], some (usV kv1 0, [])) := by kernel_rfl
theorem uq_ok2 : outO [] (uqT 2 true p v u y l m) [false, false] = ([fdP 2 p v l true, decide (u < 1) = false, decide (u > 1023) = false], some (usV kv2 0, [])) := by kernel_rfl
end
theorem kd_valid {p v : Int} {l : Nat} (h : validK p v l) : (p = 1 ∧ l = 16 ∧ kdOf p = 1) ∨ (p = 2 ∧ l = 32 ∧ kdOf p = 2) := by
  rcases h.1 with ⟨rfl, h1⟩ | ⟨rfl, h1⟩
  · exact .inl ⟨rfl, h1, rfl⟩
  · exact .inr ⟨rfl, h1, rfl⟩
noncomputable def uqS (i : Int) (k : SV) : Summ := fun args _ _ => args2 args fun kv uv => keyN kv fun p v l => i64O uv fun u => .need (p.den = i ∧ usQ p.den v.den u.den l) (usR k 0)
theorem uqOK {i : Int} {k : SV} (hik : (i = 1 ∧ k = kv1) ∨ (i = 2 ∧ k = kv2)) : SumOK Tryd.prog 18 (uqS i k) := by
  intro glob O w0 β H w base args vs hH hG ha
  refine args2_sat fun kv uv hv => keyN_sat fun p v s n hk hs => i64O_sat fun u hu => fun ⟨hpi, hval, h1, h2⟩ => ?_
  subst hv hk hu
  obtain ⟨y, m, ha'⟩ := keyN_den ha hs
  have ha2 : SV.denL β [kyV p.den v.den y n m, .int .i64 (.sym u.den)] = some vs := impL_cons (.refl _) (impL_cons (int_imp0 rfl) impL_nil) _ _ ha'
  have e1 := fun g p => (kv_plain g p).2.1
  have e2 := fun g p => (kv_plain g p).2.2
  have ht : validK p.den v.den n ↔ true = true := ⟨fun _ => rfl, fun _ => hval⟩
  have key : ∀ {i b ds cs k}, outO [] (uqT i b p.den v.den u.den y n m) ds = (cs, some (usV k 0, [])) → (∀ q ∈ cs, q) → (∀ g p, k.ren g = k ∧ k.uses p = true) → SumSem Tryd.prog H β w base 18 vs ⟨usV k 0, [], []⟩ := by
    intro i b ds cs k hr hc hk
    exact sum_outO cfgUqOK rfl 400 hH ⟨[], [], [kyV p.den v.den y n m, .int .i64 (.sym u.den)]⟩ ha2 (fits0 rfl) [] (by simp) (by simp) hr hc fun H2 _ => endsU rfl hk H2
  have hu : ∀ {q : Prop}, q → ∀ p ∈ [q, decide (u.den < 1) = false, decide (u.den > 1023) = false], p := fun h => all_cons h (all_cons (decide_eq_false (by omega)) (all_cons (decide_eq_false (by omega)) all_nil))
  rcases kd_valid hval with ⟨hp, _, hi⟩ | ⟨hp, _, hi⟩
  · rcases hik with ⟨rfl, rfl⟩ | ⟨rfl, rfl⟩
    · exact key (uq_ok1 p.den v.den u.den y n m) (hu ⟨hi, ht⟩) e1
    · rw [hp] at hpi; cases hpi
  · rcases hik with ⟨rfl, rfl⟩ | ⟨rfl, rfl⟩
    · rw [hp] at hpi; cases hpi
    · exact key (uq_ok2 p.den v.den u.den y n m) (hu ⟨hi, ht⟩) e2
/- Valid. -/
noncomputable def vqT (i : Nat) (b : Bool) (p v : Int) (y : Option Addr) (l m : Nat) : Tree := callSim (cfgUq i b) 400 9 [kyV p v y l m] []
section
variable (b : Bool) (p v : Int) (y : Option Addr) (l m : Nat)
theorem vq_run0 : outO [] (vqT 0 b p v y l m) [] = ([fdP 0 p v l b], some (.bool (.lit b), [])) := by kernel_rfl
theorem vq_run1 : outO [] (vqT 1 b p v y l m) [] = ([fdP 1 p v l b], some (.bool (.lit b), [])) := by kernel_rfl
theorem vq_run2 : outO [] (vqT 2 b p v y l m) [] = ([fdP 2 p v l b], some (.bool (.lit b), [])) := by kernel_rfl
end
noncomputable def vqS (b : Bool) : Summ := fun args _ _ => args1 args fun kv => keyN kv fun p v l => .need (validK p.den v.den l ↔ b = true) (.ok ⟨.bool (.lit b), [], []⟩)
theorem vqOK {b : Bool} : SumOK Tryd.prog 9 (vqS b) := by
  intro glob O w0 β H w base args vs hH hG ha
  refine args1_sat fun kv hv => keyN_sat fun p v s n hk hs => fun hval => ?_
  subst hv hk
  obtain ⟨y, m, ha'⟩ := keyN_den ha hs
  have key : ∀ {i cs}, outO [] (vqT i b p.den v.den y n m) [] = (cs, some (.bool (.lit b), [])) → (∀ q ∈ cs, q) → SumSem Tryd.prog H β w base 9 vs ⟨.bool (.lit b), [], []⟩ := by
    intro i cs hr hc
    exact sum_outO cfgUqOK rfl 400 hH ⟨[], [], [kyV p.den v.den y n m]⟩ ha' (fits0 rfl) [] (by simp) (by simp) hr hc fun _ _ => ends0 rfl rfl rfl
  rcases kdOf_cases p.den with h | h | h
  · exact key (vq_run0 b p.den v.den y n m) (all_cons ⟨h, hval⟩ all_nil)
  · exact key (vq_run1 b p.den v.den y n m) (all_cons ⟨h, hval⟩ all_nil)
  · exact key (vq_run2 b p.den v.den y n m) (all_cons ⟨h, hval⟩ all_nil)
end Go.Proofs.YtbmgahpjgefjaaaDoor.Aes


/-
  The profiles: Open, where it ends in an error; what is known.
-/
namespace Go.Proofs.YtbmgahpjgefjaaaDoor.Aes
open Go.Sim
open Go.Proofs
variable {α : Type}

set_option maxRecDepth 1000000
noncomputable def cfgOp : Cfg := cfgOf (sumsOf [(18, usableS)])
theorem cfgOpOK : CfgOK cfgOp := sumsOf_ok (all1 usableOK)
noncomputable def opT (v u sp sv : Int) (k t : Sl) : Tree := callSim cfgOp 4000 8 [.agg [.int .i64 (.lit 1), .int .i64 (.sym v), k.valN 0 16], .int .i64 (.sym u), .agg [.int .i64 (.sym sp), .int .i64 (.sym sv), t.val 1]] [k.row, t.row]
noncomputable def opC (v u : Int) (r : List Prop) : List Prop := (decide (0 ≤ v) = true) :: (decide (v ≤ 65535) = true) :: (decide (1 ≤ u) = true) :: (decide (u ≤ 1023) = true) :: r
noncomputable def opV (e : Int) : SV := .tuple [.nilSlice, .int .i64 (.lit e)]
section
variable (v u sp sv : Int) (k t : Sl) (m m2 : Nat)
theorem op_prof : outO [] (opT v u sp sv (k.pl m) (t.pl m2)) [true, true, true, true, true, true, true, true, true, true, true, true, true, true] = (opC v u (repN ((sp != 1) = true) 10), some (opV 9, [])) := by kernel_rfl
theorem op_vers : outO [] (opT v u sp sv (k.pl m) (t.pl m2)) [true, true, true, true, false, true, true, true] = (opC v u [(sp != 1) = false, (sv != v) = true, (sv != 0) = true, (v != 0) = true], some (opV 9, [])) := by kernel_rfl
theorem op_short : outO [] (opT v u sp sv (k.pl m) (t.pl m2)) [true, true, true, true, false, false, false, false, false, true] = (opC v u [(sp != 1) = false, (sv != v) = false, (sv != v) = false, (sv != v) = false, (sv != v) = false, inI64 ((t.n : Int) - 16), decide ((t.n : Int) - 16 < 16) = true], some (opV 4, [])) := by kernel_rfl
end
noncomputable def opR (e : Int) : R SumRes := .ok ⟨opV e, [], []⟩
noncomputable def openS : Summ := fun args H _ => args3 args fun kv uv zv => kv.asAgg (.stuck 797) fun l => args3 l fun p v s => optC (litI p) (.stuck 797) fun p => boolC (Nat.beq p 1) (i64O v fun v => i64O uv fun u => zv.asAgg (.stuck 797) fun l2 => args3 l2 fun sp sv ss => i64O sp fun sp => i64O sv fun sv =>
  partN H s fun _ kn n => boolC (Nat.beq n 16) (partL H ss fun t tn => boolC (distN [kn, tn]) (.need ((0 ≤ v.den ∧ v.den ≤ 65535) ∧ 1 ≤ u.den ∧ u.den ≤ 1023)
    (isI sp 1 (sv.asLit (.stuck 797) fun a => v.asLit (.stuck 797) fun b => boolC (eqI a b) (.need (t.n < 32) (opR 4)) (boolC (eqI a 0) (.stuck 797) (boolC (eqI b 0) (.stuck 797) (opR 9)))) (opR 9))) (.stuck 797)) (.stuck 797)) (.stuck 797)
theorem repN_all {p : Prop} (h : p) : ∀ n, ∀ q ∈ repN p n, q := by
  intro n q hq
  rw [repN_eq] at hq
  rw [List.eq_of_mem_replicate hq]; exact h
theorem openOK : SumOK Tryd.prog 8 openS := by
  intro glob O w0 β H w base args vs hH hG ha
  refine args3_sat fun kv uv zv hv => ?_
  rcases asAgg_cases kv with ⟨l, rfl⟩ | hno
  case inr => rw [hno]; trivial
  refine args3_sat fun p v s hl => optC_only fun p0 hp => boolC_only fun hp1 => i64O_sat fun v' hv' => i64O_sat fun u hu => ?_
  rcases asAgg_cases zv with ⟨l2, rfl⟩ | hno
  case inr => rw [hno]; trivial
  refine args3_sat fun sp sv ss hl2 => i64O_sat fun sp' hsp => i64O_sat fun sv' hsv => partN_sat fun k kn n hn1 ht1 hi1 hkn => boolC_only fun h16 => partL_sat fun t tn hn2 ht2 hi2 => boolC_only fun hd => fun ⟨⟨hv1, hv2⟩, hu1, hu2⟩ => ?_
  have h16 := beq_spec h16
  have hp1 := beq_spec hp1
  subst hl hv' hu hl2 hsp hsv h16 hp1
  rw [hv, litI_spec hp] at ha
  obtain ⟨⟨xs, hxs⟩, zs, hzs⟩ := agg3_at ha
  obtain ⟨m, hks⟩ := Sl.valN_den (hi1 _ _ hxs)
  obtain ⟨xu, zs1, hxu, hzs1, rfl⟩ := denL_cons.1 hzs
  obtain ⟨⟨xt, hxt⟩, zs2, hzs2⟩ := agg3_at hzs1
  obtain ⟨m2, _, hts⟩ := Sl.val_den (hi2 _ _ hxt)
  have h2 : SV.denL β [.agg [.int .i64 (.sym sp'.den), .int .i64 (.sym sv'.den), (t.pl m2).val tn]] = some zs1 := agg3_den hzs1 (fun x hx => by rw [hxt] at hx; cases hx; exact hts) (int_imp0 rfl) (int_imp0 rfl)
  have h1 : SV.denL β [.agg [.int .i64 (.lit 1), .int .i64 (.sym v'.den), (k.pl m).valN kn 16], .int .i64 (.sym u.den), .agg [.int .i64 (.sym sp'.den), .int .i64 (.sym sv'.den), (t.pl m2).val tn]] = some vs := by
    have h1 := agg3_den (s' := (k.pl m).valN kn 16) (p' := .int .i64 (.lit 1)) (v' := .int .i64 (.sym v'.den)) ha (fun x hx => by rw [hxs] at hx; cases hx; exact hks) (.refl _) (int_imp0 rfl)
    obtain ⟨xa, ws, hxa, hws, rfl⟩ := denL_cons.1 h1
    refine denL_cons.2 ⟨_, _, hxa, ?_, rfl⟩
    rw [hzs] at hws
    cases hws
    exact denL_cons.2 ⟨_, _, int_imp0 rfl _ _ hxu, h2, rfl⟩
  have key : ∀ {ds cs e}, outO [] (opT v'.den u.den sp'.den sv'.den (k.pl m) (t.pl m2)) ds = (opC v'.den u.den cs, some (opV e, [])) → (∀ q ∈ cs, q) → SumSem Tryd.prog H β w base 8 vs ⟨opV e, [], []⟩ := by
    intro ds cs e hr hc
    refine sum_outO cfgOpOK rfl 4000 hH ⟨[kn, tn], [k.row, t.row], [.agg [.int .i64 (.lit 1), .int .i64 (.sym v'.den), (k.pl m).valN 0 16], .int .i64 (.sym u.den), .agg [.int .i64 (.sym sp'.den), .int .i64 (.sym sv'.den), (t.pl m2).val 1]]⟩ ?_ (Ifc.fits (distN_spec hd) rfl ⟨⟨ht1 _, k.row_uses _⟩, ⟨ht2 _, t.row_uses _⟩, trivial⟩) [] (by simp) (by simp) hr (all_cons (decide_eq_true hv1) (all_cons (decide_eq_true hv2) (all_cons (decide_eq_true hu1) (all_cons (decide_eq_true hu2) hc)))) fun _ _ => ends0 rfl rfl rfl
    show SV.denL β [.agg [.int .i64 (.lit 1), .int .i64 (.sym v'.den), ((k.pl m).valN 0 16).ren _], .int .i64 (.sym u.den), .agg [.int .i64 (.sym sp'.den), .int .i64 (.sym sv'.den), ((t.pl m2).val 1).ren _]] = _
    rw [Sl.valN_ren, Sl.val_ren]
    exact h1
  refine isI_sat (fun hs1 => ?_) fun hs1 => ?_
  · have e1 : (sp'.den != 1) = false := by rw [hs1]; rfl
    cases sv' with
    | lit a =>
      cases v' with
      | lit b =>
        refine boolC_sat (fun hab => fun ht => ?_) fun hab => boolC_sat (fun _ => trivial) fun ha0 => boolC_sat (fun _ => trivial) fun hb0 => ?_
        · have hab := eqI_spec hab
          subst hab
          have e2 : ((SI.lit a).den != (SI.lit a).den) = false := by simp
          exact key (op_short (SI.lit a).den u.den sp'.den (SI.lit a).den k t m m2) (all_cons e1 (all_cons e2 (all_cons e2 (all_cons e2 (all_cons e2 (all_cons ⟨by omega, by omega⟩ (all_cons (decide_eq_true (by omega)) all_nil)))))))
        · have ne : ∀ {x y : Int}, eqI x y = false → (x != y) = true := fun {x y} h => by
            rw [bne_iff_ne]
            intro e
            subst e
            rw [eqI_eq] at h
            simp at h
          exact key (op_vers (SI.lit b).den u.den sp'.den (SI.lit a).den k t m m2) (all_cons e1 (all_cons (ne hab) (all_cons (ne ha0) (all_cons (ne hb0) all_nil))))
      | sym b => trivial
      | b8 b => trivial
      | b32 b => trivial
      | b64 b => trivial
    | sym a => trivial
    | b8 a => trivial
    | b32 a => trivial
    | b64 a => trivial
  · exact key (op_prof v'.den u.den sp'.den sv'.den k t m m2) (repN_all (by rw [bne_iff_ne]; exact hs1) 10)
end Go.Proofs.YtbmgahpjgefjaaaDoor.Aes


/-
  The profiles: the chapter's examples hold.
-/
namespace Go.Proofs.YtbmgahpjgefjaaaDoor.Aes
open Go.Sim
open Go.Proofs
variable {α : Type}

set_option maxRecDepth 1000000
noncomputable def cfgX (F : HashF) (E : CtsF) : Cfg := cfgG globP (sumsOf [(22, findS), (18, usableS), (24, kindsS), (25, copyS), (7, sealS F E), (8, openS)])
theorem cfgXOK : CfgOK (cfgX shaF encF) := sumsG_ok (allS (findOK _) (allS (usableOK _) (allS (kindsOK _) (allS (copyOK _) (allS sealOK (allS (openOK _) (by simp)))))))
noncomputable def knT (F : HashF) (E : CtsF) : Tree := callSim (cfgX F E) 5000 6 [] (shaHP [])
noncomputable def kaS (n : Nat) : Sl := ⟨fun i => byteAt (repN 0#8 n) (0 + i), n, 0, n, true, 0⟩
noncomputable def helloS : Sl := ⟨byteAt [104#8, 101#8, 108#8, 108#8, 111#8], 5, 0, 5, true, 0⟩
noncomputable def opN : Prop := ((0 : Int) ≤ 2 ∧ (2 : Int) ≤ 65535) ∧ (1 : Int) ≤ 1 ∧ (1 : Int) ≤ 1023
noncomputable def knC (F : HashF) (E : CtsF) : List Prop :=
  [(0 + 16 ≤ 16 ∧ 16 ≤ 1099511627776), (0 + 32 ≤ 32 ∧ 32 ≤ 1099511627776), IsB (byteF (kaS 16).X), seOK (.lit 0) (.lit 1) (kaS 16) z16 16 16, (0 + 5 ≤ 5 ∧ 5 ≤ 208), IsB (byteF (kaS 32).X), seOK (.lit 0) (.lit 1) (kaS 32) z16 32 16, 0 + 5 ≤ 5, false = false, false = false,
   IsB (byteF (kaS 16).X), IsB (byteF (two (cphS F E (kaS 16) z16 helloS 1) (tag1S F E (kaS 16) z16 helloS 1))), opN, 31 ≤ 37, IsB (byteF (kaS 16).X), IsB (byteF (two (cphS F E (kaS 16) z16 helloS 1) (tag1S F E (kaS 16) z16 helloS 1))), opN, 31 < 32,
   IsB (byteF (kaS 16).X), IsB (byteF (two (cph5 F (kaS 32) z16 helloS 1) (tag5 F (kaS 32) z16 helloS 1))), opN]
theorem kn_run (F : HashF) (E : CtsF) : outO [] (knT F E) [false, false] = (knC F E, some (.bool (.lit true), [])) := by kernel_rfl
noncomputable def knS : Summ := fun args H _ => args0 args (shaTP H (.ok ⟨.bool (.lit true), [], []⟩))
theorem knOK : SumAt Tryd.prog globP 6 knS := by
  intro O w0 β H w base args vs hH hG ha
  refine args0_sat fun hv => shaTP_sat fun hT => ?_
  rw [hv] at ha
  have hop : opN := ⟨⟨by omega, by omega⟩, by omega, by omega⟩
  have hse : ∀ n, seOK (.lit 0) (.lit 1) (kaS n) z16 n 16 := fun n => ⟨⟨by show (0 : Int) ≤ 0; omega, by show (0 : Int) ≤ 65535; omega⟩, ⟨by show (1 : Int) ≤ 1; omega, by show (1 : Int) ≤ 1023; omega⟩, by show 0 + n ≤ n; omega, by show 0 + 16 ≤ 16; omega⟩
  refine sum_outOG cfgXOK 5000 hH (shaIP [] [] []) (shaIP_glob hG) ha (Ifc.fits (by simp [shaIP]) rfl (shaIP_ents hT trivial)) [] (by simp) (by simp) (kn_run shaF encF) ?_ fun _ _ => ends0 rfl rfl rfl
  exact all_cons ⟨by omega, by omega⟩ (all_cons ⟨by omega, by omega⟩ (all_cons (byteF_isB _) (all_cons (hse 16) (all_cons ⟨by omega, by omega⟩ (all_cons (byteF_isB _) (all_cons (hse 32) (all_cons (by omega) (all_cons rfl (all_cons rfl
    (all_cons (byteF_isB _) (all_cons (byteF_isB _) (all_cons hop (all_cons (by omega) (all_cons (byteF_isB _) (all_cons (byteF_isB _) (all_cons hop (all_cons (by omega) (all_cons (byteF_isB _) (all_cons (byteF_isB _) (all_cons hop all_nil))))))))))))))))))))
end Go.Proofs.YtbmgahpjgefjaaaDoor.Aes


/-
  The profiles: Seal, Open and Sum, where it is told that they end in an error; strings of which the lengths alone are known.
-/
namespace Go.Proofs.YtbmgahpjgefjaaaDoor.Aes
open Go.Sim
open Go.Proofs
variable {α : Type}

set_option maxRecDepth 1000000
noncomputable def vSl (y : Option Addr) (n m : Nat) : SV := .val (.slice y n m)
/- Seal. -/
section
variable (p v u sp sv : Int) (y : Option Addr) (l m : Nat) (y1 : Option Addr) (l1 m1 : Nat) (y2 : Option Addr) (l2 m2 : Nat)
end
/- Open. -/
noncomputable def v0C (v sv : Int) : List Prop := [(sv != v) = false, (sv != v) = false, (sv != v) = false, (sv != v) = false]
noncomputable def v1C (v sv : Int) : List Prop := [(sv != v) = true, (sv != 0) = false, (sv != 0) = false, (sv != 0) = false, (sv != 0) = false]
noncomputable def v2C (v sv : Int) : List Prop := [(sv != v) = true, (sv != 0) = true, (v != 0) = false]
section
variable (p v u sp sv : Int) (y : Option Addr) (l m : Nat) (y1 : Option Addr) (l1 m1 : Nat)
end
/-- a version of a sealed string fits a key's -/
def versQ (v sv : Int) : Prop := sv = v ∨ sv = 0 ∨ v = 0
theorem vers_cases {v sv : Int} (h : versQ v sv) : (∀ q ∈ v0C v sv, q) ∨ (∀ q ∈ v1C v sv, q) ∨ (∀ q ∈ v2C v sv, q) := by
  by_cases h0 : sv = v
  · have e : (sv != v) = false := by simp [h0]
    exact .inl (all_cons e (all_cons e (all_cons e (all_cons e all_nil))))
  · have e : (sv != v) = true := by simp [h0]
    by_cases h1 : sv = 0
    · have e1 : (sv != 0) = false := by simp [h1]
      exact .inr (.inl (all_cons e (all_cons e1 (all_cons e1 (all_cons e1 (all_cons e1 all_nil))))))
    · have h2 : v = 0 := by rcases h with h | h | h <;> first | exact absurd h h0 | exact absurd h h1 | exact h
      exact .inr (.inr (all_cons e (all_cons (by simp [h1]) (all_cons (by simp [h2]) all_nil))))
theorem all_app {l r : List Prop} (h : ∀ q ∈ l, q) (h' : ∀ q ∈ r, q) : ∀ q ∈ app l r, q := by
  intro q hq
  rw [app_eq, List.mem_append] at hq
  exact hq.elim (h q) (h' q)
/- Sum. -/
end Go.Proofs.YtbmgahpjgefjaaaDoor.Aes

