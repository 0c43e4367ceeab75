/-
  Texts behind one another: the symbolic simulator and what it is told of the program.
-/
import Derived.Test.YtbmgahpjgefjaaaGreatDoorZPro11
import Derived.Test.YtbmgahpjgefjaaaGreatDoorZPro12
import Derived.Test.YtbmgahpjgefjaaaGreatDoorPk8

/-
  The profiles: the summary of Seal, where the key's length and the profile are known.
-/
namespace Go.Proofs.YtbmgahpjgefjaaaGreatDoor.Aes
open Go.Sim
open Go.Proofs
variable {α : Type}

set_option maxRecDepth 100000
noncomputable def seR (base : Nat) (p : Int) (v : SI) (n : Nat) (X : Nat → BitVec 8) : SumRes := ⟨seV base p v n, [], [.own (.fn (byteF X) n) false 5]⟩
noncomputable def seOK (v u : SI) (k c : Sl) (n cl : Nat) : Prop := (0 ≤ v.den ∧ v.den ≤ 65535) ∧ (1 ≤ u.den ∧ u.den ≤ 1023) ∧ k.o + n ≤ k.N ∧ c.o + cl ≤ c.N
noncomputable def seA (F : HashF) (E : CtsF) (H : List SO) (base : Nat) (v u : SI) (k : Sl) (kn n : Nat) (c : Sl) (cn : Nat) (tv : SV) : R SumRes :=
  boolC (Nat.beq n 16) (partL H tv fun t tn => boolC (distN [kn, cn, tn]) (.need (t.o + t.n ≤ t.N ∧ t.n ≤ 208) (.ok (seR base 1 v (16 + t.n + 16) (two (cphS F E k c t u.den) (tag1S F E k c t u.den))))) (.stuck 794)) (.stuck 794)
noncomputable def seB (F : HashF) (H : List SO) (base : Nat) (v u : SI) (k : Sl) (kn n : Nat) (c : Sl) (cn : Nat) (tv : SV) : R SumRes :=
  boolC (Nat.beq n 32) (partN H tv fun t tn tl => boolC (distN [kn, cn, tn]) (boolC (Nat.beq tl 5) (.need (t.o + 5 ≤ t.N) (.ok (seR base 2 v (16 + 5 + 32) (two (cph5 F k c t u.den) (tag5 F k c t u.den))))) (.stuck 795)) (.stuck 795)) (.stuck 795)
noncomputable def sealS (F : HashF) (E : CtsF) : Summ := fun args H base => args4 args fun kv uv cv tv => kv.asAgg (.stuck 796) fun l => args3 l fun p v s => optC (litI p) (.stuck 796) fun p => i64O v fun v => i64O uv fun u => shaTP H (partN H s fun k kn n => partN H cv fun c cn cl => .need (seOK v u k c n cl)
  (boolC (Nat.beq cl 16) (boolC (Nat.beq p 1) (seA F E H base v u k kn n c cn tv) (boolC (Nat.beq p 2) (seB F H base v u k kn n c cn tv) (.stuck 796))) (.stuck 796)))
theorem endsS {I : Ifc} {base j n : Nat} {p : Int} {v : SI} {X : Nat → BitVec 8} {H : List SO} (hj : I.known j = false) (ho : ownsOf I.ents 0 = []) (hE : H[j]? = some (.own (.fn (byteF X) n) false 5)) : I.Ends base [j] (seR base p v n X) (seV j p (.sym v.den) n) H := by
  have ho' : I.out base [j] j = base := by
    unfold Ifc.out
    rw [hj]
    show base + idxN j [j] = base
    rw [show idxN j [j] = boolC (Nat.beq j j) 0 _ from rfl, Nat.beq_refl]; rfl
  have hs : I.seen [j] j = true := by
    unfold Ifc.seen
    rw [hj]
    exact (memN_iff (n := j) (l := [j])).2 List.mem_cons_self
  refine ⟨?_, ?_, by rw [ho]; trivial, ⟨given_bytesP hE fun _ _ => rfl, trivial⟩⟩
  · show (SV.tuple [.agg [.int .i64 (.lit p), .int .i64 (.sym v.den), .slice ⟨I.out base [j] j, .lit 0⟩ (.sym n) (.rest (I.out base [j] j) 0)], .int .i64 (.lit 0)]).Imp _
    rw [ho']
    intro γ x hx
    simp only [SV.den, SV.denL, Option.map_eq_some_iff, Option.bind_eq_some_iff] at hx
    unfold seR seV joinV
    simp only [SV.den, SV.denL, Option.map_eq_some_iff, Option.bind_eq_some_iff]
    exact hx
  · show ((true && (true && ((I.seen [j] j && I.seen [j] j) && true))) && (true && true)) = true
    rw [hs]; rfl
theorem agg3_den {β : Val} {p v s s' : SV} {ys : List SV} {vs : List Value} (h : SV.denL β (.agg [p, v, s] :: ys) = some vs) (hs : ∀ x, s.den β = some x → s'.den β = some x) {p' v' : SV} (hp : p.Imp p') (hv : v.Imp v') : SV.denL β (.agg [p', v', s'] :: ys) = some vs := by
  obtain ⟨x, zs, hx, hzs, rfl⟩ := denL_cons.1 h
  refine denL_cons.2 ⟨_, _, ?_, hzs, rfl⟩
  simp only [SV.den, SV.denL, Option.map_eq_some_iff, Option.bind_eq_some_iff] at hx ⊢
  obtain ⟨us, ⟨u1, hu1, us1, ⟨u2, hu2, us2, ⟨u3, hu3, us3, hus3, rfl⟩, rfl⟩, rfl⟩, rfl⟩ := hx
  exact ⟨_, ⟨u1, hp _ _ hu1, _, ⟨u2, hv _ _ hu2, _, ⟨u3, hs _ hu3, us3, hus3, rfl⟩, rfl⟩, rfl⟩, rfl⟩
theorem agg3_at {β : Val} {p v s : SV} {ys : List SV} {vs : List Value} (h : SV.denL β (.agg [p, v, s] :: ys) = some vs) : (∃ x, s.den β = some x) ∧ ∃ zs, SV.denL β ys = some zs := by
  obtain ⟨x, zs, hx, hzs, rfl⟩ := denL_cons.1 h
  simp only [SV.den, SV.denL, Option.map_eq_some_iff, Option.bind_eq_some_iff] at hx
  obtain ⟨us, ⟨u1, hu1, us1, ⟨u2, hu2, us2, ⟨u3, hu3, us3, hus3, rfl⟩, rfl⟩, rfl⟩, rfl⟩ := hx
  exact ⟨⟨_, hu3⟩, _, hzs⟩
theorem sealOK : SumAt Tryz.prog globP 12 (sealS shaF encF) := by
  intro O w0 β H w base args vs hH hG ha
  refine args4_sat fun kv uv cv tv hv => ?_
  rcases asAgg_cases kv with ⟨l, rfl⟩ | hno
  case inr => rw [hno]; trivial
  refine args3_sat fun p v s hl => optC_only fun p0 hp => i64O_sat fun v' hv' => i64O_sat fun u hu => shaTP_sat fun hT => partN_sat fun k kn n hn1 ht1 hi1 hkn => partN_sat fun c cn cl hn2 ht2 hi2 hcl => fun ⟨⟨hv1, hv2⟩, ⟨hu1, hu2⟩, hk, hc⟩ => boolC_only fun h16 => ?_
  have h16 := beq_spec h16
  subst hl hv' hu h16
  rw [hv, litI_spec hp] at ha
  obtain ⟨⟨xs, hxs⟩, zs, hzs⟩ := agg3_at ha
  obtain ⟨m, hks⟩ := Sl.valN_den (hi1 _ _ hxs)
  obtain ⟨xu, zs1, hxu, hzs1, rfl⟩ := denL_cons.1 hzs
  obtain ⟨xc, zs2, hxc, hzs2, rfl⟩ := denL_cons.1 hzs1
  obtain ⟨xt, zs3, hxt, hzs3, rfl⟩ := denL_cons.1 hzs2
  obtain ⟨m2, hcs⟩ := Sl.valN_den (hi2 _ _ hxc)
  -- the arguments, in small names
  have harg : ∀ (p : Int) (n0 : Nat) (tv' : SV), p0 = p → n = n0 → tv'.den β = some xt → SV.denL β [.agg [.int .i64 (.lit p), .int .i64 (.sym v'.den), (k.pl m).valN kn n0], .int .i64 (.sym u.den), (c.pl m2).valN cn 16, tv'] = some vs := by
    intro p n0 tv' hpp hnn htv
    subst hpp hnn
    have h1 := agg3_den (s' := (k.pl m).valN kn n) (p' := .int .i64 (.lit (.ofNat p0))) (v' := .int .i64 (.sym v'.den)) ha (fun x hx => by rw [hxs] at hx; cases hx; exact hks) (.refl _) (int_imp0 rfl)
    obtain ⟨xa, ws, hxa, hws, rfl⟩ := denL_cons.1 h1
    refine denL_cons.2 ⟨_, _, hxa, ?_, rfl⟩
    rw [hzs] at hws
    cases hws
    exact denL_cons.2 ⟨_, _, int_imp0 rfl _ _ hxu, denL_cons.2 ⟨_, _, hcs, denL_cons.2 ⟨_, _, htv, hzs3, rfl⟩, rfl⟩, rfl⟩
  have hdk : ∀ (n : Nat) (x : BitVec 8), n ≤ 32 → okK (dkS shaF k n u.den x) := fun n x hn => ⟨by show 0 + n ≤ n; omega, by show n ≤ 4096; omega⟩
  have hc16 : okL (c.len 16) := ⟨hc, by show 16 ≤ _; omega⟩
  refine boolC_sat (fun hp1 => boolC_only fun hn16 => partL_sat fun t tn hn3 ht3 hi3 => boolC_only fun hd => fun ⟨h1, h2⟩ => ?_) fun _ => boolC_only fun hp2 => boolC_only fun hn32 => partN_sat fun t tn tl hn3 ht3 hi3 htl => boolC_only fun hd => boolC_only fun h5 => fun h1 => ?_
  · have hp1 := beq_spec hp1
    have hn16 := beq_spec hn16
    subst hn16
    obtain ⟨m3, _, hts⟩ := Sl.val_den (hi3 _ _ hxt)
    refine sum_outOG cfgSeOK 8000 hH (shaIP [kn, cn, tn] [k.row, c.row, t.row] [.agg [.int .i64 (.lit 1), .int .i64 (.sym v'.den), (k.pl m).valN 4 16], .int .i64 (.sym u.den), (c.pl m2).valN 5 16, (t.pl m3).val 6]) (shaIP_glob hG) ?_ (Ifc.fits (nd4 hd (by simp only [List.mem_cons, List.not_mem_nil, or_false]; rintro x (rfl | rfl | rfl) <;> assumption)) ?_ (shaIP_ents hT ⟨⟨ht1 _, k.row_uses _⟩, ⟨ht2 _, c.row_uses _⟩, ⟨ht3 _, t.row_uses _⟩, trivial⟩)) [20] (by simp [shaIP]) (by simp) (se_run1 shaF encF v'.den u.den k c t m m2 m3) ?_ fun H2 hH2 => endsS rfl rfl (List.cons.inj hH2).1
    · show SV.denL β [.agg [.int .i64 (.lit 1), .int .i64 (.sym v'.den), ((k.pl m).valN 4 16).ren _], .int .i64 (.sym u.den), ((c.pl m2).valN 5 16).ren _, ((t.pl m3).val 6).ren _] = _
      rw [Sl.valN_ren, Sl.valN_ren, Sl.val_ren]
      exact harg 1 16 _ (by rw [hp1]; rfl) rfl hts
    · rfl
    · have hcp : okL (cphS shaF encF k c t u.den) := ⟨by show 0 + (16 + t.n) ≤ 16 + t.n; omega, by show 16 + t.n ≤ _; omega⟩
      exact all_cons (decide_eq_true hv1) (all_cons (decide_eq_true hv2) (all_cons (decide_eq_true hu1) (all_cons (decide_eq_true hu2) (all_cons (decide_eq_false (by omega)) (all_cons (byteF_isB _) (all_cons hk (all_cons (byteF_isB _) (all_cons (byteF_isB _) (all_cons ⟨⟨hc16, by omega⟩, h1, by omega⟩ (all_cons (by omega) (all_cons (by omega) (all_cons (decide_eq_false (by omega)) (all_cons (decide_eq_true (by omega)) (all_cons (byteF_isB _) (all_cons ⟨by omega, by omega⟩ (all_cons (byteF_isB _) (all_cons hk (all_cons (byteF_isB _) (all_cons ⟨hdk 16 _ (by omega), hcp⟩ (all_cons (byteF_isB _) (all_cons ⟨⟨hcp, by show 16 + t.n ≠ 0; omega⟩, by show 0 + 16 ≤ 32; omega, by show 16 ≤ _; omega⟩ all_nil)))))))))))))))))))))
  · have hp2 := beq_spec hp2
    have hn32 := beq_spec hn32
    have h5 := beq_spec h5
    subst hn32 h5
    obtain ⟨m3, hts⟩ := Sl.valN_den (hi3 _ _ hxt)
    refine sum_outOG cfgSeOK 8000 hH (shaIP [kn, cn, tn] [k.row, c.row, t.row] [.agg [.int .i64 (.lit 2), .int .i64 (.sym v'.den), (k.pl m).valN 4 32], .int .i64 (.sym u.den), (c.pl m2).valN 5 16, (t.pl m3).valN 6 5]) (shaIP_glob hG) ?_ (Ifc.fits (nd4 hd (by simp only [List.mem_cons, List.not_mem_nil, or_false]; rintro x (rfl | rfl | rfl) <;> assumption)) ?_ (shaIP_ents hT ⟨⟨ht1 _, k.row_uses _⟩, ⟨ht2 _, c.row_uses _⟩, ⟨ht3 _, t.row_uses _⟩, trivial⟩)) [19] (by simp [shaIP]) (by simp) (se_run5 shaF encF v'.den u.den k c t m m2 m3) ?_ fun H2 hH2 => endsS rfl rfl (List.cons.inj hH2).1
    · show SV.denL β [.agg [.int .i64 (.lit 2), .int .i64 (.sym v'.den), ((k.pl m).valN 4 32).ren _], .int .i64 (.sym u.den), ((c.pl m2).valN 5 16).ren _, ((t.pl m3).valN 6 5).ren _] = _
      rw [Sl.valN_ren, Sl.valN_ren, Sl.valN_ren]
      exact harg 2 32 _ (by rw [hp2]; rfl) rfl hts
    · rfl
    · have hcp : okL (cph5 shaF k c t u.den) := ⟨by show 0 + (16 + 5) ≤ 16 + 5; omega, by show 16 + 5 ≤ _; omega⟩
      have ht5 : okL (t.len 5) := ⟨h1, by show 5 ≤ _; omega⟩
      exact all_cons (decide_eq_true hv1) (all_cons (decide_eq_true hv2) (all_cons (decide_eq_true hu1) (all_cons (decide_eq_true hu2) (all_cons (byteF_isB _) (all_cons hk (all_cons (byteF_isB _) (all_cons (byteF_isB _) (all_cons ⟨hdk 32 _ (by omega), hc16, ht5⟩ (all_cons (byteF_isB _) (all_cons ⟨⟨hc16, by omega⟩, by show 0 + 5 ≤ 5; omega, by show 5 ≤ _; omega⟩ (all_cons (byteF_isB _) (all_cons hk (all_cons (byteF_isB _) (all_cons ⟨hdk 32 _ (by omega), hcp⟩ (all_cons (byteF_isB _) (all_cons ⟨⟨hcp, by show 16 + 5 ≠ 0; omega⟩, by show 0 + 32 ≤ 32; omega, by show 32 ≤ _; omega⟩ all_nil))))))))))))))))
end Go.Proofs.YtbmgahpjgefjaaaGreatDoor.Aes


/-
  The profiles: usable, where it is told whether the key and the usage are valid; Valid.
-/
namespace Go.Proofs.YtbmgahpjgefjaaaGreatDoor.Aes
open Go.Sim
open Go.Proofs
variable {α : Type}

set_option maxRecDepth 100000
/- Leaves of what the looks come to. -/
/-- the key is valid -/
def validK (p v : Int) (l : Nat) : Prop := ((p = 1 ∧ l = 16) ∨ (p = 2 ∧ l = 32)) ∧ 0 ≤ v ∧ v ≤ 65535
noncomputable def usQ (p v u : Int) (l : Nat) : Prop := validK p v l ∧ 1 ≤ u ∧ u ≤ 1023
/- find, where it is told which profile and whether the key is valid. -/
noncomputable def kdOf (p : Int) : Nat := if p = 1 then 1 else if p = 2 then 2 else 0
noncomputable def kvI (i : Nat) : SV := boolC (Nat.beq i 1) kv1 (boolC (Nat.beq i 2) kv2 kv0)
/- Valid. -/
section
variable (b : Bool) (p v : Int) (o l m : Nat)
end
theorem kdOf_cases (p : Int) : kdOf p = 0 ∨ kdOf p = 1 ∨ kdOf p = 2 := by
  unfold kdOf
  split
  · exact .inr (.inl rfl)
  · split
    · exact .inr (.inr rfl)
    · exact .inl rfl
end Go.Proofs.YtbmgahpjgefjaaaGreatDoor.Aes


/-
  The profiles: the key stream, for texts of any length: the loops.
-/
namespace Go.Proofs.YtbmgahpjgefjaaaGreatDoor.Aes
open Go.Sim
open Go.Proofs
variable {α : Type}

set_option maxRecDepth 1000000
structure SgA where
  i : Int
  L : Int
  j : Nat
  G : Nat → BitVec 8
  S : Nat → BitVec 8
noncomputable def sgK (F : HashF) (k c : Sl) (v : Int) : Nat → BitVec 8 := byteAt (macB F k.F k.n (two c (slL (num4 v))) (c.n + 4))
section
variable (F : HashF) (k c t : Sl) (m m2 m3 : Nat) (A : SgA) (J : Junk) (z : Nat → Nat → Nat)
end
end Go.Proofs.YtbmgahpjgefjaaaGreatDoor.Aes


/-
  The profiles: the key stream, for texts of any length: the summary.
-/
namespace Go.Proofs.YtbmgahpjgefjaaaGreatDoor.Aes
open Go.Sim
open Go.Proofs
variable {α : Type}

set_option maxRecDepth 1000000
/-- a byte of the stream, by its place -/
noncomputable def strG (F : HashF) (k c t : Sl) : Nat → BitVec 8 := fun p => t.X (t.o + p) ^^^ sgK F k c (((p / 32 : Nat) : Int) + 1) (p % 32)
structure SgQ (F : HashF) (k c t : Sl) (A : SgA) (q : Nat) : Prop where
  i : A.i = 32 * (q : Int)
  lt : 32 * q < t.n
  L : A.L = ((min 32 (t.n - 32 * q) : Nat) : Int)
  j : A.j ≤ min 32 (t.n - 32 * q)
  S : A.S = sgK F k c ((q : Int) + 1)
  G : ∀ p, p < t.n → A.G p = if p < 32 * q + A.j then strG F k c t p else joinG t p
noncomputable def sgD (F : HashF) (k c t : Sl) (v : SV) (H : List SO) : Prop := v = joinV 7 t.n ∧ ∃ G, (∀ p, p < t.n → G p = strG F k c t p) ∧ H[7]? = some (.own (.fn (byteF G) t.n) false 5)
end Go.Proofs.YtbmgahpjgefjaaaGreatDoor.Aes


/-
  The profiles: Seal, where it is told that the key and the usage are valid: its runs.
-/
namespace Go.Proofs.YtbmgahpjgefjaaaGreatDoor.Aes
open Go.Sim
open Go.Proofs
variable {α : Type}

set_option maxRecDepth 1000000
noncomputable def nilSl : Sl := ⟨fun _ => 0#8, 0, 0, 0, false, 0⟩
section
variable (F : HashF) (E D : CtsF) (v u : Int) (k c t : Sl) (m m2 m3 : Nat)
end
end Go.Proofs.YtbmgahpjgefjaaaGreatDoor.Aes


/-
  The profiles: Seal, where it is told that the key and the usage are valid: its summary.
-/
namespace Go.Proofs.YtbmgahpjgefjaaaGreatDoor.Aes
open Go.Sim
open Go.Proofs
variable {α : Type}

set_option maxRecDepth 100000
/- Plain facts: what is behind the end of a string does not matter. -/
/-- two slices of the same bytes -/
def SlEq (x y : Sl) : Prop := x.n = y.n ∧ ∀ i, i < x.n → x.X (x.o + i) = y.X (y.o + i)
noncomputable def optL (o : Option Nat) : List Nat := optC o [] fun n => [n]
noncomputable def txtL (H : List SO) (v : SV) (f : Sl → Option Nat → R α) : R α := sliceR v (f nilSl none) fun _ _ => partL H v fun t tn => f t (some tn)
theorem txtL_sat {H : List SO} {v : SV} {f : Sl → Option Nat → R α} {φ : α → Prop} (h0 : v = .nilSlice → (f nilSl none).Sat φ) (h : ∀ t nm, newOne nm = true → (∀ g, ∃ e', H[nm]? = some e' ∧ Taken g t.row e') → v.Imp (t.val nm) → (f t (some nm)).Sat φ) : (txtL H v f).Sat φ :=
  sliceR_sat h0 fun _ _ _ _ => partL_sat fun t tn hn ht hi => h t tn hn ht hi
end Go.Proofs.YtbmgahpjgefjaaaGreatDoor.Aes


/-
  The keyed hash: Equal's summary, for strings of which the first has 16 or 32 bytes.
-/
namespace Go.Proofs.YtbmgahpjgefjaaaGreatDoor.Aes
open Go.Sim
open Go.Proofs
variable {α : Type}

set_option maxRecDepth 1000000
noncomputable def orF (X Y : Nat → BitVec 8) (n : Nat) : BitVec 8 := Nat.rec (motive := fun _ => BitVec 8) (BitVec.ofInt 8 0) (fun j ih => ih ||| (X j ^^^ Y j)) n
section
variable (a b : Sl) (m m2 : Nat)
end
theorem endsBo {I : Ifc} {base : Nat} {b b' : SB} {H : List SO} (ho : ownsOf I.ents 0 = []) (h : b.den = b'.den) : I.Ends base [] ⟨.bool b', [], []⟩ (.bool b) H := by
  refine ⟨?_, rfl, by rw [ho]; trivial, trivial⟩
  intro γ x hx
  have hx : some (Value.bool b.den) = some x := by cases b <;> exact hx
  rw [h] at hx
  cases b' <;> exact hx
end Go.Proofs.YtbmgahpjgefjaaaGreatDoor.Aes


/-
  The profiles: Open, where it ends in an error; what is known.
-/
namespace Go.Proofs.YtbmgahpjgefjaaaGreatDoor.Aes
open Go.Sim
open Go.Proofs
variable {α : Type}

set_option maxRecDepth 1000000
noncomputable def cfgOp : Cfg := cfgOf (sumsOf [(37, usableS)])
theorem cfgOpOK : CfgOK cfgOp := sumsOf_ok (all1 usableOK)
noncomputable def opT (v u sp sv : Int) (k t : Sl) : Tree := callSim cfgOp 4000 15 [.agg [.int .i64 (.lit 1), .int .i64 (.sym v), k.valN 0 16], .int .i64 (.sym u), .agg [.int .i64 (.sym sp), .int .i64 (.sym sv), t.val 1]] [k.row, t.row]
noncomputable def opC (v u : Int) (r : List Prop) : List Prop := (decide (0 ≤ v) = true) :: (decide (v ≤ 65535) = true) :: (decide (1 ≤ u) = true) :: (decide (u ≤ 1023) = true) :: r
noncomputable def opV (e : Int) : SV := .tuple [.nilSlice, .int .i64 (.lit e)]
section
variable (v u sp sv : Int) (k t : Sl) (m m2 : Nat)
theorem op_prof : outO [] (opT v u sp sv (k.pl m) (t.pl m2)) [true, true, true, true, true, true, true, true, true, true, true, true, true, true] = (opC v u (repN ((sp != 1) = true) 10), some (opV 9, [])) := by kernel_rfl
theorem op_vers : outO [] (opT v u sp sv (k.pl m) (t.pl m2)) [true, true, true, true, false, true, true, true] = (opC v u [(sp != 1) = false, (sv != v) = true, (sv != 0) = true, (v != 0) = true], some (opV 9, [])) := by kernel_rfl
theorem op_short : outO [] (opT v u sp sv (k.pl m) (t.pl m2)) [true, true, true, true, false, false, false, false, false, true] = (opC v u [(sp != 1) = false, (sv != v) = false, (sv != v) = false, (sv != v) = false, (sv != v) = false, inI64 ((t.n : Int) - 16), decide ((t.n : Int) - 16 < 16) = true], some (opV 4, [])) := by kernel_rfl
end
noncomputable def opR (e : Int) : R SumRes := .ok ⟨opV e, [], []⟩
noncomputable def openS : Summ := fun args H _ => args3 args fun kv uv zv => kv.asAgg (.stuck 797) fun l => args3 l fun p v s => optC (litI p) (.stuck 797) fun p => boolC (Nat.beq p 1) (i64O v fun v => i64O uv fun u => zv.asAgg (.stuck 797) fun l2 => args3 l2 fun sp sv ss => i64O sp fun sp => i64O sv fun sv =>
  partN H s fun _ kn n => boolC (Nat.beq n 16) (partL H ss fun t tn => boolC (distN [kn, tn]) (.need ((0 ≤ v.den ∧ v.den ≤ 65535) ∧ 1 ≤ u.den ∧ u.den ≤ 1023)
    (isI sp 1 (sv.asLit (.stuck 797) fun a => v.asLit (.stuck 797) fun b => boolC (eqI a b) (.need (t.n < 32) (opR 4)) (boolC (eqI a 0) (.stuck 797) (boolC (eqI b 0) (.stuck 797) (opR 9)))) (opR 9))) (.stuck 797)) (.stuck 797)) (.stuck 797)
theorem repN_all {p : Prop} (h : p) : ∀ n, ∀ q ∈ repN p n, q := by
  intro n q hq
  rw [repN_eq] at hq
  rw [List.eq_of_mem_replicate hq]; exact h
theorem openOK : SumOK Tryz.prog 15 openS := by
  intro glob O w0 β H w base args vs hH hG ha
  refine args3_sat fun kv uv zv hv => ?_
  rcases asAgg_cases kv with ⟨l, rfl⟩ | hno
  case inr => rw [hno]; trivial
  refine args3_sat fun p v s hl => optC_only fun p0 hp => boolC_only fun hp1 => i64O_sat fun v' hv' => i64O_sat fun u hu => ?_
  rcases asAgg_cases zv with ⟨l2, rfl⟩ | hno
  case inr => rw [hno]; trivial
  refine args3_sat fun sp sv ss hl2 => i64O_sat fun sp' hsp => i64O_sat fun sv' hsv => partN_sat fun k kn n hn1 ht1 hi1 hkn => boolC_only fun h16 => partL_sat fun t tn hn2 ht2 hi2 => boolC_only fun hd => fun ⟨⟨hv1, hv2⟩, hu1, hu2⟩ => ?_
  have h16 := beq_spec h16
  have hp1 := beq_spec hp1
  subst hl hv' hu hl2 hsp hsv h16 hp1
  rw [hv, litI_spec hp] at ha
  obtain ⟨⟨xs, hxs⟩, zs, hzs⟩ := agg3_at ha
  obtain ⟨m, hks⟩ := Sl.valN_den (hi1 _ _ hxs)
  obtain ⟨xu, zs1, hxu, hzs1, rfl⟩ := denL_cons.1 hzs
  obtain ⟨⟨xt, hxt⟩, zs2, hzs2⟩ := agg3_at hzs1
  obtain ⟨m2, _, hts⟩ := Sl.val_den (hi2 _ _ hxt)
  have h2 : SV.denL β [.agg [.int .i64 (.sym sp'.den), .int .i64 (.sym sv'.den), (t.pl m2).val tn]] = some zs1 := agg3_den hzs1 (fun x hx => by rw [hxt] at hx; cases hx; exact hts) (int_imp0 rfl) (int_imp0 rfl)
  have h1 : SV.denL β [.agg [.int .i64 (.lit 1), .int .i64 (.sym v'.den), (k.pl m).valN kn 16], .int .i64 (.sym u.den), .agg [.int .i64 (.sym sp'.den), .int .i64 (.sym sv'.den), (t.pl m2).val tn]] = some vs := by
    have h1 := agg3_den (s' := (k.pl m).valN kn 16) (p' := .int .i64 (.lit 1)) (v' := .int .i64 (.sym v'.den)) ha (fun x hx => by rw [hxs] at hx; cases hx; exact hks) (.refl _) (int_imp0 rfl)
    obtain ⟨xa, ws, hxa, hws, rfl⟩ := denL_cons.1 h1
    refine denL_cons.2 ⟨_, _, hxa, ?_, rfl⟩
    rw [hzs] at hws
    cases hws
    exact denL_cons.2 ⟨_, _, int_imp0 rfl _ _ hxu, h2, rfl⟩
  have key : ∀ {ds cs e}, outO [] (opT v'.den u.den sp'.den sv'.den (k.pl m) (t.pl m2)) ds = (opC v'.den u.den cs, some (opV e, [])) → (∀ q ∈ cs, q) → SumSem Tryz.prog H β w base 15 vs ⟨opV e, [], []⟩ := by
    intro ds cs e hr hc
    refine sum_outO cfgOpOK rfl 4000 hH ⟨[kn, tn], [k.row, t.row], [.agg [.int .i64 (.lit 1), .int .i64 (.sym v'.den), (k.pl m).valN 0 16], .int .i64 (.sym u.den), .agg [.int .i64 (.sym sp'.den), .int .i64 (.sym sv'.den), (t.pl m2).val 1]]⟩ ?_ (Ifc.fits (distN_spec hd) rfl ⟨⟨ht1 _, k.row_uses _⟩, ⟨ht2 _, t.row_uses _⟩, trivial⟩) [] (by simp) (by simp) hr (all_cons (decide_eq_true hv1) (all_cons (decide_eq_true hv2) (all_cons (decide_eq_true hu1) (all_cons (decide_eq_true hu2) hc)))) fun _ _ => ends0 rfl rfl rfl
    show SV.denL β [.agg [.int .i64 (.lit 1), .int .i64 (.sym v'.den), ((k.pl m).valN 0 16).ren _], .int .i64 (.sym u.den), .agg [.int .i64 (.sym sp'.den), .int .i64 (.sym sv'.den), ((t.pl m2).val 1).ren _]] = _
    rw [Sl.valN_ren, Sl.val_ren]
    exact h1
  refine isI_sat (fun hs1 => ?_) fun hs1 => ?_
  · have e1 : (sp'.den != 1) = false := by rw [hs1]; rfl
    cases sv' with
    | lit a =>
      cases v' with
      | lit b =>
        refine boolC_sat (fun hab => fun ht => ?_) fun hab => boolC_sat (fun _ => trivial) fun ha0 => boolC_sat (fun _ => trivial) fun hb0 => ?_
        · have hab := eqI_spec hab
          subst hab
          have e2 : ((SI.lit a).den != (SI.lit a).den) = false := by simp
          exact key (op_short (SI.lit a).den u.den sp'.den (SI.lit a).den k t m m2) (all_cons e1 (all_cons e2 (all_cons e2 (all_cons e2 (all_cons e2 (all_cons ⟨by omega, by omega⟩ (all_cons (decide_eq_true (by omega)) all_nil)))))))
        · have ne : ∀ {x y : Int}, eqI x y = false → (x != y) = true := fun {x y} h => by
            rw [bne_iff_ne]
            intro e
            subst e
            rw [eqI_eq] at h
            simp at h
          exact key (op_vers (SI.lit b).den u.den sp'.den (SI.lit a).den k t m m2) (all_cons e1 (all_cons (ne hab) (all_cons (ne ha0) (all_cons (ne hb0) all_nil))))
      | sym b => trivial
      | b8 b => trivial
      | b32 b => trivial
      | b64 b => trivial
    | sym a => trivial
    | b8 a => trivial
    | b32 a => trivial
    | b64 a => trivial
  · exact key (op_prof v'.den u.den sp'.den sv'.den k t m m2) (repN_all (by rw [bne_iff_ne]; exact hs1) 10)
end Go.Proofs.YtbmgahpjgefjaaaGreatDoor.Aes


/-
  The reference of the profiles: Same and Equal; strings of bytes that are equal.
-/
namespace Go.Proofs.YtbmgahpjgefjaaaGreatDoor.Aes
open Go.Sim
open Go.Proofs
variable {α : Type}

set_option maxRecDepth 1000000
/-- the string of a slice's bytes -/
noncomputable def strS (t : Sl) : ByteArray := strOfFn (byteF t.X) t.o t.n
theorem strS_iff {x y : Sl} : strS x = strS y ↔ SlEq x y := by
  constructor
  · intro h
    have h1 := congrArg (fun b : ByteArray => b.data.toList) h
    simp only [strS, strOfFn, List.toList_toArray] at h1
    have hl : x.n = y.n := by simpa using congrArg List.length h1
    refine ⟨hl, fun i hi => ?_⟩
    have h2 := congrArg (fun l : List UInt8 => l[i]?) h1
    simp only [List.getElem?_map, List.getElem?_range hi, List.getElem?_range (show i < y.n by omega), Option.map_some, Option.some.injEq] at h2
    have h3 : UInt8.ofNat (((x.X (x.o + i)).toNat : Int)).toNat = UInt8.ofNat (((y.X (y.o + i)).toNat : Int)).toNat := h2
    rw [Int.toNat_natCast, Int.toNat_natCast] at h3
    have h4 := congrArg UInt8.toNat h3
    rw [UInt8.toNat_ofNat', UInt8.toNat_ofNat'] at h4
    have a := (x.X (x.o + i)).isLt
    have b := (y.X (y.o + i)).isLt
    exact BitVec.eq_of_toNat_eq (by omega)
  · rintro ⟨hl, h⟩
    unfold strS strOfFn
    rw [← hl]
    congr 2
    apply List.map_congr_left
    intro i hi
    show UInt8.ofNat (((x.X (x.o + i)).toNat : Int)).toNat = UInt8.ofNat (((y.X (y.o + i)).toNat : Int)).toNat
    rw [h i (by simpa using hi)]
noncomputable def samB (p v : Int) (x : Sl) (p' v' : Int) (y : Sl) : Bool := @decide (p = p' ∧ v = v' ∧ SlEq x y) (Classical.propDecidable _)
theorem samB_iff {p v : Int} {x : Sl} {p' v' : Int} {y : Sl} : samB p v x p' v' y = true ↔ p = p' ∧ v = v' ∧ SlEq x y := by
  unfold samB; exact @decide_eq_true_iff _ (Classical.propDecidable _)
noncomputable def saA (p v : Int) (x : SV) (p' v' : Int) (y : SV) : List SV := [.agg [.int .i64 (.sym p), .int .i64 (.sym v), x], .agg [.int .i64 (.sym p'), .int .i64 (.sym v'), y]]
theorem saA_uses {q : Nat → Bool} {p v : Int} {x : SV} {p' v' : Int} {y : SV} (hx : x.uses q = true) (hy : y.uses q = true) : SV.usesL q (saA p v x p' v' y) = true := by
  show ((true && (true && (x.uses q && true))) && ((true && (true && (y.uses q && true))) && true)) = true
  rw [hx, hy]; rfl
/-- what is read of a slice of bytes -/
noncomputable def rdC (x : Sl) : Prop := x.o + x.n ≤ x.N ∧ ∀ i : Nat, i < x.N → True
theorem rdC_of {x : Sl} (h : okL x) : rdC x := ⟨h.1, fun _ _ => trivial⟩
section
variable (p v p' v' : Int) (x y : Sl) (m m2 : Nat)
end
end Go.Proofs.YtbmgahpjgefjaaaGreatDoor.Aes


/-
  The profiles: the lengths of a profile.
-/
namespace Go.Proofs.YtbmgahpjgefjaaaGreatDoor.Aes
open Go.Sim
open Go.Proofs
variable {α : Type}

set_option maxRecDepth 1000000
end Go.Proofs.YtbmgahpjgefjaaaGreatDoor.Aes


/-
  The profiles: whether two keys are equal.
-/
namespace Go.Proofs.YtbmgahpjgefjaaaGreatDoor.Aes
open Go.Sim
open Go.Proofs
variable {α : Type}

set_option maxRecDepth 1000000
section
variable (p v p' v' : Int) (x y : Sl) (m m2 : Nat)
theorem ke_p00 : outO [] (callSim cfg0 4000 21 (saA p v .nilSlice p' v' .nilSlice) []) [false, false, false, false, false, false] = (repN ((p == p') = false) 6, some (.bool (.lit false), [])) := by kernel_rfl
theorem ke_v00 : outO [] (callSim cfg0 4000 21 (saA p v .nilSlice p' v' .nilSlice) []) [true, false, false, false, false, false, false, false, false] = (((p == p') = true) :: repN ((v == v') = false) 8, some (.bool (.lit false), [])) := by kernel_rfl
theorem ke_e00 : outO [] (callSim cfg0 4000 21 (saA p v .nilSlice p' v' .nilSlice) []) [true, true] = ([(p == p') = true, (v == v') = true], some ((.bool (.lit true)), [])) := by kernel_rfl
theorem ke_p01 : outO [] (callSim cfg0 4000 21 (saA p v .nilSlice p' v' ((y.pl m2).val 0)) [(y.pl m2).row]) [false, false, false, false, false, false] = (repN ((p == p') = false) 6, some (.bool (.lit false), [])) := by kernel_rfl
theorem ke_v01 : outO [] (callSim cfg0 4000 21 (saA p v .nilSlice p' v' ((y.pl m2).val 0)) [(y.pl m2).row]) [true, false, false, false, false, false, false, false, false] = (((p == p') = true) :: repN ((v == v') = false) 8, some (.bool (.lit false), [])) := by kernel_rfl
theorem ke_e01 : outO [] (callSim cfg0 4000 21 (saA p v .nilSlice p' v' ((y.pl m2).val 0)) [(y.pl m2).row]) [true, true] = ([(p == p') = true, (v == v') = true, rdC y], some ((.bool (.sym (decide (strS nilSl = strS y)))), [])) := by kernel_rfl
theorem ke_p10 : outO [] (callSim cfg0 4000 21 (saA p v ((x.pl m).val 0) p' v' .nilSlice) [(x.pl m).row]) [false, false, false, false, false, false] = (repN ((p == p') = false) 6, some (.bool (.lit false), [])) := by kernel_rfl
theorem ke_v10 : outO [] (callSim cfg0 4000 21 (saA p v ((x.pl m).val 0) p' v' .nilSlice) [(x.pl m).row]) [true, false, false, false, false, false, false, false, false] = (((p == p') = true) :: repN ((v == v') = false) 8, some (.bool (.lit false), [])) := by kernel_rfl
theorem ke_e10 : outO [] (callSim cfg0 4000 21 (saA p v ((x.pl m).val 0) p' v' .nilSlice) [(x.pl m).row]) [true, true] = ([(p == p') = true, (v == v') = true, rdC x], some ((.bool (.sym (decide (strS x = strS nilSl)))), [])) := by kernel_rfl
theorem ke_p11 : outO [] (callSim cfg0 4000 21 (saA p v ((x.pl m).val 0) p' v' ((y.pl m2).val 1)) [(x.pl m).row, (y.pl m2).row]) [false, false, false, false, false, false] = (repN ((p == p') = false) 6, some (.bool (.lit false), [])) := by kernel_rfl
theorem ke_v11 : outO [] (callSim cfg0 4000 21 (saA p v ((x.pl m).val 0) p' v' ((y.pl m2).val 1)) [(x.pl m).row, (y.pl m2).row]) [true, false, false, false, false, false, false, false, false] = (((p == p') = true) :: repN ((v == v') = false) 8, some (.bool (.lit false), [])) := by kernel_rfl
theorem ke_e11 : outO [] (callSim cfg0 4000 21 (saA p v ((x.pl m).val 0) p' v' ((y.pl m2).val 1)) [(x.pl m).row, (y.pl m2).row]) [true, true] = ([(p == p') = true, (v == v') = true, rdC x, rdC y], some ((.bool (.sym (decide (strS x = strS y)))), [])) := by kernel_rfl
end
noncomputable def keS : Summ := fun args H _ => args2 args fun av bv => av.asAgg (.stuck 850) fun l => args3 l fun p v s => i64O p fun p => i64O v fun v => bv.asAgg (.stuck 850) fun l2 => args3 l2 fun p' v' s' => i64O p' fun p' => i64O v' fun v' => txtL H s fun x xn => txtL H s' fun y yn => boolC (distN (app (optL xn) (optL yn))) (.need (okL x ∧ okL y) (.ok ⟨.bool (.sym (samB p.den v.den x p'.den v'.den y)), [], []⟩)) (.stuck 850)
theorem keOK : SumOK Tryz.prog 21 keS := by
  intro glob O w0 β H w base args vs hH hG ha
  refine args2_sat fun av bv hv => ?_
  rcases asAgg_cases av with ⟨l, rfl⟩ | hno
  case inr => rw [hno]; trivial
  refine args3_sat fun p v s hl => i64O_sat fun p1 hp => i64O_sat fun v1 hv1 => ?_
  rcases asAgg_cases bv with ⟨l2, rfl⟩ | hno
  case inr => rw [hno]; trivial
  refine args3_sat fun p' v' s' hl2 => i64O_sat fun p2 hp2 => i64O_sat fun v2 hv2 => ?_
  subst hl hl2 hp hv1 hp2 hv2
  rw [hv] at ha
  obtain ⟨⟨xs, hxs⟩, zs, hzs⟩ := agg3_at ha
  obtain ⟨⟨xt, hxt⟩, zs2, hzs2⟩ := agg3_at hzs
  have harg : ∀ {sx sy : SV}, sx.den β = some xs → sy.den β = some xt → SV.denL β (saA p1.den v1.den sx p2.den v2.den sy) = some vs := by
    intro sx sy hx hy
    have h2 : SV.denL β [.agg [.int .i64 (.sym p2.den), .int .i64 (.sym v2.den), sy]] = some zs := agg3_den hzs (fun z hz => by rw [hxt] at hz; cases hz; exact hy) (int_imp0 rfl) (int_imp0 rfl)
    have h1 := agg3_den (s' := sx) (p' := .int .i64 (.sym p1.den)) (v' := .int .i64 (.sym v1.den)) ha (fun z hz => by rw [hxs] at hz; cases hz; exact hx) (int_imp0 rfl) (int_imp0 rfl)
    obtain ⟨xa, ws, hxa, hws, rfl⟩ := denL_cons.1 h1
    refine denL_cons.2 ⟨_, _, hxa, ?_, rfl⟩
    rw [hzs] at hws
    cases hws
    exact h2
  have hp1 : p1.den ≠ p2.den → (p1.den == p2.den) = false := fun h => by rw [beq_eq_false_iff_ne]; exact h
  have hv1 : v1.den ≠ v2.den → (v1.den == v2.den) = false := fun h => by rw [beq_eq_false_iff_ne]; exact h
  have no : ∀ {x y : Sl}, ¬ (p1.den = p2.den ∧ v1.den = v2.den ∧ SlEq x y) → (SB.lit false).den = samB p1.den v1.den x p2.den v2.den y := fun h => by
    symm; show samB _ _ _ _ _ _ = false
    rw [Bool.eq_false_iff]; exact fun e => h (samB_iff.1 e)
  have yes : ∀ {x y : Sl}, p1.den = p2.den → v1.den = v2.den → (SB.sym (decide (strS x = strS y))).den = samB p1.den v1.den x p2.den v2.den y := fun {x y} h h' => by
    show decide _ = _
    rw [Bool.eq_iff_iff, samB_iff, decide_eq_true_iff, strS_iff]
    exact ⟨fun e => ⟨h, h', e⟩, fun e => e.2.2⟩
  refine txtL_sat (fun hx => txtL_sat (fun hy => boolC_only fun hd => fun _ => ?_) fun y yn hn2 ht2 hi2 => boolC_only fun hd => fun ⟨_, hoy⟩ => ?_) fun x xn hn1 ht1 hi1 => txtL_sat (fun hy => boolC_only fun hd => fun ⟨hox, _⟩ => ?_) fun y yn hn2 ht2 hi2 => boolC_only fun hd => fun ⟨hox, hoy⟩ => ?_
  · subst hx
    subst hy
    have key : ∀ {cs ds b}, outO [] (callSim cfg0 4000 21 (saA p1.den v1.den .nilSlice p2.den v2.den .nilSlice) []) ds = (cs, some (.bool b, [])) → (∀ q ∈ cs, q) → b.den = samB p1.den v1.den nilSl p2.den v2.den nilSl → SumSem Tryz.prog H β w base 21 vs ⟨.bool (.sym (samB p1.den v1.den nilSl p2.den v2.den nilSl)), [], []⟩ := by
      intro cs ds b hr hc hb
      refine sum_outO cfg0OK rfl 4000 hH ⟨[], [], saA p1.den v1.den .nilSlice p2.den v2.den .nilSlice⟩ ?_ (Ifc.fits (by simp) ?_ trivial) [] (by simp) (by simp) hr hc fun _ _ => endsBo rfl hb
      · show SV.denL β (saA p1.den v1.den (.nilSlice) p2.den v2.den (.nilSlice)) = _
        exact harg hxs hxt
      · exact saA_uses rfl rfl
    by_cases h1 : p1.den = p2.den
    · by_cases h2 : v1.den = v2.den
      · exact key (ke_e00 p1.den v1.den p2.den v2.den) (all_cons (by simp [h1]) (all_cons (by simp [h2]) all_nil)) ((show (SB.lit true).den = _ from (by symm; exact samB_iff.2 ⟨h1, h2, rfl, fun _ _ => rfl⟩)))
      · exact key (ke_v00 p1.den v1.den p2.den v2.den) (all_cons (by simp [h1]) (repN_all (hv1 h2) 8)) (no fun h => h2 h.2.1)
    · exact key (ke_p00 p1.den v1.den p2.den v2.den) (repN_all (hp1 h1) 6) (no fun h => h1 h.1)
  · subst hx
    obtain ⟨m2, _, hyd⟩ := Sl.val_den (hi2 _ _ hxt)
    have key : ∀ {cs ds b}, outO [] (callSim cfg0 4000 21 (saA p1.den v1.den .nilSlice p2.den v2.den ((y.pl m2).val 0)) [(y.pl m2).row]) ds = (cs, some (.bool b, [])) → (∀ q ∈ cs, q) → b.den = samB p1.den v1.den nilSl p2.den v2.den y → SumSem Tryz.prog H β w base 21 vs ⟨.bool (.sym (samB p1.den v1.den nilSl p2.den v2.den y)), [], []⟩ := by
      intro cs ds b hr hc hb
      refine sum_outO cfg0OK rfl 4000 hH ⟨[yn], [(y.pl m2).row], saA p1.den v1.den .nilSlice p2.den v2.den ((y.pl m2).val 0)⟩ ?_ (Ifc.fits (distN_spec hd) ?_ ⟨⟨ht2 _, y.row_uses _⟩, trivial⟩) [] (by simp) (by simp) hr hc fun _ _ => endsBo rfl hb
      · show SV.denL β (saA p1.den v1.den (.nilSlice) p2.den v2.den (((y.pl m2).val 0).ren _)) = _
        rw [Sl.val_ren]
        exact harg hxs hyd
      · exact saA_uses rfl (Sl.val_uses _ _ _ rfl)
    by_cases h1 : p1.den = p2.den
    · by_cases h2 : v1.den = v2.den
      · exact key (ke_e01 p1.den v1.den p2.den v2.den y m2) (all_cons (by simp [h1]) (all_cons (by simp [h2]) (all_cons (rdC_of hoy) all_nil))) (yes h1 h2)
      · exact key (ke_v01 p1.den v1.den p2.den v2.den y m2) (all_cons (by simp [h1]) (repN_all (hv1 h2) 8)) (no fun h => h2 h.2.1)
    · exact key (ke_p01 p1.den v1.den p2.den v2.den y m2) (repN_all (hp1 h1) 6) (no fun h => h1 h.1)
  · subst hy
    obtain ⟨m, _, hxd⟩ := Sl.val_den (hi1 _ _ hxs)
    have key : ∀ {cs ds b}, outO [] (callSim cfg0 4000 21 (saA p1.den v1.den ((x.pl m).val 0) p2.den v2.den .nilSlice) [(x.pl m).row]) ds = (cs, some (.bool b, [])) → (∀ q ∈ cs, q) → b.den = samB p1.den v1.den x p2.den v2.den nilSl → SumSem Tryz.prog H β w base 21 vs ⟨.bool (.sym (samB p1.den v1.den x p2.den v2.den nilSl)), [], []⟩ := by
      intro cs ds b hr hc hb
      refine sum_outO cfg0OK rfl 4000 hH ⟨[xn], [(x.pl m).row], saA p1.den v1.den ((x.pl m).val 0) p2.den v2.den .nilSlice⟩ ?_ (Ifc.fits (distN_spec hd) ?_ ⟨⟨ht1 _, x.row_uses _⟩, trivial⟩) [] (by simp) (by simp) hr hc fun _ _ => endsBo rfl hb
      · show SV.denL β (saA p1.den v1.den (((x.pl m).val 0).ren _) p2.den v2.den (.nilSlice)) = _
        rw [Sl.val_ren]
        exact harg hxd hxt
      · exact saA_uses (Sl.val_uses _ _ _ rfl) rfl
    by_cases h1 : p1.den = p2.den
    · by_cases h2 : v1.den = v2.den
      · exact key (ke_e10 p1.den v1.den p2.den v2.den x m) (all_cons (by simp [h1]) (all_cons (by simp [h2]) (all_cons (rdC_of hox) all_nil))) (yes h1 h2)
      · exact key (ke_v10 p1.den v1.den p2.den v2.den x m) (all_cons (by simp [h1]) (repN_all (hv1 h2) 8)) (no fun h => h2 h.2.1)
    · exact key (ke_p10 p1.den v1.den p2.den v2.den x m) (repN_all (hp1 h1) 6) (no fun h => h1 h.1)
  · obtain ⟨m, _, hxd⟩ := Sl.val_den (hi1 _ _ hxs)
    obtain ⟨m2, _, hyd⟩ := Sl.val_den (hi2 _ _ hxt)
    have key : ∀ {cs ds b}, outO [] (callSim cfg0 4000 21 (saA p1.den v1.den ((x.pl m).val 0) p2.den v2.den ((y.pl m2).val 1)) [(x.pl m).row, (y.pl m2).row]) ds = (cs, some (.bool b, [])) → (∀ q ∈ cs, q) → b.den = samB p1.den v1.den x p2.den v2.den y → SumSem Tryz.prog H β w base 21 vs ⟨.bool (.sym (samB p1.den v1.den x p2.den v2.den y)), [], []⟩ := by
      intro cs ds b hr hc hb
      refine sum_outO cfg0OK rfl 4000 hH ⟨[xn, yn], [(x.pl m).row, (y.pl m2).row], saA p1.den v1.den ((x.pl m).val 0) p2.den v2.den ((y.pl m2).val 1)⟩ ?_ (Ifc.fits (distN_spec hd) ?_ ⟨⟨ht1 _, x.row_uses _⟩, ⟨ht2 _, y.row_uses _⟩, trivial⟩) [] (by simp) (by simp) hr hc fun _ _ => endsBo rfl hb
      · show SV.denL β (saA p1.den v1.den (((x.pl m).val 0).ren _) p2.den v2.den (((y.pl m2).val 1).ren _)) = _
        rw [Sl.val_ren, Sl.val_ren]
        exact harg hxd hyd
      · exact saA_uses (Sl.val_uses _ _ _ rfl) (Sl.val_uses _ _ _ rfl)
    by_cases h1 : p1.den = p2.den
    · by_cases h2 : v1.den = v2.den
      · exact key (ke_e11 p1.den v1.den p2.den v2.den x y m m2) (all_cons (by simp [h1]) (all_cons (by simp [h2]) (all_cons (rdC_of hox) (all_cons (rdC_of hoy) all_nil)))) (yes h1 h2)
      · exact key (ke_v11 p1.den v1.den p2.den v2.den x y m m2) (all_cons (by simp [h1]) (repN_all (hv1 h2) 8)) (no fun h => h2 h.2.1)
    · exact key (ke_p11 p1.den v1.den p2.den v2.den x y m m2) (repN_all (hp1 h1) 6) (no fun h => h1 h.1)
section
variable (p v p' v' : Int) (x y : Sl) (m m2 : Nat)
theorem pe_p00 : outO [] (callSim cfg0 4000 20 (saA p v .nilSlice p' v' .nilSlice) []) [false, false, false, false, false, false] = (repN ((p == p') = false) 6, some (.bool (.lit false), [])) := by kernel_rfl
theorem pe_v00 : outO [] (callSim cfg0 4000 20 (saA p v .nilSlice p' v' .nilSlice) []) [true, false, false, false, false, false, false] = (((p == p') = true) :: repN ((v == v') = false) 6, some (.bool (.lit false), [])) := by kernel_rfl
theorem pe_e00 : outO [] (callSim cfg0 4000 20 (saA p v .nilSlice p' v' .nilSlice) []) [true, true] = ([(p == p') = true, (v == v') = true], some ((.bool (.lit true)), [])) := by kernel_rfl
theorem pe_p01 : outO [] (callSim cfg0 4000 20 (saA p v .nilSlice p' v' ((y.pl m2).val 0)) [(y.pl m2).row]) [false, false, false, false, false, false] = (repN ((p == p') = false) 6, some (.bool (.lit false), [])) := by kernel_rfl
theorem pe_v01 : outO [] (callSim cfg0 4000 20 (saA p v .nilSlice p' v' ((y.pl m2).val 0)) [(y.pl m2).row]) [true, false, false, false, false, false, false] = (((p == p') = true) :: repN ((v == v') = false) 6, some (.bool (.lit false), [])) := by kernel_rfl
theorem pe_e01 : outO [] (callSim cfg0 4000 20 (saA p v .nilSlice p' v' ((y.pl m2).val 0)) [(y.pl m2).row]) [true, true] = ([(p == p') = true, (v == v') = true, rdC y], some ((.bool (.sym (decide (strS nilSl = strS y)))), [])) := by kernel_rfl
theorem pe_p10 : outO [] (callSim cfg0 4000 20 (saA p v ((x.pl m).val 0) p' v' .nilSlice) [(x.pl m).row]) [false, false, false, false, false, false] = (repN ((p == p') = false) 6, some (.bool (.lit false), [])) := by kernel_rfl
theorem pe_v10 : outO [] (callSim cfg0 4000 20 (saA p v ((x.pl m).val 0) p' v' .nilSlice) [(x.pl m).row]) [true, false, false, false, false, false, false] = (((p == p') = true) :: repN ((v == v') = false) 6, some (.bool (.lit false), [])) := by kernel_rfl
theorem pe_e10 : outO [] (callSim cfg0 4000 20 (saA p v ((x.pl m).val 0) p' v' .nilSlice) [(x.pl m).row]) [true, true] = ([(p == p') = true, (v == v') = true, rdC x], some ((.bool (.sym (decide (strS x = strS nilSl)))), [])) := by kernel_rfl
theorem pe_p11 : outO [] (callSim cfg0 4000 20 (saA p v ((x.pl m).val 0) p' v' ((y.pl m2).val 1)) [(x.pl m).row, (y.pl m2).row]) [false, false, false, false, false, false] = (repN ((p == p') = false) 6, some (.bool (.lit false), [])) := by kernel_rfl
theorem pe_v11 : outO [] (callSim cfg0 4000 20 (saA p v ((x.pl m).val 0) p' v' ((y.pl m2).val 1)) [(x.pl m).row, (y.pl m2).row]) [true, false, false, false, false, false, false] = (((p == p') = true) :: repN ((v == v') = false) 6, some (.bool (.lit false), [])) := by kernel_rfl
theorem pe_e11 : outO [] (callSim cfg0 4000 20 (saA p v ((x.pl m).val 0) p' v' ((y.pl m2).val 1)) [(x.pl m).row, (y.pl m2).row]) [true, true] = ([(p == p') = true, (v == v') = true, rdC x, rdC y], some ((.bool (.sym (decide (strS x = strS y)))), [])) := by kernel_rfl
end
noncomputable def peS : Summ := fun args H _ => args2 args fun av bv => av.asAgg (.stuck 850) fun l => args3 l fun p v s => i64O p fun p => i64O v fun v => bv.asAgg (.stuck 850) fun l2 => args3 l2 fun p' v' s' => i64O p' fun p' => i64O v' fun v' => txtL H s fun x xn => txtL H s' fun y yn => boolC (distN (app (optL xn) (optL yn))) (.need (okL x ∧ okL y) (.ok ⟨.bool (.sym (samB p.den v.den x p'.den v'.den y)), [], []⟩)) (.stuck 850)
theorem peOK : SumOK Tryz.prog 20 peS := by
  intro glob O w0 β H w base args vs hH hG ha
  refine args2_sat fun av bv hv => ?_
  rcases asAgg_cases av with ⟨l, rfl⟩ | hno
  case inr => rw [hno]; trivial
  refine args3_sat fun p v s hl => i64O_sat fun p1 hp => i64O_sat fun v1 hv1 => ?_
  rcases asAgg_cases bv with ⟨l2, rfl⟩ | hno
  case inr => rw [hno]; trivial
  refine args3_sat fun p' v' s' hl2 => i64O_sat fun p2 hp2 => i64O_sat fun v2 hv2 => ?_
  subst hl hl2 hp hv1 hp2 hv2
  rw [hv] at ha
  obtain ⟨⟨xs, hxs⟩, zs, hzs⟩ := agg3_at ha
  obtain ⟨⟨xt, hxt⟩, zs2, hzs2⟩ := agg3_at hzs
  have harg : ∀ {sx sy : SV}, sx.den β = some xs → sy.den β = some xt → SV.denL β (saA p1.den v1.den sx p2.den v2.den sy) = some vs := by
    intro sx sy hx hy
    have h2 : SV.denL β [.agg [.int .i64 (.sym p2.den), .int .i64 (.sym v2.den), sy]] = some zs := agg3_den hzs (fun z hz => by rw [hxt] at hz; cases hz; exact hy) (int_imp0 rfl) (int_imp0 rfl)
    have h1 := agg3_den (s' := sx) (p' := .int .i64 (.sym p1.den)) (v' := .int .i64 (.sym v1.den)) ha (fun z hz => by rw [hxs] at hz; cases hz; exact hx) (int_imp0 rfl) (int_imp0 rfl)
    obtain ⟨xa, ws, hxa, hws, rfl⟩ := denL_cons.1 h1
    refine denL_cons.2 ⟨_, _, hxa, ?_, rfl⟩
    rw [hzs] at hws
    cases hws
    exact h2
  have hp1 : p1.den ≠ p2.den → (p1.den == p2.den) = false := fun h => by rw [beq_eq_false_iff_ne]; exact h
  have hv1 : v1.den ≠ v2.den → (v1.den == v2.den) = false := fun h => by rw [beq_eq_false_iff_ne]; exact h
  have no : ∀ {x y : Sl}, ¬ (p1.den = p2.den ∧ v1.den = v2.den ∧ SlEq x y) → (SB.lit false).den = samB p1.den v1.den x p2.den v2.den y := fun h => by
    symm; show samB _ _ _ _ _ _ = false
    rw [Bool.eq_false_iff]; exact fun e => h (samB_iff.1 e)
  have yes : ∀ {x y : Sl}, p1.den = p2.den → v1.den = v2.den → (SB.sym (decide (strS x = strS y))).den = samB p1.den v1.den x p2.den v2.den y := fun {x y} h h' => by
    show decide _ = _
    rw [Bool.eq_iff_iff, samB_iff, decide_eq_true_iff, strS_iff]
    exact ⟨fun e => ⟨h, h', e⟩, fun e => e.2.2⟩
  refine txtL_sat (fun hx => txtL_sat (fun hy => boolC_only fun hd => fun _ => ?_) fun y yn hn2 ht2 hi2 => boolC_only fun hd => fun ⟨_, hoy⟩ => ?_) fun x xn hn1 ht1 hi1 => txtL_sat (fun hy => boolC_only fun hd => fun ⟨hox, _⟩ => ?_) fun y yn hn2 ht2 hi2 => boolC_only fun hd => fun ⟨hox, hoy⟩ => ?_
  · subst hx
    subst hy
    have key : ∀ {cs ds b}, outO [] (callSim cfg0 4000 20 (saA p1.den v1.den .nilSlice p2.den v2.den .nilSlice) []) ds = (cs, some (.bool b, [])) → (∀ q ∈ cs, q) → b.den = samB p1.den v1.den nilSl p2.den v2.den nilSl → SumSem Tryz.prog H β w base 20 vs ⟨.bool (.sym (samB p1.den v1.den nilSl p2.den v2.den nilSl)), [], []⟩ := by
      intro cs ds b hr hc hb
      refine sum_outO cfg0OK rfl 4000 hH ⟨[], [], saA p1.den v1.den .nilSlice p2.den v2.den .nilSlice⟩ ?_ (Ifc.fits (by simp) ?_ trivial) [] (by simp) (by simp) hr hc fun _ _ => endsBo rfl hb
      · show SV.denL β (saA p1.den v1.den (.nilSlice) p2.den v2.den (.nilSlice)) = _
        exact harg hxs hxt
      · exact saA_uses rfl rfl
    by_cases h1 : p1.den = p2.den
    · by_cases h2 : v1.den = v2.den
      · exact key (pe_e00 p1.den v1.den p2.den v2.den) (all_cons (by simp [h1]) (all_cons (by simp [h2]) all_nil)) ((show (SB.lit true).den = _ from (by symm; exact samB_iff.2 ⟨h1, h2, rfl, fun _ _ => rfl⟩)))
      · exact key (pe_v00 p1.den v1.den p2.den v2.den) (all_cons (by simp [h1]) (repN_all (hv1 h2) 6)) (no fun h => h2 h.2.1)
    · exact key (pe_p00 p1.den v1.den p2.den v2.den) (repN_all (hp1 h1) 6) (no fun h => h1 h.1)
  · subst hx
    obtain ⟨m2, _, hyd⟩ := Sl.val_den (hi2 _ _ hxt)
    have key : ∀ {cs ds b}, outO [] (callSim cfg0 4000 20 (saA p1.den v1.den .nilSlice p2.den v2.den ((y.pl m2).val 0)) [(y.pl m2).row]) ds = (cs, some (.bool b, [])) → (∀ q ∈ cs, q) → b.den = samB p1.den v1.den nilSl p2.den v2.den y → SumSem Tryz.prog H β w base 20 vs ⟨.bool (.sym (samB p1.den v1.den nilSl p2.den v2.den y)), [], []⟩ := by
      intro cs ds b hr hc hb
      refine sum_outO cfg0OK rfl 4000 hH ⟨[yn], [(y.pl m2).row], saA p1.den v1.den .nilSlice p2.den v2.den ((y.pl m2).val 0)⟩ ?_ (Ifc.fits (distN_spec hd) ?_ ⟨⟨ht2 _, y.row_uses _⟩, trivial⟩) [] (by simp) (by simp) hr hc fun _ _ => endsBo rfl hb
      · show SV.denL β (saA p1.den v1.den (.nilSlice) p2.den v2.den (((y.pl m2).val 0).ren _)) = _
        rw [Sl.val_ren]
        exact harg hxs hyd
      · exact saA_uses rfl (Sl.val_uses _ _ _ rfl)
    by_cases h1 : p1.den = p2.den
    · by_cases h2 : v1.den = v2.den
      · exact key (pe_e01 p1.den v1.den p2.den v2.den y m2) (all_cons (by simp [h1]) (all_cons (by simp [h2]) (all_cons (rdC_of hoy) all_nil))) (yes h1 h2)
      · exact key (pe_v01 p1.den v1.den p2.den v2.den y m2) (all_cons (by simp [h1]) (repN_all (hv1 h2) 6)) (no fun h => h2 h.2.1)
    · exact key (pe_p01 p1.den v1.den p2.den v2.den y m2) (repN_all (hp1 h1) 6) (no fun h => h1 h.1)
  · subst hy
    obtain ⟨m, _, hxd⟩ := Sl.val_den (hi1 _ _ hxs)
    have key : ∀ {cs ds b}, outO [] (callSim cfg0 4000 20 (saA p1.den v1.den ((x.pl m).val 0) p2.den v2.den .nilSlice) [(x.pl m).row]) ds = (cs, some (.bool b, [])) → (∀ q ∈ cs, q) → b.den = samB p1.den v1.den x p2.den v2.den nilSl → SumSem Tryz.prog H β w base 20 vs ⟨.bool (.sym (samB p1.den v1.den x p2.den v2.den nilSl)), [], []⟩ := by
      intro cs ds b hr hc hb
      refine sum_outO cfg0OK rfl 4000 hH ⟨[xn], [(x.pl m).row], saA p1.den v1.den ((x.pl m).val 0) p2.den v2.den .nilSlice⟩ ?_ (Ifc.fits (distN_spec hd) ?_ ⟨⟨ht1 _, x.row_uses _⟩, trivial⟩) [] (by simp) (by simp) hr hc fun _ _ => endsBo rfl hb
      · show SV.denL β (saA p1.den v1.den (((x.pl m).val 0).ren _) p2.den v2.den (.nilSlice)) = _
        rw [Sl.val_ren]
        exact harg hxd hxt
      · exact saA_uses (Sl.val_uses _ _ _ rfl) rfl
    by_cases h1 : p1.den = p2.den
    · by_cases h2 : v1.den = v2.den
      · exact key (pe_e10 p1.den v1.den p2.den v2.den x m) (all_cons (by simp [h1]) (all_cons (by simp [h2]) (all_cons (rdC_of hox) all_nil))) (yes h1 h2)
      · exact key (pe_v10 p1.den v1.den p2.den v2.den x m) (all_cons (by simp [h1]) (repN_all (hv1 h2) 6)) (no fun h => h2 h.2.1)
    · exact key (pe_p10 p1.den v1.den p2.den v2.den x m) (repN_all (hp1 h1) 6) (no fun h => h1 h.1)
  · obtain ⟨m, _, hxd⟩ := Sl.val_den (hi1 _ _ hxs)
    obtain ⟨m2, _, hyd⟩ := Sl.val_den (hi2 _ _ hxt)
    have key : ∀ {cs ds b}, outO [] (callSim cfg0 4000 20 (saA p1.den v1.den ((x.pl m).val 0) p2.den v2.den ((y.pl m2).val 1)) [(x.pl m).row, (y.pl m2).row]) ds = (cs, some (.bool b, [])) → (∀ q ∈ cs, q) → b.den = samB p1.den v1.den x p2.den v2.den y → SumSem Tryz.prog H β w base 20 vs ⟨.bool (.sym (samB p1.den v1.den x p2.den v2.den y)), [], []⟩ := by
      intro cs ds b hr hc hb
      refine sum_outO cfg0OK rfl 4000 hH ⟨[xn, yn], [(x.pl m).row, (y.pl m2).row], saA p1.den v1.den ((x.pl m).val 0) p2.den v2.den ((y.pl m2).val 1)⟩ ?_ (Ifc.fits (distN_spec hd) ?_ ⟨⟨ht1 _, x.row_uses _⟩, ⟨ht2 _, y.row_uses _⟩, trivial⟩) [] (by simp) (by simp) hr hc fun _ _ => endsBo rfl hb
      · show SV.denL β (saA p1.den v1.den (((x.pl m).val 0).ren _) p2.den v2.den (((y.pl m2).val 1).ren _)) = _
        rw [Sl.val_ren, Sl.val_ren]
        exact harg hxd hyd
      · exact saA_uses (Sl.val_uses _ _ _ rfl) (Sl.val_uses _ _ _ rfl)
    by_cases h1 : p1.den = p2.den
    · by_cases h2 : v1.den = v2.den
      · exact key (pe_e11 p1.den v1.den p2.den v2.den x y m m2) (all_cons (by simp [h1]) (all_cons (by simp [h2]) (all_cons (rdC_of hox) (all_cons (rdC_of hoy) all_nil)))) (yes h1 h2)
      · exact key (pe_v11 p1.den v1.den p2.den v2.den x y m m2) (all_cons (by simp [h1]) (repN_all (hv1 h2) 6)) (no fun h => h2 h.2.1)
    · exact key (pe_p11 p1.den v1.den p2.den v2.den x y m m2) (repN_all (hp1 h1) 6) (no fun h => h1 h.1)
end Go.Proofs.YtbmgahpjgefjaaaGreatDoor.Aes


/-
  The profiles: find, usable and Valid, where it is told how they end and the key's length alone is known.
-/
namespace Go.Proofs.YtbmgahpjgefjaaaGreatDoor.Aes
open Go.Sim
open Go.Proofs
variable {α : Type}

set_option maxRecDepth 1000000
/-- a slice of which the length alone is looked at -/
noncomputable def lenQ (v : SV) (f : Nat → R α) : R α := valS v (sliceR v (f 0) fun _ l => f l.den) f
theorem lenQ_sat {v : SV} {f : Nat → R α} {φ : α → Prop} (h : ∀ n, (∀ β x, v.den β = some x → ∃ y m, x = .slice y n m) → (f n).Sat φ) : (lenQ v f).Sat φ := by
  unfold lenQ
  refine valS_sat (sliceR_sat (fun hn => h 0 fun β x hx => ?_) fun a l c hs => h _ fun β x hx => ?_) fun p n c hv => h n fun β x hx => ?_
  · subst hn; cases hx; exact ⟨_, _, rfl⟩
  · subst hs
    simp only [SV.den, Option.bind_eq_some_iff] at hx
    obtain ⟨y, _, m, _, hs⟩ := hx
    unfold sliceV at hs
    by_cases hl : l.den ≤ m
    · rw [if_pos hl] at hs
      cases hs
      exact ⟨_, _, rfl⟩
    · rw [if_neg hl] at hs; cases hs
  · subst hv; cases hx; exact ⟨_, _, rfl⟩
noncomputable def keyN (kv : SV) (f : SI → SI → Nat → R α) : R α := kv.asAgg (.stuck 834) fun l => args3 l fun p v s => i64O p fun p => i64O v fun v => lenQ s fun n => f p v n
theorem keyN_sat {kv : SV} {f : SI → SI → Nat → R α} {φ : α → Prop} (h : ∀ p v s n, kv = .agg [.int .i64 p, .int .i64 v, s] → (∀ β x, s.den β = some x → ∃ y m, x = .slice y n m) → (f p v n).Sat φ) : (keyN kv f).Sat φ := by
  unfold keyN
  rcases asAgg_cases kv with ⟨l, rfl⟩ | hno
  case inr => rw [hno]; trivial
  refine args3_sat fun p v s hl => i64O_sat fun p' hp => i64O_sat fun v' hv' => lenQ_sat fun n hn => ?_
  subst hl hp hv'
  exact h _ _ _ _ rfl hn
/-- such a key's value -/
noncomputable def kyV (p v : Int) (y : Option Addr) (n m : Nat) : SV := fdK p v (.val (.slice y n m))
theorem keyN_den {β : Val} {p v : SI} {s : SV} {n : Nat} {ys : List SV} {vs : List Value} (h : SV.denL β (.agg [.int .i64 p, .int .i64 v, s] :: ys) = some vs) (hs : ∀ β x, s.den β = some x → ∃ y m, x = .slice y n m) : ∃ y m, SV.denL β (kyV p.den v.den y n m :: ys) = some vs := by
  obtain ⟨⟨xs, hxs⟩, _⟩ := agg3_at h
  obtain ⟨y, m, rfl⟩ := hs _ _ hxs
  exact ⟨y, m, agg3_den h (fun x hx => by rw [hxs] at hx; cases hx; rfl) (int_imp0 rfl) (int_imp0 rfl)⟩
/- find. -/
noncomputable def fvT (p v : Int) (y : Option Addr) (l m : Nat) : Tree := callSim cfgF 400 48 [kyV p v y l m] []
section
variable (p v : Int) (y : Option Addr) (l m : Nat)
theorem fv_none : outO [] (fvT p v y l m) [false, false] = ([(p == 1) = false, (p == 2) = false], fdV kv0 (.lit false)) := by kernel_rfl
theorem fv_len1 : outO [] (fvT p v y l m) [true, false, false, false, false] = ([(p == 1) = true, ((l : Int) == 16) = false, ((l : Int) == 16) = false, ((l : Int) == 16) = false, ((l : Int) == 16) = false], fdV kv1 (.lit false)) := by kernel_rfl
theorem fv_neg1 : outO [] (fvT p v y l m) [true, true, false, false, false, false] = ([(p == 1) = true, ((l : Int) == 16) = true, decide (v ≥ 0) = false, decide (v ≥ 0) = false, decide (v ≥ 0) = false, decide (v ≥ 0) = false], fdV kv1 (.lit false)) := by kernel_rfl
theorem fv_ok1 : outO [] (fvT p v y l m) [true, true, true] = ([(p == 1) = true, ((l : Int) == 16) = true, decide (v ≥ 0) = true], fdV kv1 (.sym (decide (v ≤ 65535)))) := by kernel_rfl
theorem fv_len2 : outO [] (fvT p v y l m) [false, true, false, false, false, false] = ([(p == 1) = false, (p == 2) = true, ((l : Int) == 32) = false, ((l : Int) == 32) = false, ((l : Int) == 32) = false, ((l : Int) == 32) = false], fdV kv2 (.lit false)) := by kernel_rfl
theorem fv_neg2 : outO [] (fvT p v y l m) [false, true, true, false, false, false, false] = ([(p == 1) = false, (p == 2) = true, ((l : Int) == 32) = true, decide (v ≥ 0) = false, decide (v ≥ 0) = false, decide (v ≥ 0) = false, decide (v ≥ 0) = false], fdV kv2 (.lit false)) := by kernel_rfl
theorem fv_ok2 : outO [] (fvT p v y l m) [false, true, true, true] = ([(p == 1) = false, (p == 2) = true, ((l : Int) == 32) = true, decide (v ≥ 0) = true], fdV kv2 (.sym (decide (v ≤ 65535)))) := by kernel_rfl
end
noncomputable def fdQS (i : Nat) (b : Bool) : Summ := fun args _ _ => args1 args fun kv => keyN kv fun p v l => .need (kdOf p.den = i ∧ (validK p.den v.den l ↔ b = true)) (fdR (kvI i) b)
theorem fdQOK {i : Nat} {b : Bool} : SumOK Tryz.prog 48 (fdQS i b) := by
  intro glob O w0 β H w base args vs hH hG ha
  refine args1_sat fun kv hv => keyN_sat fun p v s n hk hs => fun ⟨hi, hb⟩ => ?_
  subst hv hk
  obtain ⟨y, m, ha'⟩ := keyN_den ha hs
  have h0 := fun g p => (kv_plain g p).1
  have h1 := fun g p => (kv_plain g p).2.1
  have h2 := fun g p => (kv_plain g p).2.2
  have key : ∀ {ds cs k b c}, outO [] (fvT p.den v.den y n m) ds = (cs, fdV k b) → (∀ q ∈ cs, q) → (∀ g p, k.ren g = k ∧ k.uses p = true) → b.den = c → SumSem Tryz.prog H β w base 48 vs ⟨.tuple [k, .bool (.lit c)], [], []⟩ := by
    intro ds cs k b c hr hc hk hb
    exact sum_outO cfgFOK rfl 400 hH ⟨[], [], [kyV p.den v.den y n m]⟩ ha' (fits0 rfl) [] (by simp) (by simp) hr hc fun H2 _ => endsF rfl hk hb H2
  have f4 : ∀ {q : Prop}, q → ∀ p ∈ [q, q, q, q], p := fun h => all_cons h (all_cons h (all_cons h (all_cons h all_nil)))
  show SumSem Tryz.prog H β w base 48 vs ⟨.tuple [kvI i, .bool (.lit b)], [], []⟩
  unfold kdOf at hi
  unfold validK at hb
  by_cases hp : p.den = 1
  · rw [if_pos hp] at hi
    subst hi
    have e1 : (p.den == 1) = true := by simp [hp]
    by_cases hl : n = 16
    · have e2 : ((n : Int) == 16) = true := by rw [hl]; rfl
      by_cases hg : 0 ≤ v.den
      · refine key (fv_ok1 p.den v.den y n m) (all_cons e1 (all_cons e2 (all_cons (decide_eq_true hg) all_nil))) h1 ?_
        show decide (v.den ≤ 65535) = b
        by_cases hle : v.den ≤ 65535
        · rw [decide_eq_true hle, hb.1 ⟨.inl ⟨hp, hl⟩, hg, hle⟩]
        · rw [decide_eq_false hle]
          cases b with
          | false => rfl
          | true => exact absurd (hb.2 rfl).2.2 hle
      · obtain rfl : b = false := by
          cases b with
          | false => rfl
          | true => exact absurd (hb.2 rfl).2.1 hg
        exact key (fv_neg1 p.den v.den y n m) (all_cons e1 (all_cons e2 (f4 (decide_eq_false hg)))) h1 rfl
    · obtain rfl : b = false := by
        cases b with
        | false => rfl
        | true => rcases (hb.2 rfl).1 with h | h <;> omega
      exact key (fv_len1 p.den v.den y n m) (all_cons e1 (f4 (by rw [beq_eq_false_iff_ne]; omega))) h1 rfl
  · rw [if_neg hp] at hi
    have e1 : (p.den == 1) = false := by simp [hp]
    by_cases hp2 : p.den = 2
    · rw [if_pos hp2] at hi
      subst hi
      have e3 : (p.den == 2) = true := by simp [hp2]
      by_cases hl : n = 32
      · have e2 : ((n : Int) == 32) = true := by rw [hl]; rfl
        by_cases hg : 0 ≤ v.den
        · refine key (fv_ok2 p.den v.den y n m) (all_cons e1 (all_cons e3 (all_cons e2 (all_cons (decide_eq_true hg) all_nil)))) h2 ?_
          show decide (v.den ≤ 65535) = b
          by_cases hle : v.den ≤ 65535
          · rw [decide_eq_true hle, hb.1 ⟨.inr ⟨hp2, hl⟩, hg, hle⟩]
          · rw [decide_eq_false hle]
            cases b with
            | false => rfl
            | true => exact absurd (hb.2 rfl).2.2 hle
        · obtain rfl : b = false := by
            cases b with
            | false => rfl
            | true => exact absurd (hb.2 rfl).2.1 hg
          exact key (fv_neg2 p.den v.den y n m) (all_cons e1 (all_cons e3 (all_cons e2 (f4 (decide_eq_false hg))))) h2 rfl
      · obtain rfl : b = false := by
          cases b with
          | false => rfl
          | true => rcases (hb.2 rfl).1 with h | h <;> omega
        exact key (fv_len2 p.den v.den y n m) (all_cons e1 (all_cons e3 (f4 (by rw [beq_eq_false_iff_ne]; omega)))) h2 rfl
    · rw [if_neg hp2] at hi
      subst hi
      obtain rfl : b = false := by
        cases b with
        | false => rfl
        | true => rcases (hb.2 rfl).1 with h | h <;> omega
      exact key (fv_none p.den v.den y n m) (all_cons e1 (all_cons (by simp [hp2]) all_nil)) h0 rfl
/- usable. -/
noncomputable def cfgUq (i : Nat) (b : Bool) : Cfg := cfgOf (sumsOf [(48, fdQS i b)])
theorem cfgUqOK {i : Nat} {b : Bool} : CfgOK (cfgUq i b) := sumsOf_ok (all1 fdQOK)
noncomputable def fdP (i : Nat) (p v : Int) (l : Nat) (b : Bool) : Prop := kdOf p = i ∧ (validK p v l ↔ b = true)
section
variable (p v u : Int) (y : Option Addr) (l m : Nat)
end
/- Valid. -/
noncomputable def vqT (i : Nat) (b : Bool) (p v : Int) (y : Option Addr) (l m : Nat) : Tree := callSim (cfgUq i b) 400 18 [kyV p v y l m] []
section
variable (b : Bool) (p v : Int) (y : Option Addr) (l m : Nat)
theorem vq_run0 : outO [] (vqT 0 b p v y l m) [] = ([fdP 0 p v l b], some (.bool (.lit b), [])) := by kernel_rfl
theorem vq_run1 : outO [] (vqT 1 b p v y l m) [] = ([fdP 1 p v l b], some (.bool (.lit b), [])) := by kernel_rfl
theorem vq_run2 : outO [] (vqT 2 b p v y l m) [] = ([fdP 2 p v l b], some (.bool (.lit b), [])) := by kernel_rfl
end
end Go.Proofs.YtbmgahpjgefjaaaGreatDoor.Aes


/-
  The profiles: the chapter's examples hold.
-/
namespace Go.Proofs.YtbmgahpjgefjaaaGreatDoor.Aes
open Go.Sim
open Go.Proofs
variable {α : Type}

set_option maxRecDepth 1000000
noncomputable def cfgX (F : HashF) (E : CtsF) : Cfg := cfgG globP (sumsOf [(48, findS), (37, usableS), (50, kindsS), (17, copyS), (12, sealS F E), (15, openS)])
theorem cfgXOK : CfgOK (cfgX shaF encF) := sumsG_ok (allS (findOK _) (allS (usableOK _) (allS (kindsOK _) (allS (copyOK _) (allS sealOK (allS (openOK _) (by simp)))))))
noncomputable def knT (F : HashF) (E : CtsF) : Tree := callSim (cfgX F E) 5000 11 [] (shaHP [])
noncomputable def kaS (n : Nat) : Sl := ⟨fun i => byteAt (repN 0#8 n) (0 + i), n, 0, n, true, 0⟩
noncomputable def helloS : Sl := ⟨byteAt [104#8, 101#8, 108#8, 108#8, 111#8], 5, 0, 5, true, 0⟩
noncomputable def opN : Prop := ((0 : Int) ≤ 2 ∧ (2 : Int) ≤ 65535) ∧ (1 : Int) ≤ 1 ∧ (1 : Int) ≤ 1023
noncomputable def knC (F : HashF) (E : CtsF) : List Prop :=
  [(0 + 16 ≤ 16 ∧ 16 ≤ 1099511627776), (0 + 32 ≤ 32 ∧ 32 ≤ 1099511627776), IsB (byteF (kaS 16).X), seOK (.lit 0) (.lit 1) (kaS 16) z16 16 16, (0 + 5 ≤ 5 ∧ 5 ≤ 208), IsB (byteF (kaS 32).X), seOK (.lit 0) (.lit 1) (kaS 32) z16 32 16, 0 + 5 ≤ 5, false = false, false = false,
   IsB (byteF (kaS 16).X), IsB (byteF (two (cphS F E (kaS 16) z16 helloS 1) (tag1S F E (kaS 16) z16 helloS 1))), opN, 31 ≤ 37, IsB (byteF (kaS 16).X), IsB (byteF (two (cphS F E (kaS 16) z16 helloS 1) (tag1S F E (kaS 16) z16 helloS 1))), opN, 31 < 32,
   IsB (byteF (kaS 16).X), IsB (byteF (two (cph5 F (kaS 32) z16 helloS 1) (tag5 F (kaS 32) z16 helloS 1))), opN]
theorem kn_run (F : HashF) (E : CtsF) : outO [] (knT F E) [false, false] = (knC F E, some (.bool (.lit true), [])) := by kernel_rfl
noncomputable def knS : Summ := fun args H _ => args0 args (shaTP H (.ok ⟨.bool (.lit true), [], []⟩))
theorem knOK : SumAt Tryz.prog globP 11 knS := by
  intro O w0 β H w base args vs hH hG ha
  refine args0_sat fun hv => shaTP_sat fun hT => ?_
  rw [hv] at ha
  have hop : opN := ⟨⟨by omega, by omega⟩, by omega, by omega⟩
  have hse : ∀ n, seOK (.lit 0) (.lit 1) (kaS n) z16 n 16 := fun n => ⟨⟨by show (0 : Int) ≤ 0; omega, by show (0 : Int) ≤ 65535; omega⟩, ⟨by show (1 : Int) ≤ 1; omega, by show (1 : Int) ≤ 1023; omega⟩, by show 0 + n ≤ n; omega, by show 0 + 16 ≤ 16; omega⟩
  refine sum_outOG cfgXOK 5000 hH (shaIP [] [] []) (shaIP_glob hG) ha (Ifc.fits (by simp [shaIP]) rfl (shaIP_ents hT trivial)) [] (by simp) (by simp) (kn_run shaF encF) ?_ fun _ _ => ends0 rfl rfl rfl
  exact all_cons ⟨by omega, by omega⟩ (all_cons ⟨by omega, by omega⟩ (all_cons (byteF_isB _) (all_cons (hse 16) (all_cons ⟨by omega, by omega⟩ (all_cons (byteF_isB _) (all_cons (hse 32) (all_cons (by omega) (all_cons rfl (all_cons rfl
    (all_cons (byteF_isB _) (all_cons (byteF_isB _) (all_cons hop (all_cons (by omega) (all_cons (byteF_isB _) (all_cons (byteF_isB _) (all_cons hop (all_cons (by omega) (all_cons (byteF_isB _) (all_cons (byteF_isB _) (all_cons hop all_nil))))))))))))))))))))
end Go.Proofs.YtbmgahpjgefjaaaGreatDoor.Aes


/-
  ProfileKeys: the lengths of a profile and whether a key is valid, as values of which it is known what they are.
-/
namespace Go.Proofs.YtbmgahpjgefjaaaGreatDoor.Aes
open Go.Sim
open Go.Proofs
variable {α : Type}

set_option maxRecDepth 1000000
noncomputable def vlB (p v : Int) (l : Nat) : Bool := @decide (validK p v l) (Classical.propDecidable _)
theorem vlB_iff {p v : Int} {l : Nat} : vlB p v l = true ↔ validK p v l := by
  unfold vlB; exact @decide_eq_true_iff _ (Classical.propDecidable _)
noncomputable def vyS : Summ := fun args _ _ => args1 args fun kv => keyN kv fun p v l => .ok ⟨.bool (.sym (vlB p.den v.den l)), [], []⟩
theorem vyOK : SumOK Tryz.prog 18 vyS := by
  intro glob O w0 β H w base args vs hH hG ha
  refine args1_sat fun kv hv => keyN_sat fun p v s n hk hs => ?_
  subst hv hk
  obtain ⟨y, m, ha'⟩ := keyN_den ha hs
  have key : ∀ {i cs}, outO [] (vqT i (vlB p.den v.den n) p.den v.den y n m) [] = (cs, some (.bool (.lit (vlB p.den v.den n)), [])) → (∀ q ∈ cs, q) → SumSem Tryz.prog H β w base 18 vs ⟨.bool (.sym (vlB p.den v.den n)), [], []⟩ := by
    intro i cs hr hc
    exact sum_outO cfgUqOK rfl 400 hH ⟨[], [], [kyV p.den v.den y n m]⟩ ha' (fits0 rfl) [] (by simp) (by simp) hr hc fun _ _ => endsBo rfl rfl
  have hval : validK p.den v.den n ↔ vlB p.den v.den n = true := vlB_iff.symm
  rcases kdOf_cases p.den with h | h | h
  · exact key (vq_run0 _ p.den v.den y n m) (all_cons ⟨h, hval⟩ all_nil)
  · exact key (vq_run1 _ p.den v.den y n m) (all_cons ⟨h, hval⟩ all_nil)
  · exact key (vq_run2 _ p.den v.den y n m) (all_cons ⟨h, hval⟩ all_nil)
/-- a length, by the profile -/
noncomputable def lyI (a b p : Int) : Int := if p = 1 then a else if p = 2 then b else 0
noncomputable def lyS (a b : Int) : Summ := fun args _ _ => args1 args fun pv => i64O pv fun p => .ok ⟨.int .i64 (.sym (lyI a b p.den)), [], []⟩
theorem endsI {I : Ifc} {base : Nat} {n m : SI} {H : List SO} (ho : ownsOf I.ents 0 = []) (h : n.den = m.den) : I.Ends base [] ⟨.int .i64 m, [], []⟩ (.int .i64 n) H := by
  refine ⟨?_, rfl, by rw [ho]; trivial, trivial⟩
  exact int_imp0 h
theorem lyOK {f : FuncId} {a b : Int} (h : ∀ p : Int, outO [] (callSim cfgF 400 f [.int .i64 (.sym p)] []) [true] = ([(p == 1) = true], some (.int .i64 (.lit a), []))) (h2 : ∀ p : Int, outO [] (callSim cfgF 400 f [.int .i64 (.sym p)] []) [false, true] = ([(p == 1) = false, (p == 2) = true], some (.int .i64 (.lit b), []))) (h0 : ∀ p : Int, outO [] (callSim cfgF 400 f [.int .i64 (.sym p)] []) [false, false] = ([(p == 1) = false, (p == 2) = false], some (.int .i64 (.lit 0), []))) : SumOK Tryz.prog f (lyS a b) := by
  intro glob O w0 β H w base args vs hH hG ha
  refine args1_sat fun pv hv => i64O_sat fun p hp => ?_
  subst hv hp
  have ha' : SV.denL β [.int .i64 (.sym p.den)] = some vs := denL1 ha (int_imp0 rfl)
  have key : ∀ {ds cs n}, outO [] (callSim cfgF 400 f [.int .i64 (.sym p.den)] []) ds = (cs, some (.int .i64 (.lit n), [])) → (∀ q ∈ cs, q) → n = lyI a b p.den → SumSem Tryz.prog H β w base f vs ⟨.int .i64 (.sym (lyI a b p.den)), [], []⟩ := by
    intro ds cs n hr hc hn
    exact sum_outO cfgFOK rfl 400 hH ⟨[], [], [.int .i64 (.sym p.den)]⟩ ha' (fits0 rfl) [] (by simp) (by simp) hr hc fun _ _ => endsI rfl hn
  show SumSem Tryz.prog H β w base f vs ⟨.int .i64 (.sym (lyI a b p.den)), [], []⟩
  by_cases h1 : p.den = 1
  · exact key (h _) (all_cons (by simp [h1]) all_nil) (by unfold lyI; rw [if_pos h1])
  · by_cases h2' : p.den = 2
    · exact key (h2 _) (all_cons (by simp [h1]) (all_cons (by simp [h2']) all_nil)) (by unfold lyI; rw [if_neg h1, if_pos h2'])
    · exact key (h0 _) (all_cons (by simp [h1]) (all_cons (by simp [h2']) all_nil)) (by unfold lyI; rw [if_neg h1, if_neg h2'])
theorem klyOK : SumOK Tryz.prog 25 (lyS 16 32) := lyOK (fun p => by kernel_rfl) (fun p => by kernel_rfl) fun p => by kernel_rfl
theorem slyOK : SumOK Tryz.prog 27 (lyS 16 32) := lyOK (fun p => by kernel_rfl) (fun p => by kernel_rfl) fun p => by kernel_rfl
theorem tlyOK : SumOK Tryz.prog 26 (lyS 16 32) := lyOK (fun p => by kernel_rfl) (fun p => by kernel_rfl) fun p => by kernel_rfl
theorem clyOK : SumOK Tryz.prog 28 (lyS 16 16) := lyOK (fun p => by kernel_rfl) (fun p => by kernel_rfl) fun p => by kernel_rfl
theorem rlyOK : SumOK Tryz.prog 24 (lyS 16 32) := lyOK (fun p => by kernel_rfl) (fun p => by kernel_rfl) fun p => by kernel_rfl
/- The reference's Valid. -/
noncomputable def cfgRv : Cfg := cfgOf (sumsOf [(24, lyS 16 32)])
theorem cfgRvOK : CfgOK cfgRv := sumsOf_ok (all1 rlyOK)
noncomputable def rvT (p v : Int) (y : Option Addr) (l m : Nat) : Tree := callSim cfgRv 400 19 [kyV p v y l m] []
section
variable (p v : Int) (y : Option Addr) (l m : Nat)
theorem rv_a : outO [] (rvT p v y l m) [false, false, false, false, false, false, false, false] = (repN (decide (lyI 16 32 p > 0) = false) 8, some (.bool (.lit false), [])) := by kernel_rfl
theorem rv_b : outO [] (rvT p v y l m) [true, false, false, false, false] = ((decide (lyI 16 32 p > 0) = true) :: repN (((l : Int) == lyI 16 32 p) = false) 4, some (.bool (.lit false), [])) := by kernel_rfl
theorem rv_c : outO [] (rvT p v y l m) [true, true, false, false, false, false] = ((decide (lyI 16 32 p > 0) = true) :: (((l : Int) == lyI 16 32 p) = true) :: repN (decide (v ≥ 0) = false) 4, some (.bool (.lit false), [])) := by kernel_rfl
theorem rv_d : outO [] (rvT p v y l m) [true, true, true] = ([decide (lyI 16 32 p > 0) = true, ((l : Int) == lyI 16 32 p) = true, decide (v ≥ 0) = true], some (.bool (.sym (decide (v ≤ 65535))), [])) := by kernel_rfl
end
theorem lyI_valid {p : Int} {l : Nat} : (0 < lyI 16 32 p ∧ (l : Int) = lyI 16 32 p) ↔ ((p = 1 ∧ l = 16) ∨ (p = 2 ∧ l = 32)) := by
  unfold lyI
  by_cases h1 : p = 1
  · rw [if_pos h1]; omega
  · rw [if_neg h1]
    by_cases h2 : p = 2
    · rw [if_pos h2]; omega
    · rw [if_neg h2]; omega
theorem rvyOK : SumOK Tryz.prog 19 vyS := by
  intro glob O w0 β H w base args vs hH hG ha
  refine args1_sat fun kv hv => keyN_sat fun p v s n hk hs => ?_
  subst hv hk
  obtain ⟨y, m, ha'⟩ := keyN_den ha hs
  have key : ∀ {ds cs b}, outO [] (rvT p.den v.den y n m) ds = (cs, some (.bool b, [])) → (∀ q ∈ cs, q) → b.den = vlB p.den v.den n → SumSem Tryz.prog H β w base 19 vs ⟨.bool (.sym (vlB p.den v.den n)), [], []⟩ := by
    intro ds cs b hr hc hb
    exact sum_outO cfgRvOK rfl 400 hH ⟨[], [], [kyV p.den v.den y n m]⟩ ha' (fits0 rfl) [] (by simp) (by simp) hr hc fun _ _ => endsBo rfl hb
  have no : ¬ validK p.den v.den n → (SB.lit false).den = vlB p.den v.den n := fun h => by
    symm; show vlB _ _ _ = false
    rw [Bool.eq_false_iff]; exact fun e => h (vlB_iff.1 e)
  by_cases h1 : 0 < lyI 16 32 p.den
  · by_cases h2 : (n : Int) = lyI 16 32 p.den
    · have hp := lyI_valid.1 ⟨h1, h2⟩
      by_cases h3 : 0 ≤ v.den
      · refine key (rv_d p.den v.den y n m) (all_cons (decide_eq_true h1) (all_cons (by simp [h2]) (all_cons (decide_eq_true h3) all_nil))) ?_
        show decide (v.den ≤ 65535) = _
        rw [Bool.eq_iff_iff, vlB_iff, decide_eq_true_iff]
        exact ⟨fun h => ⟨hp, h3, h⟩, fun h => h.2.2⟩
      · exact key (rv_c p.den v.den y n m) (all_cons (decide_eq_true h1) (all_cons (by simp [h2]) (repN_all (decide_eq_false h3) 4))) (no fun h => h3 h.2.1)
    · exact key (rv_b p.den v.den y n m) (all_cons (decide_eq_true h1) (repN_all (by rw [beq_eq_false_iff_ne]; exact h2) 4)) (no fun h => h2 (lyI_valid.2 h.1).2)
  · exact key (rv_a p.den v.den y n m) (repN_all (decide_eq_false h1) 8) (no fun h => h1 (lyI_valid.2 h.1).1)
/- A copy of a key of a known length: its bytes one by one. -/
noncomputable def copyN : Summ := fun args H base => args1 args fun v => v.asAgg (copyS args H base) fun l => args3 l fun p q s => i64O p fun p => i64O q fun q => isLitS s (partN H s fun k kn n => boolC (Nat.beq n 0) (copyS args H base) (.need (k.o + n ≤ k.N ∧ n ≤ 1099511627776) (.ok ⟨.agg [.int .i64 p, .int .i64 q, .slice ⟨base, .lit 0⟩ (.lit n) (.rest base 0)], [], [.own (.lst (bx (tabB k.F n))) false 5]⟩))) (copyS args H base)
theorem copyNOK : SumOK Tryz.prog 17 copyN := by
  intro glob O w0 β H w base args vs hH hG ha
  have h0 := copyOK glob O w0 β H w base args vs hH hG ha
  refine args1_sat fun v hv => ?_
  rcases asAgg_cases v with ⟨l, rfl⟩ | hno
  case inr => rw [hno]; exact h0
  refine args3_sat fun p q s hl => i64O_sat fun p' hp => i64O_sat fun q' hq => isLitS_sat (partN_sat fun k kn n hn1 ht hi hkn => boolC_sat (fun _ => h0) fun hn0 => fun ⟨h1, h2⟩ => ?_) h0
  subst hl hp hq
  rw [hv] at ha
  obtain ⟨⟨xs, hxs⟩, _⟩ := agg3_at ha
  obtain ⟨m, hks⟩ := Sl.valN_den (hi _ _ hxs)
  have hks' : (SV.slice ⟨kn, .sym k.o⟩ (.sym n) (.sym m)).den β = some xs := hks
  have ha' : SV.denL β [fdK p'.den q'.den (.slice ⟨kn, .sym k.o⟩ (.sym n) (.sym m))] = some vs := agg3_den ha (fun x hx => by rw [hxs] at hx; cases hx; exact hks') (int_imp0 rfl) (int_imp0 rfl)
  have hn0 := beq_ne hn0
  refine sum_outO cfgCpOK rfl 400 hH ⟨[kn], [rowF k.X k.N], [fdK p'.den q'.den (.slice ⟨0, .sym k.o⟩ (.sym n) (.sym m))]⟩ ha' (Ifc.fits (by simp) rfl ⟨⟨ht _, rowF_uses _ _ _⟩, trivial⟩) [3] (by simp) (by simp) (cp_run k.X p'.den q'.den k.o k.N n m) (all_cons (byteF_isB k.X) (all_cons (decide_eq_false hn0) (all_cons ⟨h1, ⟨by omega, by omega⟩⟩ all_nil))) fun H2 hH2 => ⟨agg_imp (impL_cons (int_imp0 rfl) (impL_cons (int_imp0 rfl) (impL_cons (slice_len_imp rfl) impL_nil))), rfl, trivial, ⟨given_imp (List.cons.inj hH2).1 (fun _ => rfl) ?_, trivial⟩⟩
  exact fn_imp_lst k.X k.o n
/- The law's configuration. -/
noncomputable def cfgKy : Cfg := cfgG globP (sumsOf [(17, copyN), (18, vyS), (19, vyS), (20, peS), (21, keS), (25, lyS 16 32), (26, lyS 16 32), (27, lyS 16 32), (28, lyS 16 16), (24, lyS 16 32), (11, knS)])
theorem cfgKyOK : CfgOK cfgKy := sumsG_ok (allS (copyNOK _) (allS (vyOK _) (allS (rvyOK _) (allS (peOK _) (allS (keOK _) (allS (klyOK _) (allS (tlyOK _) (allS (slyOK _) (allS (clyOK _) (allS (rlyOK _) (allS knOK (by simp))))))))))))
/-- a key whose length is known; another one: nil, or a slice -/
noncomputable def ysA (p v : Int) (k : Sl) (l : Nat) (p' v' : Int) (b : SV) : List SV := [.agg [.int .i64 (.sym p), .int .i64 (.sym v), k.valN 4 l], .agg [.int .i64 (.sym p'), .int .i64 (.sym v'), b]]
noncomputable def ysT (p v : Int) (k : Sl) (l : Nat) (p' v' : Int) (b : SV) (r : List SO) : Tree := callSim cfgKy 20000 6 (ysA p v k l p' v' b) (shaHP (k.row :: r))
end Go.Proofs.YtbmgahpjgefjaaaGreatDoor.Aes


/-
  ProfileKeys: the law's runs, one for each length of the key.
-/
namespace Go.Proofs.YtbmgahpjgefjaaaGreatDoor.Aes
open Go.Sim
open Go.Proofs

set_option maxRecDepth 1000000
noncomputable def yR : Option (SV × List (Option SO)) := some (.bool (.lit true), [])
/-- the key, its copy, what is made of its bytes by the program and by the reference -/
noncomputable def yK (k : Sl) (m l : Nat) : Sl := (k.pl m).len l
noncomputable def yT (k : Sl) (l : Nat) : List (BitVec 8) := tabB (fun j => k.X (k.o + j)) l
noncomputable def yC (k : Sl) (l : Nat) : Sl := ⟨byteAt (yT k l), lenN (yT k l), 0, l, true, 0⟩
noncomputable def yW (k : Sl) (l : Nat) : Sl := ⟨byteAt (yT k l), lenN (yT k l), 0, l, false, l⟩
noncomputable def yO (k : Sl) (l : Nat) : Sl := ⟨byteAt (tabB (yW k l).F l), lenN (tabB (yW k l).F l), 0, l, true, 0⟩
noncomputable def yEq (k : Sl) (bi : List Prop) (K B : Sl) (r : List Prop) : List Prop := IsB (byteF k.X) :: app bi ((okL K ∧ okL B) :: r)
noncomputable def y0 (p v p' v' : Int) (k : Sl) (bo bi : List Prop) (K B C : Sl) (l : Nat) (cc ci r : List Prop) : List Prop :=
  app bo (app cc (((!(vlB p v l == vlB p v l)) = false) :: yEq k bi K B (yEq k bi K B (((!(samB p v K p' v' B == samB p v K p' v' B)) = false) :: yEq k ci K C (((!samB p v K p v C) = false) :: yEq k ci K C (((!samB p v K p v C) = false) :: r))))))
noncomputable def yTail (p : Int) : List Prop := [(lyI 16 32 p == 0) = false, (lyI 16 32 p == lyI 16 32 p) = true, (lyI 16 32 p == lyI 16 32 p) = true, (lyI 16 32 p == lyI 16 32 p) = true, (lyI 16 16 p == 16) = true]
noncomputable def yNil (r : List Prop) : List Prop := (okL nilSl ∧ okL nilSl) :: ((!samB 0 0 nilSl 0 0 nilSl) = false) :: r
noncomputable def yOk (p : Int) (k : Sl) (l : Nat) : List Prop := ((!vlB p 0 (0 + l)) = false) :: (l ≤ l ∧ l ≤ 1099511627776) :: ((lyI 16 32 p == 0) = false) :: (((l : Int) != lyI 16 32 p) = false) :: (k.o + l ≤ k.N) :: (okL (yO k l) ∧ okL (yW k l)) :: ((!samB p 0 (yO k l) p 0 (yW k l)) = false) :: yTail p
noncomputable def yBad (p : Int) (l : Nat) : List Prop := ((!vlB p 0 l) = true) :: ((lyI 16 32 p == 0) = false) :: (((l : Int) != lyI 16 32 p) = true) :: yNil (yTail p)
noncomputable def yNo (p : Int) (l : Nat) : List Prop := ((!vlB p 0 l) = true) :: app (repN ((lyI 16 32 p == 0) = true) 6) (yNil [(lyI 16 32 p == 0) = true, (lyI 16 32 p == lyI 16 32 p) = true, (lyI 16 32 p == lyI 16 32 p) = true, (lyI 16 32 p == lyI 16 32 p) = true, (lyI 16 16 p == 0) = true])
/-- a key of l > 0 bytes -/
noncomputable def y1 (p v p' v' : Int) (k : Sl) (m : Nat) (bo bi : List Prop) (B : Sl) (l : Nat) (r : List Prop) : List Prop := y0 p v p' v' k bo bi (yK k m l) B (yC k l) l [IsB (byteF k.X), k.o + l ≤ k.N ∧ l ≤ 1099511627776] [] ((k.o + l ≤ k.N) :: r)
noncomputable def yB (b : Sl) : List Prop := [decide ((b.n : Int) > 40) = false]
noncomputable def yI (b : Sl) : List Prop := [IsB (byteF b.X)]
end Go.Proofs.YtbmgahpjgefjaaaGreatDoor.Aes

