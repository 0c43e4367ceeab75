/-
  Texts behind one another: the symbolic simulator and what it is told of the program.
-/
import Derived.Test.YtmkkelpfkkcmlaaDoorZRpl4
import Derived.Test.YtmkkelpfkkcmlaaDoorRows
import Derived.Lib.LaidPrint
import Derived.Lib.LaidTab
import Derived.MakeChecks

/-
  ReplayOf: the law's own runs.
-/
namespace Go.Proofs.YtmkkelpfkkcmlaaDoor.Aes
open Go.Sim
open Go.Proofs
open Go.RowKit

set_option maxRecDepth 1000000
noncomputable def tabF (f : (Nat → BitVec 8) → Nat → Nat → BitVec 8) (X : Nat → BitVec 8) (n : Nat) : List (BitVec 8) := mapN (fun i => f X n i) [0, 1, 2, 3, 4, 5, 6, 7, 8, 9, 10, 11, 12, 13, 14, 15, 16, 17, 18, 19, 20, 21, 22, 23, 24, 25, 26, 27, 28, 29, 30, 31]
noncomputable def shaG (X : Nat → BitVec 8) (n i : Nat) : BitVec 8 := optC (nth (shaF X n) i) 0#8 fun x => x
theorem tab_sha : tabF shaG = shaF := by kernel_rfl
noncomputable def cfgRO (f : (Nat → BitVec 8) → Nat → Nat → BitVec 8) : Cfg := cfgG globS (sumsOf [(27, hashS (tabF f)), (8, hashM (tabF f) 1099511627776), (6, exS)])
theorem cfgROK : CfgOK (cfgRO shaG) := sumsG_ok (allS (by rw [tab_sha]; exact sumOK) (allS (by rw [tab_sha]; exact rsmOK) (allS exOK (by simp))))
section
variable (f : (Nat → BitVec 8) → Nat → Nat → BitVec 8)
noncomputable def rof (args : List SV) (E : List SO) (ds : List Bool) := outO [] (callSim (cfgRO f) 4000 3 args (shaH E)) ds
noncomputable def eqD (L M : List (BitVec 8)) : Bool := (optC (eqCells (repN CK.i 32) (bx L) (bx M)) (SB.lit false) fun b => b).den
noncomputable def xO (X : Nat → BitVec 8) : Nat → BitVec 8 := fun i => Sim.byteOf (byteF X (0 + i))
noncomputable def xOO (X : Nat → BitVec 8) : Nat → BitVec 8 := fun i => Sim.byteOf (byteF X (0 + (0 + i)))
noncomputable def bArg (k c : Nat) : SV := .slice ⟨4, .lit 0⟩ (.sym k) (.sym c)
theorem rof_nil : rof f [.nilSlice] [] [true] = ([eqD (tabF f (fun _ => 0#8) 0) (tabF f (fun _ => 0#8) 0) = true], some (.bool (.lit true), [])) := by kernel_rfl
theorem rof_long (X : Nat → BitVec 8) (n k c : Nat) : rof f [bArg k c] [rowF X n] [true] = ([decide ((k : Int) > 300) = true], some (.bool (.lit true), [])) := by kernel_rfl
theorem rof_zero (X : Nat → BitVec 8) (n k c : Nat) : rof f [bArg k c] [rowF X n] [false, true, true, true] =
    ([decide ((k : Int) > 300) = false, 0 + k ≤ n, decide (k = 0) = true, 1 = 1, IsB (byteF X), (0 + k ≤ n ∧ k ≤ 1099511627776), eqD (tabF f (fun _ => 0#8) 0) (tabF f (xO X) k) = true, (0 + k ≤ n ∧ ∀ i, i < n → isByte (byteF X i)), decide (bytesOf [] = strOfFn (byteF X) 0 k) = true], some (.bool (.lit true), [])) := by kernel_rfl
theorem rof_main (X : Nat → BitVec 8) (n k c : Nat) : rof f [bArg k c] [rowF X n] [false, false, true, true] =
    ([decide ((k : Int) > 300) = false, 0 + k ≤ n, decide (k = 0) = false, (roomy k 1 ∧ 1 = 1), IsB (fun i => byteF X (0 + i)), 0 + k ≤ k, IsB (byteF X), (0 + k ≤ n ∧ k ≤ 1099511627776), eqD (tabF f (xOO X) k) (tabF f (xO X) k) = true, (0 + k ≤ k ∧ ∀ i, i < k → isByte (byteF X (0 + i))), (0 + k ≤ n ∧ ∀ i, i < n → isByte (byteF X i)), decide (strOfFn (fun i => byteF X (0 + i)) 0 k = strOfFn (byteF X) 0 k) = true], some (.bool (.lit true), [])) := by kernel_rfl
end
end Go.Proofs.YtmkkelpfkkcmlaaDoor.Aes


/-
  ReplayOf: the law.
-/
namespace Go.Proofs.YtmkkelpfkkcmlaaDoor.Aes
open Go.Sim
open Go.Proofs
open Go.RowKit

theorem eqCells_refl : ∀ L : List (BitVec 8), ∃ b, eqCells (repN CK.i L.length) (bx L) (bx L) = some b ∧ b.den = true
  | [] => ⟨.lit true, rfl, rfl⟩
  | x :: L => by
    obtain ⟨b, h1, h2⟩ := eqCells_refl L
    refine ⟨andS (eqSI (.b8 x) (.b8 x)) b, ?_, ?_⟩
    · show (eqCell .i (.int .u8 (.b8 x)) (.int .u8 (.b8 x))).bind (fun c => (eqCells (repN CK.i L.length) (bx L) (bx L)).map fun y => andS c y) = _
      rw [h1]; rfl
    · rw [andS_den, eqSI_den, h2]; simp
theorem eqD_refl (f : (Nat → BitVec 8) → Nat → Nat → BitVec 8) (X : Nat → BitVec 8) (n : Nat) : eqD (tabF f X n) (tabF f X n) = true := by
  obtain ⟨b, h1, h2⟩ := eqCells_refl (tabF f X n)
  have hl : (tabF f X n).length = 32 := rfl
  rw [hl] at h1
  unfold eqD
  rw [h1]
  exact h2
theorem xOO_eq (X : Nat → BitVec 8) : xOO X = xO X := by
  funext i
  unfold xOO xO
  rw [Nat.zero_add (0 + i)]
theorem shaF_zero (X Y : Nat → BitVec 8) : shaF X 0 = shaF Y 0 := by
  unfold shaF
  rw [show padF X 0 0 = padF Y 0 0 from by funext i; unfold padF; simp]
theorem of_law {w : World} {β : Val} (hH : HeapRel Tryd.prog (fun _ => False) w β (shaH []) w) (hG : GlobRel globS β) {a0 : Option Addr} {len0 cap0 : Nat} {X : Nat → BitVec 8} (h0 : ByteRow w a0 len0 cap0 X) :
    Calls Tryd.prog 3 #[.slice a0 len0 cap0] w fun e w' => e = .returned (.bool true) ∧ Below w.heap.size w w' := by
  rcases h0 with ⟨rfl, rfl, rfl⟩ | ⟨x, rfl, hsx, hlx, hcap, hcx⟩
  · exact law_by cfgROK 4000 hH hG (args := [.nilSlice]) rfl [true] (rof_nil shaG) (all_cons (eqD_refl _ _ _) all_nil)
  · obtain ⟨β1, hH1, hle, hd⟩ := start_row (P := Tryd.prog) hH hsx hlx hcx
    have hH1 : HeapRel Tryd.prog (fun _ => False) w β1 (shaH [rowF X cap0]) w := hH1
    have hd : (bArg len0 cap0).den β1 = some (.slice (some x) len0 cap0) := hd
    have ha : SV.denL β1 [bArg len0 cap0] = some [.slice (some x) len0 cap0] := denL_cons.2 ⟨_, _, hd, rfl, rfl⟩
    have hG1 := hG.mono hle
    by_cases hk : (len0 : Int) > 300
    · exact law_by cfgROK 4000 hH1 hG1 ha [true] (rof_long shaG X cap0 len0 cap0) (all_cons (decide_eq_true hk) all_nil)
    by_cases hz : len0 = 0
    · refine law_by cfgROK 4000 hH1 hG1 ha [false, true, true, true] (rof_zero shaG X cap0 len0 cap0) ?_
      refine all_cons (decide_eq_false hk) (all_cons (by omega) (all_cons (decide_eq_true hz) (all_cons rfl (all_cons (byteF_isB _) (all_cons ⟨by omega, by omega⟩ (all_cons ?_ (all_cons ⟨by omega, fun _ _ => trivial⟩ (all_cons ?_ all_nil))))))))
      · rw [hz, tab_sha, shaF_zero (xO X) (fun _ => 0#8), ← tab_sha]
        exact eqD_refl _ _ _
      · exact decide_eq_true (by rw [hz]; rfl)
    · refine law_by cfgROK 4000 hH1 hG1 ha [false, false, true, true] (rof_main shaG X cap0 len0 cap0) ?_
      refine all_cons (decide_eq_false hk) (all_cons (by omega) (all_cons (decide_eq_false hz) (all_cons ⟨⟨by omega, by omega⟩, rfl⟩ (all_cons (byteF_isB fun i => X (0 + i)) (all_cons (by omega) (all_cons (byteF_isB _) (all_cons ⟨by omega, by omega⟩ (all_cons ?_ (all_cons ⟨by omega, fun _ _ => trivial⟩ (all_cons ⟨by omega, fun _ _ => trivial⟩ (all_cons ?_ all_nil)))))))))))
      · rw [xOO_eq]
        exact eqD_refl _ _ _
      · exact decide_eq_true (by unfold strOfFn; simp only [Nat.zero_add])
end Go.Proofs.YtmkkelpfkkcmlaaDoor.Aes


/-
  The start of a law that reads the tables of the hash function and of its reference.
-/
namespace Go.Proofs.YtmkkelpfkkcmlaaDoor.Aes
open Go.Sim
open Go.Proofs

theorem HeapRel.rows {P : Program} {W : World} {β : Val} {H : List SO} (h : ∀ n e, H[n]? = some e → ∃ c, e = .row c ∧ RowRel (fun _ => False) W β n c) (hb : ∀ n, H.length ≤ n → β n = none) : HeapRel P (fun _ => False) W β H W := by
  refine ⟨⟨fun n e hn => ?_, fun n m e e' l l' hn hm ho ho' => ?_, fun n e l hn ho => ?_, ⟨rfl, rfl, rfl, Nat.le_refl _, fun _ _ _ => rfl⟩⟩, hb⟩
  · obtain ⟨c, rfl, hc⟩ := h n e hn; exact hc
  · obtain ⟨c, rfl, hc⟩ := h n e hn; cases ho
  · obtain ⟨c, rfl, hc⟩ := h n e hn; cases ho
theorem kx_den {γ : Val} (k : IntKind) : ∀ T : List Nat, SV.denL γ (kx k T) = some (T.map fun n => Value.int k (Int.ofNat n))
  | [] => rfl
  | _ :: T => denL_cons.2 ⟨_, _, rfl, kx_den k T, rfl⟩
theorem cell_lt {W : World} {a : Addr} {x : Value} (h : W.cell? a = some x) : a.block < W.heap.size := by
  by_cases hb : a.block < W.heap.size
  · exact hb
  · unfold World.cell? at h
    have hn : W.heap[a.block]? = none := Array.getElem?_eq_none (by omega)
    simp only [hn] at h
    cases h
theorem kx_row {W : World} {β : Val} {n : Nat} {l : Sim.Loc} {k : IntKind} {L : List Nat} (hl : β n = some l) (hc : ∀ i, i < L.length → W.cell? ⟨l.blk, l.off + i, none⟩ = some (.int k ((L.getD i 0 : Nat) : Int))) : RowRel (fun _ => False) W β n (.lst (kx k L)) := by
  refine ⟨l, _, hl, kx_den k L, fun i x hx => ?_⟩
  rw [List.getElem?_map] at hx
  cases hi : L[i]? with
  | none => rw [hi] at hx; cases hx
  | some t =>
    rw [hi] at hx; cases hx
    have hlt : i < L.length := (List.getElem?_eq_some_iff.1 hi).1
    have hcell := hc i hlt
    have e : L.getD i 0 = t := by rw [List.getD_eq_getElem?_getD, hi]; rfl
    rw [e] at hcell
    exact ⟨cell_lt hcell, fun f => f, hcell⟩
theorem arr_at {P : Program} {w : World} {name : String} {g : Nat} {t e : TypeId} {k : IntKind} {n : Nat} {L : List Nat} (hn : P.globalNamed name = some g) (hy : (P.globals[g]?).map (·.type) = some t) (ht : P.underlying t = some (.array n e)) (he : P.underlying e = some (.int k)) (hce : P.cellsOf e = 1) (hct : P.cellsOf t = n)
    (h : Lib.VarReads P w name (Lib.tabData k (L.map Int.ofNat))) : ∀ i, i < L.length → w.cell? ⟨g, i, none⟩ = some (.int k ((L.getD i 0 : Nat) : Int)) := by
  obtain ⟨g', t', cs, fuel, p, hg, hty, hvar, hd⟩ := h
  obtain rfl := Option.some.inj (hn.symm.trans hg)
  obtain rfl := Option.some.inj (hy.symm.trans hty)
  intro i hi
  have hT : Lib.TabIs P w name k (L.map Int.ofNat) := by
    unfold Lib.TabIs
    rw [hvar, ← Lib.cells_of_tab ht he hce hct hd]
  have := hT.cell hn i (by simpa using hi)
  rw [this]
  simp [List.getD_eq_getElem?_getD, List.getElem?_eq_getElem hi]
theorem slice_at {P : Program} {w : World} {name : String} {g : Nat} {t e : TypeId} {k : IntKind} {l : List Nat} (hn : P.globalNamed name = some g) (hy : (P.globals[g]?).map (·.type) = some t)
    (ht : P.underlying t = some (.slice e)) (he : P.underlying e = some (.int k)) (hc : P.cellsOf e = 1) (hl : 0 < l.length) (h : Lib.VarReads P w name (Lib.sliceData k l)) :
    ∃ R o : Nat, w.cell? ⟨g, 0, none⟩ = some (.slice (some ⟨R, o, none⟩) l.length l.length) ∧ ∀ j, j < l.length → w.cell? ⟨R, o + j, none⟩ = some (.int k (l.getD j 0)) := by
  obtain ⟨R, o, c, h1, h2⟩ := Lib.tabSlice_of_reads hn hy ht he hc hl h
  refine ⟨R, o, ?_, h2⟩
  obtain ⟨g', t', cs, fuel, p, hg, hty, hvar, hd⟩ := h
  obtain rfl := Option.some.inj (hn.symm.trans hg)
  obtain rfl := Option.some.inj (hy.symm.trans hty)
  rcases DataW.trod_slice ht hd with ⟨_, hx⟩ | ⟨a, len, cap, el, rs, m, rfl, hcs, hx, _, hlc, _, hel, helem, hsp, _⟩
  · cases hx
  have e0 := congrArg Prod.fst hx
  simp only [Lib.sliceData, DataW.slice.injEq] at e0
  obtain ⟨eE, eR⟩ := e0
  have hlen : len = l.length := by
    have := congrArg List.length eE
    simp at this
    omega
  have hr := (hsp rfl).1
  have hr0 : rs.length = 0 := by
    have := congrArg List.length eR
    simp at this
    simp [this]
  have hcap : cap = l.length := by omega
  have h3 : w.cell? ⟨g, 0, none⟩ = some (.slice (some a) l.length l.length) := by
    rw [World.var?_cell hg hvar 0, ← Array.getElem?_toList, hcs, hlen, hcap]
    rfl
  rw [h1] at h3
  cases h3
  exact h1
theorem sha_start {W : World} (hL : laidMetH Tryd.prog [("watchword/watchwordref04.constants", Rows.laid_watchword_watchwordref04_constants), ("watchword/sha.start", Rows.laid_watchword_sha_start), ("watchword/sha.constants", Rows.laid_watchword_sha_constants)] W) :
    ∃ β, HeapRel Tryd.prog (fun _ => False) W β (shaH []) W ∧ GlobRel globS β := by
  rw [MakeChecks.laidMetH_plain _ _ _ (by kernel_rfl)] at hL
  have e1 : (Rows.laid_watchword_watchwordref04_constants : DataW Unit) = Lib.sliceData .i64 constL := by kernel_rfl
  have e2 : (Rows.laid_watchword_sha_start : DataW Unit) = Lib.tabData .u32 (startL.map Int.ofNat) := by kernel_rfl
  have e3 : (Rows.laid_watchword_sha_constants : DataW Unit) = Lib.tabData .u32 (constL.map Int.ofNat) := by kernel_rfl
  rw [e1, e2, e3] at hL
  have r1 := Lib.laidMet.reads hL (n := "watchword/watchwordref04.constants") (d := Lib.sliceData .i64 constL) (by simp)
  have r2 := Lib.laidMet.reads hL (n := "watchword/sha.start") (d := Lib.tabData .u32 (startL.map Int.ofNat)) (by simp)
  have r3 := Lib.laidMet.reads hL (n := "watchword/sha.constants") (d := Lib.tabData .u32 (constL.map Int.ofNat)) (by simp)
  have t2 := arr_at (g := 0) (t := 95) (e := 93) (n := 8) (by kernel_rfl) (by kernel_rfl) (by kernel_rfl) (by kernel_rfl) (by kernel_rfl) (by kernel_rfl) r2
  have t3 := arr_at (g := 2) (t := 114) (e := 93) (n := 64) (by kernel_rfl) (by kernel_rfl) (by kernel_rfl) (by kernel_rfl) (by kernel_rfl) (by kernel_rfl) r3
  obtain ⟨R, o, c1, c2⟩ := slice_at (g := 1) (t := 105) (e := 3) (by kernel_rfl) (by kernel_rfl) (by kernel_rfl) (by kernel_rfl) (by kernel_rfl) (by decide) r1
  have hc64 : constL.length = 64 := rfl
  rw [hc64] at c1
  let β : Val := fun n => match n with
    | 0 => some (Sim.Loc.mk 0 0 0)
    | 1 => some (Sim.Loc.mk 2 0 0)
    | 2 => some (Sim.Loc.mk 1 0 0)
    | 3 => some (Sim.Loc.mk R o 0)
    | _ => none
  refine ⟨β, HeapRel.rows (fun n e hn => ?_) fun n hn => ?_, fun g nm hg => ?_⟩
  · match n, hn with
    | 0, hn => cases hn; exact ⟨_, rfl, kx_row (l := Sim.Loc.mk 0 0 0) rfl fun i hi => by rw [show (Sim.Loc.mk 0 0 0).off + i = i from Nat.zero_add i]; exact t2 i hi⟩
    | 1, hn => cases hn; exact ⟨_, rfl, kx_row (l := Sim.Loc.mk 2 0 0) rfl fun i hi => by rw [show (Sim.Loc.mk 2 0 0).off + i = i from Nat.zero_add i]; exact t3 i hi⟩
    | 2, hn =>
      cases hn
      refine ⟨_, rfl, Sim.Loc.mk 1 0 0, [.slice (some ⟨R, o, none⟩) 64 64], rfl, ?_, fun i x hx => ?_⟩
      · show SV.denL β [.slice ⟨3, .lit 0⟩ (.lit 64) (.lit 64)] = _
        rfl
      · cases i with
        | zero =>
          cases hx
          exact ⟨cell_lt c1, fun f => f, c1⟩
        | succ i => simp at hx
    | 3, hn => cases hn; exact ⟨_, rfl, kx_row (l := Sim.Loc.mk R o 0) rfl fun i hi => c2 i hi⟩
    | n + 4, hn => simp [shaH] at hn
  · match n, hn with
    | n + 4, _ => rfl
    | 0, hn => simp [shaH] at hn
    | 1, hn => simp [shaH] at hn
    | 2, hn => simp [shaH] at hn
    | 3, hn => simp [shaH] at hn
  · rcases boolC_some (show boolC (Nat.beq g 0) (some 0) _ = some nm from hg) with ⟨h1, h2⟩ | h
    · cases h2; exact ⟨_, rfl, (beq_spec h1).symm, rfl⟩
    · rcases boolC_some (show boolC (Nat.beq g 2) (some 1) _ = some nm from h) with ⟨h1, h2⟩ | h
      · cases h2; exact ⟨_, rfl, (beq_spec h1).symm, rfl⟩
      · obtain ⟨h1, h2⟩ := boolC_opt (show boolC (Nat.beq g 1) (some 2) none = some nm from h)
        cases h2; exact ⟨_, rfl, (beq_spec h1).symm, rfl⟩
end Go.Proofs.YtmkkelpfkkcmlaaDoor.Aes

