/-
  Texts behind one another: the symbolic simulator and what it is told of the program.
-/
import Derived.Test.YtdnaaeagllejjaaDoorYTxt1

/-
  The reference's functions of a key, an IV and a string: summaries from runs, for each number of bytes.
-/
namespace Go.Proofs.YtdnaaeagllejjaaDoor.Aes
open Go.Sim
open Go.Proofs
open Go.RowKit
variable {α : Type}

noncomputable def capR (b : Bool) (nm l : Nat) : SC := boolC b (.lit l) (.rest nm 0)
noncomputable def args3R (m1 m2 m3 o o2 o3 l : Nat) : List SV := [.slice ⟨1, .sym o⟩ (.lit 16) (.sym m1), .slice ⟨2, .sym o2⟩ (.lit 16) (.sym m2), .slice ⟨3, .sym o3⟩ (.lit l) (.sym m3)]
noncomputable def ents3R (X Y Z : Nat → BitVec 8) (n n2 n3 : Nat) : List SO := [tabR, rowF X n, rowF Y n2, rowF Z n3]
def RunR (c : Cfg) (f : FuncId) (F : Blk → Blk → (Nat → BitVec 8) → Nat → Blk) (ok cp : Nat → Bool) : Prop := ∀ (X Y Z : Nat → BitVec 8) (n m1 n2 m2 n3 m3 o o2 o3 l : Nat), ok l = true → o + 16 ≤ n → o2 + 16 ≤ n2 → o3 + l ≤ n3 → l ≤ m3 →
  ∃ (nm : Nat) (ps : List Prop), 4 ≤ nm ∧ outO [nm] (callSim c 20000 f (args3R m1 m2 m3 o o2 o3 l) (ents3R X Y Z n n2 n3)) [] = (ps, some (.slice ⟨nm, .lit 0⟩ (.lit l) (capR (cp l) nm l), [some (.own (.lst (bx (F (block16 X o) (block16 Y o2) (fun j => Z (o3 + j)) l))) (cp l) 5)])) ∧ ∀ p ∈ ps, p
def NilR (c : Cfg) (f : FuncId) : Prop := ∀ (X Y : Nat → BitVec 8) (n m1 n2 m2 o o2 : Nat), outO [] (callSim c 20000 f [.slice ⟨1, .sym o⟩ (.lit 16) (.sym m1), .slice ⟨2, .sym o2⟩ (.lit 16) (.sym m2), .nilSlice] [tabR, rowF X n, rowF Y n2]) [] = ([IsB (byteF X), o + 16 ≤ n], some (.nilSlice, []))
/-- 'nl': nothing is answered by nothing -/
noncomputable def row3S (F : Blk → Blk → (Nat → BitVec 8) → Nat → Blk) (ok cp : Nat → Bool) (nl : Bool) : Summ := fun args H base => args3 args fun k v p => sliceR k (.stuck 910) fun a l1 => sliceR v (.stuck 910) fun b l2 => tabR0 H
  (boolC (Nat.beq 0 a.nm) (.stuck 911) (boolC (Nat.beq 0 b.nm) (.stuck 911) (boolC (Nat.beq a.nm b.nm) (.stuck 911) (lenIs l1 16 (lenIs l2 16 (bytesE (nth H a.nm) fun X n => bytesE (nth H b.nm) fun Y n2 => .need (a.off.den + 16 ≤ n ∧ b.off.den + 16 ≤ n2)
    (sliceR p (boolC nl (.ok ⟨.nilSlice, [], []⟩) (.stuck 912)) fun c l => boolC (Nat.beq 0 c.nm) (.stuck 911) (boolC (Nat.beq a.nm c.nm) (.stuck 911) (boolC (Nat.beq b.nm c.nm) (.stuck 911)
      (bytesE (nth H c.nm) fun Z n3 => .need (c.off.den + l.den ≤ n3 ∧ ok l.den = true) (.ok ⟨.slice ⟨base, .lit 0⟩ l (capR (cp l.den) base l.den), [], [.own (.lst (bx (F (block16 X a.off.den) (block16 Y b.off.den) (fun j => Z (c.off.den + j)) l.den))) (cp l.den) 5]⟩)))))) (.stuck 913)) (.stuck 913)))))
theorem row3OK {c : Cfg} (hc : CfgOK c) (hg : c.glob = globR) (hP : c.P = Tryd.prog) {f : FuncId} {F : Blk → Blk → (Nat → BitVec 8) → Nat → Blk} {ok cp : Nat → Bool} {nl : Bool} (hrun : RunR c f F ok cp) (hnil : nl = true → NilR c f) : SumAt Tryd.prog globR f (row3S F ok cp nl) := by
  intro O w0 β H w base args vs hH hG ha
  refine args3_sat fun k v p hv => sliceR_sat (fun _ => trivial) fun a l1 c1 hs1 => sliceR_sat (fun _ => trivial) fun b l2 c2 hs2 => tabR0_sat fun htab => boolC_sat (fun _ => trivial) fun h0 => boolC_sat (fun _ => trivial) fun h1 => boolC_sat (fun _ => trivial) fun hab =>
    lenIs_sat (fun hl1 => lenIs_sat (fun hl2 => bytesE_sat fun X n t1 => bytesE_sat fun Y n2 t2 => fun hn => ?_) fun _ => trivial) fun _ => trivial
  rw [hv, hs1, hs2] at ha
  rw [nth_eq] at t1 t2
  obtain ⟨x, ys, hx, hys, rfl⟩ := denL_cons.1 ha
  obtain ⟨y, zs, hy, hz, rfl⟩ := denL_cons.1 hys
  obtain ⟨u, us, hu, hus, rfl⟩ := denL_cons.1 hz
  obtain ⟨m1, _, hd1, _, _⟩ := slice_den hx
  obtain ⟨m2, _, hd2, _, _⟩ := slice_den hy
  rw [hl1] at hd1
  rw [hl2] at hd2
  refine sliceR_sat (fun hn3 => boolC_sat (fun hnl => ?_) fun _ => trivial) fun c0 l c3 hs3 => boolC_sat (fun _ => trivial) fun h2 => boolC_sat (fun _ => trivial) fun hac => boolC_sat (fun _ => trivial) fun hbc => bytesE_sat fun Z n3 t3 => fun hn3 => ?_
  · rw [hn3] at hu
    have hnd : [0, a.nm, b.nm].Nodup := by
      simp only [List.nodup_cons, List.mem_cons, List.not_mem_nil, or_false, not_or, not_false_eq_true, List.nodup_nil, and_true]
      exact ⟨⟨beq_ne h0, beq_ne h1⟩, beq_ne hab⟩
    rw [← hP] at hH ⊢
    refine sum_runG hc 20000 hH ⟨[0, a.nm, b.nm], [tabR, rowF X n, rowF Y n2], [.slice ⟨1, .sym a.off.den⟩ (.lit 16) (.sym m1), .slice ⟨2, .sym b.off.den⟩ (.lit 16) (.sym m2), .nilSlice]⟩ (by rw [hg]; exact glob_at rfl rfl hG) (denL_cons.2 ⟨_, _, hd1, denL_cons.2 ⟨_, _, hd2, denL_cons.2 ⟨_, _, hu, hus, rfl⟩, rfl⟩, rfl⟩)
      (Ifc.fits hnd rfl ⟨⟨htab _, tabR_uses _⟩, ⟨t1 _, rowF_uses _ _ _⟩, ⟨t2 _, rowF_uses _ _ _⟩, trivial⟩) [] (by simp) (by simp) (outO_ob (hnil hnl X Y n m1 n2 m2 a.off.den b.off.den) (all_cons (byteF_isB X) (all_cons hn.1 all_nil)) fun H2 _ => ends0 rfl rfl rfl)
  · rw [hs3] at hu
    rw [nth_eq] at t3
    obtain ⟨m3, hlm3, hd3, hd3', _⟩ := slice_den hu
    have hd4 : (SV.slice ⟨c0.nm, .sym c0.off.den⟩ (.lit l.den) (.sym m3)).den β = some u := by
      rw [den_slice] at hd3 ⊢
      exact hd3
    have hnd : [0, a.nm, b.nm, c0.nm].Nodup := by
      simp only [List.nodup_cons, List.mem_cons, List.not_mem_nil, or_false, not_or, not_false_eq_true, List.nodup_nil, and_true]
      exact ⟨⟨beq_ne h0, beq_ne h1, beq_ne h2⟩, ⟨beq_ne hab, beq_ne hac⟩, beq_ne hbc⟩
    obtain ⟨nm, ps, hnm, hr, hps⟩ := hrun X Y Z n m1 n2 m2 n3 m3 a.off.den b.off.den c0.off.den l.den hn3.2 hn.1 hn.2 hn3.1 hlm3
    rw [← hP] at hH ⊢
    refine sum_runG hc 20000 hH ⟨[0, a.nm, b.nm, c0.nm], ents3R X Y Z n n2 n3, args3R m1 m2 m3 a.off.den b.off.den c0.off.den l.den⟩ (by rw [hg]; exact glob_at rfl rfl hG) (denL_cons.2 ⟨_, _, hd1, denL_cons.2 ⟨_, _, hd2, denL_cons.2 ⟨_, _, hd4, hus, rfl⟩, rfl⟩, rfl⟩)
      (Ifc.fits hnd rfl ⟨⟨htab _, tabR_uses _⟩, ⟨t1 _, rowF_uses _ _ _⟩, ⟨t2 _, rowF_uses _ _ _⟩, ⟨t3 _, rowF_uses _ _ _⟩, trivial⟩) [nm] (by simpa using hnm) (by simp) (outO_ob hr hps fun H2 hH2 => ⟨?_, ?_, trivial, ⟨given_bytes (List.cons.inj hH2).1, trivial⟩⟩)
    · intro γ xv hxv
      have hon := out_new (I := ⟨[0, a.nm, b.nm, c0.nm], ents3R X Y Z n n2 n3, args3R m1 m2 m3 a.off.den b.off.den c0.off.den l.den⟩) (base := base) (nm := nm) (by simpa using hnm)
      have hcap : SC.ren (Ifc.out ⟨[0, a.nm, b.nm, c0.nm], ents3R X Y Z n n2 n3, args3R m1 m2 m3 a.off.den b.off.den c0.off.den l.den⟩ base [nm]) (capR (cp l.den) nm l.den) = capR (cp l.den) base l.den := by
        unfold capR
        cases cp l.den with
        | true => rfl
        | false => show SC.rest _ 0 = _; rw [hon]; rfl
      simp only [SV.ren, SA.ren, hon, hcap] at hxv
      rw [den_slice] at hxv ⊢
      exact hxv
    · show (Ifc.seen _ [nm] nm && SC.uses _ (capR (cp l.den) nm l.den)) = true
      rw [seen_new]
      unfold capR
      cases cp l.den with
      | true => rfl
      | false => exact seen_new

/- Chain. -/
noncomputable def chainF (K V : Blk) (P : Nat → BitVec 8) (l : Nat) : Blk := joinL (chainL (byteAt (keysL K)) (fullB P 0 (l / 16)) V)
def chOk (l : Nat) : Bool := decide (l % 16 = 0 ∧ 16 ≤ l ∧ l ≤ 224)
theorem xorC_all {o n o2 n2 : Nat} {r : List Prop} (h : o + 16 ≤ n) (h2 : o2 + 16 ≤ n2) (hr : ∀ p ∈ r, p) : ∀ p ∈ xorC o n o2 n2 r, p := by
  have key : ∀ k i, k + i = 16 → ∀ p ∈ (Nat.rec (motive := fun _ => Nat → List Prop) (fun _ => r) (fun _ ih i => (o + i < n) :: (o2 + i < n2) :: ih (i + 1)) k i : List Prop), p := by
    intro k
    induction k with
    | zero => intro i _; exact hr
    | succ k ih => intro i hi; exact all_cons (by omega) (all_cons (by omega) (ih (i + 1) (by omega)))
  exact key 16 0 rfl
theorem b16C_all {o n : Nat} {r : Nat → List Prop} (h : o + 16 ≤ n) (hr : ∀ p ∈ r 16, p) : ∀ p ∈ b16C o n r, p := by
  have key : ∀ k i, k + i = 16 → ∀ p ∈ (Nat.rec (motive := fun _ => Nat → List Prop) (fun _ => r 16) (fun _ ih i => (o + i < n) :: ih (i + 1)) k i : List Prop), p := by
    intro k
    induction k with
    | zero => intro i _; exact hr
    | succ k ih => intro i hi; exact all_cons (by omega) (ih (i + 1) (by omega))
  exact key 16 0 rfl
theorem nextC_all {o3 n3 : Nat} : ∀ (m i : Nat), o3 + 16 * (i + m) ≤ n3 → ∀ p ∈ nextC o3 n3 m i, p
  | 0, _, _ => all_nil
  | m + 1, i, h => by
    show ∀ p ∈ b16C (o3 + 16 * i) n3 (fun _ => (16 ≤ 16 ∧ 176 ≤ 176) :: nextC o3 n3 m (i + 1)), p
    exact b16C_all (by omega) (all_cons ⟨by omega, by omega⟩ (nextC_all m (i + 1) (by omega)))
theorem mapN_at {β : Type} {f g : Nat → β} {k b : Nat} (h : mapN f (fromN k b) = mapN g (fromN k b)) {l : Nat} (h1 : b ≤ l) (h2 : l < b + k) : f l = g l := by
  rw [mapN_eq, mapN_eq, fromN_eqr] at h
  have h3 : ∀ f : Nat → β, (List.map f (List.range' b k))[l - b]? = some (f l) := fun f => by
    rw [List.getElem?_map, List.getElem?_range' (by omega)]
    simp only [Option.map_some]
    rw [show b + 1 * (l - b) = l from by omega]
  have h4 := h3 f
  rw [h, h3 g] at h4
  exact (Option.some.inj h4).symm
theorem chJ_eq (X Y Z : Nat → BitVec 8) (o o2 o3 m : Nat) : chJ X Y Z o o2 o3 m = chainF (block16 X o) (block16 Y o2) (fun j => Z (o3 + j)) (16 * m) := by
  unfold chJ chainF
  rw [chainR_eq, show 16 * m / 16 = m from by omega]
  congr 2
  exact fullB_eq fun j _ => by rw [Nat.zero_add]
theorem rch_good : RunR cfgRC 6 chainF chOk fun _ => false := by
  intro X Y Z n m1 n2 m2 n3 m3 o o2 o3 l hok h1 h2 h3 h4
  have hok := of_decide_eq_true hok
  obtain ⟨m, rfl⟩ : ∃ m, l = 16 * m := ⟨l / 16, by omega⟩
  have hr := mapN_at (rch_runs X Y Z n m1 n2 m2 n3 m3 o o2 o3) (l := m) (by omega) (by omega)
  refine ⟨4 + 3 * m, rchC X n o n2 o2 n3 o3 (m - 1), by omega, ?_, ?_⟩
  · rw [← chJ_eq]
    exact hr
  · exact all_cons (byteF_isB X) (all_cons h1 (xorC_all (by omega) h2 (all_cons ⟨by omega, by omega⟩ (nextC_all (m - 1) 1 (by omega)))))
noncomputable def rchainS : Summ := row3S chainF chOk (fun _ => false) true
theorem rchainOK : SumAt Tryd.prog globR 6 rchainS := row3OK cfgRCOK rfl rfl rch_good fun _ => rch_nil
noncomputable def cfgRE : Cfg := cfgG globR (sumsOf [(6, rchainS), (13, rwordsS), (30, rcryptS decL)])
theorem cfgREOK : CfgOK cfgRE := sumsG_ok (allA rchainOK (allA rwordsOK (allA rdecOK (by simp))))

end Go.Proofs.YtdnaaeagllejjaaDoor.Aes


/-
  The reference's exclusive or of two blocks.
-/
namespace Go.Proofs.YtdnaaeagllejjaaDoor.Aes
open Go.Sim
open Go.Proofs
open Go.RowKit
variable {α : Type}

theorem rxor_run (X Y : Nat → BitVec 8) (n m1 n2 m2 o o2 : Nat) : outO [2] (callSim cfg0 2000 15 [.slice ⟨0, .sym o⟩ (.lit 16) (.sym m1), .slice ⟨1, .sym o2⟩ (.lit 16) (.sym m2)] [rowF X n, rowF Y n2]) [] =
    (xorC o n o2 n2 [], some (.slice ⟨2, .lit 0⟩ (.lit 16) (.lit 16), [some (.own (.lst (bx (addL (block16 X o) (block16 Y o2)))) true 5)])) := by kernel_rfl
noncomputable def rxorS : Summ := fun args H base => args2 args fun u v => sliceR u (.stuck 920) fun a l1 => sliceR v (.stuck 920) fun b l2 => boolC (Nat.beq a.nm b.nm) (.stuck 920) (lenIs l1 16 (lenIs l2 16 (bytesE (nth H a.nm) fun X n => bytesE (nth H b.nm) fun Y n2 => .need (a.off.den + 16 ≤ n ∧ b.off.den + 16 ≤ n2)
  (.ok ⟨.slice ⟨base, .lit 0⟩ (.lit 16) (.lit 16), [], [.own (.lst (bx (addL (block16 X a.off.den) (block16 Y b.off.den)))) true 5]⟩)) (.stuck 920)) (.stuck 920))
theorem rxorOK : SumOK Tryd.prog 15 rxorS := by
  intro glob O w0 β H w base args vs hH hG ha
  refine args2_sat fun u v hv => sliceR_sat (fun _ => trivial) fun a l1 c1 hs1 => sliceR_sat (fun _ => trivial) fun b l2 c2 hs2 => boolC_sat (fun _ => trivial) fun hab => lenIs_sat (fun hl1 => lenIs_sat (fun hl2 => bytesE_sat fun X n t1 => bytesE_sat fun Y n2 t2 => fun hn => ?_) fun _ => trivial) fun _ => trivial
  rw [hv, hs1, hs2] at ha
  rw [nth_eq] at t1 t2
  obtain ⟨x, ys, hx, hys, rfl⟩ := denL_cons.1 ha
  obtain ⟨y, zs, hy, hz, rfl⟩ := denL_cons.1 hys
  obtain ⟨m1, _, hd1, _, _⟩ := slice_den hx
  obtain ⟨m2, _, hd2, _, _⟩ := slice_den hy
  rw [hl1] at hd1
  rw [hl2] at hd2
  exact sum_outO cfg0OK rfl 2000 hH ⟨[a.nm, b.nm], [rowF X n, rowF Y n2], [.slice ⟨0, .sym a.off.den⟩ (.lit 16) (.sym m1), .slice ⟨1, .sym b.off.den⟩ (.lit 16) (.sym m2)]⟩ (denL_cons.2 ⟨_, _, hd1, denL_cons.2 ⟨_, _, hd2, hz, rfl⟩, rfl⟩)
    (Ifc.fits (by simpa using beq_ne hab) rfl ⟨⟨t1 _, rowF_uses _ _ _⟩, ⟨t2 _, rowF_uses _ _ _⟩, trivial⟩) [2] (by simp) (by simp) (rxor_run X Y n m1 n2 m2 a.off.den b.off.den) (xorC_all hn.1 hn.2 all_nil) fun H2 hH2 => ⟨SV.imp_of_eq rfl, rfl, trivial, ⟨given_bytes (List.cons.inj hH2).1, trivial⟩⟩
noncomputable def cfgRX : Cfg := cfgG globR (sumsOf [(6, rchainS), (13, rwordsS), (30, rcryptS decL), (15, rxorS)])
theorem cfgRXOK : CfgOK cfgRX := sumsG_ok (allA rchainOK (allA rwordsOK (allA rdecOK (allA (rxorOK _) (by simp)))))

end Go.Proofs.YtdnaaeagllejjaaDoor.Aes


/-
  CtsChains: the law's own runs.
-/
namespace Go.Proofs.YtdnaaeagllejjaaDoor.Aes
open Go.Sim
open Go.Proofs
open Go.RowKit
variable {α : Type}

noncomputable def cfgCh : Cfg := cfgG globR (sumsOf [(22, cloneS), (21, combS), (34, newS), (20, cryptS encL), (6, rchainS), (5, knownCS)])
theorem cfgChOK : CfgOK cfgCh := sumsG_ok (allA (cloneOK _) (allA (combOK _) (allA (newOK _) (allA (encryptOK _) (allA rchainOK (allA (knownCOK _) (by simp)))))))
/-- the blocks that came in: q whole ones, and others -/
noncomputable def wholeE (cs : Nat → Nat) (q : Nat) : Nat → List SV := Nat.rec (motive := fun _ => Nat → List SV) (fun _ => []) (fun _ ih i => .slice ⟨3 + i, .lit 0⟩ (.lit 16) (.sym (cs i)) :: ih (i + 1)) q
noncomputable def otherE (P : Nat → Option Addr) (ls cs : Nat → Nat) (k : Nat) : Nat → List SV := Nat.rec (motive := fun _ => Nat → List SV) (fun _ => []) (fun _ ih i => .val (.slice (P i) (ls i) (cs i)) :: ih (i + 1)) k
noncomputable def rowsE (Z : Nat → Nat → BitVec 8) (ns : Nat → Nat) (q : Nat) : Nat → List SO := Nat.rec (motive := fun _ => Nat → List SO) (fun _ => []) (fun _ ih i => rowF (Z i) (ns i) :: ih (i + 1)) q
noncomputable def chRows (e1 e2 : SO) (Z : Nat → Nat → BitVec 8) (P : Nat → Option Addr) (ls cs ns : Nat → Nat) (q k : Nat) : List SO := app [tabR, e1, e2] (app (rowsE Z ns q 0) [.row (.lst (app (wholeE cs q 0) (otherE P ls cs k q)))])
noncomputable def lS (q k c : Nat) : SV := .slice ⟨Nat.add 3 q, .lit 0⟩ (.lit (Nat.add q k)) (.sym c)
noncomputable def kyS (m1 : Nat) : SV := .slice ⟨1, .lit 0⟩ (.lit 16) (.sym m1)
noncomputable def ivS (m2 : Nat) : SV := .slice ⟨2, .lit 0⟩ (.lit 16) (.sym m2)
noncomputable def xvS (p : Option Addr) (k c : Nat) : SV := .val (.slice p k c)
noncomputable def chRun (args : List SV) (ents : List SO) (ds : List Bool) : List Prop × Option (SV × List (Option SO)) := outO [] (callSim cfgCh 20000 3 args ents) ds
noncomputable def chYes (ps : List Prop) : List Prop × Option (SV × List (Option SO)) := (ps, some (.bool (.lit true), []))
noncomputable def strL (l : List (BitVec 8)) : ByteArray := bytesOf (mapN (fun x => .b8 x) l)
noncomputable def blsL (Z : Nat → Nat → BitVec 8) (q : Nat) : List Blk := mapN (fun i => block16 (Z i) 0) (fromN q 0)
noncomputable def chS (X Y : Nat → BitVec 8) (Z : Nat → Nat → BitVec 8) (q i : Nat) : ByteArray := strL (optC (nth (chainL (byteAt (keysL (block16 X 0))) (blsL Z q) (block16 Y 0)) i) [] fun b => b)
/-- the bound of the first loop -/
noncomputable def wI (a : Int) : Int := wrapF .i64 (Int.mul 16 a)
/- Conditions. -/
/-- the first loop: q whole blocks (their bytes), then others -/
noncomputable def chIn (ns : Nat → Nat) (q : Nat) (r : List Prop) : Nat → List Prop := Nat.rec (motive := fun _ => Nat → List Prop) (fun _ => r) (fun _ ih i => (0 + 16 ≤ ns i) :: ih (i + 1)) q
noncomputable def chOver (ls : Nat → Nat) (k : Nat) (r : List Prop) : Nat → List Prop := Nat.rec (motive := fun _ => Nat → List Prop) (fun _ => r) (fun _ ih i => (decide ((ls i : Int) > 20) = false) :: ih (i + 1)) k
noncomputable def repC (p : Prop) (n : Nat) (r : List Prop) : List Prop := Nat.rec (motive := fun _ => List Prop) r (fun _ ih => p :: ih) n
noncomputable def chOut2 (ls : Nat → Nat) (q k : Nat) (r : List Prop) : List Prop := Nat.rec (motive := fun _ => List Prop) r (fun k' _ => (decide ((ls (q + 1) : Int) > 20) = false) :: repC (((ls q : Int) == 16) = false) 7 (chOver ls k' r (q + 2))) k
noncomputable def chOut (ls : Nat → Nat) (q k : Nat) (r : List Prop) : List Prop := Nat.rec (motive := fun _ => List Prop) r (fun k' _ => (decide ((ls q : Int) > 20) = false) :: (((ls q : Int) == 16) = false) :: chOut2 ls q k' r) k
/-- a chained block: its conditions -/
noncomputable def chBl (S : Nat → ByteArray) (Z : Nat → Nat → BitVec 8) (ns : Nat → Nat) (i : Nat) (r : List Prop) : List Prop := IsB (byteF (Z i)) :: (0 + 16 ≤ 16 ∧ 0 + 16 ≤ ns i) :: (0 + 16 ≤ 16) :: (0 + 16 ≤ 16) :: ((!decide (S i = S i)) = false) :: r
/-- blocks of the first turn that do not end it -/
noncomputable def chT0 (S : Nat → ByteArray) (Z : Nat → Nat → BitVec 8) (ns : Nat → Nat) (a : Int) (m : Nat) (r : Nat → List Prop) : Nat → List Prop := Nat.rec (motive := fun _ => Nat → List Prop) r (fun _ ih i => chBl S Z ns i ((decide (((16 * (i + 1) : Nat) : Int) ≥ wI a) = false) :: ih (i + 1))) m
noncomputable def chT1 (S : Nat → ByteArray) (Z : Nat → Nat → BitVec 8) (ns : Nat → Nat) (m : Nat) (r : Nat → List Prop) : Nat → List Prop := Nat.rec (motive := fun _ => Nat → List Prop) r (fun _ ih i => chBl S Z ns i (ih (i + 1))) m
noncomputable def chEnd (ls : Nat → Nat) (q k : Nat) (r : List Prop) : List Prop := Nat.rec (motive := fun _ => List Prop) r (fun _ _ => (((ls q : Int) != 16) = true) :: r) k
noncomputable def chIn0 (X Y : Nat → BitVec 8) (n1 n2 : Nat) (r : List Prop) : List Prop := IsB (byteF X) :: (0 + 16 ≤ n1) :: IsB (byteF Y) :: (0 + 16 ≤ n2) :: r
noncomputable def chRef (X Y : Nat → BitVec 8) (n1 n2 q : Nat) (r : List Prop) : List Prop := IsB (byteF X) :: IsB (byteF Y) :: (0 + 16 ≤ n1 ∧ 0 + 16 ≤ n2) :: Nat.rec (motive := fun _ => List Prop) r (fun _ _ => (0 + 16 * q ≤ 16 * q ∧ chOk (16 * q) = true) :: r) q
noncomputable def chFirst (S : Nat → ByteArray) (Z : Nat → Nat → BitVec 8) (ns ls : Nat → Nat) (a : Int) (q k b : Nat) (r : List Prop) : List Prop :=
  boolC (Nat.blt b q) (chT0 S Z ns a b (fun i => chBl S Z ns i ((decide (((16 * (i + 1) : Nat) : Int) ≥ wI a) = true) :: r)) 0) (chT0 S Z ns a q (fun _ => chEnd ls q k r) 0)
noncomputable def dsT (d : List Bool) (m : Nat) (r : List Bool) : List Bool := Nat.rec (motive := fun _ => List Bool) r (fun _ ih => app d ih) m
noncomputable def dsEnd (k : Nat) (r : List Bool) : List Bool := Nat.rec (motive := fun _ => List Bool) r (fun _ _ => true :: r) k
noncomputable def chDs (q k b : Nat) : List Bool :=
  Nat.rec (motive := fun _ => List Bool → List Bool) (fun r => r) (fun k' _ r => false :: false :: Nat.rec (motive := fun _ => List Bool) r (fun k2 _ => dsT [false] 8 (dsT [false] k2 r)) k') k (boolC (Nat.blt b q) (dsT [false, false] b (false :: true :: dsT [false] q (dsEnd k []))) (dsT [false, false] q (dsEnd k (dsT [false] q (dsEnd k [])))))
section
variable (X Y : Nat → BitVec 8) (n1 m1 n2 m2 c : Nat) (Z : Nat → Nat → BitVec 8) (P : Nat → Option Addr) (ls cs ns : Nat → Nat) (a : Int)
noncomputable def chL (q k b : Nat) : List Prop × Option (SV × List (Option SO)) := chRun [kyS m1, ivS m2, lS q k c, .int .i64 (.sym a)] (chRows (rowF X n1) (rowF Y n2) Z P ls cs ns q k) (chDs q k b)
noncomputable def chP (S : Nat → ByteArray) (q k b : Nat) : List Prop := chIn ns q (chOut ls q k (chRef X Y n1 n2 q (chIn0 X Y n1 n2 (chIn0 X Y n1 n2 (chFirst S Z ns ls a q k b (chT1 S Z ns q (fun _ => chEnd ls q k []) 0)))))) 0
noncomputable def chR (q k b : Nat) : List Prop × Option (SV × List (Option SO)) := chYes (chP X Y n1 n2 Z ls ns a (chS X Y Z q) q k b)
/-- all places at which the first loop is left -/
noncomputable def allB {β : Type} (f : Nat → Nat → Nat → β) (q k : Nat) : List β := mapN (fun b => f q k b) (fromN (Nat.succ q) 0)
end
/- The runs that are left in the first loop, and those without a key or an IV. -/
section
variable (e2 : SO) (Y : Nat → BitVec 8) (n2 m2 c K c1 K2 c2 : Nat) (p1 p2 : Option Addr) (Z : Nat → Nat → BitVec 8) (P : Nat → Option Addr) (ls cs ns : Nat → Nat) (a : Int)
noncomputable def exC (ls : Nat → Nat) (q i : Nat) : List Prop :=
  Nat.rec (motive := fun _ => List Prop) [decide ((ls q : Int) > 20) = true] (fun i' _ => (decide ((ls q : Int) > 20) = false) :: (((ls q : Int) == 16) = false) :: Nat.rec (motive := fun _ => List Prop) [decide ((ls (q + 1) : Int) > 20) = true]
    (fun i2 _ => (decide ((ls (q + 1) : Int) > 20) = false) :: repC (((ls q : Int) == 16) = false) 7 (chOver ls i2 [decide ((ls (q + 2 + i2) : Int) > 20) = true] (q + 2))) i') i
noncomputable def exD (i : Nat) : List Bool := Nat.rec (motive := fun _ => List Bool) [true] (fun i' _ => false :: false :: Nat.rec (motive := fun _ => List Bool) [true] (fun i2 _ => dsT [false] 8 (dsT [false] i2 [true])) i') i
noncomputable def le2 (K K2 : Nat) (r : List Prop) : List Prop := (decide ((K : Int) > 20) = false) :: (decide ((K2 : Int) > 20) = false) :: r
noncomputable def exL (q k i : Nat) : List Prop × Option (SV × List (Option SO)) := chRun [xvS p1 K c1, xvS p2 K2 c2, lS q k c, .int .i64 (.sym a)] (chRows .gone .gone Z P ls cs ns q k) (false :: false :: exD i)
noncomputable def exR (q _k i : Nat) : List Prop × Option (SV × List (Option SO)) := chYes (le2 K K2 (chIn ns q (exC ls q i) 0))
noncomputable def allKI {β : Type} (f : Nat → Nat → Nat → β) (q : Nat) : List (List β) := mapN (fun k => mapN (fun i => f q k i) (fromN k 0)) (fromN (Nat.sub 11 q) 0)
/-- the directions through the first loop, where it is not left -/
noncomputable def inD (k : Nat) (r : List Bool) : List Bool := Nat.rec (motive := fun _ => List Bool → List Bool) (fun r => r) (fun k' _ r => false :: false :: Nat.rec (motive := fun _ => List Bool) r (fun k2 _ => dsT [false] 8 (dsT [false] k2 r)) k') k r
noncomputable def bC (v : Bool) (K K2 : Nat) : List Prop := boolC v (repC (((K : Int) == 16) = false) 4 (repC (((K2 : Int) != 16) = true) 2 [])) ((((K : Int) == 16) = true) :: (((K2 : Int) == 16) = false) :: repC (((K2 : Int) != 16) = true) 2 [])
noncomputable def bD (v : Bool) : List Bool := boolC v [false, false, false, false, true, true] [true, false, true, true]
noncomputable def badL (v : Bool) (q k : Nat) : List Prop × Option (SV × List (Option SO)) := chRun [xvS p1 K c1, xvS p2 K2 c2, lS q k c, .int .i64 (.sym a)] (chRows .gone .gone Z P ls cs ns q k) (false :: false :: inD k (bD v))
noncomputable def badR (v : Bool) (q k : Nat) : List Prop × Option (SV × List (Option SO)) := chYes (le2 K K2 (chIn ns q (chOut ls q k (bC v K K2)) 0))
noncomputable def cC (Y : Nat → BitVec 8) (n2 K : Nat) : List Prop := repC (((K : Int) == 16) = false) 4 ((K ≠ 16) :: IsB (byteF Y) :: (0 + 16 ≤ n2) :: (K ≠ 16) :: IsB (byteF Y) :: (0 + 16 ≤ n2) :: [])
noncomputable def keyL (q k : Nat) : List Prop × Option (SV × List (Option SO)) := chRun [xvS p1 K c1, ivS m2, lS q k c, .int .i64 (.sym a)] (chRows .gone (rowF Y n2) Z P ls cs ns q k) (false :: inD k [false, false, false, false])
noncomputable def keyR (q k : Nat) : List Prop × Option (SV × List (Option SO)) := chYes ((decide ((K : Int) > 20) = false) :: chIn ns q (chOut ls q k (cC Y n2 K)) 0)
noncomputable def allK {β : Type} (f : Nat → Nat → β) (q : Nat) : List β := mapN (fun k => f q k) (fromN (Nat.sub 11 q) 0)
end
end Go.Proofs.YtdnaaeagllejjaaDoor.Aes

