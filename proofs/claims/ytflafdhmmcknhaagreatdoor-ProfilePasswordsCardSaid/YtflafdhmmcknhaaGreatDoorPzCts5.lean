/-
  Chained blocks, fifth part: the summaries of Encrypt and Decrypt.
-/
import Derived.Test.YtflafdhmmcknhaaGreatDoorPzCts4
namespace Go.Proofs.YtflafdhmmcknhaaGreatDoor.Aes
open Go.Sim
open Go.Proofs
variable {α : Type}

noncomputable def errV (e : Nat) : SV := .tuple [.nilSlice, .int .i64 (.lit (.ofNat e))]
/-- the runs that end in an error -/
structure ErrRuns (f : FuncId) : Prop where
  e1n : ∀ x y, outO [] (callSim cfgC2 20000 f [.val x, .nilSlice, .val y] []) [] = ([], some (errV 2, []))
  e1 : ∀ (x y : Value) (o m k : Nat), outO [] (callSim cfgC2 20000 f [.val x, .slice ⟨0, .sym o⟩ (.sym k) (.sym m), .val y] [.gone]) [true] = ([((k : Int) != 16) = true], some (errV 2, []))
  e2n : ∀ (y : Value) (Y : Nat → BitVec 8) (o2 n2 m2 : Nat), outO [] (callSim cfgC2 20000 f [.nilSlice, .slice ⟨0, .sym o2⟩ (.lit 16) (.sym m2), .val y] [rowF Y n2]) [] = ([IsB (byteF Y), o2 + 16 ≤ n2], some (errV 2, []))
  e2 : ∀ (y : Value) (X Y : Nat → BitVec 8) (o n m k o2 n2 m2 : Nat), outO [] (callSim cfgC2 20000 f [.slice ⟨0, .sym o⟩ (.sym k) (.sym m), .slice ⟨1, .sym o2⟩ (.lit 16) (.sym m2), .val y] [rowF X n, rowF Y n2]) [false] = ([decide (k = 16) = false, IsB (byteF Y), o2 + 16 ≤ n2], some (errV 2, []))
  e1v : ∀ (x y : Value) (p : Option Addr) (k c : Nat), outO [] (callSim cfgC2 20000 f [.val x, .val (.slice p k c), .val y] []) [true] = ([((k : Int) != 16) = true], some (errV 2, []))
  e2v : ∀ (y : Value) (Y : Nat → BitVec 8) (p : Option Addr) (k c o2 n2 m2 : Nat), outO [] (callSim cfgC2 20000 f [.val (.slice p k c), .slice ⟨0, .sym o2⟩ (.lit 16) (.sym m2), .val y] [rowF Y n2]) [] = ([k ≠ 16, IsB (byteF Y), o2 + 16 ≤ n2], some (errV 2, []))
  e3n : ∀ (X Y : Nat → BitVec 8) (o n m o2 n2 m2 : Nat), outO [] (callSim cfgC2 20000 f [.slice ⟨0, .sym o⟩ (.lit 16) (.sym m), .slice ⟨1, .sym o2⟩ (.lit 16) (.sym m2), .nilSlice] [rowF X n, rowF Y n2]) [] = (startC X Y o n o2 n2 [], some (errV 4, []))
  e3 : ∀ (X Y : Nat → BitVec 8) (o n m o2 n2 m2 o3 l m3 : Nat), outO [] (callSim cfgC2 20000 f [.slice ⟨0, .sym o⟩ (.lit 16) (.sym m), .slice ⟨1, .sym o2⟩ (.lit 16) (.sym m2), .slice ⟨2, .sym o3⟩ (.sym l) (.sym m3)] [rowF X n, rowF Y n2, .gone]) [true] = (startC X Y o n o2 n2 [decide ((l : Int) < 16) = true], some (errV 4, []))
  e4 : ∀ (X Y : Nat → BitVec 8) (o n m o2 n2 m2 o3 l m3 : Nat), outO [] (callSim cfgC2 20000 f [.slice ⟨0, .sym o⟩ (.lit 16) (.sym m), .slice ⟨1, .sym o2⟩ (.lit 16) (.sym m2), .slice ⟨2, .sym o3⟩ (.sym l) (.sym m3)] [rowF X n, rowF Y n2, .gone]) [false, true] = (startC X Y o n o2 n2 [decide ((l : Int) < 16) = false, decide ((l : Int) > 131072) = true], some (errV 5, []))
theorem encErr : ErrRuns 54 := ⟨by intros; kernel_rfl, by intros; kernel_rfl, by intros; kernel_rfl, by intros; kernel_rfl, by intros; kernel_rfl, by intros; kernel_rfl, by intros; kernel_rfl, by intros; kernel_rfl, by intros; kernel_rfl⟩

/-- less than n, known or az a fork -/
noncomputable def lessIs (l : SN) (n : Nat) (t f : R α) : R α := SN.rec (motive := fun _ => R α) (fun m => boolC (Nat.blt m n) t f) (fun m => .fork (decide (m < n)) t f) (fun o x => .fork (decide (o + x.toNat < n)) t f) l
theorem lessIs_sat {l : SN} {n : Nat} {t f : R α} {φ : α → Prop} (h : l.den < n → t.Sat φ) (h' : n ≤ l.den → f.Sat φ) : (lessIs l n t f).Sat φ := by
  cases l with
  | lit m =>
    refine boolC_sat (fun hm => h (blt_spec hm)) fun hm => h' ?_
    show n ≤ m
    rcases Nat.lt_or_ge m n with hlt | hge
    · rw [show Nat.blt m n = true from Nat.ble_eq_true_of_le hlt] at hm; cases hm
    · exact hge
  | sym m => exact ⟨fun hm => h (of_decide_eq_true hm), fun hm => h' (Nat.le_of_not_lt (of_decide_eq_false hm))⟩
  | byt o x => exact ⟨fun hm => h (of_decide_eq_true hm), fun hm => h' (Nat.le_of_not_lt (of_decide_eq_false hm))⟩
noncomputable def ctsG (F : Blk → Blk → (Nat → BitVec 8) → Nat → Blk) (H : List SO) (base : Nat) (X Y : Nat → BitVec 8) (o o2 : Nat) (c : SA) (l : SN) : R SumRes :=
  bytesE (nth H c.nm) fun Z n3 => .need (c.off.den + l.den ≤ n3 ∧ l.den ≤ 224) (.ok ⟨pairR base l, [], [.own (.fn (byteF (byteAt (F (block16 X o) (block16 Y o2) (fun j => Z (c.off.den + j)) l.den))) l.den) false 5]⟩)
noncomputable def ctsL (F : Blk → Blk → (Nat → BitVec 8) → Nat → Blk) (H : List SO) (base : Nat) (X Y : Nat → BitVec 8) (a b : SA) (c : SA) (l : SN) : R SumRes :=
  boolC (Nat.beq a.nm c.nm) (.stuck 812) (boolC (Nat.beq b.nm c.nm) (.stuck 812) (boolC (placedE (nth H c.nm)) (lessIs l 16 (errR .nilSlice 4) (lessIs l 131073 (ctsG F H base X Y a.off.den b.off.den c l) (errR .nilSlice 5))) (.stuck 813)))
noncomputable def ctsK (F : Blk → Blk → (Nat → BitVec 8) → Nat → Blk) (H : List SO) (base : Nat) (Y : Nat → BitVec 8) (b : SA) (p : SV) (a : SA) (l : SN) : R SumRes :=
  boolC (Nat.beq a.nm b.nm) (.stuck 811) (bytesE (nth H a.nm) fun X n => lenIs l 16 (.need (a.off.den + 16 ≤ n) (sliceR p (errR .nilSlice 4) fun c l => ctsL F H base X Y a b c l)) (errR .nilSlice 2))
/-- Encrypt and Decrypt -/
noncomputable def ctsS (F : Blk → Blk → (Nat → BitVec 8) → Nat → Blk) : Summ := fun args H base => args3 args fun k v p => valS v (sliceR v (errR .nilSlice 2) fun b l2 =>
  lenIs l2 16 (bytesE (nth H b.nm) fun Y n2 => .need (b.off.den + 16 ≤ n2) (valS k (sliceR k (errR .nilSlice 2) fun a l => ctsK F H base Y b p a l) fun n => .need (n ≠ 16) (errR .nilSlice 2))) (boolC (placedE (nth H b.nm)) (errR .nilSlice 2) (.stuck 810))) fun n => .need (n ≠ 16) (errR .nilSlice 2)
/-- a summary from a run that ends in an error -/
theorem sum_err {f : FuncId} {O : Nat → Prop} {w0 w : World} {β : Val} {H : List SO} {base : Nat} {vs : List Value} (hH : HeapRel0 Tryz.prog O w0 β H w) (I : Ifc) (ha : SV.denL β (SV.renL I.big I.args) = some vs) (hI : I.Fits H) (ho : ownsOf I.ents 0 = [])
    {ds : List Bool} {ps : List Prop} {e : Nat} (h : outO [] (callSim cfgC2 20000 f I.args I.ents) ds = (ps, some (errV e, []))) (hp : ∀ p ∈ ps, p) : SumSem Tryz.prog H β w base f vs ⟨.tuple [.nilSlice, .int .i64 (.lit (.ofNat e))], [], []⟩ :=
  sum_run cfgC2OK rfl 20000 hH I ha hI [] (by simp) (by simp) (outO_ob h hp fun _ _ => ends0 ho rfl rfl)
theorem ctsOK {f : FuncId} {F : Blk → Blk → (Nat → BitVec 8) → Nat → Blk} (hE : ErrRuns f) (hG : GoodRun f F) : SumOK Tryz.prog f (ctsS F) := by
  intro glob O w0 β H w base args vs hH hgl ha
  refine args3_sat fun k v p hv => valS_sat (sliceR_sat (fun hn => ?_) fun b l2 c2 hs2 => ?_) fun q n c hs => fun hn => ?_
  rotate_left 2
  · rw [hv, hs] at ha
    obtain ⟨x, ys, hx, hys, rfl⟩ := denL_cons.1 ha
    obtain ⟨y, zs, hy, hz, rfl⟩ := denL_cons.1 hys
    obtain ⟨u, us, hu, hus, rfl⟩ := denL_cons.1 hz
    exact sum_err hH ⟨[], [], [.val x, .val (.slice q n c), .val u]⟩ (denL_cons.2 ⟨_, _, rfl, denL_cons.2 ⟨_, _, hy, denL_cons.2 ⟨_, _, rfl, hus, rfl⟩, rfl⟩, rfl⟩) (fits0 rfl) rfl (hE.e1v x u q n c) (all_cons (by rw [bne_iff_ne]; omega) all_nil)
  · rw [hv, hn] at ha
    obtain ⟨x, ys, hx, hys, rfl⟩ := denL_cons.1 ha
    obtain ⟨y, zs, hy, hz, rfl⟩ := denL_cons.1 hys
    obtain ⟨u, us, hu, hus, rfl⟩ := denL_cons.1 hz
    exact sum_err hH ⟨[], [], [.val x, .nilSlice, .val u]⟩ (denL_cons.2 ⟨_, _, rfl, denL_cons.2 ⟨_, _, hy, denL_cons.2 ⟨_, _, rfl, hus, rfl⟩, rfl⟩, rfl⟩) (fits0 rfl) rfl (hE.e1n x u) all_nil
  rw [hv, hs2] at ha
  obtain ⟨x, ys, hx, hys, rfl⟩ := denL_cons.1 ha
  obtain ⟨y, zs, hy, hz, rfl⟩ := denL_cons.1 hys
  obtain ⟨u, us, hu, hus, rfl⟩ := denL_cons.1 hz
  obtain ⟨m2, _, hd2, _, _⟩ := slice_den hy
  refine lenIs_sat (fun hl2 => bytesE_sat fun Y n2 t2 => fun hn2 => valS_sat (sliceR_sat (fun hn => ?_) fun a l1 c1 hs1 => ?_) fun q n c hs => fun hn => ?_) fun hl2 => ?_
  rotate_left 2
  · rw [hs] at hx
    rw [nth_eq] at t2
    rw [hl2] at hd2
    exact sum_err hH ⟨[b.nm], [rowF Y n2], [.val (.slice q n c), .slice ⟨0, .sym b.off.den⟩ (.lit 16) (.sym m2), .val u]⟩ (denL_cons.2 ⟨_, _, hx, denL_cons.2 ⟨_, _, hd2, denL_cons.2 ⟨_, _, rfl, hus, rfl⟩, rfl⟩, rfl⟩)
      (Ifc.fits (by simp) rfl ⟨⟨t2 _, rowF_uses _ _ _⟩, trivial⟩) rfl (hE.e2v u Y q n c b.off.den n2 m2) (all_cons hn (all_cons (byteF_isB Y) (all_cons hn2 all_nil)))
  rotate_left 1
  · rw [hn] at hx
    rw [nth_eq] at t2
    rw [hl2] at hd2
    exact sum_err hH ⟨[b.nm], [rowF Y n2], [.nilSlice, .slice ⟨0, .sym b.off.den⟩ (.lit 16) (.sym m2), .val u]⟩ (denL_cons.2 ⟨_, _, hx, denL_cons.2 ⟨_, _, hd2, denL_cons.2 ⟨_, _, rfl, hus, rfl⟩, rfl⟩, rfl⟩)
      (Ifc.fits (by simp) rfl ⟨⟨t2 _, rowF_uses _ _ _⟩, trivial⟩) rfl (hE.e2n u Y b.off.den n2 m2) (all_cons (byteF_isB Y) (all_cons hn2 all_nil))
  · rw [hs1] at hx
    rw [hl2] at hd2
    obtain ⟨m1, _, hd1, _, _⟩ := slice_den hx
    refine boolC_sat (fun _ => trivial) fun hab => bytesE_sat fun X n t1 => lenIs_sat (fun hl1 => fun hn1 => ?_) fun hl1 => ?_
    · rw [nth_eq] at t1 t2
      rw [hl1] at hd1
      refine sliceR_sat (fun hn => ?_) fun c l3 c3 hs3 => ?_
      · rw [hn] at hu
        exact sum_err hH ⟨[a.nm, b.nm], [rowF X n, rowF Y n2], [.slice ⟨0, .sym a.off.den⟩ (.lit 16) (.sym m1), .slice ⟨1, .sym b.off.den⟩ (.lit 16) (.sym m2), .nilSlice]⟩ (denL_cons.2 ⟨_, _, hd1, denL_cons.2 ⟨_, _, hd2, denL_cons.2 ⟨_, _, hu, hus, rfl⟩, rfl⟩, rfl⟩)
          (Ifc.fits (by simpa using beq_ne hab) rfl ⟨⟨t1 _, rowF_uses _ _ _⟩, ⟨t2 _, rowF_uses _ _ _⟩, trivial⟩) rfl (hE.e3n X Y a.off.den n m1 b.off.den n2 m2) (startC_all hn1 hn2 all_nil)
      · rw [hs3] at hu
        obtain ⟨m3, hlm3, hd3, hd3', _⟩ := slice_den hu
        refine boolC_sat (fun _ => trivial) fun hac => boolC_sat (fun _ => trivial) fun hbc => boolC_only fun hpl => ?_
        rw [nth_eq] at hpl
        have hnd : [a.nm, b.nm, c.nm].Nodup := by
          simp only [List.nodup_cons, List.mem_cons, List.not_mem_nil, or_false, not_or, not_false_eq_true, List.nodup_nil, and_true]
          exact ⟨⟨beq_ne hab, beq_ne hac⟩, beq_ne hbc⟩
        have herr : ∀ {ds : List Bool} {ps : List Prop} {e : Nat}, outO [] (callSim cfgC2 20000 f [.slice ⟨0, .sym a.off.den⟩ (.lit 16) (.sym m1), .slice ⟨1, .sym b.off.den⟩ (.lit 16) (.sym m2), .slice ⟨2, .sym c.off.den⟩ (.sym l3.den) (.sym m3)] [rowF X n, rowF Y n2, .gone]) ds = (ps, some (errV e, [])) → (∀ p ∈ ps, p) →
            SumSem Tryz.prog H β w base f (x :: y :: u :: us) ⟨.tuple [.nilSlice, .int .i64 (.lit (.ofNat e))], [], []⟩ := fun h hp =>
          sum_err hH ⟨[a.nm, b.nm, c.nm], [rowF X n, rowF Y n2, .gone], [.slice ⟨0, .sym a.off.den⟩ (.lit 16) (.sym m1), .slice ⟨1, .sym b.off.den⟩ (.lit 16) (.sym m2), .slice ⟨2, .sym c.off.den⟩ (.sym l3.den) (.sym m3)]⟩ (denL_cons.2 ⟨_, _, hd1, denL_cons.2 ⟨_, _, hd2, denL_cons.2 ⟨_, _, hd3, hus, rfl⟩, rfl⟩, rfl⟩)
            (Ifc.fits hnd rfl ⟨⟨t1 _, rowF_uses _ _ _⟩, ⟨t2 _, rowF_uses _ _ _⟩, ⟨taken_gone hpl, trivial⟩, trivial⟩) rfl h hp
        refine lessIs_sat (fun h16 => herr (hE.e3 X Y a.off.den n m1 b.off.den n2 m2 c.off.den l3.den m3) (startC_all hn1 hn2 (all_cons (decide_eq_true (by omega)) all_nil))) fun h16 => lessIs_sat (fun hmax => ?_) fun hmax =>
          herr (hE.e4 X Y a.off.den n m1 b.off.den n2 m2 c.off.den l3.den m3) (startC_all hn1 hn2 (all_cons (decide_eq_false (by omega)) (all_cons (decide_eq_true (by omega)) all_nil)))
        refine bytesE_sat fun Z n3 t3 => fun hn3 => ?_
        rw [nth_eq] at t3
        obtain ⟨nm, lS, ds, ps, E, hnm, hlS, hrun, hps, hGE⟩ := hG X Y Z n m1 n2 m2 n3 m3 a.off.den b.off.den c.off.den l3.den hn1 hn2 hn3.1 hlm3 h16 hn3.2
        have hd4 : (SV.slice ⟨c.nm, .sym c.off.den⟩ lS (.sym m3)).den β = some u := by
          rw [den_slice] at hd3 ⊢
          rw [hlS]; exact hd3
        refine sum_run cfgC2OK rfl 20000 hH ⟨[a.nm, b.nm, c.nm], entsC X Y Z n n2 n3, argsC m1 m2 m3 a.off.den b.off.den c.off.den lS⟩ (denL_cons.2 ⟨_, _, hd1, denL_cons.2 ⟨_, _, hd2, denL_cons.2 ⟨_, _, hd4, hus, rfl⟩, rfl⟩, rfl⟩)
          (Ifc.fits hnd rfl ⟨⟨t1 _, rowF_uses _ _ _⟩, ⟨t2 _, rowF_uses _ _ _⟩, ⟨t3 _, rowF_uses _ _ _⟩, trivial⟩) [nm] (by simpa using hnm) (by simp)
          (outZ_ob (ps := fun _ => ps) (v := fun _ => pairR nm lS) (es := fun _ => [some E]) hrun (fun _ => hps) fun _ H2 hH2 => ⟨?_, pair_uses seen_new _, trivial, ⟨given_good hGE (List.cons.inj hH2).1, trivial⟩⟩)
        rw [pair_ren, out_new (by simpa using hnm)]
        exact pair_imp hlS
    · rw [nth_eq] at t1 t2
      exact sum_err hH ⟨[a.nm, b.nm], [rowF X n, rowF Y n2], [.slice ⟨0, .sym a.off.den⟩ (.sym l1.den) (.sym m1), .slice ⟨1, .sym b.off.den⟩ (.lit 16) (.sym m2), .val u]⟩ (denL_cons.2 ⟨_, _, hd1, denL_cons.2 ⟨_, _, hd2, denL_cons.2 ⟨_, _, rfl, hus, rfl⟩, rfl⟩, rfl⟩)
        (Ifc.fits (by simpa using beq_ne hab) rfl ⟨⟨t1 _, rowF_uses _ _ _⟩, ⟨t2 _, rowF_uses _ _ _⟩, trivial⟩) rfl (hE.e2 u X Y a.off.den n m1 l1.den b.off.den n2 m2) (all_cons (decide_eq_false hl1) (all_cons (byteF_isB Y) (all_cons hn2 all_nil)))
  · refine boolC_only fun hpl => ?_
    rw [nth_eq] at hpl
    refine sum_err hH ⟨[b.nm], [.gone], [.val x, .slice ⟨0, .sym b.off.den⟩ (.sym l2.den) (.sym m2), .val u]⟩ (denL_cons.2 ⟨_, _, rfl, denL_cons.2 ⟨_, _, hd2, denL_cons.2 ⟨_, _, rfl, hus, rfl⟩, rfl⟩, rfl⟩)
      (Ifc.fits (by simp) rfl ⟨⟨taken_gone hpl, trivial⟩, trivial⟩) rfl (hE.e1 x u b.off.den m2 l2.den) (all_cons ?_ all_nil)
    simp only [bne_iff_ne, ne_eq]
    omega
theorem encOK : SumOK Tryz.prog 54 (ctsS encF) := ctsOK encErr enc_good

end Go.Proofs.YtflafdhmmcknhaaGreatDoor.Aes

