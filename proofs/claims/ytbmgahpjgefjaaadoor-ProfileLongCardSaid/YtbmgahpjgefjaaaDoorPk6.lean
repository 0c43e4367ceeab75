/-
  Texts behind one another: the symbolic simulator and what it is told of the program.
-/
import Derived.Test.YtbmgahpjgefjaaaDoorZSha2
import Derived.Test.YtbmgahpjgefjaaaDoorRows
import Derived.Lib.LaidPrint
import Derived.Lib.LaidTab
import Derived.MakeChecks
import Derived.Test.YtbmgahpjgefjaaaDoorPk5

/-
  The hash function: what it comes to, for bytes of any number.
-/
namespace Go.Proofs.YtbmgahpjgefjaaaDoor.Aes
open Go.Sim
open Go.Proofs
variable {α : Type}

/- The padded string; the hash. -/
noncomputable def lenByte (n j : Nat) : BitVec 8 := ((BitVec.ofInt 64 (n : Int) * BitVec.ofInt 64 8) >>> (8 * j)).setWidth 8
def lenP (n : Nat) : Nat := 64 * ((n + 72) / 64)
/-- the bytes Y, of which 'b' are in all (those ahead of Y are whole blocks): the padded string -/
noncomputable def padF (X : Nat → BitVec 8) (n t : Nat) : Nat → BitVec 8 := fun i => if i < n then X i else if i = n then BitVec.ofNat 8 128 else if lenP n ≤ i + 8 ∧ i < lenP n then lenByte t (lenP n - 1 - i) else BitVec.ofNat 8 0
noncomputable def iterW (W : List W32) (Y : Nat → BitVec 8) : Nat → List W32
  | 0 => W
  | k + 1 => cmpW (eight (iterW W Y k)) (words16 Y (64 * k))
noncomputable def shaF (X : Nat → BitVec 8) (n : Nat) : List (BitVec 8) := hashB (iterW startV (padF X n n) ((n + 72) / 64))

theorem words16_congr {X Y : Nat → BitVec 8} {a b : Nat} (h : ∀ i, i < 64 → X (a + i) = Y (b + i)) : words16 X a = words16 Y b := by
  unfold words16
  rw [mapN_eq, mapN_eq]
  apply List.map_congr_left
  intro t ht
  rw [fromN_eq, List.mem_range'] at ht
  obtain ⟨j, hj, rfl⟩ := ht
  unfold word4
  have e : ∀ r, r < 4 → X (a + 4 * (0 + 1 * j) + r) = Y (b + 4 * (0 + 1 * j) + r) := fun r hr => by
    rw [Nat.add_assoc, Nat.add_assoc]; exact h _ (by omega)
  rw [show a + 4 * (0 + 1 * j) = a + 4 * (0 + 1 * j) + 0 from rfl, show b + 4 * (0 + 1 * j) = b + 4 * (0 + 1 * j) + 0 from rfl, e 0 (by omega)]
  simp only [Nat.add_zero]
  rw [e 1 (by omega), e 2 (by omega), e 3 (by omega)]
theorem iterW_congr {W : List W32} {X Y : Nat → BitVec 8} : ∀ (k : Nat), (∀ i, i < 64 * k → X i = Y i) → iterW W X k = iterW W Y k
  | 0, _ => rfl
  | k + 1, h => by
    unfold iterW
    rw [iterW_congr k fun i hi => h i (by omega), words16_congr (Y := Y) (b := 64 * k) fun i hi => h _ (by omega)]
theorem overN_get {l v : List α} {i : Nat} (h : i + v.length ≤ l.length) (j : Nat) : (overN l i v)[j]? = if i ≤ j ∧ j < i + v.length then v[j - i]? else l[j]? := by
  rw [overN_eq _ _ _ h, List.append_assoc, List.getElem?_append, List.getElem?_append, List.length_take, Nat.min_eq_left (by omega), List.getElem?_take, List.getElem?_drop]
  by_cases h1 : j < i
  · rw [if_pos h1, if_pos h1, if_neg (by omega)]
  · rw [if_neg h1]
    by_cases h2 : j < i + v.length
    · rw [if_pos (by omega), if_pos (by omega)]
    · rw [if_neg (by omega), if_neg (by omega), show i + v.length + (j - i - v.length) = j from by omega]
theorem putB_length (o n : Nat) (Y : Nat → BitVec 8) : ∀ (xs : List (BitVec 8)) (k : Nat), (putB o n Y xs k).length = xs.length
  | [], _ => rfl
  | _ :: xs, k => congrArg (· + 1) (putB_length o n Y xs (k + 1))
theorem endL_get {size len n : Nat} {Y : Nat → BitVec 8} (hs : len + 9 ≤ size) {j : Nat} (hj : j < size) :
    byteAt (endL size Y len n) j = if j < len then Y j else if j = len then BitVec.ofNat 8 128 else if size ≤ j + 8 then lenByte n (size - 1 - j) else BitVec.ofNat 8 0 := by
  unfold byteAt endL
  have hl : (mapN (fun j => ((BitVec.ofInt 64 (n : Int) * BitVec.ofInt 64 8) >>> (8 * (7 - j))).setWidth 8) (fromN 8 0) : List (BitVec 8)).length = 8 := rfl
  have hb : (putB (0 + (len : Int).toNat * 1) 1 (fun _ => BitVec.ofNat 8 128) (putB 0 len Y (repN (BitVec.ofNat 8 0) size) 0) 0).length = size := by
    rw [putB_length, putB_length, repN_eq, List.length_replicate]
  rw [overN_get (by rw [hl, hb]; show size - 8 + 8 ≤ size; omega), hl]
  rw [putB_get, putB_get, repN_eq, List.getElem?_replicate, if_pos hj]
  simp only [Option.map_some, Nat.zero_add, Int.toNat_natCast, Nat.mul_one, Nat.zero_le, true_and, Nat.sub_zero]
  show ((if Nat.sub size 8 ≤ j ∧ j < Nat.sub size 8 + 8 then _ else _ : Option (BitVec 8))).getD 0#8 = _
  by_cases h1 : j < len
  · rw [if_neg (by show ¬ (size - 8 ≤ j ∧ j < size - 8 + 8); omega), if_pos h1]
    simp only [Option.getD_some]
    rw [if_neg (by omega), if_pos h1]
  · simp only [if_neg h1]
    by_cases h2 : j = len
    · rw [if_neg (by show ¬ (size - 8 ≤ j ∧ j < size - 8 + 8); omega), if_pos h2]
      simp only [Option.getD_some]
      rw [if_pos (by omega)]
    · rw [if_neg h2]
      by_cases h3 : size ≤ j + 8
      · rw [if_pos (by show size - 8 ≤ j ∧ j < size - 8 + 8; omega), if_pos h3, mapN_eq, fromN_eq, List.getElem?_map, List.getElem?_range' (by show j - (size - 8) < 8; omega)]
        simp only [Option.map_some, Option.getD_some]
        unfold lenByte
        rw [show 7 - (0 + 1 * (j - Nat.sub size 8)) = size - 1 - j from by show 7 - (0 + 1 * (j - (size - 8))) = _; omega]
      · rw [if_neg (by show ¬ (size - 8 ≤ j ∧ j < size - 8 + 8); omega), if_neg h3]
        simp only [Option.getD_some]
        rw [if_neg (by omega)]

/- Sum. -/
structure SumQ (X : Nat → BitVec 8) (o n m : Nat) (A : SumA) (k : Nat) : Prop where
  le : 64 * k ≤ n
  at_ : A.p + A.s.den = o + 64 * k
  len : A.len = n - 64 * k
  cap : A.cap = m - 64 * k
  ws : A.ws = iterW startV (padF (fun i => X (o + i)) n n) k
theorem iterW_succ (W : List W32) (Y : Nat → BitVec 8) (k : Nat) : iterW W Y (k + 1) = cmpW (eight (iterW W Y k)) (words16 Y (64 * k)) := rfl
theorem cmp_congr {a b c d : List W32} (h : a = b) (h' : c = d) : cmpW (eight a) c = cmpW (eight b) d := by rw [h, h']
theorem end1_eq {X : Nat → BitVec 8} {o n m : Nat} {A : SumA} {k : Nat} (h : SumQ X o n m A k) (hl : A.len + 9 ≤ 64) : end1 X n A = iterW startV (padF (fun i => X (o + i)) n n) ((n + 72) / 64) := by
  obtain ⟨h1, h2, h3, h4, h5⟩ := h
  have hk : (n + 72) / 64 = k + 1 := by omega
  have key : ∀ i, i < 64 → byteAt (endL 64 (leftF X A) A.len n) (0 + i) = padF (fun i => X (o + i)) n n (64 * k + i) := by
    intro i hi
    rw [Nat.zero_add, endL_get hl hi]
    unfold padF lenP leftF
    rw [hk, h2]
    by_cases c1 : i < A.len
    · rw [if_pos c1, if_pos (by omega), Nat.add_assoc]
    · rw [if_neg c1, if_neg (show ¬ 64 * k + i < n by omega)]
      by_cases c2 : i = A.len
      · rw [if_pos c2, if_pos (by omega)]
      · rw [if_neg c2, if_neg (show ¬ 64 * k + i = n by omega)]
        by_cases c3 : 64 ≤ i + 8
        · rw [if_pos c3, if_pos (by omega), show 64 * (k + 1) - 1 - (64 * k + i) = 64 - 1 - i from by omega]
        · rw [if_neg c3, if_neg (by omega)]
  rw [hk, iterW_succ]
  exact cmp_congr h5 (words16_congr key)
theorem end2_eq {X : Nat → BitVec 8} {o n m : Nat} {A : SumA} {k : Nat} (h : SumQ X o n m A k) (hl : A.len < 64) (hl2 : 64 < A.len + 9) : end2 X n A = iterW startV (padF (fun i => X (o + i)) n n) ((n + 72) / 64) := by
  obtain ⟨h1, h2, h3, h4, h5⟩ := h
  have hk : (n + 72) / 64 = k + 2 := by omega
  have key : ∀ i, i < 128 → byteAt (endL 128 (leftF X A) A.len n) i = padF (fun i => X (o + i)) n n (64 * k + i) := by
    intro i hi
    rw [endL_get (by omega) hi]
    unfold padF lenP leftF
    rw [hk, h2]
    by_cases c1 : i < A.len
    · rw [if_pos c1, if_pos (by omega), Nat.add_assoc]
    · rw [if_neg c1, if_neg (show ¬ 64 * k + i < n by omega)]
      by_cases c2 : i = A.len
      · rw [if_pos c2, if_pos (by omega)]
      · rw [if_neg c2, if_neg (show ¬ 64 * k + i = n by omega)]
        by_cases c3 : 128 ≤ i + 8
        · rw [if_pos c3, if_pos (by omega), show 64 * (k + 2) - 1 - (64 * k + i) = 128 - 1 - i from by omega]
        · rw [if_neg c3, if_neg (by omega)]
  rw [hk, iterW_succ, iterW_succ]
  exact cmp_congr (cmp_congr h5 (words16_congr fun i hi => by rw [key _ (by omega), Nat.zero_add])) (words16_congr fun i hi => by rw [key _ (by omega), show 64 * k + (64 + i) = 64 * (k + 1) + i from by omega])
theorem startE_imp {f : Nat → Nat} : ImpE f (some (.ent (.own (.lst (kx .u32 startL)) true 93))) (.ent (.own (.lst (wx (eight startV))) true 93)) := by
  refine ⟨_, rfl, ?_⟩
  show SV.ImpL _ (SV.renL f (wx (eight startV)))
  rw [wx_ren]
  exact unw_imp (by kernel_rfl)
theorem globP_lt {g nm : Nat} (hg : globP g = some nm) : nm < 2 := by
  rcases boolC_some (show boolC (Nat.beq g 0) (some 0) _ = some nm from hg) with ⟨_, h⟩ | h
  · cases h; omega
  obtain ⟨_, h⟩ := boolC_opt h
  cases h; omega
theorem sum_runs' {X : Nat → BitVec 8} {N o n m : Nat} (hn : o + n ≤ N) (hm : n ≤ m) :
    Runs cfgH2 50 (sumArgs o n m) (sumEnts X N) fun v _ => v = .agg (bx (shaF (fun i => X (o + i)) n)) := by
  refine runs_by cfgH2OK (sumC X N o n m) (fun A => ∃ k, SumQ X o n m A k) (fun A => A.len) (fun g nm hg => Nat.lt_of_lt_of_le (globP_lt hg) (by show 2 ≤ 5; omega)) ?_ fun A ⟨k, hQ⟩ J => ?_
  · exact to_startE (some (2, 3)) 4000 ⟨o, .lit 0, n, m, startV⟩ ⟨0, Nat.zero_le _, rfl, rfl, rfl, rfl⟩ (sum_init X N o n m) (sum_names X N o n m _ _) (fun E0 h => by cases h; exact startE_imp) all_nil
  · obtain ⟨h1, h2, h3, h4, h5⟩ := id hQ
    by_cases c1 : 64 ≤ A.len
    · refine to_turn (some (2, 3)) 4000 ⟨A.p + A.s.den, .lit 64, A.len - 64, A.cap - 64, cmpW (eight A.ws) (words16 X (A.p + A.s.den + 0))⟩ ⟨⟨k + 1, by omega, by show A.p + A.s.den + 64 = _; omega, by simp only; omega, by simp only; omega, ?_⟩, by simp only; omega⟩ (sum_turn X N o n m A J) (sum_names X N o n m _ _) ?_
      · rw [iterW_succ]
        refine cmp_congr h5 (words16_congr fun i hi => ?_)
        unfold padF
        rw [if_pos (by omega), show A.p + A.s.den + i = o + (64 * k + i) from by omega]
      · exact all_cons (decide_eq_true (by omega)) (all_cons (by omega) (all_cons (by omega) (all_cons (byteF_isB X) (all_cons (by omega) (all_cons (by omega) (all_cons (by omega) all_nil))))))
    · by_cases c2 : A.len + 9 ≤ 64
      · refine to_end none 8000 (sum_end1 X N o n m A J) ?_ fun H _ => ?_
        · exact all_cons (decide_eq_false (by omega)) (all_cons ⟨by omega, by omega⟩ (all_cons (decide_eq_false (by omega)) (all_cons ⟨by omega, byteF_isB X⟩ (all_cons (by omega) (all_cons (by omega) (all_cons ⟨by omega, by omega⟩ (all_cons (by omega) (all_cons (by omega) all_nil))))))))
        · rw [end1_eq hQ c2]; rfl
      · refine to_end none 8000 (sum_end2 X N o n m A J) ?_ fun H _ => ?_
        · exact all_cons (decide_eq_false (by omega)) (all_cons ⟨by omega, by omega⟩ (all_cons (decide_eq_true (by omega)) (all_cons ⟨by omega, byteF_isB X⟩ (all_cons (by omega) (all_cons (by omega) (all_cons ⟨by omega, by omega⟩ (all_cons (by omega) (all_cons (by omega) (all_cons (by omega) all_nil)))))))))
        · rw [end2_eq hQ (by omega) (by omega)]; rfl
theorem runs_mono {c : Cfg} {f : FuncId} {args : List SV} {H : List SO} {D D' : SV → List SO → Prop} (h : Runs c f args H D) (hd : ∀ v H, D v H → D' v H) : Runs c f args H D' :=
  ⟨h.1, fun O w0 w β vs hH hG ha => (h.2 O w0 w β vs hH hG ha).mono fun _ _ ⟨v, H', x, β', h1, h2, h3⟩ => ⟨v, H', x, β', h1, hd _ _ h2, h3⟩⟩
theorem tailA_den {γ : Val} {a : SA} {l : SN} {c : SC} {x : Value} (h : (SV.slice a l c).den γ = some x) : ∃ m, l.den ≤ m ∧ (tailA a.nm a.off.den l.den m).den γ = some x := by
  obtain ⟨m, hm, hd, _, _⟩ := slice_den h
  refine ⟨m, hm, ?_⟩
  unfold tailA
  rw [den_slice] at hd
  rw [den_tail]
  obtain ⟨A, C, hA, hC, hle, rfl⟩ := hd
  refine ⟨A, C, hA, hC, hle, ?_⟩
  show Value.slice (some (if C = 0 then A else A.add 0)) _ _ = _
  rw [add_zero', ite_self]
theorem shaF_congr {X Y : Nat → BitVec 8} {n : Nat} (h : ∀ i, i < n → X i = Y i) : shaF X n = shaF Y n := by
  unfold shaF
  congr 1
  apply iterW_congr
  intro i _
  unfold padF
  by_cases hi : i < n
  · rw [if_pos hi, if_pos hi, h i hi]
  · rw [if_neg hi, if_neg hi]
/-- nothing -/
noncomputable def nilE : List (BitVec 8) := BitVec.ofNat 8 128 :: repN (BitVec.ofNat 8 0) 63
theorem sum_nil : outO [] (callSim cfgH2 8000 50 [.nilSlice] (shaHP [])) [] = ([0 + 64 ≤ 64], some (.agg (bx (hashB (cmpW (eight startV) (words16 (byteAt nilE) 0)))), [])) := by kernel_rfl
theorem shaF_nil (X : Nat → BitVec 8) : shaF X 0 = hashB (cmpW (eight startV) (words16 (byteAt nilE) 0)) := by
  unfold shaF
  rw [show (0 + 72) / 64 = 0 + 1 from rfl, iterW_succ]
  refine congrArg hashB (cmp_congr rfl (words16_congr fun i hi => ?_))
  unfold padF lenP nilE byteAt
  rw [show 64 * 0 + i = i from by omega, Nat.zero_add, if_neg (by omega)]
  cases i with
  | zero => rfl
  | succ i =>
    have hr : ((BitVec.ofNat 8 128 :: repN (BitVec.ofNat 8 0) 63)[i + 1]?).getD 0#8 = BitVec.ofNat 8 0 := by
      rw [List.getElem?_cons_succ, repN_eq, List.getElem?_replicate, if_pos (by omega)]; rfl
    rw [if_neg (by omega), hr]
    split
    · unfold lenByte
      simp
    · rfl
/-- what is hashed -/
noncomputable def hashS (F : (Nat → BitVec 8) → Nat → List (BitVec 8)) : Summ := fun args H _ => args1 args fun v => shaTP H (sliceR v (.ok ⟨.agg (bx (F (fun _ => 0#8) 0)), [], []⟩) fun a l => boolC (newOne a.nm) (bytesE (nth H a.nm) fun X N => .need (a.off.den + l.den ≤ N) (.ok ⟨.agg (bx (F (fun i => X (a.off.den + i)) l.den)), [], []⟩)) (.stuck 740))
theorem endsV {I : Ifc} {base : Nat} {l : List (BitVec 8)} {v : SV} {H : List SO} (ho : ownsOf I.ents 0 = []) (h : v = .agg (bx l)) : I.Ends base [] ⟨.agg (bx l), [], []⟩ v H := by
  subst h
  refine ends0 ho ?_ (bx_uses _ _)
  show SV.agg (bx l) = .agg (SV.renL _ (bx l))
  rw [bx_ren]
theorem nd5 {x : Nat} (h : newOne x = true) : [0, 1, 2, 3, x].Nodup := by
  have := newOne_not h
  simp only [List.nodup_cons, List.mem_cons, List.not_mem_nil, or_false, not_or, not_false_eq_true, List.nodup_nil, and_true]; omega
theorem sumOK : SumAt Tryd.prog globP 50 (hashS shaF) := by
  intro O w0 β H w base args vs hH hG ha
  refine args1_sat fun v hv => shaTP_sat fun hT => sliceR_sat (fun hn => ?_) fun a l c hs => boolC_only fun hn => bytesE_sat fun X N ht => fun hle => ?_
  · rw [hv, hn] at ha
    rw [shaF_nil]
    exact sum_outOG cfgH2OK 8000 hH (shaIP [] [] [.nilSlice]) (shaIP_glob hG) ha (Ifc.fits (by simp [shaIP]) rfl (shaIP_ents hT trivial)) [] (by simp) (by simp) sum_nil (all_cons (by omega) all_nil) fun _ _ => endsV rfl rfl
  · rw [hv, hs] at ha
    rw [nth_eq] at ht
    obtain ⟨x, ys, hx, hys, rfl⟩ := denL_cons.1 ha
    obtain ⟨m, hm, hd⟩ := tailA_den hx
    exact Go.Sim.sum_runs (c := cfgH2) hH (shaIP [a.nm] [rowF X N] (sumArgs a.off.den l.den m)) (shaIP_glob hG) (denL_cons.2 ⟨_, _, hd, hys, rfl⟩) (Ifc.fits (nd5 hn) rfl (shaIP_ents hT ⟨⟨ht _, rowF_uses _ _ _⟩, trivial⟩)) [] (by simp) (by simp)
      (runs_mono (sum_runs' hle hm) fun v H h => endsV rfl h)
end Go.Proofs.YtbmgahpjgefjaaaDoor.Aes


/-
  The start of a law: rows off the card.
-/
namespace Go.Proofs.YtbmgahpjgefjaaaDoor.Aes
open Go.Sim
open Go.Proofs

theorem HeapRel.rows {P : Program} {W : World} {β : Val} {H : List SO} (h : ∀ n e, H[n]? = some e → ∃ c, e = .row c ∧ RowRel (fun _ => False) W β n c) (hb : ∀ n, H.length ≤ n → β n = none) : HeapRel P (fun _ => False) W β H W := by
  refine ⟨⟨fun n e hn => ?_, fun n m e e' l l' hn hm ho ho' => ?_, fun n e l hn ho => ?_, ⟨rfl, rfl, rfl, Nat.le_refl _, fun _ _ _ => rfl⟩⟩, hb⟩
  · obtain ⟨c, rfl, hc⟩ := h n e hn; exact hc
  · obtain ⟨c, rfl, hc⟩ := h n e hn; cases ho
  · obtain ⟨c, rfl, hc⟩ := h n e hn; cases ho
theorem kx_den {γ : Val} (k : IntKind) : ∀ T : List Nat, SV.denL γ (kx k T) = some (T.map fun n => Value.int k (Int.ofNat n))
  | [] => rfl
  | _ :: T => denL_cons.2 ⟨_, _, rfl, kx_den k T, rfl⟩
theorem cell_lt {W : World} {a : Addr} {x : Value} (h : W.cell? a = some x) : a.block < W.heap.size := by
  by_cases hb : a.block < W.heap.size
  · exact hb
  · unfold World.cell? at h
    have hn : W.heap[a.block]? = none := Array.getElem?_eq_none (by omega)
    simp only [hn] at h
    cases h
theorem kx_row {W : World} {β : Val} {n : Nat} {l : Sim.Loc} {k : IntKind} {L : List Nat} (hl : β n = some l) (hc : ∀ i, i < L.length → W.cell? ⟨l.blk, l.off + i, none⟩ = some (.int k ((L.getD i 0 : Nat) : Int))) : RowRel (fun _ => False) W β n (.lst (kx k L)) := by
  refine ⟨l, _, hl, kx_den k L, fun i x hx => ?_⟩
  rw [List.getElem?_map] at hx
  cases hi : L[i]? with
  | none => rw [hi] at hx; cases hx
  | some t =>
    rw [hi] at hx; cases hx
    have hlt : i < L.length := (List.getElem?_eq_some_iff.1 hi).1
    have hcell := hc i hlt
    have e : L.getD i 0 = t := by rw [List.getD_eq_getElem?_getD, hi]; rfl
    rw [e] at hcell
    exact ⟨cell_lt hcell, fun f => f, hcell⟩
theorem arr_at {P : Program} {w : World} {name : String} {g : Nat} {t e : TypeId} {k : IntKind} {n : Nat} {L : List Nat} (hn : P.globalNamed name = some g) (hy : (P.globals[g]?).map (·.type) = some t) (ht : P.underlying t = some (.array n e)) (he : P.underlying e = some (.int k)) (hce : P.cellsOf e = 1) (hct : P.cellsOf t = n)
    (h : Lib.VarReads P w name (Lib.tabData k (L.map Int.ofNat))) : ∀ i, i < L.length → w.cell? ⟨g, i, none⟩ = some (.int k ((L.getD i 0 : Nat) : Int)) := by
  obtain ⟨g', t', cs, fuel, p, hg, hty, hvar, hd⟩ := h
  obtain rfl := Option.some.inj (hn.symm.trans hg)
  obtain rfl := Option.some.inj (hy.symm.trans hty)
  intro i hi
  have hT : Lib.TabIs P w name k (L.map Int.ofNat) := by
    unfold Lib.TabIs
    rw [hvar, ← Lib.cells_of_tab ht he hce hct hd]
  have := hT.cell hn i (by simpa using hi)
  rw [this]
  simp [List.getD_eq_getElem?_getD, List.getElem?_eq_getElem hi]
theorem slice_at {P : Program} {w : World} {name : String} {g : Nat} {t e : TypeId} {k : IntKind} {l : List Nat} (hn : P.globalNamed name = some g) (hy : (P.globals[g]?).map (·.type) = some t)
    (ht : P.underlying t = some (.slice e)) (he : P.underlying e = some (.int k)) (hc : P.cellsOf e = 1) (hl : 0 < l.length) (h : Lib.VarReads P w name (Lib.sliceData k l)) :
    ∃ R o : Nat, w.cell? ⟨g, 0, none⟩ = some (.slice (some ⟨R, o, none⟩) l.length l.length) ∧ ∀ j, j < l.length → w.cell? ⟨R, o + j, none⟩ = some (.int k (l.getD j 0)) := by
  obtain ⟨R, o, c, h1, h2⟩ := Lib.tabSlice_of_reads hn hy ht he hc hl h
  refine ⟨R, o, ?_, h2⟩
  obtain ⟨g', t', cs, fuel, p, hg, hty, hvar, hd⟩ := h
  obtain rfl := Option.some.inj (hn.symm.trans hg)
  obtain rfl := Option.some.inj (hy.symm.trans hty)
  rcases DataW.trod_slice ht hd with ⟨_, hx⟩ | ⟨a, len, cap, el, rs, m, rfl, hcs, hx, _, hlc, _, hel, helem, hsp, _⟩
  · cases hx
  have e0 := congrArg Prod.fst hx
  simp only [Lib.sliceData, DataW.slice.injEq] at e0
  obtain ⟨eE, eR⟩ := e0
  have hlen : len = l.length := by
    have := congrArg List.length eE
    simp at this
    omega
  have hr := (hsp rfl).1
  have hr0 : rs.length = 0 := by
    have := congrArg List.length eR
    simp at this
    simp [this]
  have hcap : cap = l.length := by omega
  have h3 : w.cell? ⟨g, 0, none⟩ = some (.slice (some a) l.length l.length) := by
    rw [World.var?_cell hg hvar 0, ← Array.getElem?_toList, hcs, hlen, hcap]
    rfl
  rw [h1] at h3
  cases h3
  exact h1
end Go.Proofs.YtbmgahpjgefjaaaDoor.Aes


/-
  The start of a law that reads the two tables of the hash function.
-/
namespace Go.Proofs.YtbmgahpjgefjaaaDoor.Aes
open Go.Sim
open Go.Proofs

theorem pro_start {W : World} (hL : laidMetH Tryd.prog [("watchword/sha.start", Rows.laid_watchword_sha_start), ("watchword/sha.constants", Rows.laid_watchword_sha_constants)] W) :
    ∃ β, HeapRel Tryd.prog (fun _ => False) W β (shaHP []) W ∧ GlobRel globP β := by
  rw [MakeChecks.laidMetH_plain _ _ _ (by kernel_rfl)] at hL
  have e2 : (Rows.laid_watchword_sha_start : DataW Unit) = Lib.tabData .u32 (startL.map Int.ofNat) := by kernel_rfl
  have e3 : (Rows.laid_watchword_sha_constants : DataW Unit) = Lib.tabData .u32 (constL.map Int.ofNat) := by kernel_rfl
  rw [e2, e3] at hL
  have r2 := Lib.laidMet.reads hL (n := "watchword/sha.start") (d := Lib.tabData .u32 (startL.map Int.ofNat)) (by simp)
  have r3 := Lib.laidMet.reads hL (n := "watchword/sha.constants") (d := Lib.tabData .u32 (constL.map Int.ofNat)) (by simp)
  have t2 := arr_at (g := 0) (t := 93) (e := 91) (n := 8) (by kernel_rfl) (by kernel_rfl) (by kernel_rfl) (by kernel_rfl) (by kernel_rfl) (by kernel_rfl) r2
  have t3 := arr_at (g := 1) (t := 133) (e := 91) (n := 64) (by kernel_rfl) (by kernel_rfl) (by kernel_rfl) (by kernel_rfl) (by kernel_rfl) (by kernel_rfl) r3
  let β : Val := fun n => match n with
    | 0 => some (Sim.Loc.mk 0 0 0)
    | 1 => some (Sim.Loc.mk 1 0 0)
    | 2 => some (Sim.Loc.mk 0 0 0)
    | 3 => some (Sim.Loc.mk 0 0 0)
    | _ => none
  refine ⟨β, HeapRel.rows (fun n e hn => ?_) fun n hn => ?_, fun g nm hg => ?_⟩
  · match n, hn with
    | 0, hn => cases hn; exact ⟨_, rfl, kx_row (l := Sim.Loc.mk 0 0 0) rfl fun i hi => by rw [show (Sim.Loc.mk 0 0 0).off + i = i from Nat.zero_add i]; exact t2 i hi⟩
    | 1, hn => cases hn; exact ⟨_, rfl, kx_row (l := Sim.Loc.mk 1 0 0) rfl fun i hi => by rw [show (Sim.Loc.mk 1 0 0).off + i = i from Nat.zero_add i]; exact t3 i hi⟩
    | 2, hn => cases hn; exact ⟨_, rfl, Sim.Loc.mk 0 0 0, [], rfl, rfl, fun i x hx => by simp at hx⟩
    | 3, hn => cases hn; exact ⟨_, rfl, Sim.Loc.mk 0 0 0, [], rfl, rfl, fun i x hx => by simp at hx⟩
    | n + 4, hn => simp [shaHP] at hn
  · match n, hn with
    | n + 4, _ => rfl
    | 0, hn => simp [shaHP] at hn
    | 1, hn => simp [shaHP] at hn
    | 2, hn => simp [shaHP] at hn
    | 3, hn => simp [shaHP] at hn
  · rcases boolC_some (show boolC (Nat.beq g 0) (some 0) _ = some nm from hg) with ⟨h1, h2⟩ | h
    · cases h2; exact ⟨_, rfl, (beq_spec h1).symm, rfl⟩
    · obtain ⟨h1, h2⟩ := boolC_opt h
      cases h2; exact ⟨_, rfl, (beq_spec h1).symm, rfl⟩
end Go.Proofs.YtbmgahpjgefjaaaDoor.Aes


/-
  The symbolic simulator, thirty-fourth part: a summary that is a run of the function itself, where all is known.
-/
namespace Go.Sim
variable {α : Type}

noncomputable def usesEs (p : Nat → Bool) (es : List (SV × SV × Nat)) : Bool := List.rec (motive := fun _ => Bool) true (fun e _ ih => boolC (e.1.uses p) (boolC (e.2.1.uses p) ih false) false) es
noncomputable def SObj.uses (p : Nat → Bool) (o : SObj) : Bool := SObj.rec (motive := fun _ => Bool) (fun es _ => usesEs p es) (fun m _ _ _ => optC m true p) (fun _ _ => true) o
theorem entsDen_uses {p : Nat → Bool} {β β' : Val} (hp : ∀ n, p n = true → β n = β' n) : (es : List (SV × SV × Nat)) → usesEs p es = true → entsDen β es = entsDen β' es
  | [], _ => rfl
  | e :: r, h => by
    obtain ⟨h1, h2⟩ := boolC_and (show boolC (e.1.uses p) (boolC (e.2.1.uses p) (usesEs p r) false) false = true from h)
    obtain ⟨h2, h3⟩ := boolC_and h2
    simp only [entsDen, SV.den_uses hp _ h1, SV.den_uses hp _ h2, entsDen_uses hp r h3]
theorem SObj.den_uses {p : Nat → Bool} {β β' : Val} (hp : ∀ n, p n = true → β n = β' n) {o : SObj} (h : o.uses p = true) : o.den β = o.den β' := by
  cases o with
  | map es c =>
    show (entsDen β es).map _ = (entsDen β' es).map _
    rw [entsDen_uses hp es h]
  | iter m since seen last =>
    cases m with
    | none => rfl
    | some m =>
      have h : p m = true := h
      show (β m).map _ = (β' m).map _
      rw [hp m h]
  | str s pos => rfl
/-- an entry whose names are these -/
noncomputable def SO.keeps (p : Nat → Bool) (e : SO) : Bool := SO.rec (motive := fun _ => Bool) (fun c _ _ => Cells.rec (motive := fun _ => Bool) (fun l => SV.usesL p l) (fun _ _ => false) c) (fun c => Cells.rec (motive := fun _ => Bool) (fun l => SV.usesL p l) (fun _ _ => false) c) (fun _ _ _ _ _ _ _ _ => false) (fun _ => false) false (fun o => o.uses p) e
theorem SO.keeps_rel {P : Program} {O : Nat → Prop} {w0 w : World} {β β' : Val} {p : Nat → Bool} (hp : ∀ n, p n = true → β n = β' n) {n : Nat} (hn : p n = true) {e : SO} (h : e.keeps p = true) : EntryRel P O w0 β w n e → EntryRel P O w0 β' w n e := by
  cases e with
  | own c wh el =>
    cases c with
    | lst l =>
      rintro ⟨lo, vs, rest, a, b, h1, h2, h3, h4⟩
      exact ⟨lo, vs, rest, a, b, (hp n hn) ▸ h1, h2, (show SV.denL β' l = some vs from by rw [← SV.denL_uses hp l h]; exact h3), h4⟩
    | fn => cases h
  | row c =>
    cases c with
    | lst l =>
      rintro ⟨lo, vs, h1, h3, h4⟩
      exact ⟨lo, vs, (hp n hn) ▸ h1, (show SV.denL β' l = some vs from by rw [← SV.denL_uses hp l h]; exact h3), h4⟩
    | fn => cases h
  | loop => cases h
  | deferred => cases h
  | gone => cases h
  | obj o =>
    rintro ⟨lo, x, h1, h2, h3, h4⟩
    exact ⟨lo, x, (hp n hn) ▸ h1, h2, by rw [← SObj.den_uses hp h]; exact h3, h4⟩
theorem EntryRel.placed {P : Program} {O : Nat → Prop} {w0 w : World} {β : Val} {n : Nat} {e : SO} {p : Nat → Bool} (hk : e.keeps p = true) (h : EntryRel P O w0 β w n e) : ∃ l, β n = some l := by
  cases e with
  | own => obtain ⟨l, _, _, _, _, h, _⟩ := h; exact ⟨l, h⟩
  | row => obtain ⟨l, _, h, _⟩ := h; exact ⟨l, h⟩
  | loop => cases hk
  | deferred => cases hk
  | gone => cases hk
  | obj => obtain ⟨l, _, h, _⟩ := h; exact ⟨l, h⟩

/-- the heap as the function is to see it -/
noncomputable def maskH (M : List Nat) (H : List SO) : Nat → List SO := List.rec (motive := fun _ => Nat → List SO) (fun _ => []) (fun e _ ih i => boolC (memN i M) e .gone :: ih (Nat.succ i)) H
theorem maskH_get (M : List Nat) : ∀ (H : List SO) (i n : Nat), (maskH M H i)[n]? = (H[n]?).map fun e => boolC (memN (i + n) M) e .gone
  | [], i, n => by simp [maskH]
  | e :: H, i, n => by
    show (boolC (memN i M) e .gone :: maskH M H (i + 1))[n]? = _
    cases n with
    | zero => simp
    | succ n =>
      rw [List.getElem?_cons_succ, maskH_get M H (i + 1) n, List.getElem?_cons_succ, show i + 1 + n = i + (n + 1) from by omega]
noncomputable def ownM (H : List SO) (M : List Nat) : List Nat := filterN (fun m => optC (nth H m) false SO.owned) M
noncomputable def runOK (gl M : List Nat) (args : List SV) (H : List SO) : Bool :=
  boolC (allN (fun g => memN g M) gl) (boolC (allN (fun m => optC (nth H m) false fun e => e.keeps fun n => memN n M) M) (SV.usesL (fun n => memN n M) args) false) false
/-- how it ends, where numbers drawn are 0 -/
noncomputable def zeroT (t : Tree) : Option (SV × List SO) :=
  Tree.rec (motive := fun _ => Option (SV × List SO)) (fun v H => some (v, H)) (fun _ => none) (fun _ _ ih => ih) (fun b _ _ iht ihf => boolC b iht ihf) (fun _ => none) (fun _ ih => ih fun _ => 0) t
def endP (M : List Nat) (v : SV) (es : List (Option SO)) (v' : SV) (H' : List SO) : Prop := v' = v ∧ mapN (fun m => nth H' m) M = es
noncomputable def atE (o : Option SO) : SO := optC o .gone fun e => e
noncomputable def setsR (M : List Nat) : List (Option SO) → List (Nat × SO) := List.rec (motive := fun _ => List (Option SO) → List (Nat × SO)) (fun _ => []) (fun m _ ih es => List.rec (motive := fun _ => List (Nat × SO)) [] (fun e r _ => (m, atE e) :: ih r) es) M
noncomputable def runR (t : Tree) (M Mo : List Nat) : R SumRes :=
  optC (zeroT t) (.stuck 7779) fun r => boolC (boolC (r.1.uses fun n => memN n M) (allN (fun m => optC (nth r.2 m) false fun e => boolC e.owned (e.keeps fun n => memN n M) false) Mo) false)
    (.need (t.Ob (endP Mo r.1 (mapN (fun m => nth r.2 m) Mo)) fun _ => False) (.ok ⟨r.1, mapN (fun m => (m, atE (nth r.2 m))) Mo, []⟩)) (.stuck 7780)
noncomputable def runS (c : Cfg) (n : Nat) (f : FuncId) (gl M : List Nat) (args : List SV) (H : List SO) : R SumRes :=
  boolC (runOK gl M args H) (runR (callSim c n f args (maskH M H 0)) M (ownM H M)) (.stuck 7778)
/-- A RUN AS A SUMMARY: 'nm' tells the names that it is to see -/
noncomputable def runSum (c : Cfg) (n : Nat) (f : FuncId) (gl : List Nat) (nm : List SV → List SO → List Nat) : Summ := fun args H _ =>
  List.rec (motive := fun _ => R SumRes) (.stuck 7777) (fun _ _ _ => runS c n f gl (nm args H) args H) args

theorem mem_filterN {β : Type} {f : β → Bool} {l : List β} {a : β} : a ∈ filterN f l ↔ a ∈ l ∧ f a = true := by
  induction l with
  | nil => simp [filterN]
  | cons b l ih =>
    show a ∈ boolC (f b) (b :: filterN f l) (filterN f l) ↔ _
    cases hb : f b with
    | true =>
      rw [boolC_true, List.mem_cons, ih, List.mem_cons]
      constructor
      · rintro (rfl | ⟨h1, h2⟩)
        · exact ⟨.inl rfl, hb⟩
        · exact ⟨.inr h1, h2⟩
      · rintro ⟨rfl | h, h2⟩
        · exact .inl rfl
        · exact .inr ⟨h, h2⟩
    | false =>
      rw [boolC_false, ih, List.mem_cons]
      constructor
      · rintro ⟨h1, h2⟩; exact ⟨.inr h1, h2⟩
      · rintro ⟨rfl | h, h2⟩
        · rw [hb] at h2; cases h2
        · exact ⟨h, h2⟩

theorem runS_sat {c : Cfg} (hc : CfgOK c) {n : Nat} {f : FuncId} {gl M : List Nat} (hgl : ∀ g j, c.glob g = some j → j ∈ gl) {O : Nat → Prop} {w0 w : World} {β : Val} {H : List SO} {base : Nat} {args : List SV} {vs : List Value}
    (hH : HeapRel0 c.P O w0 β H w) (hG : GlobRel c.glob β) (ha : SV.denL β args = some vs) : (runS c n f gl M args H).Sat (SumSem c.P H β w base f vs) := by
  unfold runS
  cases hok : runOK gl M args H with
  | false => trivial
  | true =>
    rw [boolC_true]
    obtain ⟨hk1, hk2⟩ := boolC_and (show boolC (allN (fun g => memN g M) gl) (boolC (allN (fun m => optC (nth H m) false fun e => e.keeps fun n => memN n M) M) (SV.usesL (fun n => memN n M) args) false) false = true from hok)
    obtain ⟨hk2, hk3⟩ := boolC_and hk2
    unfold runR
    cases hz : zeroT (callSim c n f args (maskH M H 0)) with
    | none => trivial
    | some r =>
      obtain ⟨v, H0⟩ := r
      rw [optC_some]
      cases hend : boolC (v.uses fun n => memN n M) (allN (fun m => optC (nth H0 m) false fun e => boolC e.owned (e.keeps fun n => memN n M) false) (ownM H M)) false with
      | false => trivial
      | true =>
        rw [boolC_true]
        obtain ⟨hv, hes⟩ := boolC_and hend
        intro hob
        show SumSem c.P H β w base f vs ⟨v, mapN (fun m => (m, atE (nth H0 m))) (ownM H M), []⟩
        let p : Nat → Bool := fun n => memN n M
        let β1 : Val := fun n => if memN n M = true then β n else none
        have hp : ∀ n, p n = true → β n = β1 n := fun n hn => (if_pos hn).symm
        have hM : ∀ m ∈ M, ∃ e, H[m]? = some e ∧ e.keeps p = true := by
          intro m hm
          have := allN_mem hk2 m hm
          rw [nth_eq] at this
          cases hx : H[m]? with
          | none => rw [hx] at this; cases this
          | some e => rw [hx] at this; exact ⟨e, rfl, this⟩
        -- what it sees
        have h1 : HeapRel c.P O w0 β1 (maskH M H 0) w := by
          have hget : ∀ (n : Nat) (e : SO), (maskH M H 0)[n]? = some e → (p n = true ∧ H[n]? = some e) ∨ e = .gone := by
            intro n e hn
            rw [maskH_get, Nat.zero_add] at hn
            cases hx : H[n]? with
            | none => rw [hx] at hn; cases hn
            | some e0 =>
              rw [hx] at hn
              have hn : boolC (memN n M) e0 .gone = e := Option.some.inj hn
              cases hm : memN n M with
              | true => rw [hm] at hn; exact .inl ⟨hm, hn ▸ rfl⟩
              | false => rw [hm] at hn; exact .inr hn.symm
          have hsome : ∀ (n : Nat) (l : Loc), β1 n = some l → β n = some l := by
            intro n l hl
            have hl : (if memN n M = true then β n else none) = some l := hl
            split at hl
            · exact hl
            · cases hl
          refine ⟨⟨fun n e hn => ?_, fun n m e e' l l' hn hm ho ho' hnm hl hl' => ?_, fun n e l hn ho hl => ?_, hH.keep⟩, fun n hn => ?_⟩
          · rcases hget n e hn with ⟨h1, h2⟩ | rfl
            · obtain ⟨e', h3, h4⟩ := hM n (memN_iff.1 h1)
              rw [h2] at h3; cases h3
              exact SO.keeps_rel hp h1 h4 (hH.entries n e h2)
            · trivial
          · rcases hget n e hn with ⟨_, h2⟩ | rfl
            · rcases hget m e' hm with ⟨_, h3⟩ | rfl
              · exact hH.sep n m e e' l l' h2 h3 ho ho' hnm (hsome _ _ hl) (hsome _ _ hl')
              · cases ho'
            · cases ho
          · rcases hget n e hn with ⟨_, h2⟩ | rfl
            · exact hH.fresh n e l h2 ho (hsome _ _ hl)
            · cases ho
          · show (if memN n M = true then β n else none) = none
            rw [if_neg]
            intro hm
            obtain ⟨e, he, _⟩ := hM n (memN_iff.1 hm)
            have hlen : (maskH M H 0).length = H.length := by
              have : ∀ (H : List SO) (i : Nat), (maskH M H i).length = H.length := by
                intro H
                induction H with
                | nil => intro i; rfl
                | cons e H ih => intro i; show (maskH M H (i + 1)).length + 1 = _; rw [ih]; rfl
              exact this H 0
            rw [hlen] at hn
            have := (List.getElem?_eq_some_iff.1 he).1
            omega
        have h2 := h1.rebase
        have hG1 : GlobRel c.glob β1 := by
          intro g j hg
          obtain ⟨l, hl, h⟩ := hG g j hg
          have := allN_mem hk1 j (hgl g j hg)
          exact ⟨l, by rw [← hp j this]; exact hl, h⟩
        have ha1 : SV.denL β1 args = some vs := by rw [← SV.denL_uses hp args hk3]; exact ha
        have hcalls := calls_of hc h2 hG1 ha1 hob
        -- its names stand for what they stood for
        have hback : ∀ β2 : Val, β1.le β2 → ∀ n, p n = true → β2 n = β n := by
          intro β2 hle n hn
          obtain ⟨e, he, hk⟩ := hM n (memN_iff.1 hn)
          obtain ⟨l, hl⟩ := EntryRel.placed hk (hH.entries n e he)
          rw [hl]
          exact hle n l (by rw [← hp n hn]; exact hl)
        have hown : ∀ m, m ∈ ownM H M → m ∈ M ∧ ∃ e, H[m]? = some e ∧ e.owned = true := by
          intro m hm
          obtain ⟨h3, h4⟩ := mem_filterN.1 hm
          rw [nth_eq] at h4
          cases hx : H[m]? with
          | none => rw [hx] at h4; cases h4
          | some e => rw [hx] at h4; exact ⟨h3, e, rfl, h4⟩
        have hsets : ∀ n e, (n, e) ∈ mapN (fun m => (m, atE (nth H0 m))) (ownM H M) → n ∈ ownM H M ∧ e = atE (nth H0 n) := by
          intro n e h
          rw [mapN_eq, List.mem_map] at h
          obtain ⟨m, hm, he⟩ := h
          cases he
          exact ⟨hm, rfl⟩
        refine fun _ => ⟨fun n e hn => (hown n (hsets n e hn).1).2, .inl ⟨?_, fun cs => ?_⟩⟩
        · unfold callSim at hz
          cases hg : enterF c.P f args with
          | none => rw [hg] at hz; cases hz
          | some g => exact (enter_rel hg ha1).2
        · obtain ⟨e, w', fr, ⟨v', H', x, β2, rfl, ⟨rfl, hes'⟩, hle, hden, hHe⟩, h5⟩ := hcalls cs
          refine ⟨_, w', fr, ⟨x, β, rfl, ?_, ?_⟩, h5⟩
          · show v'.den β = some x
            rw [← SV.den_uses (hback β2 hle) _ hv]; exact hden
          · refine ⟨Val.le_refl β, hHe.keep.os, hHe.keep.tape, hHe.keep.output, hHe.keep.size, fun _ _ => rfl, fun b hb hno => ?_, fun n e e' h3 h4 => ?_, fun n e hn => ?_, by simp, by simp⟩
            · refine hHe.keep.block b hb ?_
              rintro ⟨n, e, l, hn, ho, hl, rfl⟩
              rw [maskH_get, Nat.zero_add] at hn
              cases hx : H[n]? with
              | none => rw [hx] at hn; cases hn
              | some e0 =>
                rw [hx] at hn
                have hn : boolC (memN n M) e0 .gone = e := Option.some.inj hn
                cases hm : memN n M with
                | false => rw [hm] at hn; subst hn; cases ho
                | true =>
                  rw [hm] at hn
                  have hn : e0 = e := hn
                  subst hn
                  have hmo : n ∈ ownM H M := mem_filterN.2 ⟨memN_iff.1 hm, by rw [nth_eq, hx]; exact ho⟩
                  refine hno n (atE (nth H0 n)) l ?_ (by rw [hp n hm]; exact hl) rfl
                  rw [mapN_eq, List.mem_map]
                  exact ⟨n, hmo, rfl⟩
            · rw [(hsets n e h3).2, (hsets n e' h4).2]
            · obtain ⟨hmo, rfl⟩ := hsets n e hn
              have h6 := allN_mem hes n hmo
              have h7 : nth H' n = nth H0 n := by
                rw [mapN_eq, mapN_eq] at hes'
                exact List.map_inj_left.1 hes' n hmo
              cases hx : nth H0 n with
              | none => rw [hx] at h6; cases h6
              | some e =>
                rw [hx] at h6 h7
                obtain ⟨h8, h9⟩ := boolC_and (show boolC e.owned (e.keeps fun n => memN n M) false = true from h6)
                rw [nth_eq] at h7
                show OwnRel c.P β w' n e
                have hpn : p n = true := memN_iff.2 (hown n hmo).1
                exact (SO.keeps_rel (P := c.P) (hback β2 hle) hpn h9 (hHe.entries n e h7)).toOwn h8
theorem runSum_ok {c : Cfg} (hc : CfgOK c) (n : Nat) (f : FuncId) (gl : List Nat) (nm : List SV → List SO → List Nat) (hgl : ∀ g j, c.glob g = some j → j ∈ gl) : SumAt c.P c.glob f (runSum c n f gl nm) := by
  intro O w0 β H w base args vs hH hG ha
  unfold runSum
  cases args with
  | nil => trivial
  | cons a r => exact runS_sat hc hgl hH hG ha

/- All ends of a run, told by a closed term. -/
noncomputable def allL (js : List Nat) (t : Tree) : (Nat → Nat → Nat) → List Prop × List (Option (SV × List (Option SO))) :=
  Tree.rec (motive := fun _ => (Nat → Nat → Nat) → List Prop × List (Option (SV × List (Option SO)))) (fun v H _ => ([], [some (v, mapN (fun j => nth H j) js)])) (fun _ _ => ([], [none])) (fun p _ ih z => (p :: (ih z).1, (ih z).2))
    (fun _ _ _ iht ihf z => (app (iht z).1 (ihf z).1, app (iht z).2 (ihf z).2)) (fun _ _ => ([], [none])) (fun _ ih z => ih (z 0) fun i => z (i + 1)) t
theorem allL_ob {js : List Nat} {t : Tree} {v : SV} {es : List (Option SO)} (hp : ∀ z, ∀ p ∈ (allL js t z).1, p) (hl : ∀ z, ∀ r ∈ (allL js t z).2, r = some (v, es)) : t.Ob (endP js v es) fun _ => False := by
  have z0 : Nat → Nat → Nat := fun _ _ => 0
  induction t with
  | done v' H =>
    have := Option.some.inj (hl z0 (some (v', mapN (fun j => nth H j) js)) List.mem_cons_self)
    cases this
    exact ⟨rfl, rfl⟩
  | stop s => cases hl z0 none List.mem_cons_self
  | need p t ih => exact ⟨hp z0 p List.mem_cons_self, ih (fun z q hq => hp z q (List.mem_cons_of_mem _ hq)) hl⟩
  | fork b t f iht ihf =>
    have h1 : ∀ z, (allL js (.fork b t f) z).1 = (allL js t z).1 ++ (allL js f z).1 := fun z => app_eq _ _
    have h2 : ∀ z, (allL js (.fork b t f) z).2 = (allL js t z).2 ++ (allL js f z).2 := fun z => app_eq _ _
    exact ⟨fun _ => iht (fun z q hq => hp z q (by rw [h1]; exact List.mem_append_left _ hq)) (fun z q hq => hl z q (by rw [h2]; exact List.mem_append_left _ hq)),
      fun _ => ihf (fun z q hq => hp z q (by rw [h1]; exact List.mem_append_right _ hq)) (fun z q hq => hl z q (by rw [h2]; exact List.mem_append_right _ hq))⟩
  | stuck n => cases hl z0 none List.mem_cons_self
  | any k ih =>
    intro z
    refine ih z (fun z' q hq => hp (fun i => match i with | 0 => z | i + 1 => z' i) q hq) fun z' q hq => hl (fun i => match i with | 0 => z | i + 1 => z' i) q hq
end Go.Sim

