/-
  Texts behind one another: the symbolic simulator and what it is told of the program.
-/
import Derived.Test.YtbmgahpjgefjaaaGreatDoorZSha2
import Derived.Test.YtbmgahpjgefjaaaGreatDoorRows
import Derived.Lib.LaidPrint
import Derived.Lib.LaidTab
import Derived.MakeChecks
import Derived.Test.YtbmgahpjgefjaaaGreatDoorPk5

/-
  The hash function: what it comes to, for bytes of any number.
-/
namespace Go.Proofs.YtbmgahpjgefjaaaGreatDoor.Aes
open Go.Sim
open Go.Proofs
variable {α : Type}

/- The padded string; the hash. -/
noncomputable def lenByte (n j : Nat) : BitVec 8 := ((BitVec.ofInt 64 (n : Int) * BitVec.ofInt 64 8) >>> (8 * j)).setWidth 8
def lenP (n : Nat) : Nat := 64 * ((n + 72) / 64)
/-- the bytes Y, of which 'b' are in all (those ahead of Y are whole blocks): the padded string -/
noncomputable def padF (X : Nat → BitVec 8) (n t : Nat) : Nat → BitVec 8 := fun i => if i < n then X i else if i = n then BitVec.ofNat 8 128 else if lenP n ≤ i + 8 ∧ i < lenP n then lenByte t (lenP n - 1 - i) else BitVec.ofNat 8 0
noncomputable def iterW (W : List W32) (Y : Nat → BitVec 8) : Nat → List W32
  | 0 => W
  | k + 1 => cmpW (eight (iterW W Y k)) (words16 Y (64 * k))
noncomputable def shaF (X : Nat → BitVec 8) (n : Nat) : List (BitVec 8) := hashB (iterW startV (padF X n n) ((n + 72) / 64))

theorem words16_congr {X Y : Nat → BitVec 8} {a b : Nat} (h : ∀ i, i < 64 → X (a + i) = Y (b + i)) : words16 X a = words16 Y b := by
  unfold words16
  rw [mapN_eq, mapN_eq]
  apply List.map_congr_left
  intro t ht
  rw [fromN_eq, List.mem_range'] at ht
  obtain ⟨j, hj, rfl⟩ := ht
  unfold word4
  have e : ∀ r, r < 4 → X (a + 4 * (0 + 1 * j) + r) = Y (b + 4 * (0 + 1 * j) + r) := fun r hr => by
    rw [Nat.add_assoc, Nat.add_assoc]; exact h _ (by omega)
  rw [show a + 4 * (0 + 1 * j) = a + 4 * (0 + 1 * j) + 0 from rfl, show b + 4 * (0 + 1 * j) = b + 4 * (0 + 1 * j) + 0 from rfl, e 0 (by omega)]
  simp only [Nat.add_zero]
  rw [e 1 (by omega), e 2 (by omega), e 3 (by omega)]
theorem iterW_congr {W : List W32} {X Y : Nat → BitVec 8} : ∀ (k : Nat), (∀ i, i < 64 * k → X i = Y i) → iterW W X k = iterW W Y k
  | 0, _ => rfl
  | k + 1, h => by
    unfold iterW
    rw [iterW_congr k fun i hi => h i (by omega), words16_congr (Y := Y) (b := 64 * k) fun i hi => h _ (by omega)]
theorem overN_get {l v : List α} {i : Nat} (h : i + v.length ≤ l.length) (j : Nat) : (overN l i v)[j]? = if i ≤ j ∧ j < i + v.length then v[j - i]? else l[j]? := by
  rw [overN_eq _ _ _ h, List.append_assoc, List.getElem?_append, List.getElem?_append, List.length_take, Nat.min_eq_left (by omega), List.getElem?_take, List.getElem?_drop]
  by_cases h1 : j < i
  · rw [if_pos h1, if_pos h1, if_neg (by omega)]
  · rw [if_neg h1]
    by_cases h2 : j < i + v.length
    · rw [if_pos (by omega), if_pos (by omega)]
    · rw [if_neg (by omega), if_neg (by omega), show i + v.length + (j - i - v.length) = j from by omega]
theorem putB_length (o n : Nat) (Y : Nat → BitVec 8) : ∀ (xs : List (BitVec 8)) (k : Nat), (putB o n Y xs k).length = xs.length
  | [], _ => rfl
  | _ :: xs, k => congrArg (· + 1) (putB_length o n Y xs (k + 1))
theorem endL_get {size len n : Nat} {Y : Nat → BitVec 8} (hs : len + 9 ≤ size) {j : Nat} (hj : j < size) :
    byteAt (endL size Y len n) j = if j < len then Y j else if j = len then BitVec.ofNat 8 128 else if size ≤ j + 8 then lenByte n (size - 1 - j) else BitVec.ofNat 8 0 := by
  unfold byteAt endL
  have hl : (mapN (fun j => ((BitVec.ofInt 64 (n : Int) * BitVec.ofInt 64 8) >>> (8 * (7 - j))).setWidth 8) (fromN 8 0) : List (BitVec 8)).length = 8 := rfl
  have hb : (putB (0 + (len : Int).toNat * 1) 1 (fun _ => BitVec.ofNat 8 128) (putB 0 len Y (repN (BitVec.ofNat 8 0) size) 0) 0).length = size := by
    rw [putB_length, putB_length, repN_eq, List.length_replicate]
  rw [overN_get (by rw [hl, hb]; show size - 8 + 8 ≤ size; omega), hl]
  rw [putB_get, putB_get, repN_eq, List.getElem?_replicate, if_pos hj]
  simp only [Option.map_some, Nat.zero_add, Int.toNat_natCast, Nat.mul_one, Nat.zero_le, true_and, Nat.sub_zero]
  show ((if Nat.sub size 8 ≤ j ∧ j < Nat.sub size 8 + 8 then _ else _ : Option (BitVec 8))).getD 0#8 = _
  by_cases h1 : j < len
  · rw [if_neg (by show ¬ (size - 8 ≤ j ∧ j < size - 8 + 8); omega), if_pos h1]
    simp only [Option.getD_some]
    rw [if_neg (by omega), if_pos h1]
  · simp only [if_neg h1]
    by_cases h2 : j = len
    · rw [if_neg (by show ¬ (size - 8 ≤ j ∧ j < size - 8 + 8); omega), if_pos h2]
      simp only [Option.getD_some]
      rw [if_pos (by omega)]
    · rw [if_neg h2]
      by_cases h3 : size ≤ j + 8
      · rw [if_pos (by show size - 8 ≤ j ∧ j < size - 8 + 8; omega), if_pos h3, mapN_eq, fromN_eq, List.getElem?_map, List.getElem?_range' (by show j - (size - 8) < 8; omega)]
        simp only [Option.map_some, Option.getD_some]
        unfold lenByte
        rw [show 7 - (0 + 1 * (j - Nat.sub size 8)) = size - 1 - j from by show 7 - (0 + 1 * (j - (size - 8))) = _; omega]
      · rw [if_neg (by show ¬ (size - 8 ≤ j ∧ j < size - 8 + 8); omega), if_neg h3]
        simp only [Option.getD_some]
        rw [if_neg (by omega)]

/- Sum. -/
structure SumQ (X : Nat → BitVec 8) (o n m : Nat) (A : SumA) (k : Nat) : Prop where
  le : 64 * k ≤ n
  at_ : A.p + A.s.den = o + 64 * k
  len : A.len = n - 64 * k
  cap : A.cap = m - 64 * k
  ws : A.ws = iterW startV (padF (fun i => X (o + i)) n n) k
theorem iterW_succ (W : List W32) (Y : Nat → BitVec 8) (k : Nat) : iterW W Y (k + 1) = cmpW (eight (iterW W Y k)) (words16 Y (64 * k)) := rfl
theorem cmp_congr {a b c d : List W32} (h : a = b) (h' : c = d) : cmpW (eight a) c = cmpW (eight b) d := by rw [h, h']
theorem end1_eq {X : Nat → BitVec 8} {o n m : Nat} {A : SumA} {k : Nat} (h : SumQ X o n m A k) (hl : A.len + 9 ≤ 64) : end1 X n A = iterW startV (padF (fun i => X (o + i)) n n) ((n + 72) / 64) := by
  obtain ⟨h1, h2, h3, h4, h5⟩ := h
  have hk : (n + 72) / 64 = k + 1 := by omega
  have key : ∀ i, i < 64 → byteAt (endL 64 (leftF X A) A.len n) (0 + i) = padF (fun i => X (o + i)) n n (64 * k + i) := by
    intro i hi
    rw [Nat.zero_add, endL_get hl hi]
    unfold padF lenP leftF
    rw [hk, h2]
    by_cases c1 : i < A.len
    · rw [if_pos c1, if_pos (by omega), Nat.add_assoc]
    · rw [if_neg c1, if_neg (show ¬ 64 * k + i < n by omega)]
      by_cases c2 : i = A.len
      · rw [if_pos c2, if_pos (by omega)]
      · rw [if_neg c2, if_neg (show ¬ 64 * k + i = n by omega)]
        by_cases c3 : 64 ≤ i + 8
        · rw [if_pos c3, if_pos (by omega), show 64 * (k + 1) - 1 - (64 * k + i) = 64 - 1 - i from by omega]
        · rw [if_neg c3, if_neg (by omega)]
  rw [hk, iterW_succ]
  exact cmp_congr h5 (words16_congr key)
theorem end2_eq {X : Nat → BitVec 8} {o n m : Nat} {A : SumA} {k : Nat} (h : SumQ X o n m A k) (hl : A.len < 64) (hl2 : 64 < A.len + 9) : end2 X n A = iterW startV (padF (fun i => X (o + i)) n n) ((n + 72) / 64) := by
  obtain ⟨h1, h2, h3, h4, h5⟩ := h
  have hk : (n + 72) / 64 = k + 2 := by omega
  have key : ∀ i, i < 128 → byteAt (endL 128 (leftF X A) A.len n) i = padF (fun i => X (o + i)) n n (64 * k + i) := by
    intro i hi
    rw [endL_get (by omega) hi]
    unfold padF lenP leftF
    rw [hk, h2]
    by_cases c1 : i < A.len
    · rw [if_pos c1, if_pos (by omega), Nat.add_assoc]
    · rw [if_neg c1, if_neg (show ¬ 64 * k + i < n by omega)]
      by_cases c2 : i = A.len
      · rw [if_pos c2, if_pos (by omega)]
      · rw [if_neg c2, if_neg (show ¬ 64 * k + i = n by omega)]
        by_cases c3 : 128 ≤ i + 8
        · rw [if_pos c3, if_pos (by omega), show 64 * (k + 2) - 1 - (64 * k + i) = 128 - 1 - i from by omega]
        · rw [if_neg c3, if_neg (by omega)]
  rw [hk, iterW_succ, iterW_succ]
  exact cmp_congr (cmp_congr h5 (words16_congr fun i hi => by rw [key _ (by omega), Nat.zero_add])) (words16_congr fun i hi => by rw [key _ (by omega), show 64 * k + (64 + i) = 64 * (k + 1) + i from by omega])
theorem startE_imp {f : Nat → Nat} : ImpE f (some (.ent (.own (.lst (kx .u32 startL)) true 137))) (.ent (.own (.lst (wx (eight startV))) true 137)) := by
  refine ⟨_, rfl, ?_⟩
  show SV.ImpL _ (SV.renL f (wx (eight startV)))
  rw [wx_ren]
  exact unw_imp (by kernel_rfl)
theorem globP_lt {g nm : Nat} (hg : globP g = some nm) : nm < 2 := by
  rcases boolC_some (show boolC (Nat.beq g 2) (some 0) _ = some nm from hg) with ⟨_, h⟩ | h
  · cases h; omega
  obtain ⟨_, h⟩ := boolC_opt h
  cases h; omega
theorem sum_runs' {X : Nat → BitVec 8} {N o n m : Nat} (hn : o + n ≤ N) (hm : n ≤ m) :
    Runs cfgH2 102 (sumArgs o n m) (sumEnts X N) fun v _ => v = .agg (bx (shaF (fun i => X (o + i)) n)) := by
  refine runs_by cfgH2OK (sumC X N o n m) (fun A => ∃ k, SumQ X o n m A k) (fun A => A.len) (fun g nm hg => Nat.lt_of_lt_of_le (globP_lt hg) (by show 2 ≤ 5; omega)) ?_ fun A ⟨k, hQ⟩ J => ?_
  · exact to_startE (some (2, 3)) 4000 ⟨o, .lit 0, n, m, startV⟩ ⟨0, Nat.zero_le _, rfl, rfl, rfl, rfl⟩ (sum_init X N o n m) (sum_names X N o n m _ _) (fun E0 h => by cases h; exact startE_imp) all_nil
  · obtain ⟨h1, h2, h3, h4, h5⟩ := id hQ
    by_cases c1 : 64 ≤ A.len
    · refine to_turn (some (2, 3)) 4000 ⟨A.p + A.s.den, .lit 64, A.len - 64, A.cap - 64, cmpW (eight A.ws) (words16 X (A.p + A.s.den + 0))⟩ ⟨⟨k + 1, by omega, by show A.p + A.s.den + 64 = _; omega, by simp only; omega, by simp only; omega, ?_⟩, by simp only; omega⟩ (sum_turn X N o n m A J) (sum_names X N o n m _ _) ?_
      · rw [iterW_succ]
        refine cmp_congr h5 (words16_congr fun i hi => ?_)
        unfold padF
        rw [if_pos (by omega), show A.p + A.s.den + i = o + (64 * k + i) from by omega]
      · exact all_cons (decide_eq_true (by omega)) (all_cons (by omega) (all_cons (by omega) (all_cons (byteF_isB X) (all_cons (by omega) (all_cons (by omega) (all_cons (by omega) all_nil))))))
    · by_cases c2 : A.len + 9 ≤ 64
      · refine to_end none 8000 (sum_end1 X N o n m A J) ?_ fun H _ => ?_
        · exact all_cons (decide_eq_false (by omega)) (all_cons ⟨by omega, by omega⟩ (all_cons (decide_eq_false (by omega)) (all_cons ⟨by omega, byteF_isB X⟩ (all_cons (by omega) (all_cons (by omega) (all_cons ⟨by omega, by omega⟩ (all_cons (by omega) (all_cons (by omega) all_nil))))))))
        · rw [end1_eq hQ c2]; rfl
      · refine to_end none 8000 (sum_end2 X N o n m A J) ?_ fun H _ => ?_
        · exact all_cons (decide_eq_false (by omega)) (all_cons ⟨by omega, by omega⟩ (all_cons (decide_eq_true (by omega)) (all_cons ⟨by omega, byteF_isB X⟩ (all_cons (by omega) (all_cons (by omega) (all_cons ⟨by omega, by omega⟩ (all_cons (by omega) (all_cons (by omega) (all_cons (by omega) all_nil)))))))))
        · rw [end2_eq hQ (by omega) (by omega)]; rfl
theorem runs_mono {c : Cfg} {f : FuncId} {args : List SV} {H : List SO} {D D' : SV → List SO → Prop} (h : Runs c f args H D) (hd : ∀ v H, D v H → D' v H) : Runs c f args H D' :=
  ⟨h.1, fun O w0 w β vs hH hG ha => (h.2 O w0 w β vs hH hG ha).mono fun _ _ ⟨v, H', x, β', h1, h2, h3⟩ => ⟨v, H', x, β', h1, hd _ _ h2, h3⟩⟩
theorem tailA_den {γ : Val} {a : SA} {l : SN} {c : SC} {x : Value} (h : (SV.slice a l c).den γ = some x) : ∃ m, l.den ≤ m ∧ (tailA a.nm a.off.den l.den m).den γ = some x := by
  obtain ⟨m, hm, hd, _, _⟩ := slice_den h
  refine ⟨m, hm, ?_⟩
  unfold tailA
  rw [den_slice] at hd
  rw [den_tail]
  obtain ⟨A, C, hA, hC, hle, rfl⟩ := hd
  refine ⟨A, C, hA, hC, hle, ?_⟩
  show Value.slice (some (if C = 0 then A else A.add 0)) _ _ = _
  rw [add_zero', ite_self]
/-- nothing -/
noncomputable def nilE : List (BitVec 8) := BitVec.ofNat 8 128 :: repN (BitVec.ofNat 8 0) 63
theorem sum_nil : outO [] (callSim cfgH2 8000 102 [.nilSlice] (shaHP [])) [] = ([0 + 64 ≤ 64], some (.agg (bx (hashB (cmpW (eight startV) (words16 (byteAt nilE) 0)))), [])) := by kernel_rfl
theorem shaF_nil (X : Nat → BitVec 8) : shaF X 0 = hashB (cmpW (eight startV) (words16 (byteAt nilE) 0)) := by
  unfold shaF
  rw [show (0 + 72) / 64 = 0 + 1 from rfl, iterW_succ]
  refine congrArg hashB (cmp_congr rfl (words16_congr fun i hi => ?_))
  unfold padF lenP nilE byteAt
  rw [show 64 * 0 + i = i from by omega, Nat.zero_add, if_neg (by omega)]
  cases i with
  | zero => rfl
  | succ i =>
    have hr : ((BitVec.ofNat 8 128 :: repN (BitVec.ofNat 8 0) 63)[i + 1]?).getD 0#8 = BitVec.ofNat 8 0 := by
      rw [List.getElem?_cons_succ, repN_eq, List.getElem?_replicate, if_pos (by omega)]; rfl
    rw [if_neg (by omega), hr]
    split
    · unfold lenByte
      simp
    · rfl
/-- what is hashed -/
noncomputable def hashS (F : (Nat → BitVec 8) → Nat → List (BitVec 8)) : Summ := fun args H _ => args1 args fun v => shaTP H (sliceR v (.ok ⟨.agg (bx (F (fun _ => 0#8) 0)), [], []⟩) fun a l => boolC (newOne a.nm) (bytesE (nth H a.nm) fun X N => .need (a.off.den + l.den ≤ N) (.ok ⟨.agg (bx (F (fun i => X (a.off.den + i)) l.den)), [], []⟩)) (.stuck 740))
theorem endsV {I : Ifc} {base : Nat} {l : List (BitVec 8)} {v : SV} {H : List SO} (ho : ownsOf I.ents 0 = []) (h : v = .agg (bx l)) : I.Ends base [] ⟨.agg (bx l), [], []⟩ v H := by
  subst h
  refine ends0 ho ?_ (bx_uses _ _)
  show SV.agg (bx l) = .agg (SV.renL _ (bx l))
  rw [bx_ren]
theorem nd5 {x : Nat} (h : newOne x = true) : [0, 1, 2, 3, x].Nodup := by
  have := newOne_not h
  simp only [List.nodup_cons, List.mem_cons, List.not_mem_nil, or_false, not_or, not_false_eq_true, List.nodup_nil, and_true]; omega
theorem sumOK : SumAt Tryz.prog globP 102 (hashS shaF) := by
  intro O w0 β H w base args vs hH hG ha
  refine args1_sat fun v hv => shaTP_sat fun hT => sliceR_sat (fun hn => ?_) fun a l c hs => boolC_only fun hn => bytesE_sat fun X N ht => fun hle => ?_
  · rw [hv, hn] at ha
    rw [shaF_nil]
    exact sum_outOG cfgH2OK 8000 hH (shaIP [] [] [.nilSlice]) (shaIP_glob hG) ha (Ifc.fits (by simp [shaIP]) rfl (shaIP_ents hT trivial)) [] (by simp) (by simp) sum_nil (all_cons (by omega) all_nil) fun _ _ => endsV rfl rfl
  · rw [hv, hs] at ha
    rw [nth_eq] at ht
    obtain ⟨x, ys, hx, hys, rfl⟩ := denL_cons.1 ha
    obtain ⟨m, hm, hd⟩ := tailA_den hx
    exact Go.Sim.sum_runs (c := cfgH2) hH (shaIP [a.nm] [rowF X N] (sumArgs a.off.den l.den m)) (shaIP_glob hG) (denL_cons.2 ⟨_, _, hd, hys, rfl⟩) (Ifc.fits (nd5 hn) rfl (shaIP_ents hT ⟨⟨ht _, rowF_uses _ _ _⟩, trivial⟩)) [] (by simp) (by simp)
      (runs_mono (sum_runs' hle hm) fun v H h => endsV rfl h)
end Go.Proofs.YtbmgahpjgefjaaaGreatDoor.Aes


/-
  The start of a law: rows off the card.
-/
namespace Go.Proofs.YtbmgahpjgefjaaaGreatDoor.Aes
open Go.Sim
open Go.Proofs

theorem HeapRel.rows {P : Program} {W : World} {β : Val} {H : List SO} (h : ∀ n e, H[n]? = some e → ∃ c, e = .row c ∧ RowRel (fun _ => False) W β n c) (hb : ∀ n, H.length ≤ n → β n = none) : HeapRel P (fun _ => False) W β H W := by
  refine ⟨⟨fun n e hn => ?_, fun n m e e' l l' hn hm ho ho' => ?_, fun n e l hn ho => ?_, ⟨rfl, rfl, rfl, Nat.le_refl _, fun _ _ _ => rfl⟩⟩, hb⟩
  · obtain ⟨c, rfl, hc⟩ := h n e hn; exact hc
  · obtain ⟨c, rfl, hc⟩ := h n e hn; cases ho
  · obtain ⟨c, rfl, hc⟩ := h n e hn; cases ho
theorem kx_den {γ : Val} (k : IntKind) : ∀ T : List Nat, SV.denL γ (kx k T) = some (T.map fun n => Value.int k (Int.ofNat n))
  | [] => rfl
  | _ :: T => denL_cons.2 ⟨_, _, rfl, kx_den k T, rfl⟩
theorem cell_lt {W : World} {a : Addr} {x : Value} (h : W.cell? a = some x) : a.block < W.heap.size := by
  by_cases hb : a.block < W.heap.size
  · exact hb
  · unfold World.cell? at h
    have hn : W.heap[a.block]? = none := Array.getElem?_eq_none (by omega)
    simp only [hn] at h
    cases h
theorem kx_row {W : World} {β : Val} {n : Nat} {l : Sim.Loc} {k : IntKind} {L : List Nat} (hl : β n = some l) (hc : ∀ i, i < L.length → W.cell? ⟨l.blk, l.off + i, none⟩ = some (.int k ((L.getD i 0 : Nat) : Int))) : RowRel (fun _ => False) W β n (.lst (kx k L)) := by
  refine ⟨l, _, hl, kx_den k L, fun i x hx => ?_⟩
  rw [List.getElem?_map] at hx
  cases hi : L[i]? with
  | none => rw [hi] at hx; cases hx
  | some t =>
    rw [hi] at hx; cases hx
    have hlt : i < L.length := (List.getElem?_eq_some_iff.1 hi).1
    have hcell := hc i hlt
    have e : L.getD i 0 = t := by rw [List.getD_eq_getElem?_getD, hi]; rfl
    rw [e] at hcell
    exact ⟨cell_lt hcell, fun f => f, hcell⟩
theorem arr_at {P : Program} {w : World} {name : String} {g : Nat} {t e : TypeId} {k : IntKind} {n : Nat} {L : List Nat} (hn : P.globalNamed name = some g) (hy : (P.globals[g]?).map (·.type) = some t) (ht : P.underlying t = some (.array n e)) (he : P.underlying e = some (.int k)) (hce : P.cellsOf e = 1) (hct : P.cellsOf t = n)
    (h : Lib.VarReads P w name (Lib.tabData k (L.map Int.ofNat))) : ∀ i, i < L.length → w.cell? ⟨g, i, none⟩ = some (.int k ((L.getD i 0 : Nat) : Int)) := by
  obtain ⟨g', t', cs, fuel, p, hg, hty, hvar, hd⟩ := h
  obtain rfl := Option.some.inj (hn.symm.trans hg)
  obtain rfl := Option.some.inj (hy.symm.trans hty)
  intro i hi
  have hT : Lib.TabIs P w name k (L.map Int.ofNat) := by
    unfold Lib.TabIs
    rw [hvar, ← Lib.cells_of_tab ht he hce hct hd]
  have := hT.cell hn i (by simpa using hi)
  rw [this]
  simp [List.getD_eq_getElem?_getD, List.getElem?_eq_getElem hi]
end Go.Proofs.YtbmgahpjgefjaaaGreatDoor.Aes


/-
  The start of a law that reads the two tables of the hash function.
-/
namespace Go.Proofs.YtbmgahpjgefjaaaGreatDoor.Aes
open Go.Sim
open Go.Proofs

theorem pro_start {W : World} (hL : laidMetH Tryz.prog [("watchword/sha.start", Rows.laid_watchword_sha_start), ("watchword/sha.constants", Rows.laid_watchword_sha_constants)] W) :
    ∃ β, HeapRel Tryz.prog (fun _ => False) W β (shaHP []) W ∧ GlobRel globP β := by
  rw [MakeChecks.laidMetH_plain _ _ _ (by kernel_rfl)] at hL
  have e2 : (Rows.laid_watchword_sha_start : DataW Unit) = Lib.tabData .u32 (startL.map Int.ofNat) := by kernel_rfl
  have e3 : (Rows.laid_watchword_sha_constants : DataW Unit) = Lib.tabData .u32 (constL.map Int.ofNat) := by kernel_rfl
  rw [e2, e3] at hL
  have r2 := Lib.laidMet.reads hL (n := "watchword/sha.start") (d := Lib.tabData .u32 (startL.map Int.ofNat)) (by simp)
  have r3 := Lib.laidMet.reads hL (n := "watchword/sha.constants") (d := Lib.tabData .u32 (constL.map Int.ofNat)) (by simp)
  have t2 := arr_at (g := 2) (t := 137) (e := 135) (n := 8) (by kernel_rfl) (by kernel_rfl) (by kernel_rfl) (by kernel_rfl) (by kernel_rfl) (by kernel_rfl) r2
  have t3 := arr_at (g := 3) (t := 196) (e := 135) (n := 64) (by kernel_rfl) (by kernel_rfl) (by kernel_rfl) (by kernel_rfl) (by kernel_rfl) (by kernel_rfl) r3
  let β : Val := fun n => match n with
    | 0 => some (Sim.Loc.mk 2 0 0)
    | 1 => some (Sim.Loc.mk 3 0 0)
    | 2 => some (Sim.Loc.mk 2 0 0)
    | 3 => some (Sim.Loc.mk 2 0 0)
    | _ => none
  refine ⟨β, HeapRel.rows (fun n e hn => ?_) fun n hn => ?_, fun g nm hg => ?_⟩
  · match n, hn with
    | 0, hn => cases hn; exact ⟨_, rfl, kx_row (l := Sim.Loc.mk 2 0 0) rfl fun i hi => by rw [show (Sim.Loc.mk 2 0 0).off + i = i from Nat.zero_add i]; exact t2 i hi⟩
    | 1, hn => cases hn; exact ⟨_, rfl, kx_row (l := Sim.Loc.mk 3 0 0) rfl fun i hi => by rw [show (Sim.Loc.mk 3 0 0).off + i = i from Nat.zero_add i]; exact t3 i hi⟩
    | 2, hn => cases hn; exact ⟨_, rfl, Sim.Loc.mk 2 0 0, [], rfl, rfl, fun i x hx => by simp at hx⟩
    | 3, hn => cases hn; exact ⟨_, rfl, Sim.Loc.mk 2 0 0, [], rfl, rfl, fun i x hx => by simp at hx⟩
    | n + 4, hn => simp [shaHP] at hn
  · match n, hn with
    | n + 4, _ => rfl
    | 0, hn => simp [shaHP] at hn
    | 1, hn => simp [shaHP] at hn
    | 2, hn => simp [shaHP] at hn
    | 3, hn => simp [shaHP] at hn
  · rcases boolC_some (show boolC (Nat.beq g 2) (some 0) _ = some nm from hg) with ⟨h1, h2⟩ | h
    · cases h2; exact ⟨_, rfl, (beq_spec h1).symm, rfl⟩
    · obtain ⟨h1, h2⟩ := boolC_opt h
      cases h2; exact ⟨_, rfl, (beq_spec h1).symm, rfl⟩
end Go.Proofs.YtbmgahpjgefjaaaGreatDoor.Aes


/-
  The symbolic simulator, thirty-fourth part: a summary that is a run of the function itself, where all is known.
-/
namespace Go.Sim
variable {α : Type}

noncomputable def usesEs (p : Nat → Bool) (es : List (SV × SV × Nat)) : Bool := List.rec (motive := fun _ => Bool) true (fun e _ ih => boolC (e.1.uses p) (boolC (e.2.1.uses p) ih false) false) es
noncomputable def SObj.uses (p : Nat → Bool) (o : SObj) : Bool := SObj.rec (motive := fun _ => Bool) (fun es _ => usesEs p es) (fun m _ _ _ => optC m true p) (fun _ _ => true) o
theorem entsDen_uses {p : Nat → Bool} {β β' : Val} (hp : ∀ n, p n = true → β n = β' n) : (es : List (SV × SV × Nat)) → usesEs p es = true → entsDen β es = entsDen β' es
  | [], _ => rfl
  | e :: r, h => by
    obtain ⟨h1, h2⟩ := boolC_and (show boolC (e.1.uses p) (boolC (e.2.1.uses p) (usesEs p r) false) false = true from h)
    obtain ⟨h2, h3⟩ := boolC_and h2
    simp only [entsDen, SV.den_uses hp _ h1, SV.den_uses hp _ h2, entsDen_uses hp r h3]
theorem SObj.den_uses {p : Nat → Bool} {β β' : Val} (hp : ∀ n, p n = true → β n = β' n) {o : SObj} (h : o.uses p = true) : o.den β = o.den β' := by
  cases o with
  | map es c =>
    show (entsDen β es).map _ = (entsDen β' es).map _
    rw [entsDen_uses hp es h]
  | iter m since seen last =>
    cases m with
    | none => rfl
    | some m =>
      have h : p m = true := h
      show (β m).map _ = (β' m).map _
      rw [hp m h]
  | str s pos => rfl

/-- the heap as the function is to see it -/
noncomputable def maskH (M : List Nat) (H : List SO) : Nat → List SO := List.rec (motive := fun _ => Nat → List SO) (fun _ => []) (fun e _ ih i => boolC (memN i M) e .gone :: ih (Nat.succ i)) H



/- All ends of a run, told by a closed term. -/
end Go.Sim

