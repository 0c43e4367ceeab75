/-
  Texts behind one another: the symbolic simulator and what it is told of the program.
-/
import Derived.Test.YtflafdhmmcknhaaGreatDoorPzSha2

/-
  The hash function: what it comes to, for bytes of any number.
-/
namespace Go.Proofs.YtflafdhmmcknhaaGreatDoor.Aes
open Go.Sim
open Go.Proofs
variable {α : Type}

/- The padded string; the hash. -/
noncomputable def lenByte (n j : Nat) : BitVec 8 := ((BitVec.ofInt 64 (n : Int) * BitVec.ofInt 64 8) >>> (8 * j)).setWidth 8
def lenP (n : Nat) : Nat := 64 * ((n + 72) / 64)
/-- the bytes Y, of which 'b' are in all (those ahead of Y are whole blocks): the padded string -/
noncomputable def padF (X : Nat → BitVec 8) (n t : Nat) : Nat → BitVec 8 := fun i => if i < n then X i else if i = n then BitVec.ofNat 8 128 else if lenP n ≤ i + 8 ∧ i < lenP n then lenByte t (lenP n - 1 - i) else BitVec.ofNat 8 0
noncomputable def iterW (W : List W32) (Y : Nat → BitVec 8) : Nat → List W32
  | 0 => W
  | k + 1 => cmpW (eight (iterW W Y k)) (words16 Y (64 * k))
noncomputable def shaF (X : Nat → BitVec 8) (n : Nat) : List (BitVec 8) := hashB (iterW startV (padF X n n) ((n + 72) / 64))

theorem words16_congr {X Y : Nat → BitVec 8} {a b : Nat} (h : ∀ i, i < 64 → X (a + i) = Y (b + i)) : words16 X a = words16 Y b := by
  unfold words16
  rw [mapN_eq, mapN_eq]
  apply List.map_congr_left
  intro t ht
  rw [fromN_eq, List.mem_range'] at ht
  obtain ⟨j, hj, rfl⟩ := ht
  unfold word4
  have e : ∀ r, r < 4 → X (a + 4 * (0 + 1 * j) + r) = Y (b + 4 * (0 + 1 * j) + r) := fun r hr => by
    rw [Nat.add_assoc, Nat.add_assoc]; exact h _ (by omega)
  rw [show a + 4 * (0 + 1 * j) = a + 4 * (0 + 1 * j) + 0 from rfl, show b + 4 * (0 + 1 * j) = b + 4 * (0 + 1 * j) + 0 from rfl, e 0 (by omega)]
  simp only [Nat.add_zero]
  rw [e 1 (by omega), e 2 (by omega), e 3 (by omega)]
theorem iterW_congr {W : List W32} {X Y : Nat → BitVec 8} : ∀ (k : Nat), (∀ i, i < 64 * k → X i = Y i) → iterW W X k = iterW W Y k
  | 0, _ => rfl
  | k + 1, h => by
    unfold iterW
    rw [iterW_congr k fun i hi => h i (by omega), words16_congr (Y := Y) (b := 64 * k) fun i hi => h _ (by omega)]
theorem overN_get {l v : List α} {i : Nat} (h : i + v.length ≤ l.length) (j : Nat) : (overN l i v)[j]? = if i ≤ j ∧ j < i + v.length then v[j - i]? else l[j]? := by
  rw [overN_eq _ _ _ h, List.append_assoc, List.getElem?_append, List.getElem?_append, List.length_take, Nat.min_eq_left (by omega), List.getElem?_take, List.getElem?_drop]
  by_cases h1 : j < i
  · rw [if_pos h1, if_pos h1, if_neg (by omega)]
  · rw [if_neg h1]
    by_cases h2 : j < i + v.length
    · rw [if_pos (by omega), if_pos (by omega)]
    · rw [if_neg (by omega), if_neg (by omega), show i + v.length + (j - i - v.length) = j from by omega]
theorem putB_length (o n : Nat) (Y : Nat → BitVec 8) : ∀ (xs : List (BitVec 8)) (k : Nat), (putB o n Y xs k).length = xs.length
  | [], _ => rfl
  | _ :: xs, k => congrArg (· + 1) (putB_length o n Y xs (k + 1))
theorem endL_get {size len n : Nat} {Y : Nat → BitVec 8} (hs : len + 9 ≤ size) {j : Nat} (hj : j < size) :
    byteAt (endL size Y len n) j = if j < len then Y j else if j = len then BitVec.ofNat 8 128 else if size ≤ j + 8 then lenByte n (size - 1 - j) else BitVec.ofNat 8 0 := by
  unfold byteAt endL
  have hl : (mapN (fun j => ((BitVec.ofInt 64 (n : Int) * BitVec.ofInt 64 8) >>> (8 * (7 - j))).setWidth 8) (fromN 8 0) : List (BitVec 8)).length = 8 := rfl
  have hb : (putB (0 + (len : Int).toNat * 1) 1 (fun _ => BitVec.ofNat 8 128) (putB 0 len Y (repN (BitVec.ofNat 8 0) size) 0) 0).length = size := by
    rw [putB_length, putB_length, repN_eq, List.length_replicate]
  rw [overN_get (by rw [hl, hb]; show size - 8 + 8 ≤ size; omega), hl]
  rw [putB_get, putB_get, repN_eq, List.getElem?_replicate, if_pos hj]
  simp only [Option.map_some, Nat.zero_add, Int.toNat_natCast, Nat.mul_one, Nat.zero_le, true_and, Nat.sub_zero]
  show ((if Nat.sub size 8 ≤ j ∧ j < Nat.sub size 8 + 8 then _ else _ : Option (BitVec 8))).getD 0#8 = _
  by_cases h1 : j < len
  · rw [if_neg (by show ¬ (size - 8 ≤ j ∧ j < size - 8 + 8); omega), if_pos h1]
    simp only [Option.getD_some]
    rw [if_neg (by omega), if_pos h1]
  · simp only [if_neg h1]
    by_cases h2 : j = len
    · rw [if_neg (by show ¬ (size - 8 ≤ j ∧ j < size - 8 + 8); omega), if_pos h2]
      simp only [Option.getD_some]
      rw [if_pos (by omega)]
    · rw [if_neg h2]
      by_cases h3 : size ≤ j + 8
      · rw [if_pos (by show size - 8 ≤ j ∧ j < size - 8 + 8; omega), if_pos h3, mapN_eq, fromN_eq, List.getElem?_map, List.getElem?_range' (by show j - (size - 8) < 8; omega)]
        simp only [Option.map_some, Option.getD_some]
        unfold lenByte
        rw [show 7 - (0 + 1 * (j - Nat.sub size 8)) = size - 1 - j from by show 7 - (0 + 1 * (j - (size - 8))) = _; omega]
      · rw [if_neg (by show ¬ (size - 8 ≤ j ∧ j < size - 8 + 8); omega), if_neg h3]
        simp only [Option.getD_some]
        rw [if_neg (by omega)]

/- Sum. -/
structure SumQ (X : Nat → BitVec 8) (o n m : Nat) (A : SumA) (k : Nat) : Prop where
  le : 64 * k ≤ n
  at_ : A.p + A.s.den = o + 64 * k
  len : A.len = n - 64 * k
  cap : A.cap = m - 64 * k
  ws : A.ws = iterW startV (padF (fun i => X (o + i)) n n) k
theorem iterW_succ (W : List W32) (Y : Nat → BitVec 8) (k : Nat) : iterW W Y (k + 1) = cmpW (eight (iterW W Y k)) (words16 Y (64 * k)) := rfl
theorem cmp_congr {a b c d : List W32} (h : a = b) (h' : c = d) : cmpW (eight a) c = cmpW (eight b) d := by rw [h, h']
theorem end1_eq {X : Nat → BitVec 8} {o n m : Nat} {A : SumA} {k : Nat} (h : SumQ X o n m A k) (hl : A.len + 9 ≤ 64) : end1 X n A = iterW startV (padF (fun i => X (o + i)) n n) ((n + 72) / 64) := by
  obtain ⟨h1, h2, h3, h4, h5⟩ := h
  have hk : (n + 72) / 64 = k + 1 := by omega
  have key : ∀ i, i < 64 → byteAt (endL 64 (leftF X A) A.len n) (0 + i) = padF (fun i => X (o + i)) n n (64 * k + i) := by
    intro i hi
    rw [Nat.zero_add, endL_get hl hi]
    unfold padF lenP leftF
    rw [hk, h2]
    by_cases c1 : i < A.len
    · rw [if_pos c1, if_pos (by omega), Nat.add_assoc]
    · rw [if_neg c1, if_neg (show ¬ 64 * k + i < n by omega)]
      by_cases c2 : i = A.len
      · rw [if_pos c2, if_pos (by omega)]
      · rw [if_neg c2, if_neg (show ¬ 64 * k + i = n by omega)]
        by_cases c3 : 64 ≤ i + 8
        · rw [if_pos c3, if_pos (by omega), show 64 * (k + 1) - 1 - (64 * k + i) = 64 - 1 - i from by omega]
        · rw [if_neg c3, if_neg (by omega)]
  rw [hk, iterW_succ]
  exact cmp_congr h5 (words16_congr key)
theorem end2_eq {X : Nat → BitVec 8} {o n m : Nat} {A : SumA} {k : Nat} (h : SumQ X o n m A k) (hl : A.len < 64) (hl2 : 64 < A.len + 9) : end2 X n A = iterW startV (padF (fun i => X (o + i)) n n) ((n + 72) / 64) := by
  obtain ⟨h1, h2, h3, h4, h5⟩ := h
  have hk : (n + 72) / 64 = k + 2 := by omega
  have key : ∀ i, i < 128 → byteAt (endL 128 (leftF X A) A.len n) i = padF (fun i => X (o + i)) n n (64 * k + i) := by
    intro i hi
    rw [endL_get (by omega) hi]
    unfold padF lenP leftF
    rw [hk, h2]
    by_cases c1 : i < A.len
    · rw [if_pos c1, if_pos (by omega), Nat.add_assoc]
    · rw [if_neg c1, if_neg (show ¬ 64 * k + i < n by omega)]
      by_cases c2 : i = A.len
      · rw [if_pos c2, if_pos (by omega)]
      · rw [if_neg c2, if_neg (show ¬ 64 * k + i = n by omega)]
        by_cases c3 : 128 ≤ i + 8
        · rw [if_pos c3, if_pos (by omega), show 64 * (k + 2) - 1 - (64 * k + i) = 128 - 1 - i from by omega]
        · rw [if_neg c3, if_neg (by omega)]
  rw [hk, iterW_succ, iterW_succ]
  exact cmp_congr (cmp_congr h5 (words16_congr fun i hi => by rw [key _ (by omega), Nat.zero_add])) (words16_congr fun i hi => by rw [key _ (by omega), show 64 * k + (64 + i) = 64 * (k + 1) + i from by omega])
theorem startE_imp {f : Nat → Nat} : ImpE f (some (.ent (.own (.lst (kx .u32 startL)) true 97))) (.ent (.own (.lst (wx (eight startV))) true 97)) := by
  refine ⟨_, rfl, ?_⟩
  show SV.ImpL _ (SV.renL f (wx (eight startV)))
  rw [wx_ren]
  exact unw_imp (by kernel_rfl)
theorem globP_lt {g nm : Nat} (hg : globP g = some nm) : nm < 2 := by
  rcases boolC_some (show boolC (Nat.beq g 0) (some 0) _ = some nm from hg) with ⟨_, h⟩ | h
  · cases h; omega
  obtain ⟨_, h⟩ := boolC_opt h
  cases h; omega
theorem sum_runs' {X : Nat → BitVec 8} {N o n m : Nat} (hn : o + n ≤ N) (hm : n ≤ m) :
    Runs cfgH2 58 (sumArgs o n m) (sumEnts X N) fun v _ => v = .agg (bx (shaF (fun i => X (o + i)) n)) := by
  refine runs_by cfgH2OK (sumC X N o n m) (fun A => ∃ k, SumQ X o n m A k) (fun A => A.len) (fun g nm hg => Nat.lt_of_lt_of_le (globP_lt hg) (by show 2 ≤ 5; omega)) ?_ fun A ⟨k, hQ⟩ J => ?_
  · exact to_startE (some (2, 3)) 4000 ⟨o, .lit 0, n, m, startV⟩ ⟨0, Nat.zero_le _, rfl, rfl, rfl, rfl⟩ (sum_init X N o n m) (sum_names X N o n m _ _) (fun E0 h => by cases h; exact startE_imp) all_nil
  · obtain ⟨h1, h2, h3, h4, h5⟩ := id hQ
    by_cases c1 : 64 ≤ A.len
    · refine to_turn (some (2, 3)) 4000 ⟨A.p + A.s.den, .lit 64, A.len - 64, A.cap - 64, cmpW (eight A.ws) (words16 X (A.p + A.s.den + 0))⟩ ⟨⟨k + 1, by omega, by show A.p + A.s.den + 64 = _; omega, by simp only; omega, by simp only; omega, ?_⟩, by simp only; omega⟩ (sum_turn X N o n m A J) (sum_names X N o n m _ _) ?_
      · rw [iterW_succ]
        refine cmp_congr h5 (words16_congr fun i hi => ?_)
        unfold padF
        rw [if_pos (by omega), show A.p + A.s.den + i = o + (64 * k + i) from by omega]
      · exact all_cons (decide_eq_true (by omega)) (all_cons (by omega) (all_cons (by omega) (all_cons (byteF_isB X) (all_cons (by omega) (all_cons (by omega) (all_cons (by omega) all_nil))))))
    · by_cases c2 : A.len + 9 ≤ 64
      · refine to_end none 8000 (sum_end1 X N o n m A J) ?_ fun H _ => ?_
        · exact all_cons (decide_eq_false (by omega)) (all_cons ⟨by omega, by omega⟩ (all_cons (decide_eq_false (by omega)) (all_cons ⟨by omega, byteF_isB X⟩ (all_cons (by omega) (all_cons (by omega) (all_cons ⟨by omega, by omega⟩ (all_cons (by omega) (all_cons (by omega) all_nil))))))))
        · rw [end1_eq hQ c2]; rfl
      · refine to_end none 8000 (sum_end2 X N o n m A J) ?_ fun H _ => ?_
        · exact all_cons (decide_eq_false (by omega)) (all_cons ⟨by omega, by omega⟩ (all_cons (decide_eq_true (by omega)) (all_cons ⟨by omega, byteF_isB X⟩ (all_cons (by omega) (all_cons (by omega) (all_cons ⟨by omega, by omega⟩ (all_cons (by omega) (all_cons (by omega) (all_cons (by omega) all_nil)))))))))
        · rw [end2_eq hQ (by omega) (by omega)]; rfl
theorem runs_mono {c : Cfg} {f : FuncId} {args : List SV} {H : List SO} {D D' : SV → List SO → Prop} (h : Runs c f args H D) (hd : ∀ v H, D v H → D' v H) : Runs c f args H D' :=
  ⟨h.1, fun O w0 w β vs hH hG ha => (h.2 O w0 w β vs hH hG ha).mono fun _ _ ⟨v, H', x, β', h1, h2, h3⟩ => ⟨v, H', x, β', h1, hd _ _ h2, h3⟩⟩
theorem tailA_den {γ : Val} {a : SA} {l : SN} {c : SC} {x : Value} (h : (SV.slice a l c).den γ = some x) : ∃ m, l.den ≤ m ∧ (tailA a.nm a.off.den l.den m).den γ = some x := by
  obtain ⟨m, hm, hd, _, _⟩ := slice_den h
  refine ⟨m, hm, ?_⟩
  unfold tailA
  rw [den_slice] at hd
  rw [den_tail]
  obtain ⟨A, C, hA, hC, hle, rfl⟩ := hd
  refine ⟨A, C, hA, hC, hle, ?_⟩
  show Value.slice (some (if C = 0 then A else A.add 0)) _ _ = _
  rw [add_zero', ite_self]
theorem shaF_congr {X Y : Nat → BitVec 8} {n : Nat} (h : ∀ i, i < n → X i = Y i) : shaF X n = shaF Y n := by
  unfold shaF
  congr 1
  apply iterW_congr
  intro i _
  unfold padF
  by_cases hi : i < n
  · rw [if_pos hi, if_pos hi, h i hi]
  · rw [if_neg hi, if_neg hi]
/-- nothing -/
noncomputable def nilE : List (BitVec 8) := BitVec.ofNat 8 128 :: repN (BitVec.ofNat 8 0) 63
theorem sum_nil : outO [] (callSim cfgH2 8000 58 [.nilSlice] (shaHP [])) [] = ([0 + 64 ≤ 64], some (.agg (bx (hashB (cmpW (eight startV) (words16 (byteAt nilE) 0)))), [])) := by kernel_rfl
theorem shaF_nil (X : Nat → BitVec 8) : shaF X 0 = hashB (cmpW (eight startV) (words16 (byteAt nilE) 0)) := by
  unfold shaF
  rw [show (0 + 72) / 64 = 0 + 1 from rfl, iterW_succ]
  refine congrArg hashB (cmp_congr rfl (words16_congr fun i hi => ?_))
  unfold padF lenP nilE byteAt
  rw [show 64 * 0 + i = i from by omega, Nat.zero_add, if_neg (by omega)]
  cases i with
  | zero => rfl
  | succ i =>
    have hr : ((BitVec.ofNat 8 128 :: repN (BitVec.ofNat 8 0) 63)[i + 1]?).getD 0#8 = BitVec.ofNat 8 0 := by
      rw [List.getElem?_cons_succ, repN_eq, List.getElem?_replicate, if_pos (by omega)]; rfl
    rw [if_neg (by omega), hr]
    split
    · unfold lenByte
      simp
    · rfl
/-- what is hashed -/
noncomputable def hashS (F : (Nat → BitVec 8) → Nat → List (BitVec 8)) : Summ := fun args H _ => args1 args fun v => shaTP H (sliceR v (.ok ⟨.agg (bx (F (fun _ => 0#8) 0)), [], []⟩) fun a l => boolC (newOne a.nm) (bytesE (nth H a.nm) fun X N => .need (a.off.den + l.den ≤ N) (.ok ⟨.agg (bx (F (fun i => X (a.off.den + i)) l.den)), [], []⟩)) (.stuck 740))
theorem endsV {I : Ifc} {base : Nat} {l : List (BitVec 8)} {v : SV} {H : List SO} (ho : ownsOf I.ents 0 = []) (h : v = .agg (bx l)) : I.Ends base [] ⟨.agg (bx l), [], []⟩ v H := by
  subst h
  refine ends0 ho ?_ (bx_uses _ _)
  show SV.agg (bx l) = .agg (SV.renL _ (bx l))
  rw [bx_ren]
theorem nd5 {x : Nat} (h : newOne x = true) : [0, 1, 2, 3, x].Nodup := by
  have := newOne_not h
  simp only [List.nodup_cons, List.mem_cons, List.not_mem_nil, or_false, not_or, not_false_eq_true, List.nodup_nil, and_true]; omega
theorem sumOK : SumAt Tryz.prog globP 58 (hashS shaF) := by
  intro O w0 β H w base args vs hH hG ha
  refine args1_sat fun v hv => shaTP_sat fun hT => sliceR_sat (fun hn => ?_) fun a l c hs => boolC_only fun hn => bytesE_sat fun X N ht => fun hle => ?_
  · rw [hv, hn] at ha
    rw [shaF_nil]
    exact sum_outOG cfgH2OK 8000 hH (shaIP [] [] [.nilSlice]) (shaIP_glob hG) ha (Ifc.fits (by simp [shaIP]) rfl (shaIP_ents hT trivial)) [] (by simp) (by simp) sum_nil (all_cons (by omega) all_nil) fun _ _ => endsV rfl rfl
  · rw [hv, hs] at ha
    rw [nth_eq] at ht
    obtain ⟨x, ys, hx, hys, rfl⟩ := denL_cons.1 ha
    obtain ⟨m, hm, hd⟩ := tailA_den hx
    exact Go.Sim.sum_runs (c := cfgH2) hH (shaIP [a.nm] [rowF X N] (sumArgs a.off.den l.den m)) (shaIP_glob hG) (denL_cons.2 ⟨_, _, hd, hys, rfl⟩) (Ifc.fits (nd5 hn) rfl (shaIP_ents hT ⟨⟨ht _, rowF_uses _ _ _⟩, trivial⟩)) [] (by simp) (by simp)
      (runs_mono (sum_runs' hle hm) fun v H h => endsV rfl h)
end Go.Proofs.YtflafdhmmcknhaaGreatDoor.Aes


/-
  The tables of the hash function and of its reference, az rows at the first names.
-/
namespace Go.Proofs.YtflafdhmmcknhaaGreatDoor.Aes
open Go.Sim
open Go.Proofs
variable {α : Type}

noncomputable def globS : Nat → Option Nat := fun g => boolC (Nat.beq g 0) (some 0) (boolC (Nat.beq g 1) (some 1) (boolC (Nat.beq g 2) (some 2) none))
noncomputable def rconV : SO := .row (.lst [.slice ⟨3, .lit 0⟩ (.lit 64) (.lit 64)])
noncomputable def rconR : SO := .row (.lst (kx .i64 constL))
noncomputable def shaH (l : List SO) : List SO := startR :: constR :: rconV :: rconR :: l
noncomputable def rowS (e : Option SO) : Bool := optC (cellsE e) false fun l => List.rec (motive := fun _ => Bool) false (fun v r _ => boolC (isSl1 v 3 64) (nilN r) false) l
theorem rowS_spec {e : Option SO} (h : rowS e = true) (g : Nat → Nat) (hg : g 3 = 3) : ∃ e', e = some e' ∧ Taken g rconV e' := by
  unfold rowS at h
  cases hc : cellsE e with
  | none => rw [hc] at h; cases h
  | some l =>
    rw [hc] at h
    cases l with
    | nil => cases h
    | cons v r =>
      obtain ⟨h1, h2⟩ := boolC_tt (show boolC (isSl1 v 3 64) (nilN r) false = true from h)
      cases r with
      | cons => cases h2
      | nil =>
        rw [isSl1_spec h1] at hc
        refine taken_cells hc ?_
        show SV.ImpL _ [.slice ⟨g 3, .lit 0⟩ (.lit 64) (.lit 64)]
        rw [hg]; exact .refl _
/-- the rows lie at the first names -/
noncomputable def shaT (H : List SO) (r : R α) : R α := boolC (rowK .u32 startL (nth H 0)) (boolC (rowK .u32 constL (nth H 1)) (boolC (rowS (nth H 2)) (boolC (rowK .i64 constL (nth H 3)) r (.stuck 730)) (.stuck 731)) (.stuck 732)) (.stuck 733)
structure ShaT (H : List SO) : Prop where
  s0 : ∀ g, ∃ e', H[0]? = some e' ∧ Taken g startR e'
  s1 : ∀ g, ∃ e', H[1]? = some e' ∧ Taken g constR e'
  s2 : ∀ g : Nat → Nat, g 3 = 3 → ∃ e', H[2]? = some e' ∧ Taken g rconV e'
  s3 : ∀ g, ∃ e', H[3]? = some e' ∧ Taken g rconR e'
theorem shaT_sat {H : List SO} {r : R α} {φ : α → Prop} (h : ShaT H → r.Sat φ) : (shaT H r).Sat φ := by
  refine boolC_only fun h0 => boolC_only fun h1 => boolC_only fun h2 => boolC_only fun h3 => h ⟨fun g => ?_, fun g => ?_, fun g hg => ?_, fun g => ?_⟩
  · rw [← nth_eq]; exact rowK_spec h0 g
  · rw [← nth_eq]; exact rowK_spec h1 g
  · rw [← nth_eq]; exact rowS_spec h2 g hg
  · rw [← nth_eq]; exact rowK_spec h3 g
/-- a function's names: the rows', and others -/
noncomputable def shaI (names : List Nat) (ents : List SO) (args : List SV) : Ifc := ⟨0 :: 1 :: 2 :: 3 :: names, shaH ents, args⟩
theorem shaI_ents {H : List SO} (hT : ShaT H) {names : List Nat} {ents : List SO} {args : List SV} (h : EntsOK (shaI names ents args).big (shaI names ents args).known H names ents) : EntsOK (shaI names ents args).big (shaI names ents args).known H (shaI names ents args).names (shaI names ents args).ents :=
  ⟨⟨hT.s0 _, kx_uses _ _ _⟩, ⟨hT.s1 _, kx_uses _ _ _⟩, ⟨hT.s2 _ rfl, rfl⟩, ⟨hT.s3 _, kx_uses _ _ _⟩, h⟩
theorem shaI_glob {β : Val} {names : List Nat} {ents : List SO} {args : List SV} (hG : GlobRel globS β) : ∀ g j, globS g = some j → (shaI names ents args).known j = true ∧ ∃ l, β ((shaI names ents args).big j) = some l ∧ l.blk = g ∧ l.off = 0 := by
  intro g j hg
  have hj : j = 0 ∨ j = 1 ∨ j = 2 := by
    rcases boolC_some (show boolC (Nat.beq g 0) (some 0) _ = some j from hg) with ⟨_, h⟩ | h
    · cases h; exact .inl rfl
    rcases boolC_some h with ⟨_, h⟩ | h
    · cases h; exact .inr (.inl rfl)
    obtain ⟨_, h⟩ := boolC_opt h
    cases h; exact .inr (.inr rfl)
  rcases hj with rfl | rfl | rfl
  · exact ⟨rfl, hG g 0 hg⟩
  · exact ⟨rfl, hG g 1 hg⟩
  · exact ⟨rfl, hG g 2 hg⟩

theorem globP_S {g nm : Nat} (h : globP g = some nm) : globS g = some nm := by
  rcases boolC_some (show boolC (Nat.beq g 0) (some 0) _ = some nm from h) with ⟨h1, h2⟩ | h
  · cases h2; unfold globS; rw [h1]; rfl
  obtain ⟨h1, h2⟩ := boolC_opt h
  cases h2
  have e := beq_spec h1
  subst e
  rfl
theorem SumAt.up {f : FuncId} {s : Summ} (h : SumAt Tryz.prog globP f s) : SumAt Tryz.prog globS f s := fun O w0 β H w base args vs hH hG ha => h O w0 β H w base args vs hH (fun g nm hg => hG g nm (globP_S hg)) ha
theorem globS_lt {g nm : Nat} (hg : globS g = some nm) : nm < 3 := by
  rcases boolC_some (show boolC (Nat.beq g 0) (some 0) _ = some nm from hg) with ⟨_, h⟩ | h
  · cases h; omega
  rcases boolC_some h with ⟨_, h⟩ | h
  · cases h; omega
  obtain ⟨_, h⟩ := boolC_opt h
  cases h; omega
end Go.Proofs.YtflafdhmmcknhaaGreatDoor.Aes


/-
  The reference's hash, first part: its functions of words.
-/
namespace Go.Proofs.YtflafdhmmcknhaaGreatDoor.Aes
open Go.Sim
open Go.Proofs
variable {α : Type}

noncomputable def iw (x : W32) : SV := .int .i64 (.b32 x)
noncomputable def ux (l : List W32) : List SV := mapN iw l
noncomputable def uni (v : SV) : Option W32 := v.asInt none fun k n => boolC (eqK k .i64) (b32of n) none
theorem uni_spec {v : SV} {x : W32} (h : uni v = some x) : v = iw x := by
  unfold uni at h
  rcases asInt_cases v with ⟨k, n, rfl⟩ | hv
  · obtain ⟨hk, h⟩ := boolC_opt (show boolC (eqK k .i64) (b32of n) none = some x from h)
    rw [eqK_spec hk]
    cases n <;> first | (cases h; rfl) | cases h
  · rw [hv] at h; cases h
noncomputable def iwR (x : W32) : R SumRes := .ok ⟨iw x, [], []⟩
/-- a run's value, said in other words -/
theorem rendsI {I : Ifc} {base : Nat} {v u : SV} {H : List SO} (ho : ownsOf I.ents 0 = []) (hr : v.ren (I.out base []) = v) (hi : v.Imp u) (hu : v.uses (I.seen []) = true) : I.Ends base [] ⟨u, [], []⟩ v H :=
  ⟨by rw [hr]; exact hi, hu, by rw [ho]; trivial, trivial⟩
theorem int_imp {k : IntKind} {a b : SI} (h : a.den = b.den) : (SV.int k a).Imp (.int k b) := by
  intro γ x hx
  have hx : some (Value.int k a.den) = some x := hx
  rw [h] at hx; exact hx

/- right -/
noncomputable def rightV (x : W32) (n : Nat) : W32 := BitVec.ofInt 32 (IntKind.i64.wrap ((x.toNat : Int) * 2 ^ (32 - n)))
noncomputable def rightO (x : W32) (n : Nat) : List Prop × Option (SV × List (Option SO)) :=
  ([0 ≤ IntKind.i64.wrap ((x.toNat : Int) * 2 ^ (32 - n)), inI64 (((x >>> n).toNat : Int) + ((rightV x n).toNat : Int))], some (.int .i64 (.sym (((x >>> n).toNat : Int) + ((rightV x n).toNat : Int))), []))
noncomputable def rightN : List Nat := [7, 18, 17, 19, 6, 11, 25, 2, 13, 22]
theorem right_runs (x : W32) : mapN (fun n => outP [] (callSim cfg0 400 100 [iw x, .int .i64 (.lit (Int.ofNat n))] [])) rightN = mapN (fun n => rightO x n) rightN := by kernel_rfl
theorem right_run (x : W32) {n : Nat} (hn : n ∈ rightN) : outP [] (callSim cfg0 400 100 [iw x, .int .i64 (.lit (Int.ofNat n))] []) = rightO x n := by
  have h := right_runs x
  rw [mapN_eq, mapN_eq] at h
  exact List.map_inj_left.1 h n hn
theorem right_val (x : W32) {n : Nat} (h2 : 2 ≤ n) (h3 : n ≤ 31) : 0 ≤ IntKind.i64.wrap ((x.toNat : Int) * 2 ^ (32 - n)) ∧ (x >>> n).toNat + (rightV x n).toNat = (rrt x n).toNat := by
  have hx := x.isLt
  have hp : 2 ^ n * 2 ^ (32 - n) = 4294967296 := by rw [← Nat.pow_add, show n + (32 - n) = 32 from by omega]
  have hpn : 4 ≤ 2 ^ n := by
    have := Nat.pow_le_pow_right (show 0 < 2 by omega) h2
    simpa using this
  have hq : 2 ^ (32 - n) ≤ 1073741824 := by
    have := Nat.pow_le_pow_right (show 0 < 2 by omega) (show 32 - n ≤ 30 by omega)
    simpa using this
  have hprod : x.toNat * 2 ^ (32 - n) < 9223372036854775808 := by
    have : x.toNat * 2 ^ (32 - n) ≤ 4294967296 * 1073741824 := Nat.mul_le_mul (by omega) hq
    omega
  have hc : ((x.toNat : Int) * 2 ^ (32 - n)) = ((x.toNat * 2 ^ (32 - n) : Nat) : Int) := by simp
  have hw : IntKind.i64.wrap ((x.toNat : Int) * 2 ^ (32 - n)) = ((x.toNat * 2 ^ (32 - n) : Nat) : Int) := by
    rw [hc, wrap_i64 ⟨by omega, by omega⟩]
  refine ⟨by rw [hw]; omega, ?_⟩
  have hv : rightV x n = x <<< (32 - n) := by
    unfold rightV
    rw [hw, ← hc, shl_bv]
  rw [hv]
  unfold rrt
  rw [BitVec.toNat_or, BitVec.toNat_shiftLeft, BitVec.toNat_ushiftRight, Nat.shiftLeft_eq, Nat.shiftRight_eq_div_pow]
  have hb : x.toNat / 2 ^ n < 2 ^ (32 - n) := by
    rw [Nat.div_lt_iff_lt_mul (by omega), Nat.mul_comm, hp]; exact hx
  have hm : x.toNat * 2 ^ (32 - n) % 2 ^ 32 = 2 ^ (32 - n) * (x.toNat % 2 ^ n) := by
    rw [Nat.mul_comm, show (2 : Nat) ^ 32 = 2 ^ (32 - n) * 2 ^ n from by rw [Nat.mul_comm, hp]]
    exact Nat.mul_mod_mul_left _ _ _
  rw [hm, ← Nat.two_pow_add_eq_or_of_lt hb]
  omega
noncomputable def rightS : Summ := fun args _ _ => args2 args fun v u => optC (uni v) (.stuck 760) fun x => optC (litI u) (.stuck 760) fun n => boolC (memN n rightN) (iwR (rrt x n)) (.stuck 760)
theorem rightN_le {n : Nat} (h : n ∈ rightN) : 2 ≤ n ∧ n ≤ 31 := by
  unfold rightN at h
  simp only [List.mem_cons, List.not_mem_nil, or_false] at h
  omega
theorem rightOK : SumOK Tryz.prog 100 rightS := by
  intro glob O w0 β H w base args vs hH hG ha
  refine args2_sat fun v u hv => optC_only fun x hx => optC_only fun n hn => boolC_only fun hm => ?_
  rw [hv, uni_spec hx, litI_spec hn] at ha
  have hm := memN_iff.1 hm
  obtain ⟨h1, h2⟩ := rightN_le hm
  obtain ⟨h3, h4⟩ := right_val x h1 h2
  have hb := (rrt x n).isLt
  exact sum_out cfg0OK rfl 400 hH ⟨[], [], [iw x, .int .i64 (.lit (Int.ofNat n))]⟩ ha (fits0 rfl) [] (by simp) (by simp) (right_run x hm) (all_cons h3 (all_cons ⟨by omega, by omega⟩ all_nil)) fun _ _ => rendsI rfl rfl (int_imp (by show (((x >>> n).toNat : Int) + ((rightV x n).toNat : Int)) = ((rrt x n).toNat : Int); omega)) rfl

/- pick, most -/
noncomputable def pure3I (F : W32 → W32 → W32 → W32) : Summ := fun args _ _ => args3 args fun a b c => optC (uni a) (.stuck 761) fun x => optC (uni b) (.stuck 761) fun y => optC (uni c) (.stuck 761) fun z => iwR (F x y z)
theorem pure3IOK {f : FuncId} {F : W32 → W32 → W32 → W32} (hrun : ∀ x y z : W32, ∃ ps v, outP [] (callSim cfg0 200 f [iw x, iw y, iw z] []) = (ps, some (.int .i64 v, [])) ∧ (∀ p ∈ ps, p) ∧ v.den = ((F x y z).toNat : Int)) : SumOK Tryz.prog f (pure3I F) := by
  intro glob O w0 β H w base args vs hH hG ha
  refine args3_sat fun a b c hv => optC_only fun x hx => optC_only fun y hy => optC_only fun z hz => ?_
  rw [hv, uni_spec hx, uni_spec hy, uni_spec hz] at ha
  obtain ⟨ps, v, h1, h2, h3⟩ := hrun x y z
  exact sum_out cfg0OK rfl 200 hH ⟨[], [], [iw x, iw y, iw z]⟩ ha (fits0 rfl) [] (by simp) (by simp) h1 h2 fun _ _ => rendsI rfl rfl (int_imp h3) rfl
theorem most_run (x y z : W32) : outP [] (callSim cfg0 200 102 [iw x, iw y, iw z] []) = ([], some (iw (majW x y z), [])) := by kernel_rfl
theorem mostOK : SumOK Tryz.prog 102 (pure3I majW) := pure3IOK fun x y z => ⟨_, _, most_run x y z, all_nil, rfl⟩
noncomputable def pickI (e f g : W32) : Int := bitsI .xor .i64 ((e &&& f).toNat : Int) (bitsI .and .i64 (4294967295 - (e.toNat : Int)) (g.toNat : Int))
theorem pick_run (x y z : W32) : outP [] (callSim cfg0 200 101 [iw x, iw y, iw z] []) = ([inI64 (4294967295 - (x.toNat : Int))], some (.int .i64 (.sym (pickI x y z)), [])) := by kernel_rfl
theorem pickI_eq (x y z : W32) : pickI x y z = ((choiceW x y z).toNat : Int) := by
  have hn : ((BitVec.ofInt 32 4294967295 ^^^ x).toNat : Int) = 4294967295 - (x.toNat : Int) := by
    have e : BitVec.ofInt 32 4294967295 ^^^ x = ~~~x := by
      rw [show (BitVec.ofInt 32 4294967295 : BitVec 32) = BitVec.allOnes 32 from by decide, BitVec.allOnes_xor]
    rw [e, BitVec.toNat_not]
    have := x.isLt
    omega
  have h1 := bit32_spec (op := .and) (a := BitVec.ofInt 32 4294967295 ^^^ x) (b := z) rfl
  have h2 := bit32_spec (op := .xor) (a := x &&& y) (b := (BitVec.ofInt 32 4294967295 ^^^ x) &&& z) rfl
  rw [hn] at h1
  have h1 : bitsI .and .i64 (4294967295 - (x.toNat : Int)) (z.toNat : Int) = _ := Option.some.inj h1
  have h2 : bitsI .xor .i64 ((x &&& y).toNat : Int) (((BitVec.ofInt 32 4294967295 ^^^ x) &&& z).toNat : Int) = _ := Option.some.inj h2
  unfold pickI
  rw [h1]
  exact h2
theorem pickOK : SumOK Tryz.prog 101 (pure3I choiceW) := pure3IOK fun x y z => ⟨_, _, pick_run x y z, all_cons ⟨by have := x.isLt; omega, by omega⟩ all_nil, pickI_eq x y z⟩
noncomputable def cfgR1 : Cfg := cfgG globS (sumsOf [(100, rightS), (101, pure3I choiceW), (102, pure3I majW)])
theorem cfgR1OK : CfgOK cfgR1 := sumsG_ok (allS (rightOK _) (allS (pickOK _) (allS (mostOK _) (by simp))))
end Go.Proofs.YtflafdhmmcknhaaGreatDoor.Aes

