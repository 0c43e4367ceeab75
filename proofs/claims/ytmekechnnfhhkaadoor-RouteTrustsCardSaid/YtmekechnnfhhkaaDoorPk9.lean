/-
  Texts behind one another: the symbolic simulator and what it is told of the program.
-/
import Derived.Test.YtmekechnnfhhkaaDoorZRtl1
import Derived.Test.YtmekechnnfhhkaaDoorPk3
import Derived.Test.YtmekechnnfhhkaaDoorPk6
import Derived.Deep.Slices

/-
  RouteTrusts: plain facts of sorted pairs and maps of them.
-/
namespace Go.Proofs.YtmekechnnfhhkaaDoor.Aes
open Go.Sim
open Go.Proofs
open Go.Sort
variable {α : Type}

set_option maxRecDepth 1000000
/- Sorted lists. -/
def SoP (l : List Pr) : Prop := l.Pairwise fun a b => ¬ prLt b a
theorem sop_srt (l : List Pr) : SoP (srtL cfPr l) := by
  have h := List.pairwise_mergeSort (le := fun x y : Pr => !(ltOf cfPr) y x) (fun a b c h1 h2 => by
    simp only [Bool.not_eq_true'] at h1 h2 ⊢
    exact swoPr.ntrans _ _ _ h2 h1) (fun a b => by
    simp only [Bool.or_eq_true, Bool.not_eq_true']
    by_cases c : ltOf cfPr b a = false
    · exact .inl c
    · refine .inr ?_
      rw [ltPr] at c ⊢
      have c : prLt b a := by simpa using c
      exact decide_eq_false fun k => prLt_irrefl _ (prLt_trans c k)) l
  refine h.imp fun {a b} hab => ?_
  rw [ltPr] at hab
  simpa using hab
theorem srt_self {l : List Pr} (h : SoP l) : srtL cfPr l = l := by
  unfold srtL
  refine List.mergeSort_of_pairwise (h.imp fun {a b} hab => ?_)
  show (!(ltOf cfPr) b a) = true
  rw [ltPr]; simpa using hab
theorem mem_ins {l : List Pr} {p x : Pr} : x ∈ insP l p ↔ x = p ∨ x ∈ l := by
  have h := List.takeWhile_append_dropWhile (p := fun q => decide (prLt q p)) (l := l)
  unfold insP
  conv => rhs; rw [← h]
  simp only [List.mem_append, List.mem_cons]
  constructor
  · rintro (h | h | h)
    · exact .inr (.inl h)
    · exact .inl h
    · exact .inr (.inr h)
  · rintro (h | h | h)
    · exact .inr (.inl h)
    · exact .inl h
    · exact .inr (.inr h)
theorem ins_perm (l : List Pr) (p : Pr) : (insP l p).Perm (p :: l) := by
  have h := List.takeWhile_append_dropWhile (p := fun q => decide (prLt q p)) (l := l)
  unfold insP
  refine List.perm_middle.trans ?_
  rw [h]
theorem sop_ins {l : List Pr} (p : Pr) (h : SoP l) : SoP (insP l p) := by
  induction l with
  | nil => exact List.pairwise_singleton _ _
  | cons a l ih =>
    obtain ⟨h1, h2⟩ := List.pairwise_cons.1 h
    by_cases c : prLt a p
    · have e : insP (a :: l) p = a :: insP l p := by
        unfold insP
        rw [List.takeWhile_cons_of_pos (by simpa using c), List.dropWhile_cons_of_pos (by simpa using c)]
        rfl
      rw [e]
      refine List.pairwise_cons.2 ⟨fun b hb => ?_, ih h2⟩
      rcases mem_ins.1 hb with rfl | hb
      · exact fun k => prLt_irrefl _ (prLt_trans c k)
      · exact h1 b hb
    · have e : insP (a :: l) p = p :: a :: l := by
        unfold insP
        rw [List.takeWhile_cons_of_neg (by simpa using c), List.dropWhile_cons_of_neg (by simpa using c)]
        rfl
      rw [e]
      refine List.pairwise_cons.2 ⟨fun b hb => ?_, h⟩
      rcases List.mem_cons.1 hb with rfl | hb
      · exact c
      · intro k
        rcases prLt_tri a p with k1 | rfl | k1
        · exact c k1
        · exact h1 b hb k
        · exact h1 b hb (prLt_trans k k1)
theorem mem_del {l : List Pr} (hn : l.Nodup) {p x : Pr} : x ∈ delP l p ↔ x ∈ l ∧ x ≠ p := by
  unfold delP
  induction l with
  | nil => simp
  | cons a l ih =>
    rw [List.nodup_cons] at hn
    by_cases c : a = p
    · rw [List.eraseP_cons_of_pos (by simpa using c), List.mem_cons]
      subst c
      constructor
      · exact fun h => ⟨.inr h, fun e => hn.1 (e ▸ h)⟩
      · rintro ⟨h | h, h'⟩
        · exact absurd h h'
        · exact h
    · rw [List.eraseP_cons_of_neg (by simpa using c), List.mem_cons, List.mem_cons, ih hn.2]
      constructor
      · rintro (h | h)
        · exact ⟨.inl h, fun e => c (h ▸ e)⟩
        · exact ⟨.inr h.1, h.2⟩
      · rintro ⟨h | h, h'⟩
        · exact .inl h
        · exact .inr ⟨h, h'⟩
theorem sop_del {l : List Pr} (p : Pr) (h : SoP l) : SoP (delP l p) := h.sublist List.eraseP_sublist
theorem nodup_del {l : List Pr} (p : Pr) (h : l.Nodup) : (delP l p).Nodup := h.sublist List.eraseP_sublist
/- Rows. -/
theorem flat_ok (l : List Pr) : PrV (flatV encPr 2 l) l.length ∧ prL (flatV encPr 2 l) l.length = l := by
  have hp : ∀ i (h : i < l.length), prAt (flatV encPr 2 l) i = l[i] := fun i h => by
    obtain ⟨h1, h2⟩ := flat_pr l h
    unfold prAt
    rw [h1, h2]; rfl
  refine ⟨fun i hi => ?_, ?_⟩
  · rw [hp i hi]; exact flat_pr l hi
  · refine List.ext_getElem (by rw [prL_length]) fun i h1 h2 => ?_
    have e : (prL (flatV encPr 2 l) l.length)[i] = prAt (flatV encPr 2 l) i := by simp [prL]
    rw [e, hp i h2]
def RowOK (re : Bool) (W : Nat → Value) (m : Nat) (l : List Pr) : Prop := boolC re (l = []) (PrV W m ∧ prL W m = l)
theorem tr_ok {re : Bool} {W : Nat → Value} {m : Nat} {l : List Pr} (h : RowOK re W m l) (hl : l.length ≤ 1000) : (tR re W m).ok ∧ (tR re W m).list = l ∧ (tR re W m).n = l.length := by
  cases re with
  | true =>
    have h : l = [] := h
    subst h
    exact ⟨⟨Nat.le_refl _, by show (0 : Nat) ≤ _; omega, fun i hi => by have hi : i < 0 := hi; omega⟩, rfl, rfl⟩
  | false =>
    obtain ⟨h1, h2⟩ : PrV W m ∧ prL W m = l := h
    have hm : m = l.length := by rw [← h2, prL_length]
    exact ⟨⟨by show m ≤ m * 2 / 2; omega, by show m ≤ _; omega, h1⟩, h2, hm⟩
theorem row_flat {l : List Pr} {m : Nat} (h : l.length = m) : RowOK false (flatV encPr 2 l) m l := by subst h; exact flat_ok l
/- Maps. -/
/-- a map of pairs, all trusted -/
structure MapP (es : List MapEntry) (c : Nat) : Prop where
  ok : MapOK es c
  key : ∀ e ∈ es, e.key = kyP (prK e.key)
  val : ∀ e ∈ es, e.val = .bool true
  nd : (keysL es).Nodup
theorem isKey_iff {K : Value} {e : MapEntry} : isKey K e = true ↔ e.key = K := by unfold isKey; simp
theorem hasK_iff {es : List MapEntry} (h : ∀ e ∈ es, e.key = kyP (prK e.key)) {p : Pr} : hasK es (kyP p) = true ↔ p ∈ srL es := by
  unfold srL
  rw [srt_perm.mem_iff]
  unfold hasK keysL
  rw [List.any_eq_true, List.mem_map]
  constructor
  · rintro ⟨e, he, hk⟩
    refine ⟨e, he, ?_⟩
    rw [isKey_iff.1 hk]; rfl
  · rintro ⟨e, he, hk⟩
    exact ⟨e, he, isKey_iff.2 (by rw [h e he, hk])⟩
theorem getK_true {es : List MapEntry} (h : ∀ e ∈ es, e.val = .bool true) {K : Value} (hk : hasK es K = true) : vBoo (getK es K) = true := by
  obtain ⟨j, e, _, _, _, h2, h3⟩ := hasK_true hk
  rw [h2, h e h3]; rfl
theorem MapP.ins {es : List MapEntry} {c : Nat} (h : MapP es c) {p : Pr} (hp : p ∉ srL es) : MapP (insK es c (kyP p) (.bool true)) (c + 1) ∧ srL (insK es c (kyP p) (.bool true)) = insP (srL es) p := by
  have hk : keysL (insK es c (kyP p) (.bool true)) = keysL es ++ [p] := by unfold keysL insK; rw [List.map_append]; rfl
  have hp' : p ∉ keysL es := fun k => hp (by unfold srL; exact srt_perm.mem_iff.2 k)
  refine ⟨⟨⟨?_, fun e he => ?_⟩, fun e he => ?_, fun e he => ?_, ?_⟩, ?_⟩
  · unfold insK
    rw [List.map_append, List.nodup_append]
    refine ⟨h.ok.nd, by simp, fun a ha b hb => ?_⟩
    obtain ⟨e, he, rfl⟩ := List.mem_map.1 ha
    have hb : b = c := by simpa using hb
    have := h.ok.lt e he
    omega
  · rcases List.mem_append.1 he with he | he
    · have := h.ok.lt e he; omega
    · obtain rfl := List.mem_singleton.1 he
      exact Nat.lt_succ_self c
  · rcases List.mem_append.1 he with he | he
    · exact h.key e he
    · obtain rfl := List.mem_singleton.1 he
      rfl
  · rcases List.mem_append.1 he with he | he
    · exact h.val e he
    · obtain rfl := List.mem_singleton.1 he
      rfl
  · rw [hk, List.nodup_append]
    refine ⟨h.nd, by simp, fun a ha b hb => ?_⟩
    obtain rfl : b = p := by simpa using hb
    exact fun e => hp' (e ▸ ha)
  · have e1 : srL (insK es c (kyP p) (.bool true)) = srtL cfPr (insP (srL es) p) := by
      show srtL cfPr (keysL _) = _
      rw [hk]
      refine srt_congr ((List.perm_append_singleton p (keysL es)).trans ?_)
      exact ((List.Perm.cons p (srt_perm (l := keysL es)).symm).trans (ins_perm (srL es) p).symm)
    rw [e1]
    exact srt_self (sop_ins p (sop_srt _))
theorem srL_nodup {es : List MapEntry} {c : Nat} (h : MapP es c) : (srL es).Nodup := (srt_perm (l := keysL es)).nodup_iff.2 h.nd
theorem keys_del {es : List MapEntry} (h : ∀ e ∈ es, e.key = kyP (prK e.key)) (p : Pr) : keysL (delK es (kyP p)) = delP (keysL es) p := by
  unfold keysL delK delP
  induction es with
  | nil => rfl
  | cons e es ih =>
    have h1 := h e (by simp)
    have ih := ih fun x hx => h x (by simp [hx])
    by_cases c : prK e.key = p
    · rw [List.eraseP_cons_of_pos (isKey_iff.2 (by rw [h1, c])), List.map_cons, List.eraseP_cons_of_pos (by simpa using c)]
    · rw [List.eraseP_cons_of_neg (by rw [isKey_iff]; intro k; exact c (by rw [k]; rfl)), List.map_cons, List.map_cons, List.eraseP_cons_of_neg (by simpa using c), ih]
theorem MapP.del {es : List MapEntry} {c : Nat} (h : MapP es c) (p : Pr) : MapP (delK es (kyP p)) c ∧ srL (delK es (kyP p)) = delP (srL es) p := by
  have hs : (delK es (kyP p)).Sublist es := List.eraseP_sublist
  have hk := keys_del h.key p
  refine ⟨⟨⟨h.ok.nd.sublist (hs.map _), fun e he => h.ok.lt e (hs.subset he)⟩, fun e he => h.key e (hs.subset he), fun e he => h.val e (hs.subset he), by rw [hk]; exact nodup_del p h.nd⟩, ?_⟩
  have e1 : srL (delK es (kyP p)) = srtL cfPr (delP (srL es) p) := by
    show srtL cfPr (keysL _) = _
    rw [hk]
    refine srt_congr (perm_nodup (nodup_del p h.nd) (nodup_del p (srL_nodup h)) fun x => ?_)
    rw [mem_del h.nd, mem_del (srL_nodup h)]
    exact and_congr (srt_perm (l := keysL es)).mem_iff.symm Iff.rfl
  rw [e1]
  exact srt_self (sop_del p (sop_srt _))
theorem MapP.one (p : Pr) : MapP [⟨kyP p, .bool true, 0⟩] 1 ∧ srL [⟨kyP p, .bool true, 0⟩] = [p] := by
  refine ⟨⟨⟨by simp, fun e he => ?_⟩, fun e he => ?_, fun e he => ?_, by simp [keysL]⟩, ?_⟩
  · obtain rfl := List.mem_singleton.1 he; exact Nat.zero_lt_one
  · obtain rfl := List.mem_singleton.1 he; rfl
  · obtain rfl := List.mem_singleton.1 he; rfl
  · exact srt_self (l := [p]) (List.pairwise_singleton _ _)
theorem srL_len (es : List MapEntry) : (srL es).length = es.length := by
  unfold srL
  rw [srt_perm.length_eq]; simp [keysL]
/- The two realms that are put in. -/
theorem co_ok : rlsP (twS coS otS) := by
  refine tw_rls.2 ⟨⟨?_, ?_, fun i hi => ?_⟩, ⟨?_, ?_, fun i hi => ?_⟩⟩
  · show 1 ≤ (4 : Nat); omega
  · show (4 : Nat) ≤ 32; omega
  · have hi : i < 4 := hi
    refine .inl (.inl ?_)
    rcases (show i = 0 ∨ i = 1 ∨ i = 2 ∨ i = 3 by omega) with rfl | rfl | rfl | rfl <;> decide
  · show 1 ≤ (5 : Nat); omega
  · show (5 : Nat) ≤ 32; omega
  · have hi : i < 5 := hi
    refine .inl (.inl ?_)
    rcases (show i = 0 ∨ i = 1 ∨ i = 2 ∨ i = 3 ∨ i = 4 by omega) with rfl | rfl | rfl | rfl | rfl <;> decide
end Go.Proofs.YtmekechnnfhhkaaDoor.Aes


/-
  RouteTrusts: every round, and the law.
-/
namespace Go.Proofs.YtmekechnnfhhkaaDoor.Aes
open Go.Sim
open Go.Proofs
variable {α : Type}

set_option maxRecDepth 1000000
structure LwS where
  mn : Bool
  re : Bool
  es : List MapEntry
  c : Nat
  W : Nat → Value
  m : Nat
  i : Nat
/-- the reference's list, the map -/
def LwS.fit (a : LwS) (l : List Pr) : Prop := RowOK a.re a.W a.m l ∧ l.length ≤ 1000 ∧ boolC a.mn (l = [] ∧ a.re = true) (MapP a.es a.c ∧ l = srL a.es)
theorem cE_all {a : LwS} {l : List Pr} (h : a.fit l) {i : Nat} (hi : i < 1000000) : ∀ p ∈ cE a.mn a.re a.es a.c a.W a.m i, p := by
  obtain ⟨mn, re, es, c, W, m, _⟩ := a
  obtain ⟨h1, h2, h3⟩ := h
  obtain ⟨t1, t2, t3⟩ := tr_ok h1 h2
  refine all_cons ?_ (all_cons ?_ (all_cons ⟨by omega, by omega⟩ all_nil))
  · cases re with
    | true => exact (show (0 : Nat) = 0 / 2 * 2 from rfl)
    | false => show m * 2 = m * 2 / 2 * 2; omega
  · cases mn with
    | true =>
      obtain ⟨h4, _⟩ : l = [] ∧ re = true := h3
      show (tR re W m).n = 0
      rw [t3, h4]; rfl
    | false =>
      obtain ⟨h4, h5⟩ : MapP es c ∧ l = srL es := h3
      have := srL_len es
      exact ⟨t1, h4.ok, by rw [← this, ← h5]; omega, by rw [t2, h5]⟩
theorem hN_ok (re : Bool) (m : Nat) : hN re m := by
  cases re with
  | true => exact (show (0 : Nat) = 0 / 2 * 2 from rfl)
  | false => show m * 2 = m * 2 / 2 * 2; omega
theorem wh_any (V : Nat → Value) (i : Nat) : ∃ w, w < 6 ∧ ∀ p ∈ cW V i w, p := by
  cases h0 : wh V i 0 with
  | true => exact ⟨0, by omega, all_cons h0 (all_cons h0 all_nil)⟩
  | false =>
  cases h1 : wh V i 1 with
  | true => exact ⟨1, by omega, all_cons h0 (all_cons h1 (all_cons h1 all_nil))⟩
  | false =>
  cases h2 : wh V i 2 with
  | true => exact ⟨2, by omega, all_cons h0 (all_cons h1 (all_cons h2 all_nil))⟩
  | false =>
  cases h3 : wh V i 3 with
  | true => exact ⟨3, by omega, all_cons h0 (all_cons h1 (all_cons h2 (all_cons h3 all_nil)))⟩
  | false =>
  cases h4 : wh V i 4 with
  | true => exact ⟨4, by omega, all_cons h0 (all_cons h1 (all_cons h2 (all_cons h3 (all_cons h4 all_nil))))⟩
  | false => exact ⟨5, by omega, all_cons h0 (all_cons h1 (all_cons h2 (all_cons h3 (all_cons h4 all_nil))))⟩
/-- two realms: which way -/
inductive Two (X Y : ByteArray) : Nat → Prop
  | bad : okPr X Y = false → (∀ p ∈ cBad X Y 0, p) → Two X Y 0
  | same : okPr X Y = false → (∀ p ∈ cBad X Y 1, p) → Two X Y 1
  | ok : okPr X Y = true → (∀ {q : List Prop}, (∀ p ∈ q, p) → ∀ p ∈ cTw X Y q, p) → Two X Y 2
theorem two_any (X Y : ByteArray) : ∃ o, Two X Y o := by
  by_cases h : rlmP X ∧ rlmP Y
  · have h1 := cB_ok (tw_rls.2 h)
    by_cases h2 : X = Y
    · exact ⟨1, .same (cB_false fun k => k.2.2 h2) (all_cons (tw_ok X Y) (all_cons h1 (all_cons (decide_eq_true h2) all_nil)))⟩
    · exact ⟨2, .ok (cB_true ⟨h.1, h.2, h2⟩) fun hq => all_cons (tw_ok X Y) (all_cons h1 (all_cons (decide_eq_false h2) hq))⟩
  · exact ⟨0, .bad (cB_false fun k => h ⟨k.1, k.2.1⟩) (all_cons (tw_ok X Y) (rep_all (cB_no fun k => h (tw_rls.1 k)) 4))⟩
section
variable {V : Nat → Value} {N n : Nat} (k : Nat)
noncomputable def lwK (V : Nat → Value) (N n : Nat) (a : LwS) : Cut := lwC V N n k a.mn a.re a.es a.c a.W a.m a.i
def lwQ (n : Nat) (a : LwS) : Prop := a.i ≤ n ∧ ∃ l, a.fit l
def lwD1 : SV → List SO → Prop := fun v _ => v = .bool (.lit true)
/-- a round done -/
def RoundOK (V : Nat → Value) (N n : Nat) (a : LwS) (J : Junk) : Prop := TurnsTo cfgRT 1 (lwK k V N n) (fun a' => lwQ n a' ∧ n - a'.i < n - a.i) lwD1 ((lwK k V N n a).fill J)
variable {k}
theorem round_by {a a' : LwS} {J : Junk} {names : List Nat} {ds : List Bool} {ps : List Prop} {q : Nat} {l' : List Pr} (hi : a.i < n) (hi' : a'.i = a.i + 1) (hf : a'.fit l')
    (h : ∀ z, lwD V N n k J z a.es a.c a.W a.m a.i a.mn a.re ds names = (ps, seN names q (lwK k V N n a'))) (hm : a'.mn = a.mn) (hn : nmOK names a.mn a.re a'.re) (hp : ∀ p ∈ ps, p) : RoundOK k V N n a J := by
  refine to_turn (M := lwC V N n k a.mn a.re a.es a.c a.W a.m a.i) (some (1, 3)) 20000 a' ⟨⟨by omega, l', hf⟩, by omega⟩ h ?_ hp
  show boolC (namesOK _ _ _ (lwC V N n k a'.mn a'.re a'.es a'.c a'.W a'.m a'.i)) (allN noLoopE (lwC V N n k a'.mn a'.re a'.es a'.c a'.W a'.m a'.i).heap) false = true
  rw [hm]; exact hn _ _ _ _ _ _ _ _ _ _ _ _ _ _
theorem lwA_all (hN : n ≤ N) (hV : ActV V n) {i : Nat} (hi : i < n) {q : List Prop} (hq : ∀ p ∈ q, p) : ∀ p ∈ lwA V N n i q, p := by
  obtain ⟨⟨x, h0⟩, h1, h2⟩ := hV i hi
  refine all_cons (decide_eq_true (by omega)) (all_cons ⟨by omega, by omega⟩ (all_cons (by omega) (all_cons ⟨?_, ?_, ?_, trivial⟩ hq)))
  · rw [Nat.add_zero, h0]; exact fun _ => rfl
  · rw [h1]; exact fitS _
  · rw [h2]; exact fitS _
theorem round_some {a : LwS} {l : List Pr} (J : Junk) (hN1 : n ≤ N) (hn : n ≤ 40) (hV : ActV V n) (hs : ∀ i, i < n → (aFr V i).size ≤ 60 ∧ (aTo V i).size ≤ 60) (hi : a.i < n) (hf : a.fit l) (hmn : a.mn = false) : RoundOK k V N n a J := by
  obtain ⟨mn, re, es, c, W, m, i⟩ := a
  obtain rfl : mn = false := hmn
  have hi : i < n := hi
  have hf0 := hf
  obtain ⟨h1, h2, h3⟩ := hf
  obtain ⟨hM, rfl⟩ : MapP es c ∧ l = srL es := h3
  have h1 : RowOK re W m (srL es) := h1
  obtain ⟨t1, t2, t3⟩ := tr_ok h1 h2
  have hz := hs i hi
  have hlen := srL_len es
  have hE : ∀ p ∈ cE false re es c W m i, p := cE_all hf0 (by omega)
  have hR : ∀ {q : List Prop}, (∀ p ∈ q, p) → ∀ p ∈ cR re W m (aFr V i) (aTo V i) q, p := fun hq => all_cons (hN_ok re m) (all_cons ⟨t1, by omega, by omega⟩ hq)
  have hX : ∀ (w : Nat), (∀ p ∈ cW V i w, p) → ∀ {q : List Prop}, (∀ p ∈ q, p) → ∀ p ∈ lwX V N n i w q, p := fun w hw q hq => lwA_all hN1 hV hi (app_all hw hq)
  have hfit : (⟨false, re, es, c, W, m, i + 1⟩ : LwS).fit (srL es) := ⟨h1, h2, hM, rfl⟩
  have hkey : ∀ p : Pr, hasK es (pK p.1 p.2) = true ↔ p ∈ srL es := fun p => hasK_iff hM.key (p := p)
  have hHas : ∀ {p : Pr} {b : Bool}, hasK es (pK p.1 p.2) = b → hasP re W m p.1 p.2 b := fun {p b} hb => by
    show cB (p ∈ (tR re W m).list) = b
    rw [t2]
    cases b with
    | true => exact cB_true ((hkey p).1 hb)
    | false => exact cB_false fun hm => by rw [(hkey p).2 hm] at hb; cases hb
  generalize hXe : aFr V i = X at *
  generalize hYe : aTo V i = Y at *
  have hval : hasK es (pK X Y) = true → vBoo (getK es (pK X Y)) = true := getK_true hM.val
  obtain ⟨w, hw6, hw⟩ := wh_any V i
  obtain ⟨o, ho⟩ := two_any X Y
  have hnm := nm_4 re
  by_cases hw3 : w < 3
  · -- Trust
    have same : ∀ o', o' < 4 → (∀ p ∈ cT re es W m X Y o', p) → RoundOK k V N n ⟨false, re, es, c, W, m, i⟩ J := fun o' ho' hp => by
      refine round_by (ds := app (dW w) (dT o')) (q := 7) hi rfl hfit (fun z => ?_) rfl hnm (hX w hw (hR (app_all hp hE)))
      have := mapN_at0 (mapN_at0 (lw_T V N n k J z re es c W m i) (by omega)) (by omega)
      rw [hXe, hYe] at this
      exact this
    cases ho with
    | bad k1 k2 => exact same 0 (by omega) (all_cons k1 k2)
    | same k1 k2 => exact same 1 (by omega) (all_cons k1 k2)
    | ok k1 k2 =>
      cases hh : hasK es (pK X Y) with
      | true => exact same 2 (by omega) (all_cons k1 (all_cons (hHas (p := (X, Y)) hh) (k2 (all_cons hh (all_cons (hval hh) all_nil)))))
      | false =>
        by_cases hfu : es.length ≥ 1000
        · exact same 3 (by omega) (all_cons k1 (all_cons (hHas (p := (X, Y)) hh) (all_cons (decide_eq_true (by rw [t3]; omega)) (k2 (all_cons hh (all_cons (decide_eq_true (by omega)) all_nil))))))
        · have hnot : (X, Y) ∉ srL es := fun hm => by rw [(hkey (X, Y)).2 hm] at hh; cases hh
          obtain ⟨m1, m2⟩ := hM.ins hnot
          have hrow : RowOK false (tiW re W m X Y) ((tR re W m).n + 1) (insP (srL es) (X, Y)) := by
            unfold tiW
            rw [t2]
            exact row_flat (by rw [ins_length, t3])
          have hfit' : (⟨false, false, tiK es c X Y, c + 1, tiW re W m X Y, (tR re W m).n + 1, i + 1⟩ : LwS).fit (insP (srL es) (X, Y)) := ⟨hrow, by rw [ins_length]; omega, m1, m2.symm⟩
          have hc : ∀ p ∈ cT re es W m X Y 4, p := all_cons k1 (all_cons (hHas (p := (X, Y)) hh) (all_cons (decide_eq_false (by rw [t3]; omega)) (k2 (all_cons hh (all_cons (decide_eq_false (by omega)) (all_cons hh all_nil))))))
          refine round_by (ds := app (dW w) (dT 4)) (q := 8) hi rfl hfit' (fun z => ?_) rfl (nm_5 re false) (hX w hw (hR (app_all hc (cE_all hfit' (i := i) (by omega)))))
          have := mapN_at0 (lw_T3 V N n k J z re es c W m i) (by omega)
          rw [hXe, hYe] at this
          exact this
  by_cases hw4 : w = 3
  · -- Untrust
    subst hw4
    have same : ∀ o', o' < 3 → (∀ p ∈ cU re es W m X Y o', p) → RoundOK k V N n ⟨false, re, es, c, W, m, i⟩ J := fun o' ho' hp => by
      refine round_by (ds := app (dW 3) (dU o')) (q := 7) hi rfl hfit (fun z => ?_) rfl hnm (hX 3 hw (hR (app_all hp hE)))
      have := mapN_at0 (lw_U V N n k J z re es c W m i) (by omega)
      rw [hXe, hYe] at this
      exact this
    cases ho with
    | bad k1 k2 => exact same 0 (by omega) (all_cons k1 k2)
    | same k1 k2 => exact same 1 (by omega) (all_cons k1 k2)
    | ok k1 k2 =>
      cases hh : hasK es (pK X Y) with
      | false => exact same 2 (by omega) (all_cons k1 (all_cons (hHas (p := (X, Y)) hh) (k2 (all_cons hh all_nil))))
      | true =>
        have hin : (X, Y) ∈ srL es := (hkey (X, Y)).1 hh
        have hre : re = false := by
          cases re with
          | false => rfl
          | true =>
            have h1 : srL es = [] := h1
            rw [h1] at hin; cases hin
        subst hre
        obtain ⟨m1, m2⟩ := hM.del (X, Y)
        have hv2 : (!vBoo (getK es (pK X Y))) = false := by rw [hval hh]; rfl
        have hdl := del_length hin
        by_cases hone : (tR false W m).n = 1
        · have hnil : delP (srL es) (X, Y) = [] := List.length_eq_zero_iff.1 (by rw [hdl, ← t3, hone])
          have hfit' : (⟨false, true, delK es (pK X Y), c, W, m, i + 1⟩ : LwS).fit (delP (srL es) (X, Y)) := ⟨hnil, by rw [hnil]; exact Nat.zero_le _, m1, m2.symm⟩
          have hc : ∀ p ∈ cU false es W m X Y 3, p := all_cons k1 (all_cons (hHas (p := (X, Y)) hh) (all_cons (decide_eq_true hone) (k2 (all_cons hh (all_cons hv2 all_nil)))))
          refine to_turnM (ds := true :: app (dW 3) (dU 3)) (N := 8) (ms := [(0, 4, .slice ⟨5, .lit 0⟩ (.lit 0) (.lit 0))]) (es := []) (M := lwC V N n k false false es c W m i) (some (1, 3)) 20000 ⟨false, true, delK es (pK X Y), c, W, m, i + 1⟩ ⟨⟨hi, _, hfit'⟩, by show n - (i + 1) < n - i; omega⟩ (fun z => ?_) (nm_5 false true V N n k es c W m i _ _ _ _ _) (fun q hq p u hp hu => ?_) (fun e he => by cases he)
            (hX 3 hw (hR (app_all hc (cE_all hfit' (i := i) (by omega)))))
          · have := lw_U2 V N n k J z es c W m i
            rw [hXe, hYe] at this
            exact this
          · obtain rfl : q = (0, 4, .slice ⟨5, .lit 0⟩ (.lit 0) (.lit 0)) := by simpa using hq
            exact tmp_set (lw_tmr V N n k (delK es (pK X Y)) c W m (i + 1) false) hp hu (fun γ x hx => hx)
        · have hrow : RowOK false (tdW false W m X Y) ((tR false W m).n - 1) (delP (srL es) (X, Y)) := by
            unfold tdW
            rw [t2]
            exact row_flat (by rw [hdl, t3])
          have hfit' : (⟨false, false, delK es (pK X Y), c, tdW false W m X Y, (tR false W m).n - 1, i + 1⟩ : LwS).fit (delP (srL es) (X, Y)) := ⟨hrow, by rw [hdl]; omega, m1, m2.symm⟩
          have hc : ∀ p ∈ cU false es W m X Y 4, p := all_cons k1 (all_cons (hHas (p := (X, Y)) hh) (all_cons (decide_eq_false hone) (k2 (all_cons hh (all_cons hv2 all_nil)))))
          refine round_by (ds := app (dW 3) (dU 4)) (q := 8) hi rfl hfit' (fun z => ?_) rfl (nm_5 false false) (hX 3 hw (hR (app_all hc (cE_all hfit' (i := i) (by omega)))))
          have := lw_U3 V N n k J z es c W m i
          rw [hXe, hYe] at this
          exact this
  by_cases hw5 : w = 4
  · -- Copy
    subst hw5
    have hb : ∃ b, b < 3 ∧ (∀ p ∈ cB1 es b, p) ∧ ∀ e ∈ es2 es c b, e.val = .bool true := by
      cases hh : hasK es coK with
      | true => exact ⟨0, by omega, all_cons hh (all_cons (getK_true hM.val hh) all_nil), hM.val⟩
      | false =>
        by_cases hfu : es.length ≥ 1000
        · exact ⟨1, by omega, all_cons hh (all_cons (decide_eq_true (by omega)) all_nil), hM.val⟩
        · refine ⟨2, by omega, all_cons hh (all_cons (decide_eq_false (by omega)) (all_cons hh all_nil)), fun e he => ?_⟩
          rcases List.mem_append.1 (show e ∈ es ++ [⟨coK, .bool true, c⟩] from he) with he | he
          · exact hM.val e he
          · obtain rfl := List.mem_singleton.1 he
            rfl
    obtain ⟨b, hb3, hb, hbv⟩ := hb
    have fin : ∀ u, u < 4 → (∀ p ∈ cV X Y (es2 es c b) u, p) → RoundOK k V N n ⟨false, re, es, c, W, m, i⟩ J := fun u hu hp => by
      refine round_by (ds := app (dW 4) (app (dB b) (dV u))) (q := 11) hi rfl hfit (fun z => ?_) rfl (nm_6 re) (hX 4 hw (all_cons (tw_ok coS otS) (all_cons (cB_ok co_ok) (app_all hb (app_all hp hE)))))
      have := mapN_at0 (mapN_at0 (lw_C V N n k J z re es c W m i) (by omega)) (by omega)
      rw [hXe, hYe] at this
      exact this
    cases ho with
    | bad k1 k2 => exact fin 0 (by omega) k2
    | same k1 k2 => exact fin 1 (by omega) k2
    | ok k1 k2 =>
      cases hh : hasK (es2 es c b) (pK X Y) with
      | false => exact fin 2 (by omega) (k2 (all_cons hh all_nil))
      | true => exact fin 3 (by omega) (k2 (all_cons hh (all_cons (by rw [getK_true hbv hh]; rfl) all_nil)))
  · obtain rfl : w = 5 := by omega
    have hd : (mtB es X Y == cB ((tR re W m).has (X, Y))) = true := by
      unfold mtB
      cases hh : hasK es (pK X Y) with
      | true =>
        have := hHas (p := (X, Y)) hh
        rw [show cB ((tR re W m).has (X, Y)) = true from this, hval hh]; rfl
      | false =>
        have := hHas (p := (X, Y)) hh
        rw [show cB ((tR re W m).has (X, Y)) = false from this]; rfl
    refine round_by (ds := app (dW 5) [true]) (q := 5) hi rfl hfit (fun z => ?_) rfl hnm (hX 5 hw (all_cons (hN_ok re m) (all_cons t1 (all_cons hd hE))))
    have := lw_D V N n k J z re es c W m i
    rw [hXe, hYe] at this
    exact this
theorem round_none {a : LwS} {l : List Pr} (J : Junk) (hN1 : n ≤ N) (hn : n ≤ 40) (hV : ActV V n) (hs : ∀ i, i < n → (aFr V i).size ≤ 60 ∧ (aTo V i).size ≤ 60) (hi : a.i < n) (hf : a.fit l) (hmn : a.mn = true) : RoundOK k V N n a J := by
  obtain ⟨mn, re, es, c, W, m, i⟩ := a
  obtain rfl : mn = true := hmn
  have hi : i < n := hi
  have hf0 := hf
  obtain ⟨h1, h2, h3⟩ := hf
  obtain ⟨rfl, rfl⟩ : l = [] ∧ re = true := h3
  have h1 : RowOK true W m [] := h1
  obtain ⟨t1, t2, t3⟩ := tr_ok h1 h2
  have hz := hs i hi
  have hE : ∀ p ∈ cE true true es c W m i, p := cE_all hf0 (by omega)
  have hR : ∀ {q : List Prop}, (∀ p ∈ q, p) → ∀ p ∈ cR true W m (aFr V i) (aTo V i) q, p := fun hq => all_cons (hN_ok true m) (all_cons ⟨t1, by omega, by omega⟩ hq)
  have hX : ∀ (w : Nat), (∀ p ∈ cW V i w, p) → ∀ {q : List Prop}, (∀ p ∈ q, p) → ∀ p ∈ lwX V N n i w q, p := fun w hw q hq => lwA_all hN1 hV hi (app_all hw hq)
  have hfit : (⟨true, true, es, c, W, m, i + 1⟩ : LwS).fit [] := ⟨h1, h2, rfl, rfl⟩
  have hHas : ∀ p : Pr, hasP true W m p.1 p.2 false := fun p => by
    show cB (p ∈ (tR true W m).list) = false
    rw [t2]
    exact cB_false fun hm => by cases hm
  generalize hXe : aFr V i = X at *
  generalize hYe : aTo V i = Y at *
  obtain ⟨w, hw6, hw⟩ := wh_any V i
  obtain ⟨o, ho⟩ := two_any X Y
  by_cases hw3 : w < 3
  · have same : ∀ o', o' < 2 → (∀ p ∈ cTn X Y o', p) → RoundOK k V N n ⟨true, true, es, c, W, m, i⟩ J := fun o' ho' hp => by
      refine round_by (ds := app (dW w) (dTn o')) (q := 6) hi rfl hfit (fun z => ?_) rfl nm_3 (hX w hw (hR (app_all hp hE)))
      have := mapN_at0 (mapN_at0 (lw_Tn V N n k J z es c W m i) (by omega)) (by omega)
      rw [hXe, hYe] at this
      exact this
    cases ho with
    | bad k1 k2 => exact same 0 (by omega) (all_cons k1 k2)
    | same k1 k2 => exact same 1 (by omega) (all_cons k1 k2)
    | ok k1 k2 =>
      obtain ⟨m1, m2⟩ := MapP.one (X, Y)
      have hrow : RowOK false (tiW true W m X Y) 1 (insP [] (X, Y)) := by
        unfold tiW
        rw [t2]
        exact row_flat rfl
      have hfit' : (⟨false, false, onE1 X Y, 1, tiW true W m X Y, 1, i + 1⟩ : LwS).fit (insP [] (X, Y)) := ⟨hrow, by show (1 : Nat) ≤ 1000; omega, m1, m2.symm⟩
      refine to_turn (ds := true :: app (dW w) (true :: repN false 4)) (N := 8) (M := lwC V N n k false false es c W m i) (some (1, 3)) 20000 ⟨false, false, onE1 X Y, 1, tiW true W m X Y, 1, i + 1⟩ ⟨⟨hi, _, hfit'⟩, by show n - (i + 1) < n - i; omega⟩ (fun z => ?_) (nm_n7 V N n k es c W m i _ _ _ _ _)
        (hX w hw (hR (all_cons k1 (all_cons (hHas (X, Y)) (all_cons (rfl : false = false) (k2 (cE_all hfit' (i := i) (by omega))))))))
      have := mapN_at0 (lw_Tn3 V N n k J z es c W m i) (by omega)
      rw [hXe, hYe] at this
      exact this
  by_cases hw4 : w = 3
  · subst hw4
    have same : ∀ o', o' < 2 → (∀ p ∈ cTn X Y o', p) → RoundOK k V N n ⟨true, true, es, c, W, m, i⟩ J := fun o' ho' hp => by
      refine round_by (ds := app (dW 3) (dTn o')) (q := 6) hi rfl hfit (fun z => ?_) rfl nm_3 (hX 3 hw (hR (app_all hp hE)))
      have := mapN_at0 (lw_Un V N n k J z es c W m i) (by omega)
      rw [hXe, hYe] at this
      exact this
    cases ho with
    | bad k1 k2 => exact same 0 (by omega) (all_cons k1 k2)
    | same k1 k2 => exact same 1 (by omega) (all_cons k1 k2)
    | ok k1 k2 =>
      refine round_by (ds := app (dW 3) (true :: repN false 3)) (q := 6) hi rfl hfit (fun z => ?_) rfl nm_3 (hX 3 hw (hR (all_cons k1 (all_cons (hHas (X, Y)) (k2 hE)))))
      have := lw_Un1 V N n k J z es c W m i
      rw [hXe, hYe] at this
      exact this
  by_cases hw5 : w = 4
  · subst hw5
    have fin : ∀ u, u < 4 → (∀ p ∈ cVn X Y u, p) → RoundOK k V N n ⟨true, true, es, c, W, m, i⟩ J := fun u hu hp => by
      refine round_by (ds := app (dW 4) (false :: dVn u)) (q := 10) hi rfl hfit (fun z => ?_) rfl nm_n4 (hX 4 hw (all_cons (tw_ok coS otS) (all_cons (cB_ok co_ok) (app_all hp hE))))
      have := mapN_at0 (lw_Cn V N n k J z es c W m i) (by omega)
      rw [hXe, hYe] at this
      exact this
    cases ho with
    | bad k1 k2 => exact fin 0 (by omega) k2
    | same k1 k2 => exact fin 1 (by omega) k2
    | ok k1 k2 =>
      cases hh : (decide (X = coS) && decide (Y = otS)) with
      | false => exact fin 2 (by omega) (k2 (all_cons hh all_nil))
      | true => exact fin 3 (by omega) (k2 (all_cons hh (all_cons hh all_nil)))
  · obtain rfl : w = 5 := by omega
    have hd : (false == cB ((tR true W m).has (X, Y))) = true := by
      rw [show cB ((tR true W m).has (X, Y)) = false from hHas (X, Y)]; rfl
    refine round_by (ds := app (dW 5) [true]) (q := 4) hi rfl hfit (fun z => ?_) rfl nm_3 (hX 5 hw (all_cons (hN_ok true m) (all_cons t1 (all_cons hd hE))))
    have := lw_Dn V N n k J z es c W m i
    rw [hXe, hYe] at this
    exact this
theorem third3 (N : Nat) : N * 3 / 3 = N := by omega
theorem lw_runs (hN : n ≤ N) (hz : (n : Int) ≤ 40 → (⟨V, N, n⟩ : Pw).okA) : Runs cfgRT 3 [slP 0 n k] [rwA V N] lwD1 := by
  have hsh : ((⟨V, N * 3 / 3, n⟩ : Pw).n : Int) ≤ 40 → (⟨V, N * 3 / 3, n⟩ : Pw).okA ∧ (⟨V, N * 3 / 3, n⟩ : Pw).n ≤ 1000000 := fun h => by
    have h : (n : Int) ≤ 40 := h
    rw [third3]
    exact ⟨hz h, by show n ≤ _; omega⟩
  by_cases hp : shP ⟨V, N * 3 / 3, n⟩ 40
  · have hn : (n : Int) ≤ 40 := hp.1
    have hn' : n ≤ 40 := by omega
    have hV : ActV V n := (hz hn).2
    have hs : ∀ i, i < n → (aFr V i).size ≤ 60 ∧ (aTo V i).size ≤ 60 := hp.2
    refine runs_by cfgRTOK (lwK k V N n) (lwQ n) (fun a => n - a.i) (fun g nm hg => by cases hg) ?_ fun a ⟨hi, l, hf⟩ J => ?_
    · refine to_startM (M := lwC V N n k true true [] 0 (lsV []) 0 0) (names := nm3) (some (1, 3)) 20000 ⟨true, true, [], 0, lsV [], 0, 0⟩ ⟨Nat.zero_le _, [], rfl, Nat.zero_le _, rfl, rfl⟩ (fun z => lw_init V N n k z [] 0 (lsV []) 0) (nm_3 V N n k _ _ _ _ _ _ _ _ _ _) (fun q hq p u hp hu => ?_) (fun e he => by cases he)
        (all_cons (by rw [third3]) (all_cons hsh (all_cons (cB_ok hp) all_nil)))
      rcases List.mem_cons.1 hq with rfl | hq
      · exact tmp_set (lw_tmr V N n k [] 0 (lsV []) 0 0 true) hp hu (fun γ x hx => hx)
      · obtain rfl := List.mem_singleton.1 hq
        exact tmp_set (lw_tmp V N n k true [] 0 (lsV []) 0 0 true) hp hu (int_impS rfl)
    · by_cases hin : a.i < n
      · cases hm : a.mn with
        | true => exact round_none J hN hn' hV hs hin hf hm
        | false => exact round_some J hN hn' hV hs hin hf hm
      · exact to_end none 20000 (fun z => lw_end V N n k J z a.re a.es a.c a.W a.m a.i a.mn) (rep_all (decide_eq_false (by omega)) 2) fun H _ => rfl
  · exact runs_of (c := cfgRT) cfgRTOK (outO_ob (lw_few V N n k) (all_cons (by rw [third3]) (all_cons hsh (all_cons (cB_no hp) all_nil))) fun H2 _ => rfl)
end
end Go.Proofs.YtmekechnnfhhkaaDoor.Aes


/-
  RouteTrusts: the calls that came in; the law.
-/
namespace Go.Proofs.YtmekechnnfhhkaaDoor.Aes
open Go.Sim Go.WideShapes Go.ChangeShapes
open Go.Proofs
open Go.RowKit
variable {α : Type}

set_option maxRecDepth 1000000
/-- cells that are read alone -/
theorem start_raw {P : Program} {w : World} {β : Val} {H : List SO} (h : HeapRel P (fun _ => False) w β H w) {x : Addr} {len cap M : Nat} {V : Nat → Value} (hs : x.spot = none) (hl : len ≤ cap)
    (hx : ∀ i, i < M → w.cell? (x.add i) = some (V i)) :
    ∃ β', HeapRel P (fun _ => False) w β' (H ++ [.row (.raw V M)]) w ∧ β.le β' ∧ (slP H.length len cap).den β' = some (.slice (some x) len cap) := by
  have hsn := h.snoc (Go.Sim.Loc.mk x.block x.off 0) (.row (.raw V M)) ?_ (fun ho => by cases ho)
  · refine ⟨_, hsn.1, hsn.2, ?_⟩
    simp only [slP, SV.den, SA.den, SC.den, Val.upd_same, Option.map_some, Option.bind_some, SN.den, Nat.add_zero, sliceV]
    cases x; cases hs
    exact if_pos hl
  · refine ⟨_, (List.range M).map V, Val.upd_same .., ⟨by simp, fun i y hy => ?_⟩, fun i y hy => ?_⟩
    · rw [List.getElem?_map] at hy
      cases hi : (List.range M)[i]? with
      | none => rw [hi] at hy; cases hy
      | some j =>
        rw [hi] at hy; cases hy
        obtain ⟨h1, h2⟩ := List.getElem?_eq_some_iff.1 hi
        rw [List.getElem_range] at h2
        subst h2; rfl
    · rw [List.getElem?_map] at hy
      cases hi : (List.range M)[i]? with
      | none => rw [hi] at hy; cases hy
      | some j =>
        rw [hi] at hy; cases hy
        obtain ⟨h1, h2⟩ := List.getElem?_eq_some_iff.1 hi
        rw [List.getElem_range] at h2
        subst h2
        have hi : i < M := by simpa using h1
        have hc := hx i hi
        have e : (x.add i : Addr) = ⟨x.block, x.off + i, none⟩ := by
          cases x; cases hs
          unfold Addr.add
          split
          · rename_i h0; rw [h0]; rfl
          · rfl
        rw [e] at hc
        refine ⟨?_, fun f => f, hc⟩
        unfold World.cell? at hc
        show x.block < w.heap.size
        by_cases hb : x.block < w.heap.size
        · exact hb
        · have hn : w.heap[x.block]? = none := Array.getElem?_eq_none (by omega)
          simp only [hn] at hc
          cases hc
/-- a slice of calls that came in -/
def ActRow (w : World) (a : Option Addr) (len cap : Nat) (V : Nat → Value) : Prop :=
  (a = none ∧ len = 0 ∧ cap = 0) ∨ ∃ x, a = some x ∧ x.spot = none ∧ len ≤ cap ∧ (∀ i, i < cap * 3 → w.cell? (x.add i) = some (V i)) ∧ ActV V cap
noncomputable def actV (q : Nat → Int × ByteArray × ByteArray) (j : Nat) : Value := if j % 3 = 0 then .int .i64 (q (j / 3)).1 else if j % 3 = 1 then .string (q (j / 3)).2.1 else .string (q (j / 3)).2.2
theorem actV_at (q : Nat → Int × ByteArray × ByteArray) (i : Nat) : actV q (i * 3) = .int .i64 (q i).1 ∧ actV q (i * 3 + 1) = .string (q i).2.1 ∧ actV q (i * 3 + 2) = .string (q i).2.2 := by
  unfold actV
  refine ⟨?_, ?_, ?_⟩
  · rw [if_pos (by omega), show i * 3 / 3 = i by omega]
  · rw [if_neg (by omega), if_pos (by omega), show (i * 3 + 1) / 3 = i by omega]
  · rw [if_neg (by omega), if_neg (by omega), show (i * 3 + 2) / 3 = i by omega]
theorem actV_ok (q : Nat → Int × ByteArray × ByteArray) (n : Nat) : ActV (actV q) n := fun i hi => by
  obtain ⟨h0, h1, h2⟩ := actV_at q i
  unfold aFr aTo
  rw [Nat.zero_add, h0, h1, h2]
  exact ⟨⟨_, rfl⟩, rfl, rfl⟩
section
variable {H : Type} {enc : TypeId × Value → H} {P : Program} {w : World} {r : Reach} {b0 base : Nat} {held : Bool}
theorem cell_acts {ts te ti tx : TypeId} {f0 f1 f2 : Field} {n : Nat} {c : Value} {y : DataW H × List MemPlace} (hs : P.underlying ts = some (.slice te)) (he : P.underlying te = some (.struct #[f0, f1, f2])) (h0 : f0.type = ti ∧ f0.offset = 0) (h1 : f1.type = tx ∧ f1.offset = 1) (h2 : f2.type = tx ∧ f2.offset = 2)
    (hi : P.underlying ti = some (.int .i64)) (hx : P.underlying tx = some .string) (ce : P.cellsOf te = 3) (ci : P.cellsOf ti = 1) (cx : P.cellsOf tx = 1) (k : DataW.trod enc P w base (fun _ => true) held n ts [c] = some y) (hsp : ∀ x l m, c = .slice (some x) l m → x.spot = none) :
    ∃ a len cap V, c = .slice a len cap ∧ ActRow w a len cap V := by
  rcases Go.Deep.open_slice hs k with ⟨hc, _⟩ | ⟨x, l, m, q, n', D, Pl, hc, _, hl, _, hq, _, hcell⟩
  · obtain rfl : c = .slice none 0 0 := by simpa using hc
    exact ⟨none, 0, 0, fun _ => .bool true, rfl, .inl ⟨rfl, rfl, rfl⟩⟩
  · obtain rfl : c = .slice (some x) l m := by simpa using hc
    rw [if_pos rfl] at hq
    subst hq
    have each : ∀ i, i < q → ∃ p : Int × ByteArray × ByteArray, w.cell? (x.add (i * 3)) = some (.int .i64 p.1) ∧ w.cell? (x.add (i * 3 + 1)) = some (.string p.2.1) ∧ w.cell? (x.add (i * 3 + 2)) = some (.string p.2.2) := by
      intro i hiq
      obtain ⟨cs', g1, g2⟩ := hcell i hiq
      rw [ce] at g1
      obtain ⟨_, hlen, hcl⟩ := World.cells?_some g1
      obtain ⟨xs, k', _, _, _, hxl, hf⟩ := DataW.trod_struct he g2
      match xs, hxl, cs', hlen with
      | [y0, y1, y2], _, [v0, v1, v2], _ =>
        have k0 := hf 0 f0 rfl
        have k1 := hf 1 f1 rfl
        have k2 := hf 2 f2 rfl
        rw [h0.1, h0.2, ci] at k0
        rw [h1.1, h1.2, cx] at k1
        rw [h2.1, h2.2, cx] at k2
        obtain ⟨z, rfl⟩ := cell_int hi (show DataW.trod enc P w base (fun _ => true) held k' ti [v0] = some y0 from k0)
        obtain ⟨s, rfl⟩ := cell_str hx (show DataW.trod enc P w base (fun _ => true) held k' tx [v1] = some y1 from k1)
        obtain ⟨t, rfl⟩ := cell_str hx (show DataW.trod enc P w base (fun _ => true) held k' tx [v2] = some y2 from k2)
        have e0 := hcl 0 (by omega)
        have e1 := hcl 1 (by omega)
        have e2 := hcl 2 (by omega)
        rw [Go.Deep.add_add] at e0 e1 e2
        exact ⟨(z, s, t), by simpa using e0, by simpa using e1, by simpa using e2⟩
    obtain ⟨p, hp⟩ := Go.Deep.choose_lt each
    refine ⟨some x, l, q, actV p, rfl, .inr ⟨x, rfl, hsp _ _ _ rfl, hl, fun j hj => ?_, actV_ok p q⟩⟩
    obtain ⟨e0, e1, e2⟩ := hp (j / 3) (by omega)
    obtain ⟨v0, v1, v2⟩ := actV_at p (j / 3)
    rcases (show j = j / 3 * 3 ∨ j = j / 3 * 3 + 1 ∨ j = j / 3 * 3 + 2 by omega) with c | c | c
    · rw [c, v0]; exact e0
    · rw [c, v1]; exact e1
    · rw [c, v2]; exact e2
end
theorem trusts_law {w : World} {a : Option Addr} {len cap : Nat} {V : Nat → Value} (hr : ActRow w a len cap V) :
    Calls Tryd.prog 3 #[.slice a len cap] w fun e w' => e = .returned (.bool true) ∧ Below w.heap.size w w' := by
  rcases hr with ⟨rfl, rfl, rfl⟩ | ⟨x, rfl, hs, hl, hx, hV⟩
  · have ha : SV.denL (fun _ => none) [.nilSlice] = some [.slice none 0 0] := rfl
    exact law_by cfgRTOK 20000 (HeapRel.start _ _ w) (GlobRel.none _) ha [false] (lz_few false) (all_cons (cB_ok (by omega)) all_nil)
  · obtain ⟨β, hH, _, hd⟩ := start_raw (HeapRel.start Tryd.prog (fun _ => False) w) hs hl hx
    have ha : SV.denL β [slP 0 len cap] = some [.slice (some x) len cap] := denL_cons.2 ⟨_, _, hd, rfl, rfl⟩
    exact law_runs hH (GlobRel.none _) ha (lw_runs (k := cap) (N := cap) hl fun _ => ⟨hl, fun i hi => hV i (Nat.lt_of_lt_of_le hi hl)⟩)
end Go.Proofs.YtmekechnnfhhkaaDoor.Aes

