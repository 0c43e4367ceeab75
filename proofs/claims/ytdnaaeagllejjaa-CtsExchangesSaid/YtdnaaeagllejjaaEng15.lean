/-
  The symbolic simulator, fifteenth part: append and copy.
-/
import Derived.Test.YtdnaaeagllejjaaEng14
namespace Go.Sim
variable {α : Type}

section
variable {P : Program} {O : Nat → Prop} {w0 : World} {β : Val} {H : List SO} {w : World} {base : Nat}

theorem blt_lt {a b : Nat} (h : Nat.blt a b = true) : a < b := Nat.le_of_ble_eq_true h
theorem lenOf_slice {A : Option Addr} {l c n : Nat} (h : ∀ (P : Program) (w' : World), (Builtin.lenOf (.slice A l c)).run P w' = .ok n w') (P : Program) (w : World) : n = l := by
  have := h P w
  simp only [Builtin.lenOf, Sem.run_pure, Result.ok.injEq, and_true] at this
  exact this.symm
/-- the setting of an append whose numbers are known -/
structure ApSet (P : Program) (w : World) (tys : Array TypeId) (st elem : TypeId) (i : TypeInfo) (z : Value) (x : Value) (xs : List Value) (n : Nat) : Prop where
  ht : tys[0]? = some st
  hd : P.underlying st = some (.slice elem)
  hi : P.info? elem = some i
  hz : i.zero = some z
  hzl : z.cells.size = i.size
  hm : plainA P tys = true
  hn : (Builtin.lenOf x).run P w = .ok n w
  hx : ∀ w' : World, w'.heap = w.heap → (Builtin.firstCells i.size n x).run P w' = .ok xs.toArray w'
  hxl : xs.length = n * i.size
theorem apLit_sat (hr : HeapRel0 P O w0 β H w) {tys : Array TypeId} {st elem ty : TypeId} {i : TypeInfo} {z x : Value} {xs : List Value} {n : Nat} (S : ApSet P w tys st elem i z x xs n) {new : List SV} (hnew : SV.denL β new = some xs)
    {a : SA} {A : Addr} {len c : Nat} (hA : a.den β = some A) (hlc : len ≤ c) (hb1 : (len + n) * i.bytes < 70368744177664) (hb2 : len + n < 70368744177664) {res : Result Next}
    (hres : ∀ v w', (Builtin.append_ tys ty #[.slice (some A) len c, x]).run P w = .ok v w' → res = .ok (.value v) w') :
    (apLit H base elem i.size a len c n new).Sat (OpSem P H β w base res) := by
  refine R.Sat.boolC (fun hle => R.Sat.boolC (fun h0 => ?_) fun h0 => R.Sat.boolC (fun hsc => entry_sat fun e he => ?_) fun _ => trivial) fun hgt => ?_
  · have hn0 : n = 0 := Nat.eq_of_beq_eq_true h0
    subst hn0
    have hxs : xs = [] := List.eq_nil_of_length_eq_zero (by rw [S.hxl]; simp)
    subst hxs
    have := run_append_place (ty := ty) (bs := some A) (sLen := len) (sCap := c) (w' := w) S.ht S.hd S.hi S.hm S.hn (S.hx w rfl) (by omega) rfl
    refine sem_val (hres _ _ this) ?_
    rw [den_slice]
    exact ⟨A, c, hA, rfl, hlc, rfl⟩
  · have hle' : len + n ≤ c := Nat.le_of_ble_eq_true hle
    cases e with
    | row => trivial
    | loop => trivial
    | deferred => trivial
    | gone => trivial
    | own cl wh el =>
      obtain ⟨ll, vs, rest, lo, hi, hbl, h0', hc, hh, hfz, hw, hcap⟩ := hr.entries _ _ he
      obtain ⟨l', hl', rfl⟩ := SA.den_some hA
      rw [hbl] at hl'; cases hl'
      refine wrCells_sat hc hnew fun c' hc' hle2 => ?_
      rw [SN.add_den] at hc' hle2
      replace hc' : CellsRel β c' (overC vs (a.off.den + len * i.size) xs) := hc'
      replace hle2 : a.off.den + len * i.size + xs.length ≤ vs.length := hle2
      have hoff : a.off.den + len * i.size + xs.length ≤ vs.length := hle2
      have hrun := run_storeCells (P := P) xs (vs ++ rest) (ll.off + a.off.den + len * i.size) 0 w hh (denL_one hnew hsc) hfz.at (by rw [h0']; simp; omega)
      rw [Nat.add_zero, h0', Nat.zero_add, overC_append hoff] at hrun
      have hplace := run_append_place (ty := ty) (bs := some ⟨ll.blk, ll.off + a.off.den, none⟩) (sLen := len) (sCap := c) S.ht S.hd S.hi S.hm S.hn (S.hx w rfl) hle' (by simp only [addr_add]; rw [h0', Nat.zero_add]; exact hrun)
      refine fun hb => ⟨.value _, _, _, β, hres _ _ hplace, rfl, ?_, Eff.turn hbl ?_, ?_⟩
      · rw [den_slice]
        exact ⟨_, c, hA, rfl, hle', rfl⟩
      · have hlt : ll.blk < w.heap.size := (Array.getElem?_eq_some_iff.1 hh).1
        refine ⟨ll, _, rest, lo, hi, hbl, h0', hc', by simp [hlt], ?_, hw, ?_⟩
        · simp only [List.length_append, overC_length hle2] at hfz ⊢; exact hfz
        · intro j hj
          have := hcap j hj
          simp only [List.length_append, overC_length hle2] at this ⊢; exact this
      · intro m e hm
        simp at hm
        obtain ⟨rfl, rfl⟩ := hm
        exact ⟨_, he, rfl⟩
  · have hgt' : c < len + n := by
      rcases Nat.lt_or_ge c (len + n) with h | h
      · exact h
      · rw [Nat.ble_eq_true_of_le h] at hgt; cases hgt
    refine loadN_sat hr hA fun old os h1 h2 h3 => ?_
    obtain ⟨cap, hcap, hrun⟩ := run_append_grow' (ty := ty) (bs := some A) (sLen := len) (sCap := c) (os := os) S.ht S.hd S.hi S.hz S.hm S.hn S.hx
      (fun w' hw' => firstCells_run w' hw' (.inr (.inl ⟨A, len, c, rfl, h2, h3⟩))) hgt' hb1 hb2
    refine ap_new (c := .lst (app old new)) (vs := os ++ xs) (len := len + n) S.hi S.hzl (app_den h1 hnew) (by rw [List.length_append, h2, S.hxl, Nat.add_mul]) hcap rfl (hres _ _ ?_)
    rw [hrun]; congr 3; simp
theorem apRest_sat (hr : HeapRel0 P O w0 β H w) {tys : Array TypeId} {st elem ty : TypeId} {i : TypeInfo} {z x : Value} {xs : List Value} {n : Nat} (S : ApSet P w tys st elem i z x xs n) {new : List SV} (hnew : SV.denL β new = some xs)
    {a : SA} {A : Addr} {len nm k C : Nat} (hA : a.den β = some A) (hC : (SC.rest nm k).den β = some C) (hlc : len ≤ C) (hb1 : (len + n) * i.bytes < 70368744177664) (hb2 : len + n < 70368744177664) {res : Result Next}
    (hres : ∀ v w', (Builtin.append_ tys ty #[.slice (some A) len C, x]).run P w = .ok v w' → res = .ok (.value v) w') :
    (apRest H base elem i.size a len nm k n new).Sat (OpSem P H β w base res) := by
  refine R.Sat.boolC (fun h0 => ?_) fun h0 => R.Sat.boolC (fun hsc => R.Sat.boolC (fun hnm => R.Sat.boolC (fun hk => SN.asLit_sat (fun o ho => R.Sat.boolC (fun ho0 => entry_sat fun e he => ?_) fun _ => trivial) fun _ => trivial) fun _ => trivial) fun _ => trivial) fun _ => trivial
  · have hn0 : n = 0 := Nat.eq_of_beq_eq_true h0
    subst hn0
    have hxs : xs = [] := List.eq_nil_of_length_eq_zero (by rw [S.hxl]; simp)
    subst hxs
    have := run_append_place (ty := ty) (bs := some A) (sLen := len) (sCap := C) (w' := w) S.ht S.hd S.hi S.hm S.hn (S.hx w rfl) (by omega) rfl
    refine sem_val (hres _ _ this) ?_
    rw [den_slice]
    exact ⟨A, C, hA, hC, hlc, rfl⟩
  · obtain rfl := Nat.eq_of_beq_eq_true hnm
    obtain rfl := Nat.eq_of_beq_eq_true hk
    obtain rfl := Nat.eq_of_beq_eq_true ho0
    cases e with
    | row => trivial
    | loop => trivial
    | deferred => trivial
    | gone => trivial
    | own cl wh el =>
      cases cl with
      | fn => trivial
      | lst l =>
        refine R.Sat.boolC (fun hel => R.Sat.boolC (fun hll => ?_) fun _ => trivial) fun _ => trivial
        obtain rfl := Nat.eq_of_beq_eq_true hel
        obtain ⟨ll, vs, rest, lo, hi, hbl, h0', hc, hh, hfz, hw, hcap⟩ := hr.entries _ _ he
        obtain ⟨l', hl', hAe⟩ := SA.den_some hA
        rw [hbl] at hl'; cases hl'
        have hAe' : A = ⟨ll.blk, 0, none⟩ := by rw [hAe, h0', ho]; rfl
        have hCe : C = ll.cap := by
          simp only [SC.den, hbl, Option.map_some, Option.some.injEq] at hC; omega
        have hvl : vs.length = l.length := denL_length hc
        have hle : len * i.size ≤ vs.length := by rw [hvl, ← lenN_eq]; exact Nat.le_of_ble_eq_true hll
        have hnewd : SV.denL β (app (takeN l (len * i.size)) new) = some (vs.take (len * i.size) ++ xs) := by
          rw [takeN_eq]; exact app_den (denL_take hc _) hnew
        have hnewl : (vs.take (len * i.size) ++ xs).length = (len + n) * i.size := by
          rw [List.length_append, List.length_take, S.hxl, Nat.add_mul]; omega
        have hcells : ∀ (j : Nat) (y : Value), (vs.take (len * i.size))[j]? = some y → w.cell? (A.add j) = some y := by
          intro j y hy
          rw [hAe', addr_add, cell?_of hh, Nat.zero_add]
          rw [List.getElem?_take] at hy
          split at hy
          · have := (List.getElem?_eq_some_iff.1 hy).1
            simp [List.getElem?_append_left this, hy]
          · cases hy
        rcases Nat.lt_or_ge C (len + n) with hgt | hfit
        · obtain ⟨cap, hcap', hrun⟩ := run_append_grow' (ty := ty) (bs := some A) (sLen := len) (sCap := C) (os := vs.take (len * i.size)) S.ht S.hd S.hi S.hz S.hm S.hn S.hx
            (fun w' hw' => firstCells_run w' hw' (.inr (.inl ⟨A, len, C, rfl, by rw [List.length_take]; omega, hcells⟩))) hgt hb1 hb2
          exact ap_new_gone (c := .lst _) he rfl S.hi S.hzl hnewd hnewl hcap' rfl (hres _ _ (by rw [hrun]; congr 3; simp))
        · have hroom : len * i.size + xs.length ≤ (vs ++ rest).length := by
            have h1 := hcap i S.hi
            have h2 := Nat.mul_le_mul_right i.size hfit
            rw [Nat.add_mul] at h2
            rw [S.hxl]; rw [← hCe] at h1; omega
          have hrun := run_storeCells (P := P) xs (vs ++ rest) (0 + len * i.size) 0 w hh (denL_one hnew hsc) hfz.at (by omega)
          rw [Nat.add_zero, Nat.zero_add] at hrun
          have hplace := run_append_place (ty := ty) (bs := some A) (sLen := len) (sCap := C) S.ht S.hd S.hi S.hm S.hn (S.hx w rfl) hfit (by rw [hAe']; simp only [addr_add, Nat.zero_add]; exact hrun)
          have hover : overC (vs ++ rest) (len * i.size) xs = (vs.take (len * i.size) ++ xs) ++ (vs ++ rest).drop (len * i.size + xs.length) := by
            unfold overC; rw [List.take_append_of_le_length hle]
          have hlt : ll.blk < w.heap.size := (Array.getElem?_eq_some_iff.1 hh).1
          have hlen' : ((vs.take (len * i.size) ++ xs) ++ (vs ++ rest).drop (len * i.size + xs.length)).length = (vs ++ rest).length := by
            rw [← hover, overC_length hroom]
          refine fun hb => ⟨.value _, _, _, β.upd base ll, hres _ _ hplace, rfl, ?_, ?_, ?_⟩
          · rw [den_slice]
            refine ⟨⟨ll.blk, 0, none⟩, C, by simp [SA.den, Val.upd_same, h0', SN.den], by simp [SC.den, Val.upd_same, hCe], hfit, by rw [hAe']; rfl⟩
          · refine ⟨Val.upd_le hb.hd, rfl, rfl, rfl, by simp, ?_, ?_, ?_, ?_, ?_, ?_⟩
            · intro m hm
              unfold Val.upd
              rw [if_neg]; simp at hm; omega
            · intro b _ hn
              have := hn a.nm .gone ll (by simp) hbl
              simp [this]
            · intro m e1 e2 h1 h2; simp at h1 h2; rw [h1.2, h2.2]
            · intro m e h1; simp at h1; rw [h1.2]; trivial
            · intro j e hj
              cases j with
              | succ j => simp at hj
              | zero =>
                simp at hj; subst hj
                refine ⟨rfl, ⟨ll, _, (vs ++ rest).drop (len * i.size + xs.length), lo, hi, Val.upd_same _ _ _, h0', SV.denL_mono (Val.upd_le hb.hd) _ hnewd, ?_, ?_, by simp, ?_⟩, ll, Val.upd_same _ _ _, .inr ⟨a.nm, ll, by simp, hbl, rfl⟩⟩
                · rw [← hover]; simp [hlt]
                · rw [hlen']; exact hfz
                · intro j hj; rw [hlen']; exact hcap j hj
            · intro j k l l' hjk hj hk; simp at hj hk; omega
          · intro m e hm
            simp at hm
            obtain ⟨rfl, rfl⟩ := hm
            exact ⟨_, he, rfl⟩
theorem fnSl_sat (hr : HeapRel0 P O w0 β H w) {a : SA} {n : SN} {A' : Addr} {C : Nat} (hA : n.den = 0 ∨ a.den β = some A') {f : (Nat → SV) → R α} {φ : α → Prop}
    (hf : ∀ g, (∀ (m : Nat), (∀ w' : World, (Builtin.lenOf (.slice (some A') n.den C)).run P w' = .ok m w') → ∃ xs : List Value, xs.length = m ∧ (∀ (j : Nat) (y : Value), xs[j]? = some y → (g j).den β = some y) ∧ ∀ w' : World, w'.heap = w.heap → (Builtin.firstCells 1 m (.slice (some A') n.den C)).run P w' = .ok xs.toArray w') → (f g).Sat φ) : (fnSl H a n f).Sat φ := by
  unfold fnSl
  refine entry_sat fun e he => ?_
  have key : ∀ (cl : Cells) (g : Nat → SV) (vs : List Value), e.cells? = some cl → CellsRel β cl vs → (∃ l, β a.nm = some l ∧ ∀ (i : Nat) (x : Value), vs[i]? = some x → w.cell? ⟨l.blk, l.off + i, none⟩ = some x) → a.off.den + n.den ≤ vs.length →
      (∀ i y, vs[a.off.den + i]? = some y → (g i).den β = some y) → (f g).Sat φ := by
    rintro cl g vs _ hcr ⟨l, hl, hcell⟩ hle hg
    refine hf g fun m hm => ⟨(vs.drop a.off.den).take n.den, ?_, fun j y hy => ?_, fun w' hw' => ?_⟩
    · have := hm w
      simp only [Builtin.lenOf, Sem.run_pure, Result.ok.injEq, and_true] at this
      simp; omega
    · rw [List.getElem?_take] at hy
      split at hy
      · rw [List.getElem?_drop] at hy; exact hg j y hy
      · cases hy
    · refine firstCells_run w' hw' (.inr (.inl ⟨_, _, _, rfl, ?_, fun j y hy => ?_⟩))
      · have := hm w
        simp only [Builtin.lenOf, Sem.run_pure, Result.ok.injEq, and_true] at this
        simp; omega
      · rw [List.getElem?_take] at hy
        split at hy
        · rename_i hjn
          rw [List.getElem?_drop] at hy
          obtain ⟨l', hl', rfl⟩ := SA.den_some (hA.resolve_left (by omega))
          rw [hl] at hl'; cases hl'
          rw [addr_add, Nat.add_assoc]; exact hcell _ _ hy
        · cases hy
  split
  · rename_i g m _ _
    obtain ⟨l, vs, hl, hcr, hcell⟩ := entry_cells hr he rfl
    intro hle
    exact key _ _ vs rfl hcr ⟨l, hl, hcell⟩ (by rw [hcr.1]; exact hle) fun i y hy => hcr.2 _ _ hy
  · rename_i g m
    obtain ⟨l, vs, hl, hcr, hcell⟩ := entry_cells hr he rfl
    intro hle
    exact key _ _ vs rfl hcr ⟨l, hl, hcell⟩ (by rw [hcr.1]; exact hle) fun i y hy => hcr.2 _ _ hy
  · rename_i ls _ _
    obtain ⟨l, vs, hl, hcr, hcell⟩ := entry_cells hr he rfl
    cases hun : unb ls with
    | none =>
      intro hle
      have hvl : vs.length = ls.length := denL_length hcr
      rw [lenN_eq] at hle
      refine key _ _ vs rfl hcr ⟨l, hl, hcell⟩ (by omega) fun i y hy => ?_
      have hlt := (List.getElem?_eq_some_iff.1 hy).1
      obtain ⟨y', hy', hd⟩ := denL_get hcr (List.getElem?_eq_getElem (show a.off.den + i < ls.length by omega))
      rw [hy] at hy'; cases hy'
      rw [nth_eq, List.getElem?_eq_getElem (show a.off.den + i < ls.length by omega)]; exact hd
    | some xs =>
      intro hle
      rw [lenN_eq] at hle
      obtain ⟨hb1, hb2⟩ := unb_get hun hcr
      refine key _ _ vs rfl hcr ⟨l, hl, hcell⟩ (by omega) fun i y hy => ?_
      have hlt := (List.getElem?_eq_some_iff.1 hy).1
      rw [hb2 _ (by omega)] at hy
      rw [← Option.some.inj hy]; rfl
  · rename_i ls
    obtain ⟨l, vs, hl, hcr, hcell⟩ := entry_cells hr he rfl
    cases hun : unb ls with
    | none =>
      intro hle
      have hvl : vs.length = ls.length := denL_length hcr
      rw [lenN_eq] at hle
      refine key _ _ vs rfl hcr ⟨l, hl, hcell⟩ (by omega) fun i y hy => ?_
      have hlt := (List.getElem?_eq_some_iff.1 hy).1
      obtain ⟨y', hy', hd⟩ := denL_get hcr (List.getElem?_eq_getElem (show a.off.den + i < ls.length by omega))
      rw [hy] at hy'; cases hy'
      rw [nth_eq, List.getElem?_eq_getElem (show a.off.den + i < ls.length by omega)]; exact hd
    | some xs =>
      intro hle
      rw [lenN_eq] at hle
      obtain ⟨hb1, hb2⟩ := unb_get hun hcr
      refine key _ _ vs rfl hcr ⟨l, hl, hcell⟩ (by omega) fun i y hy => ?_
      have hlt := (List.getElem?_eq_some_iff.1 hy).1
      rw [hb2 _ (by omega)] at hy
      rw [← Option.some.inj hy]; rfl
  · trivial
theorem fnOf_sat (hr : HeapRel0 P O w0 β H w) {v : SV} {x : Value} (hv : v.den β = some x) {f : (Nat → SV) → R α} {φ : α → Prop}
    (hf : ∀ g, (∀ (n : Nat), (∀ w' : World, (Builtin.lenOf x).run P w' = .ok n w') → ∃ xs : List Value, xs.length = n ∧ (∀ (j : Nat) (y : Value), xs[j]? = some y → (g j).den β = some y) ∧ ∀ w' : World, w'.heap = w.heap → (Builtin.firstCells 1 n x).run P w' = .ok xs.toArray w') → (f g).Sat φ) : (fnOf H v f).Sat φ := by
  unfold fnOf
  split
  · simp only [SV.den, Option.some.injEq] at hv; subst hv
    refine hf _ fun n hn => ⟨[], ?_, by simp, fun w' hw' => firstCells_run (w := w) w' hw' (.inl ⟨0, rfl, rfl⟩)⟩
    have := hn w
    simp only [Builtin.lenOf, Sem.run_pure, Result.ok.injEq, and_true] at this
    exact this
  · rename_i a n c
    rw [den_slice] at hv
    obtain ⟨A, C, hA, hC, _, rfl⟩ := hv
    exact fnSl_sat hr (.inr hA) hf
  · rename_i a k n c
    rw [den_tail] at hv
    obtain ⟨A, C, hA, hC, hle, rfl⟩ := hv
    refine fnSl_sat hr ?_ hf
    by_cases h0 : C = 0
    · left; omega
    · right; rw [if_neg h0]; exact SA.plus_den hA k
  · rename_i s
    simp only [SV.den, Option.some.injEq] at hv; subst hv
    refine hf _ fun n hn => ⟨s.den.data.toList.map fun b => Value.int .u8 (b.toNat : Int), ?_, fun j y hy => bytesFn_den β _ j y hy, fun w' hw' => ?_⟩
    · have := hn w
      simp only [Builtin.lenOf, Sem.run_pure, Result.ok.injEq, and_true] at this
      simp; exact this
    · have := hn w
      simp only [Builtin.lenOf, Sem.run_pure, Result.ok.injEq, and_true] at this
      refine firstCells_run (w := w) w' hw' (.inr (.inr ⟨s.den, rfl, ?_⟩))
      rw [List.take_of_length_le]
      simp; exact Nat.le_of_eq this
  · trivial

/-- n numbers of bytes -/
theorem bytesV_sat (hr : HeapRel0 P O w0 β H w) {v : SV} {x : Value} (hv : v.den β = some x) {n : SN} (hn : (Builtin.lenOf x).run P w = .ok n.den w) {f : (Nat → BitVec 8) → R α} {φ : α → Prop}
    (hf : ∀ (X : Nat → BitVec 8) (xs : List Value), xs.length = n.den → (∀ j, j < n.den → xs[j]? = some (.int .u8 ((X j).toNat : Int))) → (∀ w' : World, w'.heap = w.heap → (Builtin.firstCells 1 n.den x).run P w' = .ok xs.toArray w') → (f X).Sat φ) : (bytesV H v n f).Sat φ := by
  unfold bytesV
  split
  · simp only [SV.den, Option.some.injEq] at hv; subst hv
    simp only [Builtin.lenOf, Sem.run_pure, Result.ok.injEq, and_true] at hn
    refine hf _ [] hn (fun j hj => by omega) fun w' hw' => firstCells_run (w := w) w' hw' (.inl ⟨0, rfl, rfl⟩)
  · rename_i a l c
    rw [den_slice] at hv
    obtain ⟨A, C, hA, hC, _, rfl⟩ := hv
    simp only [Builtin.lenOf, Sem.run_pure, Result.ok.injEq, and_true] at hn
    refine entry_sat fun e he => ?_
    have key : ∀ cl : Cells, e.cells? = some cl → (viewC cl a.off.den n.den f).Sat φ := by
      intro cl hcl
      obtain ⟨ll, vs, hl, hcr, hcell⟩ := entry_cells hr he hcl
      obtain ⟨l', hl', rfl⟩ := SA.den_some hA
      rw [hl] at hl'; cases hl'
      refine viewC_sat hcr fun X hle hX => hf X ((vs.drop a.off.den).take n.den) (by simp; omega) (fun j hj => ?_) fun w' hw' => ?_
      · rw [List.getElem?_take, if_pos hj, List.getElem?_drop]; exact hX j hj
      · refine firstCells_run w' hw' (.inr (.inl ⟨_, _, _, rfl, by simp; omega, fun j y hy => ?_⟩))
        rw [List.getElem?_take] at hy
        split at hy
        · rw [List.getElem?_drop] at hy
          rw [addr_add, Nat.add_assoc]; exact hcell _ _ hy
        · cases hy
    cases e with
    | own c w el => exact key c rfl
    | row c => exact key c rfl
    | loop => trivial
    | deferred => trivial
    | gone => trivial
  · rename_i a k l c
    rw [den_tail] at hv
    obtain ⟨A, C, hA, hC, hle, rfl⟩ := hv
    simp only [Builtin.lenOf, Sem.run_pure, Result.ok.injEq, and_true] at hn
    refine entry_sat fun e he => ?_
    have key : ∀ cl : Cells, e.cells? = some cl → (viewC cl (a.off.den + k.den) n.den f).Sat φ := by
      intro cl hcl
      obtain ⟨ll, vs, hl, hcr, hcell⟩ := entry_cells hr he hcl
      obtain ⟨l', hl', rfl⟩ := SA.den_some hA
      rw [hl] at hl'; cases hl'
      refine viewC_sat hcr fun X hle hX => hf X ((vs.drop (a.off.den + k.den)).take n.den) (by simp; omega) (fun j hj => ?_) fun w' hw' => ?_
      · rw [List.getElem?_take, if_pos hj, List.getElem?_drop]; exact hX j hj
      · refine firstCells_run w' hw' (.inr (.inl ⟨_, _, _, rfl, by simp; omega, fun j y hy => ?_⟩))
        rw [List.getElem?_take] at hy
        split at hy
        · rename_i hj
          rw [List.getElem?_drop] at hy
          have hn' : l.den = n.den := hn
          rw [if_neg (by omega), addr_add, addr_add, Nat.add_assoc, Nat.add_assoc, ← Nat.add_assoc a.off.den]; exact hcell _ _ hy
        · cases hy
    cases e with
    | own c w el => exact key c rfl
    | row c => exact key c rfl
    | loop => trivial
    | deferred => trivial
    | gone => trivial
  · rename_i s
    simp only [SV.den, Option.some.injEq] at hv; subst hv
    simp only [Builtin.lenOf, Sem.run_pure, Result.ok.injEq, and_true] at hn
    have hsz : s.den.data.toList.length = n.den := by simp; exact hn
    refine hf _ (s.den.data.toList.map fun b => Value.int .u8 (b.toNat : Int)) (by simpa using hsz) (fun j hj => ?_) fun w' hw' => firstCells_run (w := w) w' hw' (.inr (.inr ⟨s.den, rfl, ?_⟩))
    · have hlt : j < s.den.data.size := by simpa [← hsz] using hj
      rw [List.getElem?_map, List.getElem?_eq_getElem (by simpa using hlt)]
      simp only [Option.map_some, Array.getElem_toList]
      rw [Array.getD_eq_getD_getElem?, Array.getElem?_eq_getElem hlt]
      rfl
    · rw [List.take_of_length_le (by omega)]
  · trivial
theorem cat_rel {X Y : Nat → BitVec 8} {os xs : List Value} {l n : Nat} (h1 : os.length = l) (h2 : xs.length = n) (hX : ∀ j, j < l → os[j]? = some (.int .u8 ((X j).toNat : Int))) (hY : ∀ j, j < n → xs[j]? = some (.int .u8 ((Y j).toNat : Int))) :
    CellsRel β (.fn (byteF (catB X l Y)) (l + n)) (os ++ xs) := by
  refine ⟨by simp [h1, h2], fun i y hy => ?_⟩
  show some (Value.int .u8 ((catB X l Y i).toNat : Int)) = some y
  unfold catB
  by_cases hi : i < l
  · rw [if_pos hi]
    rw [List.getElem?_append_left (by omega), hX i hi] at hy
    exact hy
  · rw [if_neg hi]
    rw [List.getElem?_append_right (by omega), h1] at hy
    have hlt := (List.getElem?_eq_some_iff.1 hy).1
    rw [hY (i - l) (by omega)] at hy
    exact hy

end
end Go.Sim
