/-
  The symbolic simulator, sixteenth part: built-ins and calls; every operation.
-/
import Derived.Test.YtdnaaeagllejjaaEng15
namespace Go.Sim
variable {α : Type}

section
variable {P : Program} {O : Nat → Prop} {w0 : World} {β : Val} {H : List SO} {w : World} {base : Nat}
variable {ev : Operand → SV} {ρ : Operand → Value} {dst : Option Tmp} {t : TypeId} {pos : String} {af : Array Edge} {g : Option (Nat × Bool)}

theorem srcCells_len (hr : HeapRel0 P O w0 β H w) {v : SV} {x : Value} (hv : v.den β = some x) {size m n : Nat} (hn : ∀ (P : Program) (w' : World), (Builtin.lenOf x).run P w' = .ok n w') (hmn : m ≤ n) {f : List SV → R α} {φ : α → Prop}
    (hf : ∀ l xs, SV.denL β l = some xs → (∀ w' : World, w'.heap = w.heap → (Builtin.firstCells size m x).run P w' = .ok xs.toArray w') → xs.length = m * size → (f l).Sat φ) : (srcCells H size v (.lit m) f).Sat φ := by
  have hlen := hn P w
  unfold srcCells
  split
  · simp only [SV.den, Option.some.injEq] at hv; subst hv
    simp only [Builtin.lenOf, Sem.run_pure, Result.ok.injEq, and_true] at hlen
    exact hf [] [] rfl (fun w' hw' => firstCells_run (w := w) w' hw' (.inl ⟨0, rfl, rfl⟩)) (by
      have : m = 0 := by omega
      rw [this]; simp)
  · rename_i a _ _ n' hm
    cases hm
    rw [den_slice] at hv
    obtain ⟨A, C, hA, hC, _, rfl⟩ := hv
    exact loadN_sat hr hA fun l xs h1 h2 h3 => hf l xs h1 (fun w' hw' => firstCells_run w' hw' (.inr (.inl ⟨A, _, _, rfl, h2, h3⟩))) h2
  · rename_i a k l0 _ n' hm
    cases hm
    rw [den_tail] at hv
    obtain ⟨A, C, hA, hC, hle, rfl⟩ := hv
    simp only [Builtin.lenOf, Sem.run_pure, Result.ok.injEq, and_true] at hlen
    refine loadN_sat hr (SA.plus_den hA k) fun l xs h1 h2 h3 => hf l xs h1 (fun w' hw' => firstCells_run w' hw' (.inr (.inl ⟨_, _, _, rfl, h2, fun j y hy => ?_⟩))) h2
    by_cases hC0 : C = 0
    · have hm0 : m = 0 := by omega
      rw [hm0, Nat.zero_mul] at h2
      rw [List.eq_nil_of_length_eq_zero h2] at hy
      simp at hy
    · rw [if_neg hC0]; exact h3 j y hy
  · rename_i s n' hm
    cases hm
    simp only [SV.den, Option.some.injEq] at hv; subst hv
    simp only [Builtin.lenOf, Sem.run_pure, Result.ok.injEq, and_true] at hlen
    refine R.Sat.boolC (fun h1 => ?_) fun _ => trivial
    have h := Nat.eq_of_beq_eq_true h1
    rw [takeN_eq]
    refine hf _ _ (bytes_den β _) (fun w' hw' => firstCells_run (w := w) w' hw' (.inr (.inr ⟨s, rfl, rfl⟩))) ?_
    rw [h]; simp; have : s.size = s.data.size := rfl
    simp only [SStr.den] at hlen; omega
  · rename_i l n' hm
    cases hm
    simp only [SV.den, Option.some.injEq] at hv; subst hv
    simp only [Builtin.lenOf, Sem.run_pure, Result.ok.injEq, and_true] at hlen
    have hsz : (SStr.bytes l).den.size = l.length := by
      show (l.map fun i => UInt8.ofNat i.den.toNat).toArray.size = _
      simp
    refine R.Sat.boolC (fun h1 => ?_) fun _ => trivial
    have h := Nat.eq_of_beq_eq_true h1
    intro hbnd
    rw [takeN_eq, mapN_eq]
    refine hf _ _ (denL_ints β _) (fun w' hw' => firstCells_run (w := w) w' hw' (.inr (.inr ⟨(SStr.bytes l).den, rfl, ?_⟩))) ?_
    · simp only [SStr.den, bytesOf, ← List.map_take, List.map_map]
      refine List.map_congr_left fun i hi => ?_
      have := hbnd i (List.mem_of_mem_take hi)
      simp only [Function.comp, UInt8.toNat_ofNat']
      rw [Nat.mod_eq_of_lt (by omega)]
      congr 1; omega
    · rw [h]; simp; omega
  · trivial
/-- the setting of an append of bytes -/
structure CatSet (P : Program) (w : World) (tys : Array TypeId) (st elem : TypeId) (i : TypeInfo) (z : Value) (x : Value) (xs : List Value) (n : Nat) (Y : Nat → BitVec 8) : Prop where
  ht : tys[0]? = some st
  hd : P.underlying st = some (.slice elem)
  hi : P.info? elem = some i
  hz : i.zero = some z
  hzl : z.cells.size = i.size
  hm : plainA P tys = true
  hn : (Builtin.lenOf x).run P w = .ok n w
  hx : ∀ w' : World, w'.heap = w.heap → (Builtin.firstCells 1 n x).run P w' = .ok xs.toArray w'
  hxl : xs.length = n
  hY : ∀ j, j < n → xs[j]? = some (.int .u8 ((Y j).toNat : Int))
theorem apCatNew_sat (hr : HeapRel0 P O w0 β H w) {tys : Array TypeId} {st elem ty : TypeId} {i : TypeInfo} {z x : Value} {xs : List Value} {n len c : SN} {Y : Nat → BitVec 8} (S : CatSet P w tys st elem i z x xs n.den Y) {s : SV} {A : Addr} (hs : s.den β = some (.slice (some A) len.den c.den)) {res : Result Next}
    (hres : ∀ v w', (Builtin.append_ tys ty #[.slice (some A) len.den c.den, x]).run P w = .ok v w' → res = .ok (.value v) w') :
    (apCatNew H base elem i.size i.bytes s c len n Y).Sat (OpSem P H β w base res) := by
  refine bytesV_sat hr hs (n := len) rfl fun X os h1 h2 h3 => ?_
  rintro ⟨hgt, ⟨hb1, hb2⟩, hs1⟩
  obtain ⟨cap, hcap, hrun⟩ := run_append_grow' (ty := ty) (bs := some A) (sLen := len.den) (sCap := c.den) (os := os) (xs := xs) S.ht S.hd S.hi S.hz S.hm S.hn (by rw [hs1]; exact S.hx) (by rw [hs1]; exact h3) hgt hb1 hb2
  refine ap_new (c := .fn (byteF (catB X len.den Y)) (len.den + n.den)) (vs := os ++ xs) (len := len.den + n.den) S.hi S.hzl (cat_rel h1 S.hxl h2 S.hY) (by rw [hs1, List.length_append, h1, S.hxl, Nat.mul_one]) hcap (SN.add_den _ _) (hres _ _ ?_)
  rw [hrun]; congr 3; simp
theorem apCatRest_sat (hr : HeapRel0 P O w0 β H w) {tys : Array TypeId} {st elem ty : TypeId} {i : TypeInfo} {z x : Value} {xs : List Value} {n len : SN} {Y : Nat → BitVec 8} (S : CatSet P w tys st elem i z x xs n.den Y) {a : SA} {A : Addr} {nm k C : Nat} (hA : a.den β = some A) (hC : (SC.rest nm k).den β = some C) {res : Result Next}
    (hres : ∀ v w', (Builtin.append_ tys ty #[.slice (some A) len.den C, x]).run P w = .ok v w' → res = .ok (.value v) w') :
    (apCatRest H base elem i.size i.bytes a nm k len n Y).Sat (OpSem P H β w base res) := by
  refine R.Sat.boolC (fun hnm => R.Sat.boolC (fun hk => SN.asLit_sat (fun o ho => R.Sat.boolC (fun ho0 => entry_sat fun e he => ?_) fun _ => trivial) fun _ => trivial) fun _ => trivial) fun _ => trivial
  obtain rfl := Nat.eq_of_beq_eq_true hnm
  obtain rfl := Nat.eq_of_beq_eq_true hk
  obtain rfl := Nat.eq_of_beq_eq_true ho0
  cases e with
  | row => trivial
  | loop => trivial
  | deferred => trivial
  | gone => trivial
  | own cl wh el =>
    refine R.Sat.boolC (fun hel => ?_) fun _ => trivial
    obtain rfl := Nat.eq_of_beq_eq_true hel
    obtain ⟨ll, vs, rest, lo, hi, hbl, h0', hc, hh, hfz, hw, hcap⟩ := hr.entries _ _ he
    obtain ⟨l', hl', hAe⟩ := SA.den_some hA
    rw [hbl] at hl'; cases hl'
    have hAe' : A = ⟨ll.blk, 0, none⟩ := by rw [hAe, h0', ho]; rfl
    have hCe : C = ll.cap := by
      simp only [SC.den, hbl, Option.map_some, Option.some.injEq] at hC; omega
    refine viewC_sat hc fun X hle hX => ?_
    rw [Nat.zero_add] at hle
    rintro ⟨⟨hb1, hb2⟩, hs1⟩
    have hol : (vs.take len.den).length = len.den := by rw [List.length_take]; omega
    have hos : ∀ j, j < len.den → (vs.take len.den)[j]? = some (.int .u8 ((X j).toNat : Int)) := by
      intro j hj
      rw [List.getElem?_take, if_pos hj]
      have := hX j hj
      rw [Nat.zero_add] at this; exact this
    have hcells : ∀ (j : Nat) (y : Value), (vs.take len.den)[j]? = some y → w.cell? (A.add j) = some y := by
      intro j y hy
      rw [hAe', addr_add, cell?_of hh, Nat.zero_add]
      rw [List.getElem?_take] at hy
      split at hy
      · have := (List.getElem?_eq_some_iff.1 hy).1
        simp [List.getElem?_append_left this, hy]
      · cases hy
    have hnewd : CellsRel β (.fn (byteF (catB X len.den Y)) (len.den + n.den)) (vs.take len.den ++ xs) := cat_rel hol S.hxl hos S.hY
    rcases Nat.lt_or_ge C (len.den + n.den) with hgt | hfit
    · obtain ⟨cap, hcap', hrun⟩ := run_append_grow' (ty := ty) (bs := some A) (sLen := len.den) (sCap := C) (os := vs.take len.den) (xs := xs) S.ht S.hd S.hi S.hz S.hm S.hn (by rw [hs1]; exact S.hx)
        (fun w' hw' => firstCells_run w' hw' (.inr (.inl ⟨A, len.den, C, rfl, by rw [hol, hs1, Nat.mul_one], hcells⟩))) hgt hb1 hb2
      exact ap_new_gone (c := .fn _ _) he rfl S.hi S.hzl hnewd (by rw [hs1, List.length_append, hol, S.hxl, Nat.mul_one]) hcap' (SN.add_den _ _) (hres _ _ (by rw [hrun]; congr 3; simp))
    · have hroom : len.den + xs.length ≤ (vs ++ rest).length := by
        have h1 := hcap i S.hi
        rw [hs1, Nat.mul_one] at h1
        rw [S.hxl]; rw [← hCe] at h1; omega
      have hsc : ∀ y ∈ xs, y.oneCell' = true := by
        intro y hy
        obtain ⟨j, hj⟩ := List.getElem?_of_mem hy
        have hlt := (List.getElem?_eq_some_iff.1 hj).1
        rw [S.hY j (by rw [← S.hxl]; exact hlt)] at hj
        cases hj; rfl
      have hrun := run_storeCells (P := P) xs (vs ++ rest) (0 + len.den) 0 w hh hsc hfz.at (by omega)
      rw [Nat.add_zero, Nat.zero_add] at hrun
      have hplace := run_append_place (ty := ty) (bs := some A) (sLen := len.den) (sCap := C) S.ht S.hd S.hi S.hm S.hn (by rw [hs1]; exact S.hx w rfl) hfit (by rw [hAe', hs1, Nat.mul_one]; simp only [addr_add, Nat.zero_add]; exact hrun)
      have hover : overC (vs ++ rest) len.den xs = (vs.take len.den ++ xs) ++ (vs ++ rest).drop (len.den + xs.length) := by
        unfold overC; rw [List.take_append_of_le_length hle]
      have hlt : ll.blk < w.heap.size := (Array.getElem?_eq_some_iff.1 hh).1
      have hlen' : ((vs.take len.den ++ xs) ++ (vs ++ rest).drop (len.den + xs.length)).length = (vs ++ rest).length := by
        rw [← hover, overC_length hroom]
      refine fun hb => ⟨.value _, _, _, β.upd base ll, hres _ _ hplace, rfl, ?_, ?_, ?_⟩
      · rw [den_slice]
        refine ⟨⟨ll.blk, 0, none⟩, C, by simp [SA.den, Val.upd_same, h0', SN.den], by simp [SC.den, Val.upd_same, hCe], by rw [SN.add_den]; exact hfit, by rw [hAe', SN.add_den]⟩
      · refine ⟨Val.upd_le hb.hd, rfl, rfl, rfl, by simp, ?_, ?_, ?_, ?_, ?_, ?_⟩
        · intro m hm
          unfold Val.upd
          rw [if_neg]; simp at hm; omega
        · intro b _ hn
          have := hn a.nm .gone ll (by simp) hbl
          simp [this]
        · intro m e1 e2 h1 h2; simp at h1 h2; rw [h1.2, h2.2]
        · intro m e h1; simp at h1; rw [h1.2]; trivial
        · intro j e hj
          cases j with
          | succ j => simp at hj
          | zero =>
            simp at hj; subst hj
            refine ⟨rfl, ⟨ll, _, (vs ++ rest).drop (len.den + xs.length), lo, hi, Val.upd_same _ _ _, h0', hnewd.mono (Val.upd_le hb.hd), ?_, ?_, by simp, ?_⟩, ll, Val.upd_same _ _ _, .inr ⟨a.nm, ll, by simp, hbl, rfl⟩⟩
            · rw [← hover]; simp [hlt]
            · rw [hlen']; exact hfz
            · intro j hj; rw [hlen']; exact hcap j hj
        · intro j k l l' hjk hj hk; simp at hj hk; omega
      · intro m e hm
        simp at hm
        obtain ⟨rfl, rfl⟩ := hm
        exact ⟨_, he, rfl⟩
theorem apCat_sat (hr : HeapRel0 P O w0 β H w) {tys : Array TypeId} {st elem ty : TypeId} {i : TypeInfo} {z xv : Value} {n len l : SN} {x : SV} (hx : x.den β = some xv) (ht : tys[0]? = some st) (hd : P.underlying st = some (.slice elem)) (hi : P.info? elem = some i) (hz : i.zero = some z) (hzl : z.cells.size = i.size) (hm : plainA P tys = true) (hn : (Builtin.lenOf xv).run P w = .ok n.den w)
    {a : SA} {c : SC} {sv : Value} (hs : (SV.slice a l c).den β = some sv) (hlen : ∀ (P : Program) (w' : World), (Builtin.lenOf sv).run P w' = .ok len.den w') {res : Result Next}
    (hres : ∀ v w', (Builtin.append_ tys ty #[sv, xv]).run P w = .ok v w' → res = .ok (.value v) w') :
    (apCat H base elem i.size i.bytes a l c len n x).Sat (OpSem P H β w base res) := by
  refine bytesV_sat hr hx hn fun Y xs h1 h2 h3 => ?_
  have S : CatSet P w tys st elem i z xv xs n.den Y := ⟨ht, hd, hi, hz, hzl, hm, hn, h3, h1, h2⟩
  have hs0 := hs
  rw [den_slice] at hs
  obtain ⟨A, C, hA, hC, hLC, rfl⟩ := hs
  have hl0 : len.den = l.den := lenOf_slice hlen P w
  rw [← hl0] at hres hs0 hLC
  cases c with
  | lit c' =>
    simp only [SC.den, Option.some.injEq] at hC
    subst hC
    exact apCatNew_sat (c := .lit c') (ty := ty) hr S hs0 hres
  | sym c' =>
    simp only [SC.den, Option.some.injEq] at hC
    subst hC
    exact apCatNew_sat (c := .sym c') (ty := ty) hr S hs0 hres
  | rest nm k => exact apCatRest_sat (ty := ty) hr S hA hC hres
theorem appendP_sat (hr : HeapRel0 P O w0 β H w) {tys : Array TypeId} {ty : TypeId} {s x : SV} {sv xv : Value} (hs : s.den β = some sv) (hx : x.den β = some xv) {res : Result Next}
    (hres : ∀ v w', (Builtin.append_ tys ty #[sv, xv]).run P w = .ok v w' → res = .ok (.value v) w') :
    (appendP P H base tys s x).Sat (OpSem P H β w base res) := by
  refine R.Sat.opt fun st ht => R.Sat.opt fun d hd => asSl_sat (fun elem hde => ?_) trivial
  subst hde
  refine R.Sat.opt fun i hi => R.Sat.boolC (fun hm => R.Sat.opt fun z hz => R.Sat.boolC (fun hzl => lenS_sat hx fun n hn => lenS_sat hs fun len hlen => ?_) fun _ => trivial) fun _ => trivial
  obtain ⟨i', zv, hi', hzv, hden⟩ := zeroS_spec hz
  rw [hi] at hi'; cases hi'
  have hzl' : zv.cells.size = i.size := by
    have h1 := denL_length (hden β)
    have h2 := Nat.eq_of_beq_eq_true hzl
    rw [lenN_eq] at h2; simp at h1; omega
  split
  · rename_i len n
    refine R.Sat.boolC (fun hb1 => R.Sat.boolC (fun hb2 => ?_) fun _ => trivial) fun _ => trivial
    have hb1 := blt_lt hb1
    have hb2 := blt_lt hb2
    refine srcCells_len hr hx hn (Nat.le_refl n) fun new xs hnew hfc hxl => ?_
    have S : ApSet P w tys st elem i zv xv xs n := ⟨ht, hd, hi, hzv, hzl', hm, hn P w, hfc, hxl⟩
    unfold apKnown
    split
    · simp only [SV.den, Option.some.injEq] at hs; subst hs
      have hl0 : len = 0 := lenOf_slice hlen P w
      subst hl0
      refine R.Sat.boolC (fun h0 => ?_) fun h0 => ?_
      · have hn0 : n = 0 := Nat.eq_of_beq_eq_true h0
        subst hn0
        have hxs : xs = [] := List.eq_nil_of_length_eq_zero (by rw [hxl]; simp)
        subst hxs
        exact sem_val (hres _ _ (run_append_place (ty := ty) (bs := none) (sLen := 0) (sCap := 0) (w' := w) ht hd hi hm (hn P w) (hfc w rfl) (by simp [SN.den]) rfl)) rfl
      · have hn0 : 0 < n := by
          rcases Nat.eq_zero_or_pos n with h | h
          · subst h; cases h0
          · exact h
        obtain ⟨cap, hcap, hrun⟩ := run_append_grow' (ty := ty) (bs := none) (sLen := 0) (sCap := 0) (os := []) ht hd hi hzv hm (hn P w) hfc (fun w' _ => rfl) (by simp [SN.den]; exact hn0) (by simpa [SN.den] using hb1) (by simpa [SN.den] using hb2)
        refine ap_new (c := .lst new) (vs := xs) (len := n) hi hzl' hnew hxl (by simpa [SN.den] using hcap) rfl (hres _ _ ?_)
        rw [hrun]; simp [SN.den]
    · rename_i a ln c
      rw [den_slice] at hs
      obtain ⟨A, C, hA, hC, hLC, rfl⟩ := hs
      have hl0 : len = ln.den := lenOf_slice hlen P w
      simp only [SC.den, Option.some.injEq] at hC
      subst hC
      refine apLit_sat (ty := ty) hr S hnew hA (by omega) hb1 hb2 (fun v w' h => hres v w' ?_)
      rw [← hl0]; exact h
    · rename_i a ln nm k
      rw [den_slice] at hs
      obtain ⟨A, C, hA, hC, hLC, rfl⟩ := hs
      have hl0 : len = ln.den := lenOf_slice hlen P w
      refine apRest_sat (ty := ty) hr S hnew hA hC (by omega) hb1 hb2 (fun v w' h => hres v w' ?_)
      rw [← hl0]; exact h
    · trivial
  · unfold apSym
    split
    · exact apCat_sat (ty := ty) hr hx ht hd hi hzv hzl' hm (hn P w) hs hlen hres
    · exact apCat_sat (ty := ty) hr hx ht hd hi hzv hzl' hm (hn P w) hs hlen hres
    · exact apCat_sat (ty := ty) hr hx ht hd hi hzv hzl' hm (hn P w) hs hlen hres
    rename_i hno1 hno2 hno3
    clear hno1 hno2 hno3
    refine fnOf_sat hr hx fun g hg => ?_
    obtain ⟨xs, hxl, hgd, hfc⟩ := hg n.den (fun w' => hn P w')
    unfold apFn
    split
    · simp only [SV.den, Option.some.injEq] at hs; subst hs
      have hl0 := lenOf_slice hlen P w
      refine ⟨fun h0 => fun hs1 => ?_, fun h0 => ?_⟩
      · have hn0 : n.den = 0 := of_decide_eq_true h0
        have hxs : xs = [] := List.eq_nil_of_length_eq_zero (by rw [hxl, hn0])
        subst hxs
        exact sem_val (hres _ _ (run_append_place (ty := ty) (bs := none) (sLen := 0) (sCap := 0) (w' := w) (xs := []) ht hd hi hm (hn P w) (by rw [hs1]; exact hfc w rfl) (by omega) rfl)) (by rw [hn0]; rfl)
      have hpos : ¬ n.den = 0 := of_decide_eq_false h0
      rintro ⟨⟨hr1, hr2⟩, hs1⟩
      obtain ⟨cap, hcap, hrun⟩ := run_append_grow' (ty := ty) (bs := none) (sLen := 0) (sCap := 0) (os := []) (xs := xs) ht hd hi hzv hm (hn P w) (by rw [hs1]; exact hfc) (fun w' _ => rfl) (by omega) (by simpa using hr1) (by simpa using hr2)
      refine ap_new (c := .fn g n.den) (vs := xs) (len := n.den) hi hzl' ⟨hxl, hgd⟩ (by rw [hs1, hxl]; simp) (by simpa using hcap) rfl (hres _ _ ?_)
      rw [hrun]; simp
    · rename_i a ln
      rw [den_slice] at hs
      obtain ⟨A, C, hA, hC, hLC, rfl⟩ := hs
      simp only [SC.den, Option.some.injEq] at hC
      subst hC
      have hl0 := lenOf_slice hlen P w
      have hln : ln.den = 0 := by omega
      rw [hln] at hres
      refine ⟨fun h0 => fun hs1 => ?_, fun h0 => ?_⟩
      · have hn0 : n.den = 0 := of_decide_eq_true h0
        have hxs : xs = [] := List.eq_nil_of_length_eq_zero (by rw [hxl, hn0])
        subst hxs
        refine sem_val (hres _ _ (run_append_place (ty := ty) (bs := some A) (sLen := 0) (sCap := 0) (w' := w) (xs := []) ht hd hi hm (hn P w) (by rw [hs1]; exact hfc w rfl) (by omega) rfl)) ?_
        rw [den_slice]
        exact ⟨A, 0, hA, rfl, Nat.le_refl _, by rw [hn0]; rfl⟩
      have hpos : ¬ n.den = 0 := of_decide_eq_false h0
      rintro ⟨⟨hr1, hr2⟩, hs1⟩
      obtain ⟨cap, hcap, hrun⟩ := run_append_grow' (ty := ty) (bs := some A) (sLen := 0) (sCap := 0) (os := []) (xs := xs) ht hd hi hzv hm (hn P w) (by rw [hs1]; exact hfc)
        (fun w' hw' => firstCells_run (w := w) w' hw' (.inr (.inl ⟨A, 0, 0, rfl, by simp, by simp⟩))) (by omega) (by simpa using hr1) (by simpa using hr2)
      refine ap_new (c := .fn g n.den) (vs := xs) (len := n.den) hi hzl' ⟨hxl, hgd⟩ (by rw [hs1, hxl]; simp) (by simpa using hcap) rfl (hres _ _ ?_)
      rw [hrun]; simp
    · trivial
theorem zeroStr_size (n : Nat) : (zeroStr n).size = n := by simp [zeroStr, ByteArray.size]
theorem zeros_first (n : Nat) : ((zeroStr n).extract 0 n).data.map (fun b => Value.int .u8 (b.toNat : Int)) = Array.replicate n (.int .u8 0) := by
  apply Array.ext'
  simp [zeroStr, ByteArray.data_extract]
theorem zeroCells_u8 {z : Array Value} (hz : z = #[.int .u8 0]) (n : Nat) : Builtin.zeroCells z n = Array.replicate n (.int .u8 0) := by
  subst hz
  apply Array.ext
  · simp [Builtin.zeroCells]
  · intro i h1 h2
    simp [Builtin.zeroCells, Nat.mod_one]
/-- append of a make is append of so many zeros -/
theorem append_zeros {tys : Array TypeId} {st tn elem ty : TypeId} {i : TypeInfo} {z : Value} {k kn : IntKind} {bs : Option Addr} {sLen sCap n : Nat} (ht : tys[0]? = some st) (ht1 : tys[1]? = some tn) (hd : P.underlying st = some (.slice elem)) (htn : P.underlying tn = some (.int kn))
    (hi : P.info? elem = some i) (hz : i.zero = some z) (hzc : z.cells = #[.int .u8 0]) (h1 : i.size = 1) (hb : (sLen + n) * i.bytes < 70368744177664) (hb2 : sLen + n < 70368744177664) :
    (Builtin.append_ tys ty #[.slice bs sLen sCap, .int k n]).run P w = (Builtin.append_ #[st] ty #[.slice bs sLen sCap, .string (zeroStr n)]).run P w := by
  have hu := fun w => run_underlying (P := P) (w := w) hd
  have hu2 := fun w => run_underlying (P := P) (w := w) htn
  have hs := fun w => run_sizeOf (P := P) (w := w) hi
  have hti := fun w => run_typeInfo (P := P) (w := w) hi
  have hzv := fun w => run_zeroValue (P := P) (w := w) hi hz
  have hw : IntKind.i64.wrap (n : Int) = n := by rw [IntKind.wrap_i64]; omega
  have hneg : ¬ ((n : Int) < 0) := by omega
  have hnb : n * i.bytes ≤ (sLen + n) * i.bytes := Nat.mul_le_mul_right _ (by omega)
  have h48i : ¬ (281474976710656 < (n : Int) * (i.bytes : Int)) := by
    rw [← Int.natCast_mul]; omega
  have hzz := fun m => zeroCells_u8 hzc m
  have hstr : ∀ w' : World, (Builtin.firstCells i.size n (.string (zeroStr n))).run P w' = .ok (Array.replicate n (.int .u8 0)) w' := by
    intro w'
    simp only [Builtin.firstCells, Sem.run_pure]
    rw [zeros_first]
  have hlen : (Builtin.lenOf (.string (zeroStr n))).run P w = .ok n w := by
    simp only [Builtin.lenOf, Sem.run_pure, zeroStr_size]
  by_cases hle : sLen + n ≤ sCap
  · simp only [Builtin.append_, ht, ht1]
    by_cases hn : n = 0
    · have hns : n * i.size = 0 := by rw [hn, Nat.zero_mul]
      have hrep : Array.replicate n (Value.int .u8 0) = #[] := by rw [hn]; rfl
      rw [hrep] at hstr
      simp [hu, hu2, hs, hti, asInt, asIntOf, hw, hneg, h48i, hle, hlen, hns, hstr]
    · have hns : ¬ (n * i.size = 0) := by rw [h1]; omega
      simp [hu, hu2, hs, hti, hzv, asInt, asIntOf, hw, hneg, h48i, hle, hlen, hns, hzz, hstr]
  · have hnc := nextcap_le (Nat.lt_of_not_le hle)
    have hsmall : ¬ (281474976710656 < Builtin.nextslicecap (sLen + n) sCap * i.bytes) := by
      rcases Nat.lt_or_ge 256 (sLen + n) with h | h
      · have h1 : Builtin.nextslicecap (sLen + n) sCap ≤ 3 * (sLen + n) := by omega
        have h2 := Nat.mul_le_mul_right i.bytes h1
        rw [Nat.mul_assoc] at h2
        omega
      · have h2 := Nat.mul_le_mul_right i.bytes (hnc.2 h)
        rw [Nat.mul_assoc] at h2
        omega
    have h63' : ¬ (9223372036854775807 < ((sLen : Int) + (n : Int))) := by omega
    simp only [Builtin.append_, ht, ht1]
    by_cases hn : n = 0
    · have hns : n * i.size = 0 := by rw [hn, Nat.zero_mul]
      have hrep : Array.replicate n (Value.int .u8 0) = #[] := by rw [hn]; rfl
      rw [hrep] at hstr
      simp [hu, hu2, hs, hti, asInt, asIntOf, hw, hneg, h48i, hle, hlen, hns, hstr, hsmall, h63']
    · have hns : ¬ (n * i.size = 0) := by rw [h1]; omega
      simp [hu, hu2, hs, hti, hzv, asInt, asIntOf, hw, hneg, h48i, hle, hlen, hns, hzz, hstr, hsmall, h63']
theorem isZ1_spec {z : List SV} (h : isZ1 z = true) : z = [.int .u8 (.lit 0)] := by
  unfold isZ1 at h
  split at h
  · rfl
  · cases h
theorem isIntT_spec {t : TypeId} (h : isIntT P t = true) : ∃ k, P.underlying t = some (.int k) := by
  unfold isIntT at h
  cases hd : P.underlying t with
  | none => rw [hd] at h; cases h
  | some d =>
    rw [hd] at h
    cases d <;> first | exact ⟨_, rfl⟩ | cases h
theorem siLit_sat {α : Type} {x : SI} {d : R α} {f : Int → R α} {φ : α → Prop} (h : ∀ n, x = .lit n → (f n).Sat φ) (hd : d.Sat φ) : (x.asLit d f).Sat φ := by
  cases x with
  | lit n => exact h n rfl
  | _ => exact hd
theorem appendT_sat (hr : HeapRel0 P O w0 β H w) {tys : Array TypeId} {ty : TypeId} {s x : SV} {sv xv : Value} (hs : s.den β = some sv) (hx : x.den β = some xv) {res : Result Next}
    (hres : ∀ v w', (Builtin.append_ tys ty #[sv, xv]).run P w = .ok v w' → res = .ok (.value v) w') :
    (appendT P H base tys s x).Sat (OpSem P H β w base res) := by
  refine R.Sat.boolC (fun _ => appendP_sat hr hs hx hres) fun _ => ?_
  refine R.Sat.opt fun st ht => R.Sat.opt fun tn ht1 => R.Sat.boolC (fun hint => R.Sat.opt fun d hd => asSl_sat (fun elem hde => ?_) trivial) fun _ => trivial
  subst hde
  refine R.Sat.opt fun i hi => R.Sat.opt fun z hz => R.Sat.boolC (fun hz1 => R.Sat.boolC (fun hsz => lenS_sat hs fun len hlen => ?_) fun _ => trivial) fun _ => trivial
  obtain ⟨kn, htn⟩ := isIntT_spec hint
  obtain ⟨i', zv, hi', hzv, hden⟩ := zeroS_spec hz
  rw [hi] at hi'; cases hi'
  have h1 : i.size = 1 := Nat.eq_of_beq_eq_true hsz
  have hzc : zv.cells = #[.int .u8 0] := by
    have := hden β
    rw [isZ1_spec hz1] at this
    apply Array.ext'
    exact (Option.some.inj this).symm
  rcases asInt_cases x with ⟨k, n, rfl⟩ | hno
  · show (appendN P H base st i.bytes s len n).Sat _
    have hxv : xv = .int k n.den := (Option.some.inj hx).symm
    subst hxv
    have key : ∀ (m : Nat) (x' : SV), n.den = m → roomy (len.den + m) i.bytes → x'.den β = some (.string (zeroStr m)) → (appendP P H base #[st] s x').Sat (OpSem P H β w base res) := by
      intro m x' hm hro hx'
      refine appendP_sat (ty := ty) hr hs hx' fun v w' h => hres v w' ?_
      rw [hm]
      have hsl : ∃ bs c, sv = .slice bs len.den c := by
        have := hlen P w
        cases sv <;> simp [Builtin.lenOf] at this
        case slice bs l c => exact ⟨bs, c, by rw [this]⟩
        case string str =>
          exfalso
          simp [Builtin.append_, run_underlying hd] at h
      obtain ⟨bs, c, rfl⟩ := hsl
      rw [append_zeros ht ht1 hd htn hi hzv hzc h1 hro.1 hro.2]
      exact h
    refine siLit_sat (fun m hm => ?_) ?_
    · cases m with
      | negSucc m => trivial
      | ofNat m =>
        have hn : n.den = (m : Nat) := by rw [hm]; rfl
        refine SN.asLit_sat (fun l hl => R.Sat.boolC (fun hb1 => R.Sat.boolC (fun hb2 => key m _ hn ?_ rfl) fun _ => trivial) fun _ => trivial) fun _ => fun hro => key m _ hn hro rfl
        rw [hl]
        exact ⟨blt_lt hb1, blt_lt hb2⟩
    · exact fun hp => key n.den.toNat _ (by omega) hp.2 rfl
  · rw [hno]; trivial
theorem copyV_sat (hr : HeapRel0 P O w0 β H w) {tys : Array TypeId} {st elem ty : TypeId} {i : TypeInfo} {d x : SV} {dv xv : Value} (hdv : d.den β = some dv) (hx : x.den β = some xv) (ht : tys[0]? = some st) (hd : P.underlying st = some (.slice elem)) (hi : P.info? elem = some i) (hs1 : i.size = 1)
    {len n : SN} (hn : ∀ (P : Program) (w' : World), (Builtin.lenOf xv).run P w' = .ok n.den w') (hlen : ∀ (P : Program) (w' : World), (Builtin.lenOf dv).run P w' = .ok len.den w') {res : Result Next}
    (hres : ∀ v w', (Builtin.copy_ tys ty #[dv, xv]).run P w = .ok v w' → res = .ok (.value v) w') : (copyV H d x len n).Sat (OpSem P H β w base res) := by
  unfold copyV
  split
  · rename_i a ln c
    rw [den_slice] at hdv
    obtain ⟨A, C, hA, hC, _, rfl⟩ := hdv
    have hl0 : len.den = ln.den := lenOf_slice hlen P w
    refine bytesV_sat hr hx (hn P w) fun Y xs h1 h2 h3 => fun hle => entry_sat fun e he => ?_
    split
    · rename_i cl wh el
      obtain ⟨ll, vs, rest, lo, hi', hbl, h0', hc, hh, hfz, hw, hcap⟩ := hr.entries _ _ he
      obtain ⟨l', hl', rfl⟩ := SA.den_some hA
      rw [hbl] at hl'; cases hl'
      have hsc : ∀ y ∈ xs, y.oneCell' = true := by
        intro y hy
        obtain ⟨j, hj⟩ := List.getElem?_of_mem hy
        have hlt := (List.getElem?_eq_some_iff.1 hj).1
        rw [h2 j (by omega)] at hj
        cases hj; rfl
      refine putC_sat hc h1 h2 fun c' hc' hle2 => ?_
      have hrun := run_storeCells (P := P) xs (vs ++ rest) (ll.off + a.off.den) 0 w hh hsc hfz.at (by rw [h0']; simp; omega)
      rw [Nat.add_zero, h0', Nat.zero_add, overC_append hle2] at hrun
      have hu := run_underlying (w := w) hd
      have hcopy : ∀ W', (storeCells ⟨ll.blk, a.off.den, none⟩ xs).run P w = .ok () W' → (Builtin.copy_ tys ty #[.slice (some ⟨ll.blk, 0 + a.off.den, none⟩) ln.den C, xv]).run P w = .ok (goInt (n.den : Nat)) W' := by
        intro W' hst
        have hmin : min n.den ln.den = n.den := by omega
        have h4 := h3 w rfl
        have h5 := hn P w
        unfold Builtin.copy_
        simp only [ht, List.getElem?_toArray, List.getElem?_cons_zero, List.getElem?_cons_succ, Sem.run_bind, hu, Result.andThen_ok, h5, run_sizeOf hi, hs1, hmin, h4]
        rw [Nat.zero_add]
        simp [hst]
      rw [h0'] at hres
      refine fun hb => ⟨.value _, _, _, β, hres _ _ (hcopy _ hrun), rfl, by show some (Value.int .i64 n.toI.den) = _; rw [toI_den]; rfl, Eff.turn hbl ?_, ?_⟩
      · have hlt : ll.blk < w.heap.size := (Array.getElem?_eq_some_iff.1 hh).1
        refine ⟨ll, overC vs a.off.den xs, rest, lo, hi', hbl, h0', hc', by simp [hlt], ?_, hw, ?_⟩
        · simp only [List.length_append, overC_length hle2] at hfz ⊢; exact hfz
        · intro j hj
          have := hcap j hj
          simp only [List.length_append, overC_length hle2] at this ⊢; exact this
      · intro m e hm
        simp at hm
        obtain ⟨rfl, rfl⟩ := hm
        exact ⟨_, he, rfl⟩
    · trivial
  · trivial
theorem copyT_sat (hr : HeapRel0 P O w0 β H w) {tys : Array TypeId} {ty : TypeId} {d x : SV} {dv xv : Value} (hdv : d.den β = some dv) (hx : x.den β = some xv) {res : Result Next}
    (hres : ∀ v w', (Builtin.copy_ tys ty #[dv, xv]).run P w = .ok v w' → res = .ok (.value v) w') :
    (copyT P H tys d x).Sat (OpSem P H β w base res) := by
  refine R.Sat.opt fun st ht => R.Sat.opt fun td hd => ?_
  have hu := run_underlying (w := w) hd
  split
  · rename_i elem
    refine R.Sat.opt fun i hi => lenS_sat hx fun n hn => lenS_sat hdv fun len hlen => ?_
    split
    · rename_i len n
      refine srcCells_len (m := Nat.min n len) hr hx hn (Nat.min_le_left _ _) fun new xs hnew hfc hxl => ?_
      have hcopy : ∀ (bs : Option Addr) (c : Nat) (w' : World), dv = .slice bs len c → (match bs with | some a => storeCells a xs | none => pure () : Sem Unit).run P w = .ok () w' →
          (Builtin.copy_ tys ty #[dv, xv]).run P w = .ok (goInt (Nat.min n len : Nat)) w' := by
        intro bs c w' hdv' hst
        subst hdv'
        have h1 := hfc w rfl
        have h2 := hn P w
        simp only [SN.den] at h2
        unfold Builtin.copy_
        simp only [ht, List.getElem?_toArray, List.getElem?_cons_zero, List.getElem?_cons_succ, Sem.run_bind, hu, Result.andThen_ok, h2, run_sizeOf hi, h1]
        cases bs with
        | none => simp at hst; subst hst; simp
        | some a => simp at hst; simp [hst]
      split
      · simp only [SV.den, Option.some.injEq] at hdv; subst hdv
        have hl0 := lenOf_slice hlen P w
        simp only [SN.den] at hl0
        subst hl0
        exact sem_val (hres _ _ (hcopy none 0 w rfl rfl)) rfl
      · rename_i a ln c
        rw [den_slice] at hdv
        obtain ⟨A, C, hA, hC, _, rfl⟩ := hdv
        have hl0 : len = ln.den := lenOf_slice hlen P w
        split
        · rename_i hm0
          have hxs : xs = [] := List.eq_nil_of_length_eq_zero (by rw [hxl, hm0]; simp)
          subst hxs
          refine sem_val (x := goInt (Nat.min n len : Nat)) (hres _ _ (hcopy (some A) C w (by rw [← hl0]) rfl)) ?_
          rw [hm0]; rfl
        · split
          · rename_i hsc
            refine entry_sat fun e he => ?_
            split
            · rename_i cl wh el
              obtain ⟨ll, vs, rest, lo, hi', hbl, h0', hc, hh, hfz, hw, hcap⟩ := hr.entries _ _ he
              obtain ⟨l', hl', rfl⟩ := SA.den_some hA
              rw [hbl] at hl'; cases hl'
              refine wrCells_sat hc hnew fun c' hc' hle => ?_
              have hrun := run_storeCells (P := P) xs (vs ++ rest) (ll.off + a.off.den) 0 w hh (denL_one hnew hsc) hfz.at (by rw [h0']; simp; omega)
              rw [Nat.add_zero, h0', Nat.zero_add, overC_append hle] at hrun
              refine fun hb => ⟨.value _, _, _, β, hres _ _ (hcopy _ C _ (by rw [← hl0]) (by rw [h0', Nat.zero_add]; exact hrun)), rfl, rfl, Eff.turn hbl ?_, ?_⟩
              · have hlt : ll.blk < w.heap.size := (Array.getElem?_eq_some_iff.1 hh).1
                refine ⟨ll, overC vs a.off.den xs, rest, lo, hi', hbl, h0', hc', by simp [hlt], ?_, hw, ?_⟩
                · simp only [List.length_append, overC_length hle] at hfz ⊢; exact hfz
                · intro j hj
                  have := hcap j hj
                  simp only [List.length_append, overC_length hle] at this ⊢; exact this
              · intro m e hm
                simp at hm
                obtain ⟨rfl, rfl⟩ := hm
                exact ⟨_, he, rfl⟩
            · trivial
          · trivial
      · trivial
    · exact R.Sat.boolC (fun hs1 => copyV_sat (ty := ty) hr hdv hx ht hd hi (Nat.eq_of_beq_eq_true hs1) hn hlen hres) fun _ => trivial
  · trivial

theorem run_builtin_value {P : Program} {b : Builtin} {tys : Array TypeId} {ty : TypeId} {cs : Array Bool} {args : Array Value} {w w' : World} {v : Value} {s : Sem Value} (h : builtin b tys ty cs args = (do pure (.value (← s)) : Sem Next)) (hs : s.run P w = .ok v w') :
    (builtin b tys ty cs args).run P w = .ok (.value v) w' := by
  rw [h]; simp [hs]
theorem oCallB_sat (hr : HeapRel0 P O w0 β H w) {b : Builtin} {args : Array Operand} {tys : Array TypeId} (hev : ∀ x ∈ args.toList, (ev x).den β = some (ρ x)) :
    (oCallB b ⟨.builtin b, args, tys⟩ P ev H base).Sat (OpSem P H β w base ((execOp ρ ⟨dst, .call ⟨.builtin b, args, tys⟩, t, pos, af, g⟩).run P w)) := by
  have hargs := mapEv_den args.toList hev
  have hex : (execOp ρ ⟨dst, .call ⟨.builtin b, args, tys⟩, t, pos, af, g⟩).run P w = (builtin b tys t (args.map fun | .const _ => true | _ => false) (args.toList.map ρ).toArray).run P w := by
    simp only [execOp, resolve, Sem.run_bind, Sem.run_pure, Result.andThen_ok, invoke]
    congr 2
    simp [← Array.toList_map]
  rw [hex]
  generalize (args.map fun | Operand.const _ => true | _ => false) = cs
  show (builtinT P H base b tys (mapN ev args.toList)).Sat _
  generalize hA : mapN ev args.toList = as at hargs
  generalize args.toList.map ρ = vs at hargs
  unfold builtinT
  split
  · rename_i x xs
    obtain ⟨y, ys, hy, hys, rfl⟩ := denL_cons.1 hargs
    exact lenT_sat hy (ty := t) fun n hn => run_builtin_value rfl hn
  · rename_i s x
    obtain ⟨y, ys, hy, hys, rfl⟩ := denL_cons.1 hargs
    obtain ⟨z, zs, hz, hzs, rfl⟩ := denL_cons.1 hys
    rw [denL_nil] at hzs; subst hzs
    exact appendT_sat hr hy hz (ty := t) fun v w' h => run_builtin_value rfl h
  · rename_i d x
    obtain ⟨y, ys, hy, hys, rfl⟩ := denL_cons.1 hargs
    obtain ⟨z, zs, hz, hzs, rfl⟩ := denL_cons.1 hys
    rw [denL_nil] at hzs; subst hzs
    exact copyT_sat hr hy hz (ty := t) fun v w' h => run_builtin_value rfl h
  · rename_i x y
    obtain ⟨y1, ys, hy, hys, rfl⟩ := denL_cons.1 hargs
    obtain ⟨z, zs, hz, hzs, rfl⟩ := denL_cons.1 hys
    rw [denL_nil] at hzs; subst hzs
    refine (min2_sat (P := P) (w := w) hy hz).bind fun v ⟨u, hu, hrun⟩ => sem_val (run_builtin_value rfl (s := Builtin.min_ tys t #[y1, z]) ?_) hu
    simp [Builtin.min_, hrun]
  · trivial
theorem asFunc_cases (v : SV) : (∃ f xs ys, v = .func f xs ys) ∨ ∀ {γ : Type} (d : γ) (f : SFn → List SV → List SV → γ), v.asFunc d f = d := by
  cases v <;> first | exact .inl ⟨_, _, _, rfl⟩ | exact .inr fun _ _ => rfl
theorem callT_sat {f : SV} {fv : Value} {as : List SV} {vs : List Value} (hf : f.den β = some fv) (has : SV.denL β as = some vs) :
    (callT f as).Sat (OpSem P H β w base ((do let d ← Deferred.ofValue fv vs.toArray; invoke d.target d.args : Sem Next).run P w)) := by
  unfold callT
  rcases asFunc_cases f with ⟨fn, xs, ys, h⟩ | h
  · rw [h] at hf ⊢
    simp only [SV.den, Option.bind_eq_some_iff, Option.map_eq_some_iff] at hf
    obtain ⟨F, hF, x, hx, y, hy, rfl⟩ := hf
    cases fn with
    | yield nm =>
      simp only [SFn.den, Option.map_eq_some_iff] at hF
      obtain ⟨l, hl, rfl⟩ := hF
      refine ⟨l, x ++ vs, hl, app_den hx has, ?_⟩
      simp [Deferred.ofValue, invoke]
    | fn fn =>
      simp only [SFn.den, Option.some.injEq] at hF
      subst hF
      cases fn with
      | func g =>
        refine ⟨x ++ (vs ++ y), app_den hx (app_den has hy), ?_⟩
        simp [Deferred.ofValue, invoke]
      | method => trivial
      | methodOf => trivial
      | via => trivial
      | yield => trivial
  · rw [h]; trivial
theorem viaT_sat0 {path : List FieldStep} {g : FuncId} {as : List SV} {vs : List Value} (has : SV.denL β as = some vs) :
    (viaT P path g as).Sat fun r => ∃ args x xs y xt e, r = .enter g args ∧ vs = x :: xs ∧ SV.denL β args = some (y :: xs) ∧ (∀ ty, (follow path ty (.val x)).run P w = .ok (xt, .val y) w) ∧ (underlying xt).run P w = .ok (.pointer e) w ∧ path.isEmpty = false := by
  unfold viaT
  split
  · rename_i s l rest
    obtain ⟨x, xs, hx, hxs, rfl⟩ := denL_cons.1 has
    simp only [SV.den, Option.map_eq_some_iff] at hx
    obtain ⟨cs, hcs, rfl⟩ := hx
    split
    · trivial
    · rename_i hd
      refine R.Sat.opt fun d hu => ?_
      split
      · rename_i fs
        refine R.Sat.opt fun f hf => R.Sat.opt fun d2 hu2 => ?_
        have h1 := run_underlying (w := w) hu
        have h2 := run_underlying (w := w) hu2
        rw [nth_eq] at hf
        have hf' : fs[s.index]? = some f := by rw [← hf]; simp
        split
        · rename_i e
          refine partS_sat (w := w) hcs fun v x hv hpart => ?_
          refine ⟨_, _, _, x, f.type, e, rfl, rfl, denL_cons.2 ⟨x, xs, hv, hxs, rfl⟩, fun ty => ?_, h2, rfl⟩
          simp [follow, h1, hf', hd, hpart]
        · trivial
      · trivial
  · trivial
theorem viaT_sat {ty : TypeId} {path : Array FieldStep} {g : FuncId} {cap : Array Value} {as : List SV} {vs : List Value} (has : SV.denL β as = some vs) :
    (viaT P path.toList g as).Sat (OpSem P H β w base ((invoke (.fn (.via ty path g true) cap) vs.toArray : Sem Next).run P w)) := by
  refine R.Sat.mono (viaT_sat0 (w := w) has) fun r ⟨args, x, xs, y, xt, e, hr, hvs, hargs, hf, hu, _⟩ => ?_
  subst hr hvs
  refine ⟨y :: xs, hargs, ?_⟩
  simp [invoke, receiverVia, hf, receiverAt, hu, Place.get]
theorem methodT_sat {ty : TypeId} {name : String} {cap : Array Value} {as : List SV} {vs : List Value} (has : SV.denL β as = some vs) :
    (methodT P ty name as).Sat (OpSem P H β w base ((invoke (.fn (.methodOf ty name) cap) vs.toArray : Sem Next).run P w)) := by
  unfold methodT
  refine R.Sat.opt fun d hu => ?_
  split
  · rename_i fs
    refine R.Sat.opt fun i hi => R.Sat.opt fun m hm => ?_
    split
    · rename_i g hmf
      have h1 := run_underlying (w := w) hu
      have h2 := run_typeInfo (w := w) hi
      refine R.Sat.mono (viaT_sat0 (w := w) has) fun r ⟨args, x, xs, y, xt, e, hr, hvs, hargs, hf, hu, hp⟩ => ?_
      subst hr hvs
      refine ⟨y :: xs, hargs, ?_⟩
      have hm' : (i.methods.find? fun m => m.name == name) = some m := hm
      have hmeth : ∀ n, (method (n + 1) ty x name).run P w = .ok (g, y) w := fun n => by
        unfold method
        simp [h2, hm', hmf, hf, receiverAt, hu, Place.get]
      have hm2 : (method (P.types.size + Made.depth) ty x name).run P w = .ok (g, y) w := hmeth (P.types.size + 99)
      simp [invoke, h1, callMethod, hm2]
    · trivial
  · trivial
theorem callP_sat {f : SV} {fv : Value} {as : List SV} {vs : List Value} (hf : f.den β = some fv) (has : SV.denL β as = some vs) :
    (callP P f as).Sat (OpSem P H β w base ((do let d ← Deferred.ofValue fv vs.toArray; invoke d.target d.args : Sem Next).run P w)) := by
  unfold callP
  split
  · rename_i ty path g xs ys
    simp only [SV.den, Option.bind_eq_some_iff, Option.map_eq_some_iff] at hf
    obtain ⟨F, hF, x, hx, y, hy, rfl⟩ := hf
    simp only [SFn.den, Option.some.injEq] at hF
    subst hF
    have h := viaT_sat (P := P) (H := H) (w := w) (base := base) (ty := ty) (path := path) (g := g) (cap := y.toArray) (app_den hx has)
    simpa [Deferred.ofValue] using h
  · rename_i ty name xs ys
    simp only [SV.den, Option.bind_eq_some_iff, Option.map_eq_some_iff] at hf
    obtain ⟨F, hF, x, hx, y, hy, rfl⟩ := hf
    simp only [SFn.den, Option.some.injEq] at hF
    subst hF
    have h := methodT_sat (P := P) (H := H) (w := w) (base := base) (ty := ty) (name := name) (cap := y.toArray) (app_den hx has)
    simpa [Deferred.ofValue] using h
  · exact callT_sat hf has
theorem oCallV_sat {f : Operand} {args : Array Operand} {tys : Array TypeId} (hf : (ev f).den β = some (ρ f)) (hev : ∀ x ∈ args.toList, (ev x).den β = some (ρ x)) :
    (oCallV f ⟨.value f, args, tys⟩ P ev H base).Sat (OpSem P H β w base ((execOp ρ ⟨dst, .call ⟨.value f, args, tys⟩, t, pos, af, g⟩).run P w)) := by
  have hargs := mapEv_den args.toList hev
  have h := callP_sat (P := P) (H := H) (w := w) (base := base) hf hargs
  have e : (args.toList.map ρ).toArray = args.map ρ := by simp [← Array.toList_map]
  rw [e] at h
  exact h

/-- EVERY OPERATION -/
theorem opS_sat (hr : HeapRel0 P O w0 β H w) (o : Oper) (hev : ∀ x ∈ o.op.operands, (ev x).den β = some (ρ x)) :
    (opS P ev H base o).Sat (OpSem P H β w base ((execOp ρ o).run P w)) := by
  obtain ⟨dst, op, t, pos, af, g⟩ := o
  show (opD op P ev H base).Sat _
  cases op <;> simp only [Op.operands] at hev
  case move x => exact (oMove_sat (hev x (by simp))).1
  case assign x => exact (oMove_sat (hev x (by simp))).2
  case pick c a b => exact oPick_sat (hev c (by simp)) (hev a (by simp)) (hev b (by simp))
  case alloc e => exact oAlloc_sat (ev := ev)
  case box e x => exact oBox_sat (hev x (by simp))
  case build ty ps => exact oBuild_sat fun x hx => hev x (by simpa using hx)
  case buildSlice ty n ps => exact oBuildSlice_sat fun x hx => hev x (by simpa using hx)
  case load ty a => exact oLoad_sat hr (hev a (by simp))
  case store ty a x => exact oStore_sat hr (hev a (by simp)) (hev x (by simp))
  case nilCheck x => exact oNil_sat (hev x (by simp))
  case binOp op ty x y yt => exact oBin_sat (hev x (by simp)) (hev y (by simp))
  case unOp op ty x => exact oUn_sat (hev x (by simp))
  case convert s d x => exact oConv_sat hr (hev x (by simp))
  case sliceToArrayPointer ty x => exact oArr_sat (hev x (by simp))
  case makeInterface ty x => exact oIface_sat (hev x (by simp))
  case makeFunc fn xs ys => exact oFunc_sat (fun x hx => hev x (by simp at hx ⊢; exact .inl hx)) (fun x hx => hev x (by simp at hx ⊢; exact .inr hx))
  case makeSlice ty l c => exact oMakeSlice_sat (hev l (by simp)) (hev c (by simp))
  case slice ty x lo hi mx =>
    have ho : ∀ v : Option Operand, (∀ y, v = some y → (ev y).den β = some (ρ y)) → ODen β (v.map ev) (v.map ρ) := by
      intro v hv
      cases v with
      | none => trivial
      | some y => exact hv y rfl
    exact oSlice_sat (hev x (by simp)) (ho lo fun y hy => hev y (by subst hy; simp)) (ho hi fun y hy => hev y (by subst hy; simp)) (ho mx fun y hy => hev y (by subst hy; simp))
  case fieldAddr ty x n => exact oFieldAddr_sat (hev x (by simp))
  case field ty x n => exact oField_sat (hev x (by simp))
  case indexAddr ty x i => exact oIndexAddr_sat (hev x (by simp)) (hev i (by simp))
  case index ty x i => exact oIndex_sat (hev x (by simp)) (hev i (by simp))
  case extract x n => exact oExtract_sat (hev x (by simp))
  case call c =>
    obtain ⟨callee, args, tys⟩ := c
    simp only [Call.operands] at hev
    cases callee with
    | value f => exact oCallV_sat (hev f (by simp)) fun x hx => hev x (by simp at hx ⊢; exact .inr hx)
    | invoke r m => trivial
    | builtin b => exact oCallB_sat hr fun x hx => hev x (by simp at hx ⊢; exact hx)
  all_goals trivial

end
end Go.Sim
