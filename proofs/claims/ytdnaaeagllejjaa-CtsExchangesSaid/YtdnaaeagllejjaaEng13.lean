/-
  The symbolic simulator, thirteenth part: conversions, making slices, lengths.
-/
import Derived.Test.YtdnaaeagllejjaaEng12
import Derived.Laws.Append
namespace Go.Sim
variable {α : Type}

section
variable {P : Program} {O : Nat → Prop} {w0 : World} {β : Val} {H : List SO} {w : World} {base : Nat}
variable {ev : Operand → SV} {ρ : Operand → Value} {dst : Option Tmp} {t : TypeId} {pos : String} {af : Array Edge} {g : Option (Nat × Bool)}

theorem push_fold (ns : List Int) : ∀ r : ByteArray, ns.foldl (fun (r : ByteArray) n => r.push (UInt8.ofNat n.toNat)) r = ⟨r.data ++ (ns.map fun n => UInt8.ofNat n.toNat).toArray⟩ := by
  induction ns with
  | nil => intro r; simp
  | cons n ns ih => intro r; rw [List.foldl_cons, ih]; simp [ByteArray.push]
theorem run_toStr {A : Addr} {len cap : Nat} {ns : List Int} (hn : ns.length = len) (h : ∀ (j : Nat) (x : Value), (ns.map (Value.int .u8))[j]? = some x → w.cell? (A.add j) = some x) :
    (Conv.bytesToString (.slice (some A) len cap)).run P w = .ok (.string ⟨(ns.map fun n => UInt8.ofNat n.toNat).toArray⟩) w := by
  have := run_bytesToString (P := P) w A len cap ns (run_loadCells (by simpa using hn) h)
  rw [this, push_fold]
  show Result.ok (Value.string ⟨#[] ++ _⟩) w = _
  simp
theorem silistOf_spec {l : List SV} {b : List SI} (h : silistOf l = some b) : l = b.map fun i => .int .u8 i := by
  induction l generalizing b with
  | nil => simp [silistOf] at h; subst h; rfl
  | cons v l ih =>
    have h' : (match siOf v with | some n => (silistOf l).map (n :: ·) | none => none) = some b := h
    cases hv : siOf v with
    | none => rw [hv] at h'; cases h'
    | some n =>
      rw [hv] at h'
      simp only [Option.map_eq_some_iff] at h'
      obtain ⟨b', hb', rfl⟩ := h'
      rw [ih hb', List.map_cons]
      congr 1
      unfold siOf at hv
      split at hv
      · cases hv; rfl
      · cases hv
theorem denL_ints (β : Val) (b : List SI) : SV.denL β (b.map fun i => .int .u8 i) = some (b.map fun i => .int .u8 i.den) := by
  induction b with
  | nil => rfl
  | cons i b ih => exact denL_cons.2 ⟨_, _, rfl, ih, rfl⟩
theorem optC_sat {α β : Type} {o : Option β} {f : β → R α} {n : Nat} {φ : α → Prop} (h : ∀ a, o = some a → (f a).Sat φ) : (optC o (.stuck n) f).Sat φ := by
  cases o with
  | none => trivial
  | some a => exact h a rfl
theorem toStrO_sat (hr : HeapRel0 P O w0 β H w) {a : SA} {A : Addr} {len : SN} (hA : a.den β = some A) {res : Result Next}
    (hfin : ∀ (ns : List Int) (s : SStr), ns.length = len.den → (∀ (j : Nat) (x : Value), (ns.map (Value.int .u8))[j]? = some x → w.cell? (A.add j) = some x) → s.den = ⟨(ns.map fun n => UInt8.ofNat n.toNat).toArray⟩ → (vR (.str s)).Sat (OpSem P H β w base res))
    {e : SO} (he : H[a.nm]? = some e) : (toStrO e a.off len).Sat (OpSem P H β w base res) := by
  have key : ∀ c, e.cells? = some c → (toStrC c a.off len).Sat (OpSem P H β w base res) := by
    intro c hc
    obtain ⟨l, vs, hl, hcr, hcell⟩ := entry_cells hr he hc
    obtain ⟨l', hl', rfl⟩ := SA.den_some hA
    rw [hl] at hl'; cases hl'
    cases c with
    | lst ls =>
      unfold toStrC
      simp only
      split
      · rename_i o n ho
        split
        · rename_i hn
          refine R.Sat.opt fun b hb => ?_
          have hb' := silistOf_spec hb
          rw [takeN_eq, dropN_eq] at hb' hn
          rw [lenN_eq] at hn
          have hd := denL_take (denL_drop hcr o) n
          rw [hb', denL_ints] at hd
          have hd' : b.map (fun i => Value.int .u8 i.den) = (vs.drop o).take n := Option.some.inj hd
          refine hfin (b.map SI.den) _ ?_ ?_ ?_
          · have := congrArg List.length hb'
            simp only [List.length_map] at this ⊢
            simp only [SN.den]; omega
          · intro j x hx
            rw [List.map_map] at hx
            have hx' : (b.map (fun i => Value.int .u8 i.den))[j]? = some x := hx
            rw [hd', List.getElem?_take] at hx'
            split at hx'
            · rw [List.getElem?_drop] at hx'
              rw [addr_add, Nat.add_assoc, ho]
              exact hcell _ _ hx'
            · cases hx'
          · simp [SStr.den, bytesOf]
        · trivial
      · rename_i len0 _ _ _
        refine optC_sat fun xs hx => ?_
        obtain ⟨hl1, hl2⟩ := unb_get hx hcr
        rw [lenN_eq]
        intro hle
        refine hfin ((List.range len0.den).map fun i => ((byteAt xs (a.off.den + i)).toNat : Int)) _ (by simp) ?_ ?_
        · intro j x hx'
          simp only [List.map_map, List.getElem?_map, Option.map_eq_some_iff] at hx'
          obtain ⟨j', hj', rfl⟩ := hx'
          have hj : j < len0.den := by
            have := (List.getElem?_eq_some_iff.1 hj').1; simpa using this
          rw [List.getElem?_range hj] at hj'
          cases hj'
          rw [addr_add, Nat.add_assoc]
          exact hcell _ _ (hl2 (a.off.den + j) (by omega))
        · simp [SStr.den, strOfFn, byteF, SV.num, SI.den]
    | fn f n =>
      rintro ⟨hle, hb⟩
      obtain ⟨hlen, hf⟩ := hcr
      have hint : ∀ i, i < n → f i = .int .u8 (.sym (f i).num) ∨ (f i).den β = some (.int .u8 (f i).num) := by
        intro i hi
        right
        have := hb i hi
        cases hfi : f i <;> rw [hfi] at this <;> first | exact this.elim | skip
        rename_i k m
        cases k <;> first | exact this.elim | rfl
      refine hfin ((List.range len.den).map fun i => (f (a.off.den + i)).num) _ (by simp) ?_ ?_
      · intro j x hx
        simp only [List.map_map, List.getElem?_map, Option.map_eq_some_iff] at hx
        obtain ⟨j', hj', rfl⟩ := hx
        have hj : j < len.den := by
          have := (List.getElem?_eq_some_iff.1 hj').1; simpa using this
        rw [List.getElem?_range hj] at hj'
        cases hj'
        have hlt : a.off.den + j < vs.length := by omega
        have h1 := hf _ _ (List.getElem?_eq_getElem hlt)
        have h2 : (f (a.off.den + j)).den β = some (.int .u8 (f (a.off.den + j)).num) := by
          rcases hint (a.off.den + j) (by omega) with h | h
          · rw [h]; rfl
          · exact h
        rw [h2] at h1
        rw [addr_add, Nat.add_assoc]
        show _ = some (Value.int .u8 (f (a.off.den + j)).num)
        rw [h1]
        exact hcell _ _ (List.getElem?_eq_getElem hlt)
      · simp [SStr.den, strOfFn]
  cases e with
  | own c wh el => exact key c rfl
  | row c => exact key c rfl
  | loop => trivial
  | deferred => trivial
  | gone => trivial
theorem toStrT_sat (hr : HeapRel0 P O w0 β H w) {v : SV} {x : Value} (hv : v.den β = some x) {res : Result Next} (hres : ∀ s, (Conv.bytesToString x).run P w = .ok (.string s) w → res = .ok (.value (.string s)) w) :
    (toStrT H v).Sat (OpSem P H β w base res) := by
  unfold toStrT
  split
  · simp only [SV.den, Option.some.injEq] at hv
    subst hv
    exact sem_val (hres _ rfl) rfl
  · rename_i a len cap
    rw [den_slice] at hv
    obtain ⟨A, C, hA, hC, hLC, rfl⟩ := hv
    refine entry_sat fun e he => toStrO_sat hr hA ?_ he
    intro ns s h1 h2 h3
    exact sem_val (hres _ (run_toStr h1 h2)) (by simp [SV.den, h3])
  · rename_i a n len cap
    rw [den_tail] at hv
    obtain ⟨A, C, hA, hC, hLC, rfl⟩ := hv
    refine entry_sat fun e he => toStrO_sat hr (SA.plus_den hA n) ?_ he
    intro ns s h1 h2 h3
    by_cases hC0 : C = 0
    · have hn0 : ns = [] := List.eq_nil_of_length_eq_zero (by omega)
      exact sem_val (hres _ (run_toStr h1 (by rw [hn0]; intro j x hx; simp at hx))) (by simp [SV.den, h3])
    · rw [if_neg hC0] at hres
      exact sem_val (hres _ (run_toStr h1 h2)) (by simp [SV.den, h3])
  · trivial
theorem grownCap_le (w : World) (need old : Nat) (e : TypeId) : need ≤ grownCap w need old e := by
  unfold grownCap Question.cut
  exact Nat.le_add_right _ _
theorem bytes_den (β : Val) (l : List UInt8) : SV.denL β (mapN (fun (b : UInt8) => SV.int .u8 (.lit (b.toNat : Int))) l) = some (l.map fun b => Value.int .u8 (b.toNat : Int)) := by
  rw [mapN_eq]
  induction l with
  | nil => rfl
  | cons b l ih => exact denL_cons.2 ⟨_, _, rfl, ih, rfl⟩
theorem bytesFn_den (β : Val) (s : ByteArray) (i : Nat) (x : Value) (h : (s.data.toList.map fun b => Value.int .u8 (b.toNat : Int))[i]? = some x) : (bytesFn s i).den β = some x := by
  simp only [List.getElem?_map, Option.map_eq_some_iff] at h
  obtain ⟨b, hb, rfl⟩ := h
  have hb' : s.data[i]? = some b := by rw [← hb]; simp
  have : s.data.getD i 0 = b := by rw [Array.getD_eq_getD_getElem?, hb']; rfl
  simp only [bytesFn, SV.den, SI.den, this]; rfl
theorem toBytesT_sat {elem : TypeId} {s : SStr} {res : Result Next}
    (hres : res = .ok (.value (.slice (some ⟨w.heap.size, 0, none⟩) s.den.size (grownCap w s.den.size 0 elem)))
      (w.drew.alloc (.cells (bytesRow s.den (grownCap w s.den.size 0 elem)) elem ((bytesRow s.den (grownCap w s.den.size 0 elem)).size, (bytesRow s.den (grownCap w s.den.size 0 elem)).size + 1)))) :
    (toBytesT P base elem s).Sat (OpSem P H β w base res) := by
  refine R.Sat.opt fun i hi => R.Sat.boolC (fun h1 => ?_) fun _ => trivial
  have hsz : i.size = 1 := Nat.eq_of_beq_eq_true h1
  have hcap := grownCap_le w s.den.size 0 elem
  have hfin : ∀ (c : Cells) (n : SN), n.den = s.den.size → CellsRel β c (s.den.data.toList.map fun b => Value.int .u8 (b.toNat : Int)) →
      (R.ok (OpRes.val (.slice ⟨base, .lit 0⟩ n (.rest base 0)) [] [.own c false elem])).Sat (OpSem P H β w base res) := by
    intro c n hn hc
    refine fun hb => ⟨_, _, _, β.upd base ⟨w.heap.size, 0, grownCap w s.den.size 0 elem⟩, hres, rfl, ?_, ?_, by simp⟩
    · rw [den_slice]
      exact ⟨⟨w.heap.size, 0, none⟩, grownCap w s.den.size 0 elem, by simp [SA.den, Val.upd_same, SN.den], by simp [SC.den, Val.upd_same], by rw [hn]; exact hcap, by rw [hn]⟩
    · have hl : (s.den.data.toList.map fun (b : UInt8) => Value.int .u8 (b.toNat : Int)).length = s.den.size := by simp
      refine Eff.alloc (vs := s.den.data.toList.map fun (b : UInt8) => Value.int .u8 (b.toNat : Int)) (rest := List.replicate (grownCap w s.den.size 0 elem - s.den.size) (Value.int .u8 0))
        (lo := (bytesRow s.den (grownCap w s.den.size 0 elem)).size) (hi := (bytesRow s.den (grownCap w s.den.size 0 elem)).size + 1) hb.hd ?_ rfl rfl rfl hc ?_ (by simp) ?_
      · show w.heap.push _ = _
        congr 2
        apply Array.ext'
        simp [bytesRow]
      · have : (bytesRow s.den (grownCap w s.den.size 0 elem)).size = (s.den.data.toList.map (fun (b : UInt8) => Value.int .u8 (b.toNat : Int)) ++ List.replicate (grownCap w s.den.size 0 elem - s.den.size) (Value.int .u8 0)).length := by
          simp [bytesRow]
        exact .inr (Nat.le_of_eq this.symm)
      · intro i' hi'
        rw [hi] at hi'; cases hi'
        rw [hsz, List.length_append, hl, List.length_replicate]; omega
  cases s with
  | lit s => exact hfin _ _ rfl (bytes_den β _)
  | sym s =>
    refine hfin _ _ rfl ⟨?_, fun i x hx => bytesFn_den β s i x hx⟩
    simp [SStr.den]
  | bytes l =>
    intro hbnd
    have hsz : (SStr.bytes l).den.size = l.length := by
      show (l.map fun i => UInt8.ofNat i.den.toNat).toArray.size = _
      simp
    refine hfin _ _ (by rw [hsz]; exact lenN_eq l) ?_
    show SV.denL β (mapN (fun i => SV.int .u8 i) l) = _
    rw [mapN_eq, denL_ints]
    simp only [SStr.den, bytesOf, List.map_map, Option.some.injEq]
    refine List.map_congr_left fun i hi => ?_
    have := hbnd i hi
    simp only [Function.comp, UInt8.toNat_ofNat']
    rw [Nat.mod_eq_of_lt (by omega)]
    congr 1; omega
theorem sameT_sat (hr : HeapRel0 P O w0 β H w) {src dt e e' : TypeId} {a : SA} {l : SN} {c : SC} (hs : P.underlying src = some (.slice e')) (hd : P.underlying dt = some (.slice e)) {v : Value} (hv : (SV.slice a l c).den β = some v) {res : Result Next}
    (hres : ∀ v' w', (convert src dt v).run P w = .ok v' w' → res = .ok (.value v') w') : (sameT P H src dt e a l c).Sat (OpSem P H β w base res) := by
  refine R.Sat.boolC (fun hsd => R.Sat.opt fun d he => ?_) fun _ => trivial
  split
  · refine entry_sat fun e0 h0 => ?_
    cases e0 with
    | row => trivial
    | loop => trivial
    | deferred => trivial
    | gone => trivial
    | own cl wh el =>
      obtain ⟨ll, vs, rest, lo, hi, hbl, h0', hc, hh, hfz, hw, hcap⟩ := hr.entries _ _ h0
      have hv' := hv
      rw [den_slice] at hv
      obtain ⟨A, C, hA, hC, hLC, rfl⟩ := hv
      obtain ⟨l', hl', hAe⟩ := SA.den_some hA
      rw [hbl] at hl'; cases hl'
      have hAb : A.block = ll.blk := by rw [hAe]
      have hlt : ll.blk < w.heap.size := (Array.getElem?_eq_some_iff.1 hh).1
      have hus := fun w => run_underlying (P := P) (w := w) hs
      have hud := fun w => run_underlying (P := P) (w := w) hd
      have hue := fun w => run_underlying (P := P) (w := w) he
      obtain ⟨lo', hi', hm, hfz'⟩ : ∃ lo' hi', w.freeze ⟨ll.blk, (vs ++ rest).toArray.size, none⟩ 1 = { w with heap := w.heap.setIfInBounds ll.blk (.cells (vs ++ rest).toArray el (lo', hi')) } ∧ Unfz lo' hi' (vs ++ rest).length := by
        refine ⟨if lo == hi then (vs ++ rest).toArray.size else min lo (vs ++ rest).toArray.size, if lo == hi then (vs ++ rest).toArray.size + 1 else max hi ((vs ++ rest).toArray.size + 1), ?_, ?_⟩
        · unfold World.freeze
          rw [if_neg (by decide)]
          congr 1
          apply Array.ext_getElem?
          intro j
          rw [Array.getElem?_modify, Array.getElem?_setIfInBounds]
          split
          · rename_i h; subst h
            rw [hh]
            show some (Obj.cells (vs ++ rest).toArray el (if lo == hi then _ else _)) = _
            cases (lo == hi) <;> rfl
          · rfl
        · by_cases hlh : lo = hi
          · subst hlh; simp only [beq_self_eq_true, if_true]; exact .inr (by simp)
          · have : (lo == hi) = false := by simpa using hlh
            rw [this]
            rcases hfz with h | h
            · exact absurd h hlh
            · exact .inr (by simp only [Bool.false_eq_true, if_false, List.size_toArray]; omega)
      have hsh : w.shape? ll.blk = some (el, (vs ++ rest).toArray.size) := by unfold World.shape?; rw [hh]
      have hrun : (convert src dt (.slice (some A) l.den C)).run P w = .ok (.slice (some A) l.den C) { w with heap := w.heap.setIfInBounds ll.blk (.cells (vs ++ rest).toArray el (lo', hi')) } := by
        rw [← hm]
        have hb : (src == dt) = true := by rw [Nat.eq_of_beq_eq_true hsd]; exact beq_self_eq_true _
        simp only [convert, Sem.run_bind, hus, hud, Result.andThen_ok, hue, hb, markStringish, hAb, run_shape, hsh, run_freeze, Sem.run_pure]
      refine ⟨.value _, _, _, _, hres _ _ hrun, rfl, hv', h0, rfl, Eff.turn hbl ?_⟩
      exact ⟨ll, vs, rest, lo', hi', hbl, h0', hc, by simp [hlt], hfz', hw, hcap⟩
  · trivial
theorem oConv_sat (hr : HeapRel0 P O w0 β H w) {src dt : TypeId} {x : Operand} (hx : (ev x).den β = some (ρ x)) :
    (oConv src dt x P ev H base).Sat (OpSem P H β w base ((execOp ρ ⟨dst, .convert src dt x, t, pos, af, g⟩).run P w)) := by
  refine R.Sat.opt fun s hs => R.Sat.opt fun d hd => ?_
  have hus := run_underlying (w := w) hs
  have hud := run_underlying (w := w) hd
  split
  · rename_i k' _ n h
    rw [h] at hx
    simp only [SV.den, Option.some.injEq] at hx
    exact sem_val (x := .int k' (k'.wrap n.den)) (by simp [execOp, ← hx, convert, hus, hud, Conv.intToInt]) (by simp [SV.den, convI_den])
  · rename_i s h
    rw [h] at hx
    simp only [SV.den, Option.some.injEq] at hx
    exact sem_val (x := .string s.den) (by simp [execOp, ← hx, convert, hus, hud]) rfl
  · rename_i e s h
    rw [h] at hx
    simp only [SV.den, Option.some.injEq] at hx
    refine R.Sat.opt fun ed hed => ?_
    split
    · refine toBytesT_sat ?_
      have := run_bytes_of_string w src dt e s.den hs hd hed
      simp only [execOp, ← hx, Sem.run_bind, this, Result.andThen_ok, Sem.run_pure]
    · trivial
  · rename_i e' e a l c h
    rw [h] at hx
    refine sameT_sat hr hs hd hx fun v' w' h => ?_
    simp only [execOp, Sem.run_bind, h, Result.andThen_ok, Sem.run_pure]
  · rename_i e
    refine R.Sat.opt fun ed hed => ?_
    split
    · refine toStrT_sat hr hx fun s hs' => ?_
      have hue := run_underlying (w := w) hed
      have hslice : (∃ a l c, ρ x = .slice a l c) ∨ ¬ ∃ a l c, ρ x = .slice a l c := Classical.em _
      rcases hslice with ⟨a, l, c, hρ⟩ | hno
      · simp only [execOp, hρ] at hs' ⊢
        simp only [convert, Sem.run_bind, hus, hud, Result.andThen_ok, hue, hs', Sem.run_pure]
      · exfalso
        cases hρ : ρ x <;> rw [hρ] at hs' hno <;> first | (exact hno ⟨_, _, _, rfl⟩) | (simp [Conv.bytesToString] at hs')
    · trivial
  · trivial
theorem lenS_sat {v : SV} {x : Value} (hv : v.den β = some x) {f : SN → R α} {φ : α → Prop}
    (hf : ∀ n : SN, (∀ (P : Program) (w' : World), (Builtin.lenOf x).run P w' = .ok n.den w') → (f n).Sat φ) : (lenS v f).Sat φ := by
  unfold lenS
  split
  · simp only [SV.den, Option.some.injEq] at hv; subst hv; exact hf _ fun _ _ => rfl
  · rw [den_slice] at hv; obtain ⟨A, C, _, _, _, rfl⟩ := hv; exact hf _ fun _ _ => rfl
  · rw [den_tail] at hv; obtain ⟨A, C, _, _, _, rfl⟩ := hv; exact hf _ fun _ _ => rfl
  · simp only [SV.den, Option.some.injEq] at hv; subst hv; exact hf _ fun _ _ => rfl
  · rename_i l
    simp only [SV.den, Option.some.injEq] at hv; subst hv
    refine hf _ fun P w' => ?_
    show Result.ok (SStr.bytes l).den.size w' = _
    congr 1
    show (l.map fun i => UInt8.ofNat i.den.toNat).toArray.size = lenN l
    rw [lenN_eq]; simp
  · simp only [SV.den, Option.some.injEq] at hv; subst hv; exact hf _ fun _ _ => rfl
  · trivial

end
end Go.Sim
