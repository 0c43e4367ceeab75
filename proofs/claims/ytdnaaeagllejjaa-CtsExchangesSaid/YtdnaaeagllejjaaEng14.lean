/-
  The symbolic simulator, fourteenth part: append, copy, make, len, min; calls.
-/
import Derived.Test.YtdnaaeagllejjaaEng13
namespace Go.Sim
variable {α : Type}

section
variable {P : Program} {O : Nat → Prop} {w0 : World} {β : Val} {H : List SO} {w : World} {base : Nat}
variable {ev : Operand → SV} {ρ : Operand → Value} {dst : Option Tmp} {t : TypeId} {pos : String} {af : Array Edge} {g : Option (Nat × Bool)}

theorem lenT_sat {tys : Array TypeId} {v : SV} {x : Value} (hv : v.den β = some x) {xs : List Value} {ty : TypeId} {res : Result Next} (hres : ∀ n : Nat, (Builtin.len_ tys ty (x :: xs).toArray).run P w = .ok (goInt n) w → res = .ok (.value (goInt n)) w) :
    (lenT P tys v).Sat (OpSem P H β w base res) := by
  refine R.Sat.opt fun t ht => R.Sat.opt fun d hd => ?_
  have hu := run_underlying (w := w) hd
  split
  · rename_i s
    simp only [SV.den, Option.some.injEq] at hv
    subst hv
    refine lenS_sat (β := β) (v := .str s) rfl fun n hn => sem_val (hres n.den ?_) (by simp [SV.den, toI_den, goInt])
    have : s.den.size = n.den := by
      have := hn P w
      simp only [Builtin.lenOf, Sem.run_pure, Result.ok.injEq] at this
      exact this.1
    simp [Builtin.len_, ht, hu, this]
  · rename_i n e
    refine sem_val (hres n ?_) rfl
    simp [Builtin.len_, ht, hu]
  · rename_i e a n c
    rw [den_slice] at hv
    obtain ⟨A, C, hA, hC, _, rfl⟩ := hv
    exact sem_val (hres n.den (by simp [Builtin.len_, ht, hu])) (by simp [SV.den, toI_den, goInt])
  · rename_i e a k n c
    rw [den_tail] at hv
    obtain ⟨A, C, hA, hC, _, rfl⟩ := hv
    exact sem_val (hres n.den (by simp [Builtin.len_, ht, hu])) (by simp [SV.den, toI_den, goInt])
  · rename_i e p n c
    simp only [SV.den, Option.some.injEq] at hv
    subst hv
    exact sem_val (hres n (by simp [Builtin.len_, ht, hu])) rfl
  · simp only [SV.den, Option.some.injEq] at hv
    subst hv
    exact sem_val (hres 0 (by simp [Builtin.len_, ht, hu])) rfl
  · simp only [SV.den, Option.some.injEq] at hv
    subst hv
    exact sem_val (hres 0 (by simp [Builtin.len_, ht, hu])) rfl
  · trivial
theorem min2_sat {a b : SV} {x y : Value} (ha : a.den β = some x) (hb : b.den β = some y) : (min2 a b).Sat fun v => ∃ z, v.den β = some z ∧ (Builtin.min2 x y).run P w = .ok z w := by
  unfold min2
  split
  · simp only [SV.den, Option.some.injEq] at ha hb; subst ha; subst hb; exact ⟨_, rfl, rfl⟩
  · rename_i k a k' b _
    simp only [SV.den, Option.some.injEq] at ha hb; subst ha; subst hb
    have hr : (Builtin.min2 (.int k a.den) (.int k' b.den)).run P w = .ok (.int k (if b.den < a.den then b.den else a.den)) w := rfl
    refine ⟨fun he => ⟨_, rfl, ?_⟩, fun he => ⟨_, rfl, ?_⟩⟩
    · rw [hr, if_pos (of_decide_eq_true he)]
    · rw [hr, if_neg (of_decide_eq_false he)]
  · trivial
/-- what a makeSlice of fitting numbers does -/
theorem run_makeSlice {ty elem : TypeId} {l c : Int} {i : TypeInfo} {z : Value} (hd : P.underlying ty = some (.slice elem)) (hi : P.info? elem = some i) (hz : i.zero = some z) (hzl : z.cells.size = i.size)
    (h0 : 0 ≤ l) (h1 : l ≤ c) (h2 : c ≤ 9223372036854775807) (h3 : i.bytes * c ≤ 2 ^ 48) :
    (Instr.makeSlice ty (.int .i64 l) (.int .i64 c)).run P w = .ok (.slice (some ⟨w.heap.size, 0, none⟩) l.toNat c.toNat) { w with heap := w.heap.push (.cells (List.replicate c.toNat z.cells.toList).flatten.toArray elem) } := by
  have hwl : IntKind.i64.wrap l = l := wrap_i64 ⟨by omega, by omega⟩
  have hwc : IntKind.i64.wrap c = c := wrap_i64 ⟨by omega, by omega⟩
  have ht : (decide (c < 0) || decide (i.bytes * c > 2 ^ 48)) = false := by simp; omega
  unfold Instr.makeSlice
  simp only [asInt, asIntOf, Sem.run_bind, run_underlying hd, Result.andThen_ok, Sem.run_pure, run_typeInfo hi, hwl, hwc]
  rw [if_neg (by rw [ht]; simp; omega)]
  simp only [Sem.run_bind, run_askRoom, Result.andThen_ok, run_sizeOf hi]
  by_cases hn : c.toNat * i.size = 0
  · rw [if_pos hn]
    simp only [Sem.run_pure, Result.andThen_ok, newRow, Sem.run_bind, run_newObj]
    rw [hn]
    have : (List.replicate c.toNat z.cells.toList).flatten = [] := List.eq_nil_of_length_eq_zero (by simp [hzl, hn])
    rw [this, show (Array.range 0).map (fun i => (#[] : Array Value)[i % (#[] : Array Value).size]!) = #[] from Array.eq_empty_of_size_eq_zero (by simp)]
  · rw [if_neg hn]
    simp only [Sem.run_bind, run_zeroValue hi hz, Sem.run_pure, Result.andThen_ok, newRow, run_newObj]
    rw [range_map_zero hzl hn]
theorem sameF_den {z : SV} {x : Value} (h : z.den β = some x) (j : Nat) : (sameF z j).den β = some x := by
  unfold sameF
  cases hz : unb1 z with
  | none => exact h
  | some b => rw [unb1_den hz h]; rfl
theorem oMakeSlice_sat {ty : TypeId} {l c : Operand} (hl : (ev l).den β = some (ρ l)) (hc : (ev c).den β = some (ρ c)) :
    (oMakeSlice ty l c P ev H base).Sat (OpSem P H β w base ((execOp ρ ⟨dst, .makeSlice ty l c, t, pos, af, g⟩).run P w)) := by
  refine R.Sat.opt fun d hd => ?_
  split
  · rename_i elem
    refine R.Sat.opt fun i hi => R.Sat.opt fun z hz => ?_
    obtain ⟨i', zv, hi', hzv, hden⟩ := zeroS_spec hz
    rw [hi] at hi'; cases hi'
    have hzl : lenN z = zv.cells.size := by rw [lenN_eq]; have := denL_length (hden β); simpa using this.symm
    split
    · rename_i ln cn h1 h2
      rw [h1] at hl; rw [h2] at hc
      simp only [SV.den, SI.den, Option.some.injEq] at hl hc
      split
      · rename_i hcond
        obtain ⟨h0, hle, hlt, hby⟩ := hcond
        split
        · trivial
        · rename_i hsz
          have hsz' : zv.cells.size = i.size := by rw [← hzl]; exact Classical.not_not.1 hsz
          have hrun := run_makeSlice (w := w) hd hi hzv hsz' h0 hle (by omega) (by
            have h5 : (i.bytes : Int) * cn ≤ 65536 * 1048576 := Int.mul_le_mul (by omega) (by omega) (by omega) (by decide)
            exact Int.le_trans h5 (by decide))
          refine fun hb => ⟨.value _, _, _, β.upd base ⟨w.heap.size, 0, 0⟩, by simp only [execOp, ← hl, ← hc, Sem.run_bind, hrun, Result.andThen_ok, Sem.run_pure]; rfl, rfl, ?_, ?_, by simp⟩
          · rw [den_slice]
            exact ⟨⟨w.heap.size, 0, none⟩, cn.toNat, by simp [SA.den, Val.upd_same, SN.den], rfl, by simp only [SN.den]; omega, rfl⟩
          · exact Eff.alloc (vs := (List.replicate cn.toNat zv.cells.toList).flatten) (rest := []) (lo := 0) (hi := 0) hb.hd (by simp) rfl rfl rfl (manyN_den (hden β) _) (by simp) (by simp) (by simp)
      · trivial
    · rename_i ln cn _ h1 h2
      rw [h1] at hl; rw [h2] at hc
      simp only [SV.den, Option.some.injEq] at hl hc
      split
      · rename_i z1
        rintro ⟨h0, hle, hby, hmax, hsz⟩
        obtain ⟨zx, zs, hzx, hzs, hzcells⟩ := denL_cons.1 (hden β)
        rw [denL_nil] at hzs; subst hzs
        have hsz' : zv.cells.size = i.size := by
          have := congrArg List.length hzcells
          simp at this; omega
        have hrun := run_makeSlice (w := w) hd hi hzv hsz' h0 hle (by omega) (by rw [Int.mul_comm]; exact hby)
        refine fun hb => ⟨.value _, _, _, β.upd base ⟨w.heap.size, 0, 0⟩, by simp only [execOp, ← hl, ← hc, Sem.run_bind, hrun, Result.andThen_ok, Sem.run_pure]; rfl, rfl, ?_, ?_, by simp⟩
        · rw [den_slice]
          exact ⟨⟨w.heap.size, 0, none⟩, cn.den.toNat, by simp [SA.den, Val.upd_same, SN.den], rfl, by rw [toN_den]; omega, by rw [toN_den]⟩
        · have hfl : (List.replicate cn.den.toNat [zx]).flatten = List.replicate cn.den.toNat zx := by
            generalize cn.den.toNat = m
            induction m with
            | zero => rfl
            | succ m ih => rw [List.replicate_succ, List.flatten_cons, ih]; rfl
          refine Eff.alloc (vs := List.replicate cn.den.toNat zx) (rest := []) (lo := 0) (hi := 0) hb.hd (by simp [hzcells, hfl]) rfl rfl rfl ⟨by simp, fun j x hx => ?_⟩ (by simp) (by simp) (by simp)
          have : x = zx := by
            have := List.eq_of_mem_replicate (List.mem_of_getElem? hx)
            exact this
          rw [this]; exact sameF_den hzx j
      · trivial
    · trivial
  · trivial

theorem firstCells_run {x : Value} {size n : Nat} {xs : List Value} (w' : World) (hh : w'.heap = w.heap)
    (h : (∃ c, x = .slice none 0 c ∧ xs = []) ∨ (∃ A l c, x = .slice (some A) l c ∧ xs.length = n * size ∧ ∀ (j : Nat) (y : Value), xs[j]? = some y → w.cell? (A.add j) = some y) ∨ (∃ s, x = .string s ∧ xs = (s.data.toList.take n).map fun b => Value.int .u8 (b.toNat : Int))) :
    (Builtin.firstCells size n x).run P w' = .ok xs.toArray w' := by
  rcases h with ⟨c, rfl, rfl⟩ | ⟨A, l, c, rfl, h1, h2⟩ | ⟨s, rfl, rfl⟩
  · rfl
  · have hc : ∀ a, w'.cell? a = w.cell? a := fun a => by simp [World.cell?, hh]
    exact run_loadCells h1 fun j y hy => by rw [hc]; exact h2 j y hy
  · simp only [Builtin.firstCells, Sem.run_pure, Result.ok.injEq, and_true]
    apply Array.ext'
    simp [ByteArray.data_extract, List.extract_eq_take_drop]
/- What the model's append does. -/
theorem growBy_le (need : Nat) : ∀ (r c : Nat), c ≤ 2 * need + 192 → c < need ∨ need ≤ c → Builtin.growBy need r c ≤ 2 * need + 192 := by
  intro r
  induction r with
  | zero => intro c h _; exact h
  | succ r ih =>
    intro c h _
    unfold Builtin.growBy
    split
    · exact h
    · exact ih _ (by omega) (by omega)
theorem nextcap_le {need cap : Nat} (h : cap < need) : Builtin.nextslicecap need cap ≤ 2 * need + 192 ∧ (need ≤ 256 → Builtin.nextslicecap need cap ≤ 2 * need) := by
  unfold Builtin.nextslicecap
  split
  · omega
  · split
    · omega
    · exact ⟨growBy_le need 4 cap (by omega) (.inl h), by omega⟩
/-- which appends the simulator knows: the second argument's type is a slice's or a string's -/
theorem plainA_spec {P : Program} {tys : Array TypeId} (h : plainA P tys = true) : tys[1]? = none ∨ ∃ xt, tys[1]? = some xt ∧ ((∃ e, P.underlying xt = some (.slice e)) ∨ P.underlying xt = some .string) := by
  unfold plainA at h
  split at h
  · rename_i xt hxt
    split at h
    · rename_i e he; exact .inr ⟨xt, hxt, .inl ⟨e, he⟩⟩
    · rename_i he; exact .inr ⟨xt, hxt, .inr he⟩
    · cases h
  · rename_i h1; exact .inl h1
theorem run_append_place {tys : Array TypeId} {st elem ty : TypeId} {i : TypeInfo} {bs : Option Addr} {sLen sCap n : Nat} {x : Value} {xs : List Value} (ht : tys[0]? = some st) (hd : P.underlying st = some (.slice elem)) (hi : P.info? elem = some i)
    (hm : plainA P tys = true) (hn : (Builtin.lenOf x).run P w = .ok n w) (hx : (Builtin.firstCells i.size n x).run P w = .ok xs.toArray w) (hle : sLen + n ≤ sCap) {w' : World}
    (hst : (match bs with | some a => storeCells (a.add (sLen * i.size)) xs | none => pure () : Sem Unit).run P w = .ok () w') :
    (Builtin.append_ tys ty #[.slice bs sLen sCap, x]).run P w = .ok (.slice bs (sLen + n) sCap) w' := by
  have hu := fun w => run_underlying (P := P) (w := w) hd
  have hs := fun w => run_sizeOf (P := P) (w := w) hi
  have key : ∀ h1 : (match tys[1]? with
      | some xType => do pure ((← underlying xType) matches .int _)
      | none => pure false : Sem Bool).run P w = .ok false w, True := fun _ => trivial
  rcases plainA_spec hm with h1 | ⟨xt, h1, ⟨e, h2⟩ | h2⟩
  · cases bs with
    | none => simp at hst; subst hst; simp [Builtin.append_, ht, h1, hu, hs, hn, hle, hx]
    | some a => simp at hst; simp [Builtin.append_, ht, h1, hu, hs, hn, hle, hx, hst]
  · have hu2 := fun w => run_underlying (P := P) (w := w) h2
    cases bs with
    | none => simp at hst; subst hst; simp [Builtin.append_, ht, h1, hu, hu2, hs, hn, hle, hx]
    | some a => simp at hst; simp [Builtin.append_, ht, h1, hu, hu2, hs, hn, hle, hx, hst]
  · have hu2 := fun w => run_underlying (P := P) (w := w) h2
    cases bs with
    | none => simp at hst; subst hst; simp [Builtin.append_, ht, h1, hu, hu2, hs, hn, hle, hx]
    | some a => simp at hst; simp [Builtin.append_, ht, h1, hu, hu2, hs, hn, hle, hx, hst]
theorem run_append_grow' {tys : Array TypeId} {st elem ty : TypeId} {i : TypeInfo} {z : Value} {bs : Option Addr} {sLen sCap n : Nat} {x : Value} {xs os : List Value} (ht : tys[0]? = some st) (hd : P.underlying st = some (.slice elem)) (hi : P.info? elem = some i)
    (hz : i.zero = some z) (hm : plainA P tys = true) (hn : (Builtin.lenOf x).run P w = .ok n w) (hx : ∀ w' : World, w'.heap = w.heap → (Builtin.firstCells i.size n x).run P w' = .ok xs.toArray w')
    (ho : ∀ w' : World, w'.heap = w.heap → (Builtin.firstCells i.size sLen (.slice bs sLen sCap)).run P w' = .ok os.toArray w') (hgt : sCap < sLen + n) (hb : (sLen + n) * i.bytes < 70368744177664) (hb2 : sLen + n < 70368744177664) :
    ∃ cap, sLen + n ≤ cap ∧ (Builtin.append_ tys ty #[.slice bs sLen sCap, x]).run P w = .ok (.slice (some ⟨w.heap.size, 0, none⟩) (sLen + n) cap)
      (w.drew.alloc (.cells (os.toArray ++ xs.toArray ++ Builtin.zeroCells z.cells (cap - (sLen + n))) elem)) := by
  refine ⟨grownCap w (sLen + n) sCap elem, grownCap_le _ _ _ _, ?_⟩
  have hnc := nextcap_le hgt
  have hsmall : ¬ (281474976710656 < Builtin.nextslicecap (sLen + n) sCap * i.bytes) := by
    rcases Nat.lt_or_ge 256 (sLen + n) with h | h
    · have h1 : Builtin.nextslicecap (sLen + n) sCap ≤ 3 * (sLen + n) := by omega
      have h2 := Nat.mul_le_mul_right i.bytes h1
      rw [Nat.mul_assoc] at h2
      omega
    · have h2 := Nat.mul_le_mul_right i.bytes (hnc.2 h)
      rw [Nat.mul_assoc] at h2
      omega
  have h63' : ¬ (9223372036854775807 < ((sLen : Int) + (n : Int))) := by omega
  have hng : ¬ (sLen + n ≤ sCap) := by omega
  have hu := fun w => run_underlying (P := P) (w := w) hd
  have hs := fun w => run_sizeOf (P := P) (w := w) hi
  have hti := fun w => run_typeInfo (P := P) (w := w) hi
  have hzv := fun w => run_zeroValue (P := P) (w := w) hi hz
  have hx' := hx w.drew rfl
  have ho' := ho w.drew rfl
  have fin : ∀ c : Array Value, w.drew.alloc (.cells (os.toArray ++ (xs.toArray ++ c)) elem) = w.drew.alloc (.cells ((os ++ xs).toArray ++ c) elem) := fun c => by
    congr 2; apply Array.ext'; simp
  rcases plainA_spec hm with h1 | ⟨xt, h1, ⟨e, h2⟩ | h2⟩
  · simp [Builtin.append_, ht, h1, hu, hs, hn, hng, hsmall, h63', hti, hzv, Question.forced, hx', ho', newRow, grownCap]
    exact fin _
  · have hu2 := fun w => run_underlying (P := P) (w := w) h2
    simp [Builtin.append_, ht, h1, hu, hu2, hs, hn, hng, hsmall, h63', hti, hzv, Question.forced, hx', ho', newRow, grownCap]
    exact fin _
  · have hu2 := fun w => run_underlying (P := P) (w := w) h2
    simp [Builtin.append_, ht, h1, hu, hu2, hs, hn, hng, hsmall, h63', hti, hzv, Question.forced, hx', ho', newRow, grownCap]
    exact fin _

/-- the spare room's zeros -/
theorem zeroCells_eq (z : Array Value) (n : Nat) : ∃ l : List Value, Builtin.zeroCells z n = l.toArray ∧ l.length = n * z.size :=
  ⟨(Builtin.zeroCells z n).toList, by simp, by simp [Builtin.zeroCells]⟩
/-- new memory behind an append -/
theorem ap_new {elem : TypeId} {i : TypeInfo} {z : Value} {cap len : Nat} {c : Cells} {vs : List Value} {n : SN} (hi : P.info? elem = some i) (hz : z.cells.size = i.size) (hc : CellsRel β c vs) (hl : vs.length = len * i.size) (hle : len ≤ cap) (hn : n.den = len) {res : Result Next}
    (hres : res = .ok (.value (.slice (some ⟨w.heap.size, 0, none⟩) len cap)) (w.drew.alloc (.cells (vs.toArray ++ Builtin.zeroCells z.cells (cap - len)) elem))) :
    (R.ok (OpRes.val (.slice ⟨base, .lit 0⟩ n (.rest base 0)) [] [.own c false elem])).Sat (OpSem P H β w base res) := by
  obtain ⟨zs, hzs, hzl⟩ := zeroCells_eq z.cells (cap - len)
  refine fun hb => ⟨.value _, _, _, β.upd base ⟨w.heap.size, 0, cap⟩, hres, rfl, ?_, ?_, by simp⟩
  · rw [den_slice]
    exact ⟨⟨w.heap.size, 0, none⟩, cap, by simp [SA.den, Val.upd_same, SN.den], by simp [SC.den, Val.upd_same], by rw [hn]; exact hle, by rw [hn]⟩
  · refine Eff.alloc (vs := vs) (rest := zs) (lo := 0) (hi := 0) hb.hd (by show w.heap.push _ = _; rw [hzs]; simp) rfl rfl rfl hc (by simp) (by simp) ?_
    intro i' hi'
    rw [hi] at hi'; cases hi'
    rw [List.length_append, hl, hzl, hz, ← Nat.add_mul]
    exact Nat.le_of_eq (by rw [Nat.add_sub_cancel' hle])
/-- the old name given up, new memory taken -/
theorem ap_new_gone {elem : TypeId} {i : TypeInfo} {z : Value} {cap len m : Nat} {c : Cells} {vs : List Value} {n : SN} {e0 : SO} (hm : H[m]? = some e0) (hm0 : e0.owned = true) (hi : P.info? elem = some i) (hz : z.cells.size = i.size) (hc : CellsRel β c vs) (hl : vs.length = len * i.size) (hle : len ≤ cap) (hn : n.den = len) {res : Result Next}
    (hres : res = .ok (.value (.slice (some ⟨w.heap.size, 0, none⟩) len cap)) (w.drew.alloc (.cells (vs.toArray ++ Builtin.zeroCells z.cells (cap - len)) elem))) :
    (R.ok (OpRes.val (.slice ⟨base, .lit 0⟩ n (.rest base 0)) [(m, .gone)] [.own c false elem])).Sat (OpSem P H β w base res) := by
  refine fun hb => ?_
  obtain ⟨nx, v', w', β', h1, h2, h3, hE, _⟩ := ap_new (H := H) hi hz hc hl hle hn hres hb
  refine ⟨nx, v', w', β', h1, h2, h3, ?_, fun k e hk => ?_⟩
  · exact ⟨hE.le, hE.os, hE.tape, hE.output, hE.size, hE.dom, fun b hb' _ => hE.frame b hb' (by simp), fun k a b ha hb' => by simp at ha hb'; rw [ha.2, hb'.2],
      fun k a ha => by simp at ha; rw [ha.2]; trivial, fun j e he => by
        obtain ⟨a, b, l, hl, hor⟩ := hE.made j e he
        exact ⟨a, b, l, hl, .inl (hor.resolve_right (by simp))⟩, hE.apart⟩
  · simp at hk; obtain ⟨rfl, rfl⟩ := hk; exact ⟨e0, hm, hm0⟩
theorem app_den {β : Val} {l r : List SV} {xs ys : List Value} (h : SV.denL β l = some xs) (k : SV.denL β r = some ys) : SV.denL β (app l r) = some (xs ++ ys) := by
  rw [app_eq]; exact denL_append h k

end
end Go.Sim
