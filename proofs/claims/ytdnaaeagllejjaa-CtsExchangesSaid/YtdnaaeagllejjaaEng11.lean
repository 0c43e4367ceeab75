/-
  The symbolic simulator, eleventh part: operators whole; parts, addresses, slices.
-/
import Derived.Test.YtdnaaeagllejjaaEng10
namespace Go.Sim
variable {α : Type}

section
variable {P : Program} {O : Nat → Prop} {w0 : World} {β : Val} {H : List SO} {w : World} {base : Nat}
variable {ev : Operand → SV} {ρ : Operand → Value} {dst : Option Tmp} {t : TypeId} {pos : String} {af : Array Edge} {g : Option (Nat × Bool)}

theorem bnNil_sat {op : BinOp} {ty yt : TypeId} {x y : Operand} {a b : SV} (hx : a.den β = some (ρ x)) (hy : b.den β = some (ρ y)) :
    (bnNil P op ty a b).Sat (OpSem P H β w base ((execOp ρ ⟨dst, .binOp op ty x y yt, t, pos, af, g⟩).run P w)) := by
  refine R.Sat.opt fun d hd => ?_
  split
  · rename_i hn
    refine R.Sat.opt fun c hc => ?_
    obtain ⟨_, h2, h3⟩ := run_equal_nil (w := w) hd hn hc hx hy
    cases op
    case eql => exact sem_bin h2 (h3 .eql (.inl rfl)) rfl
    case neq => exact sem_bin h2 (h3 .neq (.inr rfl)) rfl
    all_goals trivial
  · trivial
theorem bnRest_sat {op : BinOp} {ty yt : TypeId} {x y : Operand} {a b : SV} (hx : a.den β = some (ρ x)) (hy : b.den β = some (ρ y)) :
    (bnRest P op ty a b).Sat (OpSem P H β w base ((execOp ρ ⟨dst, .binOp op ty x y yt, t, pos, af, g⟩).run P w)) := by
  unfold bnRest
  split
  · exact strEq_sat (by simpa [SV.den, eq_comm] using hx) (by simpa [SV.den, eq_comm] using hy)
  · exact bnBool_sat (by simpa [SV.den, eq_comm] using hx) (by simpa [SV.den, eq_comm] using hy)
  · exact bnNil_sat hx hy
theorem oBin_sat {op : BinOp} {ty yt : TypeId} {x y : Operand} (hx : (ev x).den β = some (ρ x)) (hy : (ev y).den β = some (ρ y)) :
    (oBin op ty x y yt P ev H base).Sat (OpSem P H β w base ((execOp ρ ⟨dst, .binOp op ty x y yt, t, pos, af, g⟩).run P w)) := by
  unfold oBin binT
  rcases asInt_cases (ev x) with ⟨k, n, h1⟩ | h1
  · rcases asInt_cases (ev y) with ⟨k', n', h2⟩ | h2
    · rw [h1] at hx ⊢
      rw [h2] at hy ⊢
      exact bnInt_sat (by simpa [SV.den, eq_comm] using hx) (by simpa [SV.den, eq_comm] using hy)
    · rw [h1]
      show R.Sat ((ev y).asInt _ _) _
      rw [h2, ← h1]
      exact bnRest_sat hx hy
  · rw [h1]
    exact bnRest_sat hx hy
theorem oUn_sat {op : UnOp} {ty : TypeId} {x : Operand} (hx : (ev x).den β = some (ρ x)) :
    (oUn op ty x P ev H base).Sat (OpSem P H β w base ((execOp ρ ⟨dst, .unOp op ty x, t, pos, af, g⟩).run P w)) := by
  unfold oUn unT
  split
  · rename_i b h
    rw [h] at hx; simp only [SV.den, SB.den, Option.some.injEq] at hx
    exact sem_val (x := .bool (!b)) (by simp [execOp, ← hx, Op.unary]) rfl
  · rename_i b _ h
    rw [h] at hx; simp only [SV.den, Option.some.injEq] at hx
    exact sem_val (x := .bool (!b.den)) (by simp [execOp, ← hx, Op.unary]) rfl
  · rename_i k n h
    rw [h] at hx; simp only [SV.den, Option.some.injEq] at hx
    refine (arithS_sat .sub k (.lit 0) n).bind fun z hz => sem_val (x := .int k z.den) ?_ rfl
    have hz' : k.wrap (0 - n.den) = z.den := Option.some.inj hz
    have hu : Op.unary .neg (.int k n.den) = pure (.int k (k.wrap (0 - n.den))) := rfl
    simp only [execOp, ← hx, hu, hz']
    rfl
  · rename_i n h
    rw [h] at hx; simp only [SV.den, Option.some.injEq] at hx
    refine (arithS_sat .xor .u8 (.lit 255) n).bind fun z hz => sem_val (x := .int .u8 z.den) ?_ rfl
    have hz' : bitsI .xor .u8 255 n.den = z.den := Option.some.inj hz
    have hu : Op.unary .xor (.int .u8 n.den) = pure (.int .u8 (bitsI .xor .u8 255 n.den)) := rfl
    simp only [execOp, ← hx, hu, hz']
    rfl
  · rename_i n h
    rw [h] at hx; simp only [SV.den, Option.some.injEq] at hx
    refine (arithS_sat .xor .u32 (.lit 4294967295) n).bind fun z hz => sem_val (x := .int .u32 z.den) ?_ rfl
    have hz' : bitsI .xor .u32 4294967295 n.den = z.den := Option.some.inj hz
    have hu : Op.unary .xor (.int .u32 n.den) = pure (.int .u32 (bitsI .xor .u32 4294967295 n.den)) := rfl
    simp only [execOp, ← hx, hu, hz']
    rfl
  · rename_i n h
    rw [h] at hx; simp only [SV.den, Option.some.injEq] at hx
    refine (arithS_sat .xor .u64 (.lit 18446744073709551615) n).bind fun z hz => sem_val (x := .int .u64 z.den) ?_ rfl
    have hz' : bitsI .xor .u64 18446744073709551615 n.den = z.den := Option.some.inj hz
    have hu : Op.unary .xor (.int .u64 n.den) = pure (.int .u64 (bitsI .xor .u64 18446744073709551615 n.den)) := rfl
    simp only [execOp, ← hx, hu, hz']
    rfl
  · trivial
theorem oArr_sat {ty : TypeId} {x : Operand} (hx : (ev x).den β = some (ρ x)) :
    (oArr ty x P ev H base).Sat (OpSem P H β w base ((execOp ρ ⟨dst, .sliceToArrayPointer ty x, t, pos, af, g⟩).run P w)) := by
  refine R.Sat.opt fun d hd => ?_
  have hu := run_underlying (w := w) hd
  split
  · rename_i n e
    split
    · rename_i a len c h
      rw [h] at hx
      rw [den_slice] at hx
      obtain ⟨A, C, hA, hC, hLC, hx⟩ := hx
      have key : n ≤ len.den → (vR (.ptr a)).Sat (OpSem P H β w base ((execOp ρ ⟨dst, .sliceToArrayPointer ty x, t, pos, af, g⟩).run P w)) := by
        intro hle
        refine sem_val (x := .pointer (some A)) ?_ (by simp [SV.den, hA])
        simp only [execOp, ← hx, Instr.arrayAt, Sem.run_bind, hu, Result.andThen_ok]
        rw [if_neg (by omega)]
        rfl
      split
      · rename_i l
        split
        · trivial
        · rename_i hb
          refine key ?_
          rcases Nat.lt_or_ge l n with h' | h'
          · have : Nat.blt l n = true := by unfold Nat.blt; exact Nat.ble_eq_true_of_le h'
            rw [this] at hb; cases hb
          · exact h'
      · exact fun hle => key hle
      · exact fun hle => key hle
    · trivial
  · trivial
theorem oIface_sat {ty : TypeId} {x : Operand} (hx : (ev x).den β = some (ρ x)) :
    (oIface ty x P ev H base).Sat (OpSem P H β w base ((execOp ρ ⟨dst, .makeInterface ty x, t, pos, af, g⟩).run P w)) := by
  refine R.Sat.opt fun d hd => ?_
  have hu := run_underlying (w := w) hd
  cases d <;> first
    | trivial
    | exact sem_val (x := .iface ty (ρ x)) (by simp [execOp, Instr.makeInterface, hu]) (by simp [SV.den, hx])
theorem oFunc_sat {fn : Fn} {xs ys : Array Operand} (hx : ∀ x ∈ xs.toList, (ev x).den β = some (ρ x)) (hy : ∀ x ∈ ys.toList, (ev x).den β = some (ρ x)) :
    (oFunc fn xs ys P ev H base).Sat (OpSem P H β w base ((execOp ρ ⟨dst, .makeFunc fn xs ys, t, pos, af, g⟩).run P w)) := by
  unfold oFunc
  split
  · rename_i f
    refine sem_val (x := .func (.func f) (xs.map ρ) (ys.map ρ)) (by simp [execOp, Instr.makeFunc]) ?_
    simp [SV.den, SFn.den, mapEv_den _ hx, mapEv_den _ hy]
    exact ⟨by simp [← Array.toList_map], by simp [← Array.toList_map]⟩
  · rename_i t' path f p
    refine sem_val (x := .func (.via t' path f p) (xs.map ρ) (ys.map ρ)) (by simp [execOp, Instr.makeFunc]) ?_
    simp [SV.den, SFn.den, mapEv_den _ hx, mapEv_den _ hy]
    exact ⟨by simp [← Array.toList_map], by simp [← Array.toList_map]⟩
  · rename_i t' name
    refine sem_val (x := .func (.methodOf t' name) (xs.map ρ) (ys.map ρ)) (by simp [execOp, Instr.makeFunc]) ?_
    simp [SV.den, SFn.den, mapEv_den _ hx, mapEv_den _ hy]
    exact ⟨by simp [← Array.toList_map], by simp [← Array.toList_map]⟩
  · trivial
theorem fieldPlace_run {A : Addr} {f : Field} {i : TypeInfo} (hi : P.info? f.type = some i) (h0 : i.size ≠ 0) : (fieldPlace A f).run P w = .ok (A.add f.offset) w := by
  simp [fieldPlace, run_sizeOf hi, h0]
theorem oFieldAddr_sat {ty : TypeId} {x : Operand} {n : Nat} (hx : (ev x).den β = some (ρ x)) :
    (oFieldAddr ty x n P ev H base).Sat (OpSem P H β w base ((execOp ρ ⟨dst, .fieldAddr ty x n, t, pos, af, g⟩).run P w)) := by
  refine R.Sat.opt fun d hd => asSt_sat (fun fs hfs => R.Sat.opt fun f hf => R.Sat.opt fun i hi => R.Sat.boolC (fun _ => trivial) fun h0 => ptrS_sat hx fun a A _ hA hρ => ?_) trivial
  have hu := run_underlying (w := w) hd
  subst hfs
  rw [nth_eq] at hf
  have hf' : fs[n]? = some f := by rw [← hf]; simp
  have h0' : i.size ≠ 0 := fun h => by rw [h] at h0; cases h0
  refine sem_val (x := .pointer (some (A.add f.offset))) ?_ (by simp [SV.den, SA.plus_den hA, SN.den])
  simp [execOp, Instr.fieldAt, hu, hf', hρ, Instr.sureAddr, fieldPlace_run hi h0']
theorem partS_sat {ty : TypeId} {l : List SV} {vs : List Value} (hl : SV.denL β l = some vs) {off : Nat} {f : SV → R α} {φ : α → Prop}
    (hf : ∀ v x, v.den β = some x → (part ty vs.toArray off).run P w = .ok x w → (f v).Sat φ) : (partS P ty l off f).Sat φ := by
  refine R.Sat.opt fun d hd => ?_
  have hagg := run_isAgg (w := w) hd
  split
  · rename_i hb
    refine R.Sat.opt fun i hi => ?_
    rw [takeN_eq, dropN_eq]
    refine hf _ (.agg ((vs.drop off).take i.size).toArray) (by simp [SV.den, denL_take (denL_drop hl off) i.size]) ?_
    simp only [part, Sem.run_bind, hagg, hb, Result.andThen_ok, if_true, run_sizeOf hi, Sem.run_pure]
    congr 2
    apply Array.ext'
    simp only [Array.toList_extract]
    rw [List.extract_eq_take_drop]
    simp
  · rename_i hb
    refine R.Sat.opt fun v hv => ?_
    rw [nth_eq] at hv
    obtain ⟨x, hx, hd'⟩ := denL_get hl hv
    refine hf _ x hd' ?_
    have hb' : isAggD d = false := by simpa using hb
    simp [part, hagg, hb', hx]
theorem oField_sat {ty : TypeId} {x : Operand} {n : Nat} (hx : (ev x).den β = some (ρ x)) :
    (oField ty x n P ev H base).Sat (OpSem P H β w base ((execOp ρ ⟨dst, .field ty x n, t, pos, af, g⟩).run P w)) := by
  unfold oField
  split
  · rename_i l h
    rw [h] at hx
    simp only [SV.den, Option.map_eq_some_iff] at hx
    obtain ⟨vs, hvs, hρ⟩ := hx
    refine R.Sat.opt fun d hd => ?_
    have hu := run_underlying (w := w) hd
    split
    · rename_i fs
      refine R.Sat.opt fun f hf => partS_sat (w := w) hvs fun v x hv hrun => sem_val (x := x) ?_ hv
      rw [nth_eq] at hf
      have hf' : fs[n]? = some f := by rw [← hf]; simp
      simp [execOp, Instr.field, hu, hf', ← hρ, asAgg, hrun]
    · trivial
  · trivial
theorem asSlice_cases (v : SV) : (∃ a n c, v = .slice a n c) ∨ ∀ {γ : Type} (d : γ) (f : SA → SN → SC → γ), v.asSlice d f = d := by
  cases v <;> first | exact .inl ⟨_, _, _, rfl⟩ | exact .inr fun _ _ => rfl
theorem oIndexAddr_sat {ty : TypeId} {x i : Operand} (hx : (ev x).den β = some (ρ x)) (hi : (ev i).den β = some (ρ i)) :
    (oIndexAddr ty x i P ev H base).Sat (OpSem P H β w base ((execOp ρ ⟨dst, .indexAddr ty x i, t, pos, af, g⟩).run P w)) := by
  unfold oIndexAddr indexAddrT
  refine R.Sat.opt fun d hd => ?_
  have hu := run_underlying (w := w) hd
  rcases asInt_cases (ev i) with ⟨k, n, h1⟩ | h1
  · rw [h1] at hi ⊢
    simp only [SV.den, Option.some.injEq] at hi
    show R.Sat (TypeDesc.asArr d (TypeDesc.asSl d (.stuck 247) (ixSl P (ev x) n)) (ixArr P (ev x) n)) _
    refine asArr_sat (fun m elem hdd => ?_) (asSl_sat (fun elem hdd => ?_) trivial)
    · subst hdd
      refine ptrS_sat hx fun a A _ hA hρ => R.Sat.opt fun e he => idxS_sat fun j h0 hlt hj => ?_
      refine sem_val (x := .pointer (some (A.add (n.den.toNat * e.size)))) ?_ (by simp [SV.den, SA.plus_den hA, SN.mul_den, hj])
      simp only [SN.den] at hlt
      simp [execOp, Instr.indexAt, ← hi, asIntOf, hu, hρ, Instr.sureAddr, h0, hlt, run_sizeOf he]
    · subst hdd
      unfold ixSl
      split
      · rename_i a n' len c h2
        rw [h2, den_tail] at hx
        obtain ⟨A, C, hA, hC, hle, hρ⟩ := hx
        refine R.Sat.opt fun e he => idxS_sat fun j h0 hlt hj => ?_
        have hC0 : ¬ C = 0 := by omega
        rw [if_neg hC0] at hρ
        refine sem_val (x := .pointer (some ((A.add n'.den).add (n.den.toNat * e.size)))) ?_ (by simp [SV.den, SA.plus_den (SA.plus_den hA n'), SN.mul_den, hj])
        simp [execOp, Instr.indexAt, ← hi, asIntOf, hu, ← hρ, h0, hlt, run_sizeOf he]
      rename_i hnt
      clear hnt
      unfold ixSl1
      rcases asSlice_cases (ev x) with ⟨a, len, c, h2⟩ | h2
      · rw [h2] at hx ⊢
        rw [den_slice] at hx
        obtain ⟨A, C, hA, hC, _, hρ⟩ := hx
        refine R.Sat.opt fun e he => idxS_sat fun j h0 hlt hj => ?_
        refine sem_val (x := .pointer (some (A.add (n.den.toNat * e.size)))) ?_ (by simp [SV.den, SA.plus_den hA, SN.mul_den, hj])
        simp [execOp, Instr.indexAt, ← hi, asIntOf, hu, ← hρ, h0, hlt, run_sizeOf he]
      · rw [h2]; trivial
  · rw [h1]; trivial
theorem oIndex_sat {ty : TypeId} {x i : Operand} (hx : (ev x).den β = some (ρ x)) (hi : (ev i).den β = some (ρ i)) :
    (oIndex ty x i P ev H base).Sat (OpSem P H β w base ((execOp ρ ⟨dst, .index ty x i, t, pos, af, g⟩).run P w)) := by
  unfold oIndex indexT
  refine R.Sat.opt fun d hd => ?_
  have hu := run_underlying (w := w) hd
  split
  · rename_i k n h1
    rw [h1] at hi
    simp only [SV.den, Option.some.injEq] at hi
    split
    · rename_i m elem l h2
      rw [h2] at hx
      simp only [SV.den, Option.map_eq_some_iff] at hx
      obtain ⟨vs, hvs, hρ⟩ := hx
      refine R.Sat.opt fun e he => idxS_sat fun j h0 hlt hj => ?_
      cases j with
      | sym => trivial
      | byt => trivial
      | lit j =>
        refine partS_sat (w := w) hvs fun v x hv hrun => sem_val (x := x) ?_ hv
        simp only [SN.den] at hlt hj
        subst hj
        simp [execOp, Instr.index, ← hi, asIntOf, hu, ← hρ, h0, hlt, run_sizeOf he, hrun]
    · rename_i s h2
      rw [h2] at hx
      simp only [SV.den, Option.some.injEq] at hx
      have key : ∀ (v : SV) (b : UInt8), 0 ≤ n.den → s.den.data[n.den.toNat]? = some b → v.den β = some (.int .u8 (b.toNat : Int)) → (vR v).Sat (OpSem P H β w base ((execOp ρ ⟨dst, .index ty x i, t, pos, af, g⟩).run P w)) := by
        intro v b h0 hb hv
        refine sem_val ?_ hv
        have hb' : s.den[n.den.toNat]? = some b := by
          obtain ⟨hlt, hget⟩ := Array.getElem?_eq_some_iff.1 hb
          rw [getElem?_pos s.den n.den.toNat hlt]
          exact congrArg some hget
        simp [execOp, Instr.index, ← hi, asIntOf, hu, ← hx, h0, hb']
      split
      · rename_i s i'
        split
        · rename_i h0
          refine R.Sat.opt fun b hb => key _ b h0 ?_ rfl
          rw [nth_eq] at hb
          simp only [SStr.den, SI.den]
          rw [← hb]; simp
        · trivial
      · rename_i l i'
        split
        · rename_i h0
          refine R.Sat.opt fun b hb => ?_
          rw [nth_eq] at hb
          have hget : ∀ b, l[i'.toNat]? = some b → (SStr.bytes l).den.data[(SI.lit i').den.toNat]? = some (UInt8.ofNat b.den.toNat) := by
            intro b hb
            simp only [SStr.den, bytesOf, SI.den, List.getElem?_toArray, List.getElem?_map, hb, Option.map_some]
          split
          · rename_i x8
            refine key _ _ h0 (hget _ hb) ?_
            simp only [SV.den, SI.den, Int.toNat_natCast]
            rw [UInt8.toNat_ofNat', Nat.mod_eq_of_lt x8.isLt]
          · rename_i hbnd
            rintro ⟨h1, h2⟩
            refine key _ _ h0 (hget _ hb) ?_
            simp only [SV.den, UInt8.toNat_ofNat']
            rw [Nat.mod_eq_of_lt (by omega)]
            congr 2; omega
        · trivial
      · rintro ⟨h0, hlt⟩
        have hlt' : n.den.toNat < s.den.data.size := by
          have : s.den.size = s.den.data.size := rfl
          omega
        refine key _ (s.den.data[n.den.toNat]) h0 (Array.getElem?_eq_getElem hlt') ?_
        have hg : s.den.data.getD n.den.toNat 0 = s.den.data[n.den.toNat] := by
          rw [Array.getD_eq_getD_getElem?, Array.getElem?_eq_getElem hlt']; rfl
        show some (Value.int .u8 (((s.den.data.getD n.den.toNat 0).toBitVec.toNat : Nat) : Int)) = _
        rw [hg]; rfl
    · trivial
  · trivial
theorem oExtract_sat {x : Operand} {n : Nat} (hx : (ev x).den β = some (ρ x)) :
    (oExtract x n P ev H base).Sat (OpSem P H β w base ((execOp ρ ⟨dst, .extract x n, t, pos, af, g⟩).run P w)) := by
  unfold oExtract
  split
  · rename_i l h
    rw [h] at hx
    simp only [SV.den, Option.map_eq_some_iff] at hx
    obtain ⟨vs, hvs, hρ⟩ := hx
    refine R.Sat.opt fun v hv => ?_
    rw [nth_eq] at hv
    obtain ⟨x, hx', hd⟩ := denL_get hvs hv
    exact sem_val (x := x) (by simp [execOp, Instr.extract, ← hρ, hx']) hd
  · trivial

end
end Go.Sim
