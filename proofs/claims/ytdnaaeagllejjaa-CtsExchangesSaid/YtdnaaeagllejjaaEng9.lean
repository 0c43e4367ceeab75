/-
  The symbolic simulator, ninth part: the operations, one by one, continued.
-/
import Derived.Test.YtdnaaeagllejjaaEng8
namespace Go.Sim
variable {α : Type}

section
variable {P : Program} {O : Nat → Prop} {w0 : World} {β : Val} {H : List SO} {w : World} {base : Nat}
variable {ev : Operand → SV} {ρ : Operand → Value} {dst : Option Tmp} {t : TypeId} {pos : String} {af : Array Edge} {g : Option (Nat × Bool)}

theorem oBuildSlice_sat {ty : TypeId} {n : Nat} {ps : Array (Nat × Operand)} (hev : ∀ x ∈ ps.toList.map (·.2), (ev x).den β = some (ρ x)) :
    (oBuildSlice ty n ps P ev H base).Sat (OpSem P H β w base ((execOp ρ ⟨dst, .buildSlice ty n ps, t, pos, af, g⟩).run P w)) := by
  obtain ⟨hp1, hp2⟩ := parts_spec ps.toList hev
  refine R.Sat.opt fun d hd => ?_
  have hu := run_underlying (w := w) hd
  have hps : (ps.map fun (p : Nat × Operand) => (p.1, ρ p.2)).toList = ps.toList.map fun (p : Nat × Operand) => (p.1, ρ p.2) := by simp
  split
  · rename_i elem
    refine R.Sat.opt fun ie hie => R.Sat.opt fun z hz => ?_
    split
    · trivial
    · rename_i hbig
      split
      · trivial
      · rename_i hzl
        refine R.Sat.opt fun cells hc => ?_
        obtain ⟨i, v, hi, hv, hden⟩ := zeroS_spec hz
        rw [hie] at hi; cases hi
        have hzl' : v.cells.size = ie.size := by
          have := denL_length (hden β)
          rw [lenN_eq] at hzl
          simp at this hzl; omega
        have hmany := manyN_den (hden β) n
        obtain ⟨rs, hrs, hr, hrl⟩ := fill_spec (β := β) (fun j => some (j * ie.size, ie.size)) _ (ps.map fun (p : Nat × Operand) => (p.1, ρ p.2)).toList _ _ _ (by rw [hps]; exact hp1) (by rw [hps]; exact hp2) hmany hc
        have hlen : rs.length = n * ie.size := by rw [hrl]; simp [hzl']
        refine fun hb => ⟨.value (.slice (some ⟨w.heap.size, 0, none⟩) n n), _, { w with heap := w.heap.push (.cells rs.toArray elem) }, β.upd base ⟨w.heap.size, 0, 0⟩, ?_, rfl, by rw [den_slice]; exact ⟨⟨w.heap.size, 0, none⟩, n, by simp [SA.den, Val.upd_same, SN.den], rfl, Nat.le_refl _, rfl⟩, ?_, by simp⟩
        · simp only [execOp, Instr.buildSlice, Sem.run_bind, hu, Result.andThen_ok, run_sizeOf hie]
          rw [if_neg hbig]
          by_cases h0 : n * ie.size = 0
          · rw [if_pos h0]
            have hrs' : Instr.fill (fun i => some (i * ie.size, ie.size)) ((Array.range (n * ie.size)).map (fun i => (#[] : Array Value)[i % (#[] : Array Value).size]!)) (ps.map fun (p : Nat × Operand) => (p.1, ρ p.2)).toList = some rs.toArray := by
              rw [h0, ← hrs]
              congr 1
              have : (List.replicate n v.cells.toList).flatten = [] := by
                apply List.eq_nil_of_length_eq_zero; simp [hzl', h0]
              rw [this]; simp
            simp only [Sem.run_bind, Sem.run_pure, Result.andThen_ok, hrs']
            simp [newRow]
          · rw [if_neg h0]
            simp only [Sem.run_bind, run_zeroValue hie hv, Result.andThen_ok, Sem.run_pure, range_map_zero hzl' h0, hrs]
            simp [newRow]
        · exact Eff.alloc (vs := rs) (rest := []) (lo := 0) (hi := 0) hb.hd (by simp) rfl rfl rfl hr (by simp) (by simp) (by simp)
  · trivial
theorem ptrS_sat {v : SV} {x : Value} (hv : v.den β = some x) {f : SA → R α} {φ : α → Prop} (h : ∀ a A, v = .ptr a → a.den β = some A → x = .pointer (some A) → (f a).Sat φ) : (ptrS v f).Sat φ := by
  cases v
  case ptr a =>
    simp only [SV.den, Option.map_eq_some_iff] at hv
    obtain ⟨A, hA, rfl⟩ := hv
    exact h a A rfl hA rfl
  all_goals trivial
theorem oLoad_sat (hr : HeapRel0 P O w0 β H w) {ty : TypeId} {a : Operand} (hev : (ev a).den β = some (ρ a)) :
    (oLoad ty a P ev H base).Sat (OpSem P H β w base ((execOp ρ ⟨dst, .load ty a, t, pos, af, g⟩).run P w)) := by
  refine ptrS_sat hev fun a' A _ hA hx => loadT_sat hr hA fun v x hv hrun => sem_val (x := x) ?_ hv
  simp only [execOp, Instr.loadAt, hx, Instr.sureAddr]
  simp [hrun]
theorem wrO_sat (hr : HeapRel0 P O w0 β H w) {a : SA} {A : Addr} (ha : a.den β = some A) {e : SO} (he : H[a.nm]? = some e) {l : List SV} {xs : List Value} (hl : SV.denL β l = some xs) (hs : allN scalar l = true)
    {res : Result Next} (hres : ∀ w', (storeCells A xs).run P w = .ok () w' → res = .ok .skip w') : (wrO e a l).Sat (OpSem P H β w base res) := by
  cases e with
  | row => trivial
  | loop => trivial
  | deferred => trivial
  | gone => trivial
  | own c wh el =>
    obtain ⟨ll, vs, rest, lo, hi, hbl, h0, hc, hh, hfz, hw, hcap⟩ := hr.entries _ _ he
    obtain ⟨l', hl', rfl⟩ := SA.den_some ha
    rw [hbl] at hl'; cases hl'
    refine wrCells_sat hc hl fun c' hc' hle => ?_
    have hrun := run_storeCells (P := P) xs (vs ++ rest) (ll.off + a.off.den) 0 w hh (denL_one hl hs) hfz.at (by rw [h0]; simp; omega)
    rw [Nat.add_zero, h0, Nat.zero_add, overC_append hle] at hrun
    rw [h0, Nat.zero_add] at hres
    refine fun _ => ⟨.skip, _, _, β, hres _ hrun, rfl, by simp [undefS, SV.den, SV.denL, undef], Eff.turn hbl ?_, ?_⟩
    · have hlt : ll.blk < w.heap.size := (Array.getElem?_eq_some_iff.1 hh).1
      refine ⟨ll, overC vs a.off.den xs, rest, lo, hi, hbl, h0, hc', by simp [hlt], ?_, hw, ?_⟩
      · simp only [List.length_append, overC_length hle] at hfz ⊢; exact hfz
      · intro i hi'
        have := hcap i hi'
        simp only [List.length_append, overC_length hle] at this ⊢; exact this
    · intro n e hn
      simp at hn
      obtain ⟨rfl, rfl⟩ := hn
      exact ⟨_, he, rfl⟩
theorem oStore_sat (hr : HeapRel0 P O w0 β H w) {ty : TypeId} {a x : Operand} (hev : (ev a).den β = some (ρ a)) (hevx : (ev x).den β = some (ρ x)) :
    (oStore ty a x P ev H base).Sat (OpSem P H β w base ((execOp ρ ⟨dst, .store ty a x, t, pos, af, g⟩).run P w)) := by
  refine ptrS_sat hev fun a' A _ hA hx => R.Sat.opt fun i hi => R.Sat.boolC (fun hlen => R.Sat.boolC (fun hs => entry_sat fun e he => ?_) fun _ => trivial) fun _ => trivial
  have hc := cellsS_den hevx
  refine wrO_sat hr hA he hc hs fun w' hw' => ?_
  have hsz : (ρ x).cells.size = i.size := by
    have h1 := denL_length hc
    have h2 := Nat.eq_of_beq_eq_true hlen
    rw [lenN_eq] at h2
    simp at h1; omega
  simp only [execOp, Instr.storeAt, hx, Instr.sureAddr, storeVar]
  simp [run_sizeOf hi, hsz, hw']
theorem oNil_sat {x : Operand} (hev : (ev x).den β = some (ρ x)) :
    (oNil x P ev H base).Sat (OpSem P H β w base ((execOp ρ ⟨dst, .nilCheck x, t, pos, af, g⟩).run P w)) := by
  unfold oNil nilCheckT
  have hev0 := hev
  cases hv : ev x
  case ptr a =>
    rw [hv] at hev
    simp only [SV.den, Option.map_eq_some_iff] at hev
    obtain ⟨A, hA, hx⟩ := hev
    refine sem_val (x := ρ x) ?_ (by rw [← hv]; exact hev0)
    simp [execOp, ← hx]
  case slice a l c =>
    rw [hv] at hev
    rw [den_slice] at hev
    obtain ⟨A, C, hA, hC, _, hx⟩ := hev
    refine sem_val (x := ρ x) ?_ (by rw [← hv]; exact hev0)
    simp [execOp, ← hx]
  case tail a n l c =>
    rw [hv] at hev
    rw [den_tail] at hev
    obtain ⟨A, C, hA, hC, _, hx⟩ := hev
    refine sem_val (x := ρ x) ?_ (by rw [← hv]; exact hev0)
    simp [execOp, ← hx]
  case func f xs ys =>
    rw [hv] at hev
    simp only [SV.den, Option.map_eq_some_iff, Option.bind_eq_some_iff] at hev
    obtain ⟨F, hF, as, has, bs, hbs, hx⟩ := hev
    have key : (∀ m, F ≠ .method m) → (vR (.func f xs ys)).Sat (OpSem P H β w base ((execOp ρ ⟨dst, .nilCheck x, t, pos, af, g⟩).run P w)) := by
      intro hm
      refine sem_val (x := ρ x) ?_ (by rw [← hv]; exact hev0)
      simp only [execOp, ← hx]
      cases F <;> first | rfl | exact absurd rfl (hm _)
    cases f with
    | yield nm =>
      simp only [SFn.den, Option.map_eq_some_iff] at hF
      obtain ⟨l, _, rfl⟩ := hF
      exact key (by simp)
    | fn fn =>
      simp only [SFn.den, Option.some.injEq] at hF
      subst hF
      cases fn <;> first | exact key (by simp) | trivial
  all_goals trivial

end
end Go.Sim
