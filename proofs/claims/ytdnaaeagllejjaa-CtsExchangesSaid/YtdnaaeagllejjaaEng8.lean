/-
  The symbolic simulator, eighth part: the operations, one by one.
-/
import Derived.Test.YtdnaaeagllejjaaEng7
namespace Go.Sim
variable {α : Type}

section
variable {P : Program} {O : Nat → Prop} {w0 : World} {β : Val} {H : List SO} {w : World} {base : Nat}

theorem sem_val {res : Result Next} {v : SV} {x : Value} (hres : res = .ok (.value x) w) (hv : v.den β = some x) : (vR v).Sat (OpSem P H β w base res) :=
  fun _ => ⟨.value x, x, w, β, hres, rfl, hv, Eff.refl P β w base, by simp⟩

variable {ev : Operand → SV} {ρ : Operand → Value}

theorem oMove_sat {dst : Option Tmp} {x : Operand} {t : TypeId} {pos : String} {af : Array Edge} {g : Option (Nat × Bool)} (hev : (ev x).den β = some (ρ x)) :
    (oMove x P ev H base).Sat (OpSem P H β w base ((execOp ρ ⟨dst, .move x, t, pos, af, g⟩).run P w)) ∧ (oMove x P ev H base).Sat (OpSem P H β w base ((execOp ρ ⟨dst, .assign x, t, pos, af, g⟩).run P w)) :=
  ⟨sem_val rfl hev, sem_val rfl hev⟩
theorem oPick_sat {dst : Option Tmp} {c a b : Operand} {t : TypeId} {pos : String} {af : Array Edge} {g : Option (Nat × Bool)} (h1 : (ev c).den β = some (ρ c)) (h2 : (ev a).den β = some (ρ a)) (h3 : (ev b).den β = some (ρ b)) :
    (oPick c a b P ev H base).Sat (OpSem P H β w base ((execOp ρ ⟨dst, .pick c a b, t, pos, af, g⟩).run P w)) := by
  unfold oPick
  split
  · rename_i h; rw [h] at h1; simp only [SV.den, SB.den, Option.some.injEq] at h1
    exact sem_val (by simp [execOp, ← h1, asBool]) h2
  · rename_i h; rw [h] at h1; simp only [SV.den, SB.den, Option.some.injEq] at h1
    exact sem_val (by simp [execOp, ← h1, asBool]) h3
  · rename_i c' h; rw [h] at h1; simp only [SV.den, SB.den, Option.some.injEq] at h1
    exact ⟨fun hb => sem_val (by simp [execOp, ← h1, asBool, hb]) h2, fun hb => sem_val (by simp [execOp, ← h1, asBool, hb]) h3⟩
  · trivial

theorem oAlloc_sat {dst : Option Tmp} {e : TypeId} {t : TypeId} {pos : String} {af : Array Edge} {g : Option (Nat × Bool)} :
    (oAlloc e P ev H base).Sat (OpSem P H β w base ((execOp ρ ⟨dst, .alloc e, t, pos, af, g⟩).run P w)) := by
  refine R.Sat.opt fun z hz => ?_
  obtain ⟨i, v, hi, hv, hd⟩ := zeroS_spec hz
  refine fun hb => ⟨.value (.pointer (some ⟨w.heap.size, 0, none⟩)), _, { w with heap := w.heap.push (.cells v.cells e) }, β.upd base ⟨w.heap.size, 0, 0⟩, ?_, rfl, by simp [SV.den, SA.den, Val.upd_same, SN.den], ?_, by simp⟩
  · simp [execOp, Instr.alloc, run_zeroValue hi hv, newVar, newRow]
  · refine Eff.alloc (vs := v.cells.toList) (rest := []) (lo := 0) (hi := 0) hb.hd (by simp) rfl rfl rfl (hd β) (by simp) (by simp) (by simp)
theorem oBox_sat {dst : Option Tmp} {e : TypeId} {x : Operand} {t : TypeId} {pos : String} {af : Array Edge} {g : Option (Nat × Bool)} (hev : (ev x).den β = some (ρ x)) :
    (oBox e x P ev H base).Sat (OpSem P H β w base ((execOp ρ ⟨dst, .box e x, t, pos, af, g⟩).run P w)) := by
  refine fun hb => ⟨.value (.pointer (some ⟨w.heap.size, 0, none⟩)), _, { w with heap := w.heap.push (.cells (ρ x).cells e) }, β.upd base ⟨w.heap.size, 0, 0⟩, ?_, rfl, by simp [SV.den, SA.den, Val.upd_same, SN.den], ?_, by simp⟩
  · simp [execOp, Instr.box, newVar, newRow]
  · refine Eff.alloc (vs := (ρ x).cells.toList) (rest := []) (lo := 0) (hi := 0) hb.hd (by simp) rfl rfl rfl (cellsS_den hev) (by simp) (by simp) (by simp)
theorem asSt_sat {d : TypeDesc} {e : R α} {f : Array Field → R α} {φ : α → Prop} (h : ∀ fs, d = .struct fs → (f fs).Sat φ) (he : e.Sat φ) : (TypeDesc.asSt d e f).Sat φ := by
  cases d <;> first | exact h _ rfl | exact he
theorem asArr_sat {d : TypeDesc} {e : R α} {f : Nat → TypeId → R α} {φ : α → Prop} (h : ∀ n t, d = .array n t → (f n t).Sat φ) (he : e.Sat φ) : (TypeDesc.asArr d e f).Sat φ := by
  cases d <;> first | exact h _ _ rfl | exact he
theorem asSl_sat {d : TypeDesc} {e : R α} {f : TypeId → R α} {φ : α → Prop} (h : ∀ t, d = .slice t → (f t).Sat φ) (he : e.Sat φ) : (TypeDesc.asSl d e f).Sat φ := by
  cases d <;> first | exact h _ rfl | exact he
theorem oBuild_sat {dst : Option Tmp} {ty : TypeId} {ps : Array (Nat × Operand)} {t : TypeId} {pos : String} {af : Array Edge} {g : Option (Nat × Bool)} (hev : ∀ x ∈ ps.toList.map (·.2), (ev x).den β = some (ρ x)) :
    (oBuild ty ps P ev H base).Sat (OpSem P H β w base ((execOp ρ ⟨dst, .build ty ps, t, pos, af, g⟩).run P w)) := by
  obtain ⟨hp1, hp2⟩ := parts_spec ps.toList hev
  refine R.Sat.opt fun d hd => ?_
  have hu := run_underlying (w := w) hd
  have hps : (ps.map fun (p : Nat × Operand) => (p.1, ρ p.2)).toList = ps.toList.map fun (p : Nat × Operand) => (p.1, ρ p.2) := by simp
  split
  · rename_i fields
    refine R.Sat.opt fun z hz => R.Sat.opt fun pl hpl => R.Sat.opt fun cells hc => ?_
    obtain ⟨i, v, hi, hv, hden⟩ := zeroS_spec hz
    have hplaces := placesS_spec (w := w) _ _ hpl
    obtain ⟨rs, hrs, hr, _⟩ := fill_spec (β := β) (nth pl) _ (ps.map fun (p : Nat × Operand) => (p.1, ρ p.2)).toList _ _ _ (by rw [hps]; exact hp1) (by rw [hps]; exact hp2) (hden β) hc
    refine sem_val (x := .agg rs.toArray) ?_ (by simp [SV.den, hr])
    have hm : (fields.mapM (m := Sem) fun f => do pure (f.offset, ← sizeOf f.type)).run P w = .ok pl.toArray w := by
      rw [Array.mapM_eq_mapM_toList]
      simp only [Sem.run_map, hplaces, Result.andThen_ok]
    have hn : (fun i => pl.toArray[i]?) = nth pl := by funext i; rw [nth_eq]; simp
    simp only [execOp, Instr.build, Sem.run_bind, run_zeroValue hi hv, Result.andThen_ok, hu, hm, hn]
    rw [show v.cells = v.cells.toList.toArray from by simp, hrs]
    simp
  · rename_i n elem
    refine R.Sat.opt fun z hz => R.Sat.opt fun ie hie => R.Sat.opt fun cells hc => ?_
    obtain ⟨i, v, hi, hv, hden⟩ := zeroS_spec hz
    obtain ⟨rs, hrs, hr, _⟩ := fill_spec (β := β) (fun j => some (j * ie.size, ie.size)) _ (ps.map fun (p : Nat × Operand) => (p.1, ρ p.2)).toList _ _ _ (by rw [hps]; exact hp1) (by rw [hps]; exact hp2) (hden β) hc
    refine sem_val (x := .agg rs.toArray) ?_ (by simp [SV.den, hr])
    simp only [execOp, Instr.build, Sem.run_bind, run_zeroValue hi hv, Result.andThen_ok, hu, run_sizeOf hie]
    rw [show v.cells = v.cells.toList.toArray from by simp, hrs]
    simp
  · trivial

end
end Go.Sim
