/-
  internal/bytealg.MakeNoZero: bytes that nobody knows.
-/
import Derived.Test.YtdnaaeagllejjaaLib1
import Derived.Laws.Externs
import Derived.Lib.MakeNoZero
namespace Go.Proofs.Ytdnaaeagllejjaa.Aes
open Go.Sim
open Go.Proofs
variable {α : Type}

noncomputable def zbyte (z : Nat → Nat) : Nat → BitVec 8 := fun i => BitVec.ofNat 8 (z i)
theorem digits_list : ∀ (n t : Nat) (acc : Array Value), (Extern.BytealgMakeNoZero.digits n t acc).toList = acc.toList ++ (List.range n).map fun i => Value.int .u8 (Int.ofNat (t / 256 ^ i % 256))
  | 0, t, acc => by simp [Extern.BytealgMakeNoZero.digits]
  | n + 1, t, acc => by
    rw [Extern.BytealgMakeNoZero.digits, digits_list n, List.range_succ_eq_map]
    simp only [Array.toList_push, List.append_assoc, List.map_cons, List.map_map, Nat.pow_zero, Nat.div_one]
    congr 1
    show _ :: _ = _ :: _
    congr 1
    apply List.map_congr_left
    intro i _
    show Value.int .u8 _ = Value.int .u8 _
    rw [Nat.div_div_eq_div_mul, Nat.pow_succ, Nat.mul_comm]
theorem mnz_run {P : Program} (w : World) (ps : Array TypeId) (t e : TypeId) (ht : P.underlying t = some (.slice e)) (n : Nat) (hn : n ≤ 281474976710656) :
    ∃ cap bytes, (Extern.BytealgMakeNoZero.makeNoZero ps #[t] #[.int .i64 n]).run P w = .ok (.slice (some ⟨w.heap.size, 0, none⟩) n cap) (w.drew.drew.alloc (.cells (Extern.BytealgMakeNoZero.digits cap bytes #[]) e)) ∧ n ≤ cap := by
  have hdef : Extern.BytealgMakeNoZero.makeNoZero ps #[t] #[.int .i64 n] =
      (do
        let .slice elem ← underlying t | stuck "bytealg.MakeNoZero: slice type expected"
        if (n : Int) < 0 || (n : Int) > 2 ^ 48 then runtimePanic (.error "makeslice: len out of range")
        let cap ← choose (.appendCap (n : Int).toNat 0 elem)
        askRoom cap
        let bytes ← choose (.extern "internal/bytealg.MakeNoZero.bytes" 0)
        let a ← newRow elem (Extern.BytealgMakeNoZero.digits cap bytes #[])
        pure (.slice (some a) (n : Int).toNat cap)) := rfl
  refine ⟨grownCap w n 0 e, (Question.extern "internal/bytealg.MakeNoZero.bytes" 0).cut (w.tape (w.drawn + 1) (.extern "internal/bytealg.MakeNoZero.bytes" 0)), ?_, ?_⟩
  · rw [hdef]
    have h1 : ¬ (n : Int) < 0 := by omega
    have h2 : ¬ (281474976710656 : Int) < (n : Int) := by omega
    simp [run_underlying ht, h1, h2, Question.forced, newRow, grownCap]
  · simpa using grownCap_ge w n 0 e
theorem find_mnz : ∃ fn, Try.prog.funcs[34]? = some fn ∧ (fn.name == "runtime.NumGoroutine") = false ∧ fn.body.isNone = true ∧ Extern.findNext fn = none ∧ Extern.find fn = some (Extern.BytealgMakeNoZero.makeNoZero #[3] #[22]) := ⟨_, rfl, by kernel_rfl, by kernel_rfl, by kernel_rfl, by kernel_rfl⟩
noncomputable def mnzS : Summ := fun args _ base => args1 args fun v => optC (litI v) (.stuck 780) fun n => boolC (Nat.ble n 16777216) (.any fun z => .ok ⟨.slice ⟨base, .lit 0⟩ (.lit n) (.rest base 0), [], [.own (.lst (bx (bytesFrom (zbyte z) 0 n))) false 5]⟩) (.stuck 781)
theorem under_bytes : Try.prog.underlying 22 = some (.slice 5) := by kernel_rfl
theorem info_byte : (Try.prog.info? 5).map (·.size) = some 1 := by kernel_rfl
theorem mnzOK : SumOK Try.prog 34 mnzS := by
  intro glob O w0 β H w base args vs hH hG ha
  refine args1_sat fun v hv => optC_only fun n hn => boolC_only fun hle => ?_
  rw [hv, litI_spec hn] at ha
  cases ha
  have hle : n ≤ 16777216 := Nat.le_of_ble_eq_true hle
  obtain ⟨fn, h1, h2, h3, h4, h5⟩ := find_mnz
  obtain ⟨cap, bytes, hrun, hcap⟩ := mnz_run (P := Try.prog) w #[3] 22 5 under_bytes n (by omega)
  refine ⟨fun i => bytes / 256 ^ i % 256, ?_⟩
  intro hfree
  have hb : β base = none := hfree 0 (by simp)
  refine ⟨by simp, .inr ?_⟩
  let vs : List Value := (List.range n).map fun i => Value.int .u8 (Int.ofNat (bytes / 256 ^ i % 256))
  let rest : List Value := (List.range' n (cap - n)).map fun i => Value.int .u8 (Int.ofNat (bytes / 256 ^ i % 256))
  have hcells : Extern.BytealgMakeNoZero.digits cap bytes #[] = (vs ++ rest).toArray := by
    apply Array.ext'
    rw [digits_list]
    show _ = (vs ++ rest)
    simp only [vs, rest]
    rw [← List.map_append, List.range_eq_range', List.range_eq_range']
    have : List.range' 0 cap = List.range' 0 n ++ List.range' n (cap - n) := by
      have := (List.range'_append (s := 0) (m := n) (n := cap - n) (step := 1)).symm
      rw [show n + (cap - n) = cap from by omega] at this
      simpa using this
    rw [this]; rfl
  have hE := Eff.alloc (P := Try.prog) (β := β) (w := w) (w' := w.drew.drew.alloc (.cells (Extern.BytealgMakeNoZero.digits cap bytes #[]) 5)) (base := base) (c := .lst (bx (bytesFrom (zbyte fun i => bytes / 256 ^ i % 256) 0 n))) (whole := false) (elem := 5) (vs := vs) (rest := rest) (lo := 0) (hi := 0) (cap := cap) hb
    (by rw [← hcells]; rfl) rfl rfl rfl ?_ (.inl rfl) (by simp) ?_
  · refine ⟨.slice (some ⟨w.heap.size, 0, none⟩) n cap, _, _, ?_, ?_, hE⟩
    · rw [run_callFunc_extern h1 h2 h3 h4 h5]
      show ((Extern.BytealgMakeNoZero.makeNoZero #[3] #[22] #[.int .i64 n]).run Try.prog w).andThen _ = _
      rw [hrun]; rfl
    · simp [SV.den, SA.den, SC.den, SN.den, Val.upd, sliceV, hcap]
  · show SV.denL β (bx _) = some vs
    rw [bx_den]
    congr 1
    apply List.ext_getElem?
    intro i
    rw [List.getElem?_map]
    by_cases hi : i < n
    · rw [bytesFrom_get _ _ _ _ hi]
      simp only [vs, List.getElem?_map, List.getElem?_range hi, Option.map_some]
      congr 1
      show Value.int .u8 (((BitVec.ofNat 8 (bytes / 256 ^ (0 + i) % 256)).toNat : Nat) : Int) = _
      rw [BitVec.toNat_ofNat, Nat.zero_add, Nat.mod_mod_of_dvd _ (by decide)]
      rfl
    · rw [List.getElem?_eq_none (by rw [bytesFrom_length]; omega), List.getElem?_eq_none (by simp [vs]; omega)]; rfl
  · intro i hi
    have := info_byte
    rw [hi] at this
    have h1 : i.size = 1 := Option.some.inj this
    rw [h1]
    simp [vs, rest]; omega

end Go.Proofs.Ytdnaaeagllejjaa.Aes
