/-
  Texts behind one another: the symbolic simulator and what it is told of the program.
-/
import Derived.Test.YtdnaaeagllejjaaDoorCk1
import Derived.Laws.Entries
import Derived.Laws.Strings
import Derived.Laws.IdiomStrings
import Derived.Laws.BytesString
import Derived.Laws.StructEq
import Derived.Laws.Append
import Derived.RangeFuncIn
import Derived.RangeFuncRecord
import Derived.RangeFuncNested

/-
  The symbolic simulator, ninth part: the operations, one by one, continued.
-/
namespace Go.Sim
variable {α : Type}

section
variable {P : Program} {O : Nat → Prop} {w0 : World} {β : Val} {H : List SO} {w : World} {base : Nat}
variable {ev : Operand → SV} {ρ : Operand → Value} {dst : Option Tmp} {t : TypeId} {pos : String} {af : Array Edge} {g : Option (Nat × Bool)}

theorem oBuildSlice_sat {ty : TypeId} {n : Nat} {ps : Array (Nat × Operand)} (hev : ∀ x ∈ ps.toList.map (·.2), (ev x).den β = some (ρ x)) :
    (oBuildSlice ty n ps P ev H base).Sat (OpSem P H β w base ((execOp ρ ⟨dst, .buildSlice ty n ps, t, pos, af, g⟩).run P w)) := by
  obtain ⟨hp1, hp2⟩ := parts_spec ps.toList hev
  refine R.Sat.opt fun d hd => ?_
  have hu := run_underlying (w := w) hd
  have hps : (ps.map fun (p : Nat × Operand) => (p.1, ρ p.2)).toList = ps.toList.map fun (p : Nat × Operand) => (p.1, ρ p.2) := by simp
  split
  · rename_i elem
    refine R.Sat.opt fun ie hie => R.Sat.opt fun z hz => ?_
    split
    · trivial
    · rename_i hbig
      split
      · trivial
      · rename_i hzl
        refine R.Sat.opt fun cells hc => ?_
        obtain ⟨i, v, hi, hv, hden⟩ := zeroS_spec hz
        rw [hie] at hi; cases hi
        have hzl' : v.cells.size = ie.size := by
          have := denL_length (hden β)
          rw [lenN_eq] at hzl
          simp at this hzl; omega
        have hmany := manyN_den (hden β) n
        obtain ⟨rs, hrs, hr, hrl⟩ := fill_spec (β := β) (fun j => some (j * ie.size, ie.size)) _ (ps.map fun (p : Nat × Operand) => (p.1, ρ p.2)).toList _ _ _ (by rw [hps]; exact hp1) (by rw [hps]; exact hp2) hmany hc
        have hlen : rs.length = n * ie.size := by rw [hrl]; simp [hzl']
        refine fun hb => ⟨.value (.slice (some ⟨w.heap.size, 0, none⟩) n n), _, { w with heap := w.heap.push (.cells rs.toArray elem) }, β.upd base ⟨w.heap.size, 0, 0⟩, ?_, rfl, by rw [den_slice]; exact ⟨⟨w.heap.size, 0, none⟩, n, by simp [SA.den, Val.upd_same, SN.den], rfl, Nat.le_refl _, rfl⟩, ?_, by simp⟩
        · simp only [execOp, Instr.buildSlice, Sem.run_bind, hu, Result.andThen_ok, run_sizeOf hie]
          rw [if_neg hbig]
          by_cases h0 : n * ie.size = 0
          · rw [if_pos h0]
            have hrs' : Instr.fill (fun i => some (i * ie.size, ie.size)) ((Array.range (n * ie.size)).map (fun i => (#[] : Array Value)[i % (#[] : Array Value).size]!)) (ps.map fun (p : Nat × Operand) => (p.1, ρ p.2)).toList = some rs.toArray := by
              rw [h0, ← hrs]
              congr 1
              have : (List.replicate n v.cells.toList).flatten = [] := by
                apply List.eq_nil_of_length_eq_zero; simp [hzl', h0]
              rw [this]; simp
            simp only [Sem.run_bind, Sem.run_pure, Result.andThen_ok, hrs']
            simp [newRow]
          · rw [if_neg h0]
            simp only [Sem.run_bind, run_zeroValue hie hv, Result.andThen_ok, Sem.run_pure, range_map_zero hzl' h0, hrs]
            simp [newRow]
        · exact Eff.alloc (vs := rs) (rest := []) (lo := 0) (hi := 0) hb.hd (by simp) rfl rfl rfl hr (by simp) (by simp) (by simp)
  · trivial
theorem ptrS_sat {v : SV} {x : Value} (hv : v.den β = some x) {f : SA → R α} {φ : α → Prop} (h : ∀ a A, v = .ptr a → a.den β = some A → x = .pointer (some A) → (f a).Sat φ) : (ptrS v f).Sat φ := by
  cases v
  case ptr a =>
    simp only [SV.den, Option.map_eq_some_iff] at hv
    obtain ⟨A, hA, rfl⟩ := hv
    exact h a A rfl hA rfl
  all_goals trivial
theorem oLoad_sat (hr : HeapRel0 P O w0 β H w) {ty : TypeId} {a : Operand} (hev : (ev a).den β = some (ρ a)) :
    (oLoad ty a P ev H base).Sat (OpSem P H β w base ((execOp ρ ⟨dst, .load ty a, t, pos, af, g⟩).run P w)) := by
  refine ptrS_sat hev fun a' A _ hA hx => loadT_sat hr hA fun v x hv hrun => sem_val (x := x) ?_ hv
  simp only [execOp, Instr.loadAt, hx, Instr.sureAddr]
  simp [hrun]
theorem wrO_sat (hr : HeapRel0 P O w0 β H w) {a : SA} {A : Addr} (ha : a.den β = some A) {e : SO} (he : H[a.nm]? = some e) {l : List SV} {xs : List Value} (hl : SV.denL β l = some xs) (hs : allN scalar l = true)
    {res : Result Next} (hres : ∀ w', (storeCells A xs).run P w = .ok () w' → res = .ok .skip w') : (wrO e a l).Sat (OpSem P H β w base res) := by
  cases e with
  | row => trivial
  | loop => trivial
  | deferred => trivial
  | gone => trivial
  | own c wh el =>
    obtain ⟨ll, vs, rest, lo, hi, hbl, h0, hc, hh, hfz, hw, hcap⟩ := hr.entries _ _ he
    obtain ⟨l', hl', rfl⟩ := SA.den_some ha
    rw [hbl] at hl'; cases hl'
    refine wrCells_sat hc hl fun c' hc' hle => ?_
    have hrun := run_storeCells (P := P) xs (vs ++ rest) (ll.off + a.off.den) 0 w hh (denL_one hl hs) hfz.at (by rw [h0]; simp; omega)
    rw [Nat.add_zero, h0, Nat.zero_add, overC_append hle] at hrun
    rw [h0, Nat.zero_add] at hres
    refine fun _ => ⟨.skip, _, _, β, hres _ hrun, rfl, by simp [undefS, SV.den, SV.denL, undef], Eff.turn hbl ?_, ?_⟩
    · have hlt : ll.blk < w.heap.size := (Array.getElem?_eq_some_iff.1 hh).1
      refine ⟨ll, overC vs a.off.den xs, rest, lo, hi, hbl, h0, hc', by simp [hlt], ?_, hw, ?_⟩
      · simp only [List.length_append, overC_length hle] at hfz ⊢; exact hfz
      · intro i hi'
        have := hcap i hi'
        simp only [List.length_append, overC_length hle] at this ⊢; exact this
    · intro n e hn
      simp at hn
      obtain ⟨rfl, rfl⟩ := hn
      exact ⟨_, he, rfl⟩
theorem oStore_sat (hr : HeapRel0 P O w0 β H w) {ty : TypeId} {a x : Operand} (hev : (ev a).den β = some (ρ a)) (hevx : (ev x).den β = some (ρ x)) :
    (oStore ty a x P ev H base).Sat (OpSem P H β w base ((execOp ρ ⟨dst, .store ty a x, t, pos, af, g⟩).run P w)) := by
  refine ptrS_sat hev fun a' A _ hA hx => R.Sat.opt fun i hi => R.Sat.boolC (fun hlen => R.Sat.boolC (fun hs => entry_sat fun e he => ?_) fun _ => trivial) fun _ => trivial
  have hc := cellsS_den hevx
  refine wrO_sat hr hA he hc hs fun w' hw' => ?_
  have hsz : (ρ x).cells.size = i.size := by
    have h1 := denL_length hc
    have h2 := Nat.eq_of_beq_eq_true hlen
    rw [lenN_eq] at h2
    simp at h1; omega
  simp only [execOp, Instr.storeAt, hx, Instr.sureAddr, storeVar]
  simp [run_sizeOf hi, hsz, hw']
theorem oNil_sat {x : Operand} (hev : (ev x).den β = some (ρ x)) :
    (oNil x P ev H base).Sat (OpSem P H β w base ((execOp ρ ⟨dst, .nilCheck x, t, pos, af, g⟩).run P w)) := by
  unfold oNil nilCheckT
  have hev0 := hev
  cases hv : ev x
  case ptr a =>
    rw [hv] at hev
    simp only [SV.den, Option.map_eq_some_iff] at hev
    obtain ⟨A, hA, hx⟩ := hev
    refine sem_val (x := ρ x) ?_ (by rw [← hv]; exact hev0)
    simp [execOp, ← hx]
  case slice a l c =>
    rw [hv] at hev
    rw [den_slice] at hev
    obtain ⟨A, C, hA, hC, _, hx⟩ := hev
    refine sem_val (x := ρ x) ?_ (by rw [← hv]; exact hev0)
    simp [execOp, ← hx]
  case tail a n l c =>
    rw [hv] at hev
    rw [den_tail] at hev
    obtain ⟨A, C, hA, hC, _, hx⟩ := hev
    refine sem_val (x := ρ x) ?_ (by rw [← hv]; exact hev0)
    simp [execOp, ← hx]
  case func f xs ys =>
    rw [hv] at hev
    simp only [SV.den, Option.map_eq_some_iff, Option.bind_eq_some_iff] at hev
    obtain ⟨F, hF, as, has, bs, hbs, hx⟩ := hev
    have key : (∀ m, F ≠ .method m) → (vR (.func f xs ys)).Sat (OpSem P H β w base ((execOp ρ ⟨dst, .nilCheck x, t, pos, af, g⟩).run P w)) := by
      intro hm
      refine sem_val (x := ρ x) ?_ (by rw [← hv]; exact hev0)
      simp only [execOp, ← hx]
      cases F <;> first | rfl | exact absurd rfl (hm _)
    cases f with
    | yield nm =>
      simp only [SFn.den, Option.map_eq_some_iff] at hF
      obtain ⟨l, _, rfl⟩ := hF
      exact key (by simp)
    | fn fn =>
      simp only [SFn.den, Option.some.injEq] at hF
      subst hF
      cases fn <;> first | exact key (by simp) | trivial
  all_goals trivial

end
end Go.Sim


/-
  The symbolic simulator, tenth part: the operations on numbers, strings, nil; parts and addresses.
-/
namespace Go.Sim
variable {α : Type}

section
variable {P : Program} {O : Nat → Prop} {w0 : World} {β : Val} {H : List SO} {w : World} {base : Nat}
variable {ev : Operand → SV} {ρ : Operand → Value} {dst : Option Tmp} {t : TypeId} {pos : String} {af : Array Edge} {g : Option (Nat × Bool)}

/-- neither two nil interfaces nor two structs or arrays -/
def plainPair : Value → Value → Bool
  | .nilIface, .nilIface => false
  | .agg _, .agg _ => false
  | _, _ => true
theorem run_eqGuard {op : BinOp} {t : TypeId} {x y : Operand} {a b : Value} (h : plainPair a b = true) : (eqGuard op t x y a b).run P w = .ok () w := by
  unfold eqGuard
  cases a <;> cases b <;> first | (cases h; done) | (dsimp only; split <;> rfl)
theorem sem_bin {op : BinOp} {ty yt : TypeId} {x y : Operand} {v : SV} {z : Value} (hg : plainPair (ρ x) (ρ y) = true) (hrun : (binOp op ty (ρ x) (ρ y)).run P w = .ok z w) (hv : v.den β = some z) :
    (vR v).Sat (OpSem P H β w base ((execOp ρ ⟨dst, .binOp op ty x y yt, t, pos, af, g⟩).run P w)) := by
  refine sem_val (x := z) ?_ hv
  simp [execOp, run_eqGuard hg, hrun]
theorem run_arM {op : BinOp} {ty : TypeId} {k : IntKind} {a b n : Int} (h : arM op k a b = some n) : (binOp op ty (.int k a) (.int k b)).run P w = .ok (.int k n) w := by
  cases op <;> simp only [arM, reduceCtorEq, Option.some.injEq] at h <;> subst h
  · rw [binOp_add]; rfl
  · rw [binOp_sub]; rfl
  · rw [binOp_mul]; rfl
  · rw [binOp_and]; rfl
  · rw [binOp_or]; rfl
  · rw [binOp_xor]; rfl
  · rw [binOp_andNot]; rfl
theorem run_cmpI {op : BinOp} {ty : TypeId} {k : IntKind} {a b : Int} {n : Bool} (h : cmpI op a b = some n) : (binOp op ty (.int k a) (.int k b)).run P w = .ok (.bool n) w := by
  cases op <;> simp only [cmpI, reduceCtorEq, Option.some.injEq] at h <;> subst h
  · rw [binOp_eql]; rfl
  · rw [binOp_neq]; rfl
  · rw [binOp_lss]; rfl
  · rw [binOp_leq]; rfl
  · rw [binOp_gtr]; rfl
  · rw [binOp_geq]; rfl
theorem bnInt_sat {op : BinOp} {ty yt : TypeId} {x y : Operand} {k k' : IntKind} {a b : SI} (hx : ρ x = .int k a.den) (hy : ρ y = .int k' b.den) :
    (bnInt op k a k' b).Sat (OpSem P H β w base ((execOp ρ ⟨dst, .binOp op ty x y yt, t, pos, af, g⟩).run P w)) := by
  have hg : plainPair (ρ x) (ρ y) = true := by rw [hx, hy]; rfl
  have har : ∀ op', op' = op → (bnAr op' k a k' b).Sat (OpSem P H β w base ((execOp ρ ⟨dst, .binOp op ty x y yt, t, pos, af, g⟩).run P w)) := by
    rintro op' rfl
    refine R.Sat.boolC (fun hk => ?_) fun _ => trivial
    have := idxK_inj hk; subst this
    refine (arithS_sat op' k a b).bind fun z hz => sem_bin hg (z := .int k z.den) (by rw [hx, hy]; exact run_arM hz) rfl
  have hcm : ∀ op', op' = op → (bnCm op' k a k' b).Sat (OpSem P H β w base ((execOp ρ ⟨dst, .binOp op ty x y yt, t, pos, af, g⟩).run P w)) := by
    rintro op' rfl
    refine R.Sat.boolC (fun hk => ?_) fun _ => trivial
    have := idxK_inj hk; subst this
    refine (cmpS_sat op' a b).bind fun z hz => sem_bin hg (z := .bool z.den) (by rw [hx, hy]; exact run_cmpI hz) rfl
  have hdv : ∀ op', op' = op → op' = .quo ∨ op' = .rem → (bnDv op' k a k' b).Sat (OpSem P H β w base ((execOp ρ ⟨dst, .binOp op ty x y yt, t, pos, af, g⟩).run P w)) := by
    rintro op' rfl hop
    refine R.Sat.boolC (fun hk => ?_) fun _ => trivial
    have := idxK_inj hk; subst this
    refine (divS_sat op' k a b).bind fun z hz => sem_bin hg (z := .int k z.den) ?_ rfl
    rw [hx, hy, ← hz.2]
    rcases hop with rfl | rfl
    · rw [binOp_quo]; unfold Op.intDiv; rw [if_neg hz.1]; rfl
    · rw [binOp_rem]; unfold Op.intDiv; rw [if_neg hz.1]; rfl
  have hsh : ∀ op', op' = op → op' = .shl ∨ op' = .shr → (bnSh op' k a k' b).Sat (OpSem P H β w base ((execOp ρ ⟨dst, .binOp op ty x y yt, t, pos, af, g⟩).run P w)) := by
    rintro op' rfl hop
    refine (shiftS_sat op' k a b hop).bind fun z hz => sem_bin hg (z := .int k z.den) ?_ rfl
    rw [hx, hy, ← hz.2]
    have h0 : ¬ b.den < 0 := by omega
    rcases hop with rfl | rfl
    · rw [binOp_shl]; unfold Op.shift; rw [if_neg h0]; rfl
    · rw [binOp_shr]; unfold Op.shift; rw [if_neg h0]; rfl
  cases op
  · exact har _ rfl
  · exact har _ rfl
  · exact har _ rfl
  · exact hdv _ rfl (.inl rfl)
  · exact hdv _ rfl (.inr rfl)
  · exact har _ rfl
  · exact har _ rfl
  · exact har _ rfl
  · exact hsh _ rfl (.inl rfl)
  · exact hsh _ rfl (.inr rfl)
  · exact har _ rfl
  · exact hcm _ rfl
  · exact hcm _ rfl
  · exact hcm _ rfl
  · exact hcm _ rfl
  · exact hcm _ rfl
  · exact hcm _ rfl
theorem beq_bytes (a b : ByteArray) : (a.toList == b.toList) = decide (a = b) := by
  rw [ByteArray.toList_eq, ByteArray.toList_eq, Bool.eq_iff_iff]
  simp only [beq_iff_eq, decide_eq_true_eq]
  obtain ⟨⟨x⟩⟩ := a
  obtain ⟨⟨y⟩⟩ := b
  simp
theorem beq_data (a b : ByteArray) : (a.toList == b.toList) = (a.data.toList == b.data.toList) := by
  rw [ByteArray.toList_eq, ByteArray.toList_eq]
theorem strEq_sat {op : BinOp} {ty yt : TypeId} {x y : Operand} {a b : SStr} (hx : ρ x = .string a.den) (hy : ρ y = .string b.den) :
    (strEq op a b).Sat (OpSem P H β w base ((execOp ρ ⟨dst, .binOp op ty x y yt, t, pos, af, g⟩).run P w)) := by
  have hg : plainPair (ρ x) (ρ y) = true := by rw [hx, hy]; rfl
  have key : ∀ (v : SV) (z : Value), v.den β = some z → (binOp op ty (.string a.den) (.string b.den)).run P w = .ok z w → (vR v).Sat (OpSem P H β w base ((execOp ρ ⟨dst, .binOp op ty x y yt, t, pos, af, g⟩).run P w)) :=
    fun v z hv hz => sem_bin hg (by rw [hx, hy]; exact hz) hv
  cases op
  case eql =>
    have hs : (binOp .eql ty (.string a.den) (.string b.den)).run P w = .ok (.bool (decide (a.den = b.den))) w := by rw [binOp_string_eql, beq_bytes]; rfl
    cases a <;> cases b <;> first
      | (refine key _ _ rfl ?_; rw [binOp_string_eql, beq_data]; rfl)
      | exact key _ _ rfl hs
  case neq =>
    have hs : (binOp .neq ty (.string a.den) (.string b.den)).run P w = .ok (.bool (!decide (a.den = b.den))) w := by rw [binOp_string_neq, beq_bytes]; rfl
    cases a <;> cases b <;> first
      | (refine key _ _ rfl ?_; rw [binOp_string_neq, beq_data]; rfl)
      | exact key _ _ rfl hs
  case lss =>
    refine key _ _ rfl ?_
    rw [binOp_string_lss, ByteArray.toList_eq, ByteArray.toList_eq]; rfl
  case add =>
    have hs : a.den.size + b.den.size ≤ 9223372036854775807 → (binOp .add ty (.string a.den) (.string b.den)).run P w = .ok (.string (a.den ++ b.den)) w := by
      intro hle
      rw [binOp_string_add]
      unfold Op.stringOp
      simp only
      rw [if_neg (by simp only [IntKind.max, IntKind.signed, IntKind.bits]; simp; omega)]
      rfl
    cases a <;> cases b <;> first
      | (show R.Sat (if _ then _ else _) _
         split
         · rename_i h; exact key _ _ rfl (hs h)
         · trivial)
      | exact fun h => key _ _ rfl (hs h)
  all_goals trivial

theorem asInt_cases (v : SV) : (∃ k n, v = .int k n) ∨ ∀ {γ : Type} (d : γ) (f : IntKind → SI → γ), v.asInt d f = d := by
  cases v <;> first | exact .inl ⟨_, _, rfl⟩ | exact .inr fun _ _ => rfl
theorem equal_succ : ∃ d, ∀ t x y, Op.equal t x y = Op.equalIn (d + 1) t x y := ⟨9999, fun _ _ _ => rfl⟩
theorem run_equal_bool {ty : TypeId} (h : P.underlying ty = some .bool) (a b : Bool) : (Op.equal ty (.bool a) (.bool b)).run P w = .ok (a == b) w := by
  obtain ⟨m, hm⟩ := equal_succ
  rw [hm]
  simp [Op.equalIn, run_underlying h]
theorem bnBool_sat {op : BinOp} {ty yt : TypeId} {x y : Operand} {a b : SB} (hx : ρ x = .bool a.den) (hy : ρ y = .bool b.den) :
    (bnBool P op ty a b).Sat (OpSem P H β w base ((execOp ρ ⟨dst, .binOp op ty x y yt, t, pos, af, g⟩).run P w)) := by
  have hg : plainPair (ρ x) (ρ y) = true := by rw [hx, hy]; rfl
  refine R.Sat.opt fun d hd => ?_
  split
  · cases op
    case eql =>
      have h1 : (binOp .eql ty (.bool a.den) (.bool b.den)).run P w = .ok (.bool (a.den == b.den)) w := by
        simp [binOp, run_equal_bool hd]
      cases a <;> cases b <;> exact sem_bin hg (by rw [hx, hy]; exact h1) rfl
    case neq =>
      have h1 : (binOp .neq ty (.bool a.den) (.bool b.den)).run P w = .ok (.bool (!(a.den == b.den))) w := by
        simp [binOp, run_equal_bool hd]
      cases a <;> cases b <;> exact sem_bin hg (by rw [hx, hy]; exact h1) rfl
    all_goals trivial
  · trivial
theorem run_equal_nil {ty : TypeId} {d : TypeDesc} (h : P.underlying ty = some d) {x y : SV} (hn : isNilType d x y = true) {b : Bool} (hb : nilEq x y = some b) {a c : Value} (hx : x.den β = some a) (hy : y.den β = some c) :
    (Op.equal ty a c).run P w = .ok b w ∧ plainPair a c = true ∧ ∀ op, (op = .eql ∨ op = .neq) → (binOp op ty a c).run P w = .ok (.bool (if op = .eql then b else !b)) w := by
  have key : (Op.equal ty a c).run P w = .ok b w → (∀ s, a ≠ .string s) → (∀ k n, a ≠ .int k n) → (∀ k n, a ≠ .float k n) → (∀ k n m, a ≠ .complex k n m) → a ≠ .nilIface → (∀ l, a ≠ .agg l) →
      (Op.equal ty a c).run P w = .ok b w ∧ plainPair a c = true ∧ ∀ op, (op = .eql ∨ op = .neq) → (binOp op ty a c).run P w = .ok (.bool (if op = .eql then b else !b)) w := by
    intro h1 n1 n2 n3 n4 n5 n6
    refine ⟨h1, ?_, fun op hop => ?_⟩
    · cases a <;> first | rfl | exact absurd rfl (n6 _) | exact absurd rfl n5
    · rcases hop with rfl | rfl
      · have : binOp .eql ty a c = (do pure (.bool (← Op.equal ty a c))) := by
          cases a <;> first | rfl | exact absurd rfl (n1 _) | exact absurd rfl (n2 _ _) | exact absurd rfl (n3 _ _) | exact absurd rfl (n4 _ _ _)
        rw [this]; simp [h1]
      · have : binOp .neq ty a c = (do pure (.bool (!(← Op.equal ty a c)))) := by
          cases a <;> first | rfl | exact absurd rfl (n1 _) | exact absurd rfl (n2 _ _) | exact absurd rfl (n3 _ _) | exact absurd rfl (n4 _ _ _)
        rw [this]; simp [h1]
  obtain ⟨m, hm⟩ := equal_succ
  have heq : ∀ z : Sem Bool, Op.equalIn (m + 1) ty a c = z → z.run P w = .ok b w → (Op.equal ty a c).run P w = .ok b w := fun z e1 e2 => by
    rw [hm, e1]; exact e2
  cases d <;> cases x <;> first
    | (cases hn; done)
    | (cases y <;> first
        | (cases hn; done)
        | (simp only [SV.den, Option.map_eq_some_iff, Option.bind_eq_some_iff, Option.some.injEq, sliceV_eq, tailV_eq] at hx hy
           simp only [nilEq, Option.some.injEq] at hb
           subst hb
           refine key (heq _ rfl ?_) ?_ ?_ ?_ ?_ ?_ ?_ <;> first
             | (first
                 | (subst hx; subst hy)
                 | (subst hx; obtain ⟨_, _, rfl⟩ := hy)
                 | (subst hy; obtain ⟨_, _, rfl⟩ := hx)
                 | (subst hx; obtain ⟨_, _, _, _, _, rfl⟩ := hy)
                 | (subst hy; obtain ⟨_, _, _, _, _, rfl⟩ := hx)
                 | (subst hx; obtain ⟨_, _, _, _, _, _, rfl⟩ := hy)
                 | (subst hy; obtain ⟨_, _, _, _, _, _, rfl⟩ := hx)) <;> first | (simp [Op.equalIn, run_underlying h]; done) | (intros; simp; done)))

end
end Go.Sim


/-
  The symbolic simulator, eleventh part: operators whole; parts, addresses, slices.
-/
namespace Go.Sim
variable {α : Type}

section
variable {P : Program} {O : Nat → Prop} {w0 : World} {β : Val} {H : List SO} {w : World} {base : Nat}
variable {ev : Operand → SV} {ρ : Operand → Value} {dst : Option Tmp} {t : TypeId} {pos : String} {af : Array Edge} {g : Option (Nat × Bool)}

theorem bnNil_sat {op : BinOp} {ty yt : TypeId} {x y : Operand} {a b : SV} (hx : a.den β = some (ρ x)) (hy : b.den β = some (ρ y)) :
    (bnNil P op ty a b).Sat (OpSem P H β w base ((execOp ρ ⟨dst, .binOp op ty x y yt, t, pos, af, g⟩).run P w)) := by
  refine R.Sat.opt fun d hd => ?_
  split
  · rename_i hn
    refine R.Sat.opt fun c hc => ?_
    obtain ⟨_, h2, h3⟩ := run_equal_nil (w := w) hd hn hc hx hy
    cases op
    case eql => exact sem_bin h2 (h3 .eql (.inl rfl)) rfl
    case neq => exact sem_bin h2 (h3 .neq (.inr rfl)) rfl
    all_goals trivial
  · trivial
theorem bnRest_sat {op : BinOp} {ty yt : TypeId} {x y : Operand} {a b : SV} (hx : a.den β = some (ρ x)) (hy : b.den β = some (ρ y)) :
    (bnRest P op ty a b).Sat (OpSem P H β w base ((execOp ρ ⟨dst, .binOp op ty x y yt, t, pos, af, g⟩).run P w)) := by
  unfold bnRest
  split
  · exact strEq_sat (by simpa [SV.den, eq_comm] using hx) (by simpa [SV.den, eq_comm] using hy)
  · exact bnBool_sat (by simpa [SV.den, eq_comm] using hx) (by simpa [SV.den, eq_comm] using hy)
  · exact bnNil_sat hx hy
theorem oBin_sat {op : BinOp} {ty yt : TypeId} {x y : Operand} (hx : (ev x).den β = some (ρ x)) (hy : (ev y).den β = some (ρ y)) :
    (oBin op ty x y yt P ev H base).Sat (OpSem P H β w base ((execOp ρ ⟨dst, .binOp op ty x y yt, t, pos, af, g⟩).run P w)) := by
  unfold oBin binT
  rcases asInt_cases (ev x) with ⟨k, n, h1⟩ | h1
  · rcases asInt_cases (ev y) with ⟨k', n', h2⟩ | h2
    · rw [h1] at hx ⊢
      rw [h2] at hy ⊢
      exact bnInt_sat (by simpa [SV.den, eq_comm] using hx) (by simpa [SV.den, eq_comm] using hy)
    · rw [h1]
      show R.Sat ((ev y).asInt _ _) _
      rw [h2, ← h1]
      exact bnRest_sat hx hy
  · rw [h1]
    exact bnRest_sat hx hy
theorem oUn_sat {op : UnOp} {ty : TypeId} {x : Operand} (hx : (ev x).den β = some (ρ x)) :
    (oUn op ty x P ev H base).Sat (OpSem P H β w base ((execOp ρ ⟨dst, .unOp op ty x, t, pos, af, g⟩).run P w)) := by
  unfold oUn unT
  split
  · rename_i b h
    rw [h] at hx; simp only [SV.den, SB.den, Option.some.injEq] at hx
    exact sem_val (x := .bool (!b)) (by simp [execOp, ← hx, Op.unary]) rfl
  · rename_i b _ h
    rw [h] at hx; simp only [SV.den, Option.some.injEq] at hx
    exact sem_val (x := .bool (!b.den)) (by simp [execOp, ← hx, Op.unary]) rfl
  · rename_i k n h
    rw [h] at hx; simp only [SV.den, Option.some.injEq] at hx
    refine (arithS_sat .sub k (.lit 0) n).bind fun z hz => sem_val (x := .int k z.den) ?_ rfl
    have hz' : k.wrap (0 - n.den) = z.den := Option.some.inj hz
    have hu : Op.unary .neg (.int k n.den) = pure (.int k (k.wrap (0 - n.den))) := rfl
    simp only [execOp, ← hx, hu, hz']
    rfl
  · rename_i n h
    rw [h] at hx; simp only [SV.den, Option.some.injEq] at hx
    refine (arithS_sat .xor .u8 (.lit 255) n).bind fun z hz => sem_val (x := .int .u8 z.den) ?_ rfl
    have hz' : bitsI .xor .u8 255 n.den = z.den := Option.some.inj hz
    have hu : Op.unary .xor (.int .u8 n.den) = pure (.int .u8 (bitsI .xor .u8 255 n.den)) := rfl
    simp only [execOp, ← hx, hu, hz']
    rfl
  · rename_i n h
    rw [h] at hx; simp only [SV.den, Option.some.injEq] at hx
    refine (arithS_sat .xor .u32 (.lit 4294967295) n).bind fun z hz => sem_val (x := .int .u32 z.den) ?_ rfl
    have hz' : bitsI .xor .u32 4294967295 n.den = z.den := Option.some.inj hz
    have hu : Op.unary .xor (.int .u32 n.den) = pure (.int .u32 (bitsI .xor .u32 4294967295 n.den)) := rfl
    simp only [execOp, ← hx, hu, hz']
    rfl
  · rename_i n h
    rw [h] at hx; simp only [SV.den, Option.some.injEq] at hx
    refine (arithS_sat .xor .u64 (.lit 18446744073709551615) n).bind fun z hz => sem_val (x := .int .u64 z.den) ?_ rfl
    have hz' : bitsI .xor .u64 18446744073709551615 n.den = z.den := Option.some.inj hz
    have hu : Op.unary .xor (.int .u64 n.den) = pure (.int .u64 (bitsI .xor .u64 18446744073709551615 n.den)) := rfl
    simp only [execOp, ← hx, hu, hz']
    rfl
  · trivial
theorem oArr_sat {ty : TypeId} {x : Operand} (hx : (ev x).den β = some (ρ x)) :
    (oArr ty x P ev H base).Sat (OpSem P H β w base ((execOp ρ ⟨dst, .sliceToArrayPointer ty x, t, pos, af, g⟩).run P w)) := by
  refine R.Sat.opt fun d hd => ?_
  have hu := run_underlying (w := w) hd
  split
  · rename_i n e
    split
    · rename_i a len c h
      rw [h] at hx
      rw [den_slice] at hx
      obtain ⟨A, C, hA, hC, hLC, hx⟩ := hx
      have key : n ≤ len.den → (vR (.ptr a)).Sat (OpSem P H β w base ((execOp ρ ⟨dst, .sliceToArrayPointer ty x, t, pos, af, g⟩).run P w)) := by
        intro hle
        refine sem_val (x := .pointer (some A)) ?_ (by simp [SV.den, hA])
        simp only [execOp, ← hx, Instr.arrayAt, Sem.run_bind, hu, Result.andThen_ok]
        rw [if_neg (by omega)]
        rfl
      split
      · rename_i l
        split
        · trivial
        · rename_i hb
          refine key ?_
          rcases Nat.lt_or_ge l n with h' | h'
          · have : Nat.blt l n = true := by unfold Nat.blt; exact Nat.ble_eq_true_of_le h'
            rw [this] at hb; cases hb
          · exact h'
      · exact fun hle => key hle
      · exact fun hle => key hle
    · trivial
  · trivial
theorem oIface_sat {ty : TypeId} {x : Operand} (hx : (ev x).den β = some (ρ x)) :
    (oIface ty x P ev H base).Sat (OpSem P H β w base ((execOp ρ ⟨dst, .makeInterface ty x, t, pos, af, g⟩).run P w)) := by
  refine R.Sat.opt fun d hd => ?_
  have hu := run_underlying (w := w) hd
  cases d <;> first
    | trivial
    | exact sem_val (x := .iface ty (ρ x)) (by simp [execOp, Instr.makeInterface, hu]) (by simp [SV.den, hx])
theorem oFunc_sat {fn : Fn} {xs ys : Array Operand} (hx : ∀ x ∈ xs.toList, (ev x).den β = some (ρ x)) (hy : ∀ x ∈ ys.toList, (ev x).den β = some (ρ x)) :
    (oFunc fn xs ys P ev H base).Sat (OpSem P H β w base ((execOp ρ ⟨dst, .makeFunc fn xs ys, t, pos, af, g⟩).run P w)) := by
  unfold oFunc
  split
  · rename_i f
    refine sem_val (x := .func (.func f) (xs.map ρ) (ys.map ρ)) (by simp [execOp, Instr.makeFunc]) ?_
    simp [SV.den, SFn.den, mapEv_den _ hx, mapEv_den _ hy]
    exact ⟨by simp [← Array.toList_map], by simp [← Array.toList_map]⟩
  · rename_i t' path f p
    refine sem_val (x := .func (.via t' path f p) (xs.map ρ) (ys.map ρ)) (by simp [execOp, Instr.makeFunc]) ?_
    simp [SV.den, SFn.den, mapEv_den _ hx, mapEv_den _ hy]
    exact ⟨by simp [← Array.toList_map], by simp [← Array.toList_map]⟩
  · rename_i t' name
    refine sem_val (x := .func (.methodOf t' name) (xs.map ρ) (ys.map ρ)) (by simp [execOp, Instr.makeFunc]) ?_
    simp [SV.den, SFn.den, mapEv_den _ hx, mapEv_den _ hy]
    exact ⟨by simp [← Array.toList_map], by simp [← Array.toList_map]⟩
  · trivial
theorem fieldPlace_run {A : Addr} {f : Field} {i : TypeInfo} (hi : P.info? f.type = some i) (h0 : i.size ≠ 0) : (fieldPlace A f).run P w = .ok (A.add f.offset) w := by
  simp [fieldPlace, run_sizeOf hi, h0]
theorem oFieldAddr_sat {ty : TypeId} {x : Operand} {n : Nat} (hx : (ev x).den β = some (ρ x)) :
    (oFieldAddr ty x n P ev H base).Sat (OpSem P H β w base ((execOp ρ ⟨dst, .fieldAddr ty x n, t, pos, af, g⟩).run P w)) := by
  refine R.Sat.opt fun d hd => asSt_sat (fun fs hfs => R.Sat.opt fun f hf => R.Sat.opt fun i hi => R.Sat.boolC (fun _ => trivial) fun h0 => ptrS_sat hx fun a A _ hA hρ => ?_) trivial
  have hu := run_underlying (w := w) hd
  subst hfs
  rw [nth_eq] at hf
  have hf' : fs[n]? = some f := by rw [← hf]; simp
  have h0' : i.size ≠ 0 := fun h => by rw [h] at h0; cases h0
  refine sem_val (x := .pointer (some (A.add f.offset))) ?_ (by simp [SV.den, SA.plus_den hA, SN.den])
  simp [execOp, Instr.fieldAt, hu, hf', hρ, Instr.sureAddr, fieldPlace_run hi h0']
theorem partS_sat {ty : TypeId} {l : List SV} {vs : List Value} (hl : SV.denL β l = some vs) {off : Nat} {f : SV → R α} {φ : α → Prop}
    (hf : ∀ v x, v.den β = some x → (part ty vs.toArray off).run P w = .ok x w → (f v).Sat φ) : (partS P ty l off f).Sat φ := by
  refine R.Sat.opt fun d hd => ?_
  have hagg := run_isAgg (w := w) hd
  split
  · rename_i hb
    refine R.Sat.opt fun i hi => ?_
    rw [takeN_eq, dropN_eq]
    refine hf _ (.agg ((vs.drop off).take i.size).toArray) (by simp [SV.den, denL_take (denL_drop hl off) i.size]) ?_
    simp only [part, Sem.run_bind, hagg, hb, Result.andThen_ok, if_true, run_sizeOf hi, Sem.run_pure]
    congr 2
    apply Array.ext'
    simp only [Array.toList_extract]
    rw [List.extract_eq_take_drop]
    simp
  · rename_i hb
    refine R.Sat.opt fun v hv => ?_
    rw [nth_eq] at hv
    obtain ⟨x, hx, hd'⟩ := denL_get hl hv
    refine hf _ x hd' ?_
    have hb' : isAggD d = false := by simpa using hb
    simp [part, hagg, hb', hx]
theorem oField_sat {ty : TypeId} {x : Operand} {n : Nat} (hx : (ev x).den β = some (ρ x)) :
    (oField ty x n P ev H base).Sat (OpSem P H β w base ((execOp ρ ⟨dst, .field ty x n, t, pos, af, g⟩).run P w)) := by
  unfold oField
  split
  · rename_i l h
    rw [h] at hx
    simp only [SV.den, Option.map_eq_some_iff] at hx
    obtain ⟨vs, hvs, hρ⟩ := hx
    refine R.Sat.opt fun d hd => ?_
    have hu := run_underlying (w := w) hd
    split
    · rename_i fs
      refine R.Sat.opt fun f hf => partS_sat (w := w) hvs fun v x hv hrun => sem_val (x := x) ?_ hv
      rw [nth_eq] at hf
      have hf' : fs[n]? = some f := by rw [← hf]; simp
      simp [execOp, Instr.field, hu, hf', ← hρ, asAgg, hrun]
    · trivial
  · trivial
theorem asSlice_cases (v : SV) : (∃ a n c, v = .slice a n c) ∨ ∀ {γ : Type} (d : γ) (f : SA → SN → SC → γ), v.asSlice d f = d := by
  cases v <;> first | exact .inl ⟨_, _, _, rfl⟩ | exact .inr fun _ _ => rfl
theorem oIndexAddr_sat {ty : TypeId} {x i : Operand} (hx : (ev x).den β = some (ρ x)) (hi : (ev i).den β = some (ρ i)) :
    (oIndexAddr ty x i P ev H base).Sat (OpSem P H β w base ((execOp ρ ⟨dst, .indexAddr ty x i, t, pos, af, g⟩).run P w)) := by
  unfold oIndexAddr indexAddrT
  refine R.Sat.opt fun d hd => ?_
  have hu := run_underlying (w := w) hd
  rcases asInt_cases (ev i) with ⟨k, n, h1⟩ | h1
  · rw [h1] at hi ⊢
    simp only [SV.den, Option.some.injEq] at hi
    show R.Sat (TypeDesc.asArr d (TypeDesc.asSl d (.stuck 247) (ixSl P (ev x) n)) (ixArr P (ev x) n)) _
    refine asArr_sat (fun m elem hdd => ?_) (asSl_sat (fun elem hdd => ?_) trivial)
    · subst hdd
      refine ptrS_sat hx fun a A _ hA hρ => R.Sat.opt fun e he => idxS_sat fun j h0 hlt hj => ?_
      refine sem_val (x := .pointer (some (A.add (n.den.toNat * e.size)))) ?_ (by simp [SV.den, SA.plus_den hA, SN.mul_den, hj])
      simp only [SN.den] at hlt
      simp [execOp, Instr.indexAt, ← hi, asIntOf, hu, hρ, Instr.sureAddr, h0, hlt, run_sizeOf he]
    · subst hdd
      unfold ixSl
      split
      · rename_i a n' len c h2
        rw [h2, den_tail] at hx
        obtain ⟨A, C, hA, hC, hle, hρ⟩ := hx
        refine R.Sat.opt fun e he => idxS_sat fun j h0 hlt hj => ?_
        have hC0 : ¬ C = 0 := by omega
        rw [if_neg hC0] at hρ
        refine sem_val (x := .pointer (some ((A.add n'.den).add (n.den.toNat * e.size)))) ?_ (by simp [SV.den, SA.plus_den (SA.plus_den hA n'), SN.mul_den, hj])
        simp [execOp, Instr.indexAt, ← hi, asIntOf, hu, ← hρ, h0, hlt, run_sizeOf he]
      rename_i hnt
      clear hnt
      unfold ixSl1
      rcases asSlice_cases (ev x) with ⟨a, len, c, h2⟩ | h2
      · rw [h2] at hx ⊢
        rw [den_slice] at hx
        obtain ⟨A, C, hA, hC, _, hρ⟩ := hx
        refine R.Sat.opt fun e he => idxS_sat fun j h0 hlt hj => ?_
        refine sem_val (x := .pointer (some (A.add (n.den.toNat * e.size)))) ?_ (by simp [SV.den, SA.plus_den hA, SN.mul_den, hj])
        simp [execOp, Instr.indexAt, ← hi, asIntOf, hu, ← hρ, h0, hlt, run_sizeOf he]
      · rw [h2]; trivial
  · rw [h1]; trivial
theorem oIndex_sat {ty : TypeId} {x i : Operand} (hx : (ev x).den β = some (ρ x)) (hi : (ev i).den β = some (ρ i)) :
    (oIndex ty x i P ev H base).Sat (OpSem P H β w base ((execOp ρ ⟨dst, .index ty x i, t, pos, af, g⟩).run P w)) := by
  unfold oIndex indexT
  refine R.Sat.opt fun d hd => ?_
  have hu := run_underlying (w := w) hd
  split
  · rename_i k n h1
    rw [h1] at hi
    simp only [SV.den, Option.some.injEq] at hi
    split
    · rename_i m elem l h2
      rw [h2] at hx
      simp only [SV.den, Option.map_eq_some_iff] at hx
      obtain ⟨vs, hvs, hρ⟩ := hx
      refine R.Sat.opt fun e he => idxS_sat fun j h0 hlt hj => ?_
      cases j with
      | sym => trivial
      | byt => trivial
      | lit j =>
        refine partS_sat (w := w) hvs fun v x hv hrun => sem_val (x := x) ?_ hv
        simp only [SN.den] at hlt hj
        subst hj
        simp [execOp, Instr.index, ← hi, asIntOf, hu, ← hρ, h0, hlt, run_sizeOf he, hrun]
    · rename_i s h2
      rw [h2] at hx
      simp only [SV.den, Option.some.injEq] at hx
      have key : ∀ (v : SV) (b : UInt8), 0 ≤ n.den → s.den.data[n.den.toNat]? = some b → v.den β = some (.int .u8 (b.toNat : Int)) → (vR v).Sat (OpSem P H β w base ((execOp ρ ⟨dst, .index ty x i, t, pos, af, g⟩).run P w)) := by
        intro v b h0 hb hv
        refine sem_val ?_ hv
        have hb' : s.den[n.den.toNat]? = some b := by
          obtain ⟨hlt, hget⟩ := Array.getElem?_eq_some_iff.1 hb
          rw [getElem?_pos s.den n.den.toNat hlt]
          exact congrArg some hget
        simp [execOp, Instr.index, ← hi, asIntOf, hu, ← hx, h0, hb']
      split
      · rename_i s i'
        split
        · rename_i h0
          refine R.Sat.opt fun b hb => key _ b h0 ?_ rfl
          rw [nth_eq] at hb
          simp only [SStr.den, SI.den]
          rw [← hb]; simp
        · trivial
      · rename_i l i'
        split
        · rename_i h0
          refine R.Sat.opt fun b hb => ?_
          rw [nth_eq] at hb
          have hget : ∀ b, l[i'.toNat]? = some b → (SStr.bytes l).den.data[(SI.lit i').den.toNat]? = some (UInt8.ofNat b.den.toNat) := by
            intro b hb
            simp only [SStr.den, bytesOf, SI.den, List.getElem?_toArray, List.getElem?_map, hb, Option.map_some]
          split
          · rename_i x8
            refine key _ _ h0 (hget _ hb) ?_
            simp only [SV.den, SI.den, Int.toNat_natCast]
            rw [UInt8.toNat_ofNat', Nat.mod_eq_of_lt x8.isLt]
          · rename_i hbnd
            rintro ⟨h1, h2⟩
            refine key _ _ h0 (hget _ hb) ?_
            simp only [SV.den, UInt8.toNat_ofNat']
            rw [Nat.mod_eq_of_lt (by omega)]
            congr 2; omega
        · trivial
      · rintro ⟨h0, hlt⟩
        have hlt' : n.den.toNat < s.den.data.size := by
          have : s.den.size = s.den.data.size := rfl
          omega
        refine key _ (s.den.data[n.den.toNat]) h0 (Array.getElem?_eq_getElem hlt') ?_
        have hg : s.den.data.getD n.den.toNat 0 = s.den.data[n.den.toNat] := by
          rw [Array.getD_eq_getD_getElem?, Array.getElem?_eq_getElem hlt']; rfl
        show some (Value.int .u8 (((s.den.data.getD n.den.toNat 0).toBitVec.toNat : Nat) : Int)) = _
        rw [hg]; rfl
    · trivial
  · trivial
theorem oExtract_sat {x : Operand} {n : Nat} (hx : (ev x).den β = some (ρ x)) :
    (oExtract x n P ev H base).Sat (OpSem P H β w base ((execOp ρ ⟨dst, .extract x n, t, pos, af, g⟩).run P w)) := by
  unfold oExtract
  split
  · rename_i l h
    rw [h] at hx
    simp only [SV.den, Option.map_eq_some_iff] at hx
    obtain ⟨vs, hvs, hρ⟩ := hx
    refine R.Sat.opt fun v hv => ?_
    rw [nth_eq] at hv
    obtain ⟨x, hx', hd⟩ := denL_get hvs hv
    exact sem_val (x := x) (by simp [execOp, Instr.extract, ← hρ, hx']) hd
  · trivial

end
end Go.Sim


/-
  The symbolic simulator, twelfth part: slices, conversions, making.
-/
namespace Go.Sim
variable {α : Type}

section
variable {P : Program} {O : Nat → Prop} {w0 : World} {β : Val} {H : List SO} {w : World} {base : Nat}
variable {ev : Operand → SV} {ρ : Operand → Value} {dst : Option Tmp} {t : TypeId} {pos : String} {af : Array Edge} {g : Option (Nat × Bool)}

/-- an optional operand's value -/
def ODen (β : Val) (v : Option SV) (x : Option Value) : Prop :=
  match v, x with
  | none, none => True
  | some v, some x => v.den β = some x
  | _, _ => False
/-- a bound of a slice expression, known to fit: j is its number, or the one that stands for it where there is none -/
def BoundOK (x : Option Value) (y d j : Nat) : Prop :=
  match x with
  | some x => ∃ k i, x = .int k i ∧ 0 ≤ i ∧ i ≤ (y : Int) ∧ j = i.toNat
  | none => j = d
theorem run_sliceBound {k : IntKind} {i : Int} {y : Nat} {c : BoundsCode} (h0 : 0 ≤ i) (h1 : i ≤ (y : Int)) : (Instr.sliceBound (.int k i) y c).run P w = .ok i.toNat w := by
  unfold Instr.sliceBound asIntOf
  simp only [Sem.run_bind, Sem.run_pure, Result.andThen_ok]
  rw [if_pos ⟨h0, h1⟩]; rfl
theorem boundS_sat {v : Option SV} {x : Option Value} (hv : ODen β v x) {y d : SN} {f : SN → R α} {φ : α → Prop}
    (hf : ∀ j : SN, BoundOK x y.den d.den j.den → (f j).Sat φ) : (boundS v y d f).Sat φ := by
  unfold boundS
  split
  · cases x with
    | none => exact hf d rfl
    | some x => exact hv.elim
  · rename_i k i
    cases x with
    | none => exact hv.elim
    | some x =>
      have hx : x = .int k i.den := by
        have : (SV.int k i).den β = some x := hv
        simpa [SV.den, eq_comm] using this
      exact bndS_sat fun j h0 h1 hj => hf j ⟨k, i.den, hx, h0, h1, hj⟩
  · trivial
theorem run_sliceBounds {isSl : Bool} {len cap l h m : Nat} {lo hi mx : Option Value} (hm : BoundOK mx cap cap m) (hhi : mx.isSome = true → hi.isSome = true) (hh : BoundOK hi m len h)
    (hl : BoundOK lo h 0 l) : (Instr.sliceBounds isSl len cap lo hi mx).run P w = .ok (l, h, m) w := by
  unfold Instr.sliceBounds
  cases mx with
  | none =>
    have hm : m = cap := hm
    subst hm
    cases hi with
    | none =>
      have hh : h = len := hh
      subst hh
      cases lo with
      | none => have hl : l = 0 := hl; subst hl; rfl
      | some z =>
        obtain ⟨k, i, rfl, h0, h1, rfl⟩ := hl
        simp [run_sliceBound h0 h1]
    | some y =>
      obtain ⟨k, i, rfl, h0, h1, rfl⟩ := hh
      cases lo with
      | none => have hl : l = 0 := hl; subst hl; simp [run_sliceBound h0 h1]
      | some z =>
        obtain ⟨k', i', rfl, h0', h1', rfl⟩ := hl
        simp [run_sliceBound h0 h1, run_sliceBound h0' h1']
  | some x =>
    obtain ⟨k'', i'', rfl, h0'', h1'', rfl⟩ := hm
    cases hi with
    | none => cases hhi rfl
    | some y =>
      obtain ⟨k, i, rfl, h0, h1, rfl⟩ := hh
      cases lo with
      | none => have hl : l = 0 := hl; subst hl; simp [run_sliceBound h0 h1, run_sliceBound h0'' h1'']
      | some z =>
        obtain ⟨k', i', rfl, h0', h1', rfl⟩ := hl
        simp [run_sliceBound h0 h1, run_sliceBound h0' h1', run_sliceBound h0'' h1'']

/-- the place behind a bound: the model's if -/
theorem plus_if {a : SA} {A : Addr} (ha : a.den β = some A) {m l : Nat} (n : SN) (hn : n.den = l * m) (c : Prop) [Decidable c] :
    (if c then a else a.plus n).den β = some (if c then A else A.add (l * m)) := by
  split
  · exact ha
  · rw [SA.plus_den ha, hn]
theorem add_zero' (A : Addr) : A.add 0 = A := by simp [Addr.add]
theorem slAt_sat {a : SA} {n h : SN} {c : SC} {m l : Nat} {φ : OpRes → Prop} (hk : (vR (.slice (if m = l then a else a.plus n) h c)).Sat φ) : (slAt a n h c (decide (m = l))).Sat φ := by
  refine ⟨fun he => ?_, fun he => ?_⟩
  · have := of_decide_eq_true he
    rw [if_pos this] at hk; exact hk
  · have := of_decide_eq_false he
    rw [if_neg this] at hk; exact hk
theorem toC_den (n : SN) : n.toC.den β = some n.den := by cases n <;> rfl
theorem capOf_spec {c : SC} {n : SN} (h : capOf c = some n) : c.den β = some n.den := by
  cases c <;> simp [capOf] at h <;> subst h <;> rfl
theorem less_spec {c c' : SC} {n : SN} (h : c.less n = some c') {x : Nat} (hc : c.den β = some x) : c'.den β = some (x - n.den) := by
  cases c with
  | lit m => cases n <;> simp [SC.less] at h <;> subst h <;> simp [SC.den] at hc ⊢ <;> subst hc <;> rfl
  | sym m => simp [SC.less] at h; subst h; simp [SC.den] at hc ⊢; subst hc; rfl
  | rest nm k =>
    cases n with
    | byt o x => simp [SC.less] at h
    | sym m =>
      simp [SC.less] at h; subst h
      simp only [SC.den, Option.map_eq_some_iff] at hc ⊢
      obtain ⟨l, hl, rfl⟩ := hc
      exact ⟨l, hl, by simp only [SN.den]; omega⟩
    | lit m =>
      simp [SC.less] at h; subst h
      simp only [SC.den, Option.map_eq_some_iff] at hc ⊢
      obtain ⟨l, hl, rfl⟩ := hc
      exact ⟨l, hl, by simp only [SN.den]; omega⟩
theorem ODen.isSome {v : Option SV} {x : Option Value} (h : ODen β v x) : v.isSome = x.isSome := by
  cases v <;> cases x <;> first | rfl | exact h.elim

theorem oSlice_sat {ty : TypeId} {x : Operand} {lo hi mx : Option Operand} (hx : (ev x).den β = some (ρ x)) (hlo : ODen β (lo.map ev) (lo.map ρ)) (hhi : ODen β (hi.map ev) (hi.map ρ)) (hmx : ODen β (mx.map ev) (mx.map ρ)) :
    (oSlice ty x lo hi mx P ev H base).Sat (OpSem P H β w base ((execOp ρ ⟨dst, .slice ty x lo hi mx, t, pos, af, g⟩).run P w)) := by
  unfold oSlice
  generalize hlo' : lo.map ev = slo at hlo
  generalize hhi' : hi.map ev = shi at hhi
  generalize hmx' : mx.map ev = smx at hmx
  have hrun : (execOp ρ ⟨dst, .slice ty x lo hi mx, t, pos, af, g⟩).run P w = ((Instr.sliceAt ty (ρ x) (lo.map ρ) (hi.map ρ) (mx.map ρ)).run P w).andThen fun v w' => .ok (.value v) w' := by
    simp [execOp]
  rw [hrun]
  generalize lo.map ρ = vlo at hlo
  generalize hi.map ρ = vhi at hhi
  generalize mx.map ρ = vmx at hmx
  clear hrun hlo' hhi' hmx'
  refine R.Sat.opt fun d hd => R.Sat.boolC (fun hok => ?_) fun _ => trivial
  have hu := run_underlying (w := w) hd
  have hhi' : vmx.isSome = true → vhi.isSome = true := by
    intro h
    rw [← hmx.isSome] at h
    rw [← hhi.isSome]
    cases smx with
    | none => cases h
    | some m => cases shi with
      | none => cases hok
      | some h => rfl
  have hsl : ∀ (elem : TypeId) (a : SA) (len : SN) (cap : SC) (A : Addr) (C : Nat) (e : TypeInfo), (underlying ty).run P w = .ok (.slice elem) w → a.den β = some A → cap.den β = some C → len.den ≤ C → .slice (some A) len.den C = ρ x → P.info? elem = some e →
      (optC smx (sl2 a len cap e slo shi) fun _ => sl3 a len cap e slo shi smx).Sat (OpSem P H β w base (((Instr.sliceAt ty (ρ x) vlo vhi vmx).run P w).andThen fun v w' => .ok (.value v) w')) := by
    intro elem a len cap A C e hu hA hC hLC hρ he
    have hfin : ∀ (m h l : Nat), (Instr.sliceBounds true len.den C vlo vhi vmx).run P w = .ok (l, h, m) w →
        ∀ v : SV, v.den β = some (.slice (some (if m = l then A else A.add (l * e.size))) (h - l) (m - l)) → (vR v).Sat (OpSem P H β w base (((Instr.sliceAt ty (ρ x) vlo vhi vmx).run P w).andThen fun v w' => .ok (.value v) w')) := by
      intro m h l hb v hv
      refine sem_val ?_ hv
      simp only [Instr.sliceAt, Instr.slice, Sem.run_bind, hu, Result.andThen_ok, ← hρ, hb, run_sizeOf he, Sem.run_pure]
      congr 2
      split <;> rfl
    cases smx with
    | some sm =>
      have key3 : ∀ c : SN, c.den ≤ C → (sl3c a c e slo shi (some sm)).Sat (OpSem P H β w base (((Instr.sliceAt ty (ρ x) vlo vhi vmx).run P w).andThen fun v w' => .ok (.value v) w')) := by
        intro c hcC
        refine boundS_sat hmx fun m hm => boundS_sat hhi fun h hh => boundS_sat hlo fun l hl => ?_
        have hmx' := hmx.isSome
        cases vmx with
        | none => cases hmx'
        | some xm =>
          obtain ⟨k, i, h1, h2, h3, h4⟩ := hm
          have hb := run_sliceBounds (P := P) (w := w) (isSl := true) (len := len.den) (cap := C) (mx := some xm) ⟨k, i, h1, h2, by omega, h4⟩ hhi' (h := h.den) (by
            cases vhi with
            | none => cases hhi' rfl
            | some y => exact hh) hl
          have hhm : h.den ≤ m.den := by
            cases vhi with
            | none => cases hhi' rfl
            | some x => obtain ⟨k, i, _, _, h1, h2⟩ := hh; omega
          have key : ∀ (n' : SN) (c : SC), n'.den = l.den * e.size → c.den β = some (m.den - l.den) → (vR (.slice (if m.den = l.den then a else a.plus n') (h.sub l) c)).Sat (OpSem P H β w base
              (((Instr.sliceAt ty (ρ x) vlo vhi (some xm)).run P w).andThen fun v w' => .ok (.value v) w')) := by
            intro n' c hn' hc
            refine hfin _ _ _ hb _ ?_
            rw [den_slice]
            exact ⟨_, _, plus_if hA n' hn' _, hc, by rw [SN.sub_den]; omega, by rw [SN.sub_den]⟩
          have key0 : ∀ (c : SC), c.den β = some m.den → l.den = 0 → (vR (.slice a h c)).Sat (OpSem P H β w base
              (((Instr.sliceAt ty (ρ x) vlo vhi (some xm)).run P w).andThen fun v w' => .ok (.value v) w')) := by
            intro c hc h0
            refine hfin _ _ _ hb _ ?_
            rw [den_slice]
            refine ⟨A, _, hA, hc, hhm, ?_⟩
            simp only [h0, Nat.zero_mul, add_zero', Nat.sub_zero]
            congr 2
            split <;> rfl
          split
          · exact key _ _ rfl rfl
          · exact key0 _ (toC_den _) rfl
          · exact slAt_sat (key _ _ (SN.mul_den _ _) rfl)
      show (sl3 a len cap e slo shi (some sm)).Sat _
      unfold sl3
      cases hc : capOf cap with
      | none => exact key3 len hLC
      | some c => exact key3 c (by have := capOf_spec (β := β) hc; rw [hC] at this; exact Nat.le_of_eq (Option.some.inj this).symm)
    | none =>
      have hmx' := hmx.isSome
      cases vmx with
      | some xm => cases hmx'
      | none =>
        show (sl2 a len cap e slo shi).Sat _
        refine boundS_sat hhi fun h hh => boundS_sat hlo fun l hl => ?_
        have hhl : h.den ≤ len.den := by
          cases vhi with
          | none => rw [show h.den = len.den from hh]; exact Nat.le_refl _
          | some x => obtain ⟨k, i, _, _, h1, h2⟩ := hh; omega
        have hb := run_sliceBounds (P := P) (w := w) (isSl := true) (len := len.den) (cap := C) (m := C) (mx := none) rfl hhi' (h := h.den) (by
          cases vhi with
          | none => exact hh
          | some y => obtain ⟨k, i, h0, h1, h2, h3⟩ := hh; exact ⟨k, i, h0, h1, by omega, h3⟩) hl
        have hlh : l.den ≤ h.den := by
          cases vlo with
          | none => rw [show l.den = 0 from hl]; exact Nat.zero_le _
          | some x => obtain ⟨k, i, _, _, h1, h2⟩ := hl; omega
        split
        · refine hfin _ _ _ hb _ ?_
          rw [den_slice]
          refine ⟨A, C, hA, hC, by omega, ?_⟩
          simp only [SN.den, Nat.zero_mul, add_zero', Nat.sub_zero]
          congr 2
          split <;> rfl
        · split
          · rename_i c l' _
            simp only [SC.den, Option.some.injEq] at hC
            subst hC
            refine hfin _ _ _ hb _ ?_
            rw [den_slice]
            exact ⟨_, _, plus_if hA (.lit (l' * e.size)) rfl _, rfl, by rw [SN.sub_den]; simp only [SN.den] at *; omega, by rw [SN.sub_den]; rfl⟩
          · refine R.Sat.opt fun c' hc' => ?_
            have hmoved : l.den < len.den → (vR (.slice (a.plus (l.mul e.size)) (h.sub l) c')).Sat (OpSem P H β w base (((Instr.sliceAt ty (ρ x) vlo vhi none).run P w).andThen fun v w' => .ok (.value v) w')) := by
              intro hlt
              refine hfin _ _ _ hb _ ?_
              rw [den_slice]
              refine ⟨_, _, SA.plus_den hA _, less_spec hc' hC, by rw [SN.sub_den]; omega, ?_⟩
              rw [SN.sub_den, SN.mul_den, if_neg (by omega)]
            have htail : (vR (.tail a (l.mul e.size) (h.sub l) c')).Sat (OpSem P H β w base (((Instr.sliceAt ty (ρ x) vlo vhi none).run P w).andThen fun v w' => .ok (.value v) w')) := by
              refine hfin _ _ _ hb _ ?_
              rw [den_tail]
              refine ⟨A, _, hA, less_spec hc' hC, by rw [SN.sub_den]; omega, ?_⟩
              rw [SN.sub_den, SN.mul_den]
              congr 2
              by_cases hCl : C = l.den
              · rw [if_pos (by omega), if_pos hCl]
              · rw [if_neg (by omega), if_neg hCl]
            have h0 : (slEnd0 a len e.size h l c').Sat (OpSem P H β w base (((Instr.sliceAt ty (ρ x) vlo vhi none).run P w).andThen fun v w' => .ok (.value v) w')) :=
              SN.asLit_sat (fun x hx => SN.asLit_sat (fun y hy => R.Sat.boolC (fun hlt => hmoved (by rw [hx, hy]; exact Nat.le_of_ble_eq_true hlt)) fun _ => htail) fun _ => htail) fun _ => htail
            refine SN.asLit_sat (fun d hd => R.Sat.boolC (fun hpos => ?_) fun _ => h0) fun _ => h0
            have hd' : h.den - l.den = d := by rw [← SN.sub_den, hd]; rfl
            have hp : 0 < d := Nat.le_of_ble_eq_true hpos
            refine hfin _ _ _ hb _ ?_
            rw [den_slice]
            refine ⟨_, _, SA.plus_den hA _, less_spec hc' hC, by rw [SN.sub_den]; omega, ?_⟩
            rw [SN.sub_den, SN.mul_den, if_neg (by omega)]
  split
  · -- an array behind a pointer
    rename_i n elem a h
    rw [h] at hx
    simp only [SV.den, Option.map_eq_some_iff] at hx
    obtain ⟨A, hA, hρ⟩ := hx
    refine R.Sat.opt fun e he => boundS_sat hmx fun m hm => boundS_sat hhi fun h hh => boundS_sat hlo fun l hl => ?_
    have hb := run_sliceBounds (P := P) (w := w) (isSl := false) (len := n) (cap := n) hm hhi' hh hl
    have hmn : m.den ≤ n := by
      cases vmx with
      | none => rw [show m.den = n from hm]; exact Nat.le_refl _
      | some x => obtain ⟨k, i, _, _, h1, h2⟩ := hm; simp only [SN.den] at h1; omega
    have hhm : h.den ≤ m.den := by
      cases vhi with
      | none =>
        cases vmx with
        | none => rw [show h.den = n from hh, show m.den = n from hm]; exact Nat.le_refl _
        | some x => cases hhi' rfl
      | some x => obtain ⟨k, i, _, _, h1, h2⟩ := hh; omega
    have key : ∀ (n' : SN) (c : SC), n'.den = l.den * e.size → c.den β = some (m.den - l.den) → (vR (.slice (if m.den = l.den then a else a.plus n') (h.sub l) c)).Sat (OpSem P H β w base
        (((Instr.sliceAt ty (ρ x) vlo vhi vmx).run P w).andThen fun v w' => .ok (.value v) w')) := by
      intro n' c hn' hc
      refine sem_val (x := .slice (some (if m.den = l.den then A else A.add (l.den * e.size))) (h.den - l.den) (m.den - l.den)) ?_ ?_
      · simp only [Instr.sliceAt, Sem.run_bind, hu, Result.andThen_ok, ← hρ, Instr.sureAddr, Sem.run_pure, hb, run_sizeOf he]
      · rw [den_slice]
        exact ⟨_, _, plus_if hA n' hn' _, hc, by rw [SN.sub_den]; omega, by rw [SN.sub_den]⟩
    have key0 : ∀ (c : SC), c.den β = some m.den → l.den = 0 → (vR (.slice a h c)).Sat (OpSem P H β w base
        (((Instr.sliceAt ty (ρ x) vlo vhi vmx).run P w).andThen fun v w' => .ok (.value v) w')) := by
      intro c hc h0
      refine sem_val (x := .slice (some (if m.den = l.den then A else A.add (l.den * e.size))) (h.den - l.den) (m.den - l.den)) ?_ ?_
      · simp only [Instr.sliceAt, Sem.run_bind, hu, Result.andThen_ok, ← hρ, Instr.sureAddr, Sem.run_pure, hb, run_sizeOf he]
      · rw [den_slice]
        refine ⟨A, _, hA, hc, hhm, ?_⟩
        simp only [h0, Nat.zero_mul, add_zero', Nat.sub_zero]
        congr 2
        split <;> rfl
    unfold slArr at *
    split
    · exact key _ _ rfl rfl
    · exact key0 _ (toC_den _) rfl
    · exact slAt_sat (key _ _ (SN.mul_den _ _) rfl)
  · rename_i elem a len cap h
    rw [h, den_slice] at hx
    obtain ⟨A, C, hA, hC, hLC, hρ⟩ := hx
    exact R.Sat.opt fun e he => hsl elem a len cap A C e hu hA hC hLC hρ he
  · rename_i elem a n len cap h
    rw [h, den_tail] at hx
    obtain ⟨A, C, hA, hC, hLC, hρ⟩ := hx
    intro hpos
    rw [if_neg (by omega)] at hρ
    exact R.Sat.opt fun e he => hsl elem (a.plus n) len cap _ C e hu (SA.plus_den hA n) hC hLC hρ he
  · rename_i elem h
    rw [h] at hx
    simp only [SV.den, Option.some.injEq] at hx
    refine R.Sat.opt fun e he => boundS_sat hmx fun m hm => boundS_sat hhi fun h hh => boundS_sat hlo fun l hl => ?_
    have hb := run_sliceBounds (P := P) (w := w) (isSl := true) (len := 0) (cap := 0) hm hhi' hh hl
    have hm0 : m.den = 0 := by
      cases vmx with
      | none => exact hm
      | some x => obtain ⟨k, i, _, _, h1, h2⟩ := hm; simp only [SN.den] at h1; omega
    have hh0 : h.den = 0 := by
      cases vhi with
      | none => exact hh
      | some x => obtain ⟨k, i, _, _, h1, h2⟩ := hh; omega
    have hl0 : l.den = 0 := by
      cases vlo with
      | none => exact hl
      | some x => obtain ⟨k, i, _, _, h1, h2⟩ := hl; omega
    refine sem_val (x := .slice none 0 0) ?_ rfl
    simp only [Instr.sliceAt, Instr.slice, Sem.run_bind, hu, Result.andThen_ok, ← hx, hb, run_sizeOf he, Sem.run_pure]
    rw [hm0, hl0, hh0]; rfl
  · rename_i s h
    rw [h] at hx
    simp only [SV.den, Option.some.injEq] at hx
    cases smx with
    | some sm => trivial
    | none =>
      have hmx' := hmx.isSome
      cases vmx with
      | some xm => cases hmx'
      | none =>
        show (slStr s slo shi).Sat _
        have key : ∀ (y : SN), y.den = s.den.size → ∀ h l : SN, BoundOK vhi y.den y.den h.den → BoundOK vlo h.den 0 l.den → h.den ≤ s.den.size ∧ l.den ≤ h.den ∧ ∀ v : SStr, v.den = s.den.extract l.den h.den → (vR (.str v)).Sat (OpSem P H β w base (((Instr.sliceAt ty (ρ x) vlo vhi none).run P w).andThen fun v w' => .ok (.value v) w')) := by
          intro y hy h l hh hl
          have hb := run_sliceBounds (P := P) (w := w) (isSl := false) (len := s.den.size) (cap := s.den.size) (m := s.den.size) (mx := none) rfl hhi' (h := h.den) (by rw [hy] at hh; exact hh) hl
          refine ⟨?_, ?_, fun v hv => ?_⟩
          · cases vhi with
            | none => rw [show h.den = y.den from hh, hy]; exact Nat.le_refl _
            | some x => obtain ⟨k, i, _, _, h1, h2⟩ := hh; omega
          · cases vlo with
            | none => rw [show l.den = 0 from hl]; exact Nat.zero_le _
            | some x => obtain ⟨k, i, _, _, h1, h2⟩ := hl; omega
          · refine sem_val (x := .string (s.den.extract l.den h.den)) ?_ (by simp [SV.den, hv])
            simp only [Instr.sliceAt, Instr.slice, Sem.run_bind, hu, Result.andThen_ok, ← hx, Option.isSome_none, Bool.false_eq_true, if_false, hb, Sem.run_pure]
        unfold slStr
        split
        · rename_i s'
          refine boundS_sat hhi fun h hh => boundS_sat hlo fun l hl => ?_
          obtain ⟨_, _, k⟩ := key _ rfl h l hh hl
          split
          · exact k _ rfl
          · exact k _ rfl
        · rename_i b
          have hsz : (SN.lit (lenN b)).den = (SStr.bytes b).den.size := by
            show lenN b = (b.map fun i => UInt8.ofNat i.den.toNat).toArray.size
            rw [lenN_eq]; simp
          refine boundS_sat hhi fun h hh => boundS_sat hlo fun l hl => ?_
          obtain ⟨h1, h2, k⟩ := key _ hsz h l hh hl
          split
          · refine k _ ?_
            rename_i l' h'
            simp only [SStr.den, bytesOf, SN.den] at *
            rw [takeN_eq, dropN_eq]
            apply ByteArray.ext
            apply Array.ext'
            rw [ByteArray.data_extract, Array.toList_extract, List.extract_eq_take_drop]
            simp
          · trivial
        · rename_i s'
          refine boundS_sat hhi fun h hh => boundS_sat hlo fun l hl => ?_
          obtain ⟨_, _, k⟩ := key _ rfl h l hh hl
          exact k _ rfl
  · trivial

end
end Go.Sim


/-
  The symbolic simulator, thirteenth part: conversions, making slices, lengths.
-/
namespace Go.Sim
variable {α : Type}

section
variable {P : Program} {O : Nat → Prop} {w0 : World} {β : Val} {H : List SO} {w : World} {base : Nat}
variable {ev : Operand → SV} {ρ : Operand → Value} {dst : Option Tmp} {t : TypeId} {pos : String} {af : Array Edge} {g : Option (Nat × Bool)}

theorem push_fold (ns : List Int) : ∀ r : ByteArray, ns.foldl (fun (r : ByteArray) n => r.push (UInt8.ofNat n.toNat)) r = ⟨r.data ++ (ns.map fun n => UInt8.ofNat n.toNat).toArray⟩ := by
  induction ns with
  | nil => intro r; simp
  | cons n ns ih => intro r; rw [List.foldl_cons, ih]; simp [ByteArray.push]
theorem run_toStr {A : Addr} {len cap : Nat} {ns : List Int} (hn : ns.length = len) (h : ∀ (j : Nat) (x : Value), (ns.map (Value.int .u8))[j]? = some x → w.cell? (A.add j) = some x) :
    (Conv.bytesToString (.slice (some A) len cap)).run P w = .ok (.string ⟨(ns.map fun n => UInt8.ofNat n.toNat).toArray⟩) w := by
  have := run_bytesToString (P := P) w A len cap ns (run_loadCells (by simpa using hn) h)
  rw [this, push_fold]
  show Result.ok (Value.string ⟨#[] ++ _⟩) w = _
  simp
theorem silistOf_spec {l : List SV} {b : List SI} (h : silistOf l = some b) : l = b.map fun i => .int .u8 i := by
  induction l generalizing b with
  | nil => simp [silistOf] at h; subst h; rfl
  | cons v l ih =>
    have h' : (match siOf v with | some n => (silistOf l).map (n :: ·) | none => none) = some b := h
    cases hv : siOf v with
    | none => rw [hv] at h'; cases h'
    | some n =>
      rw [hv] at h'
      simp only [Option.map_eq_some_iff] at h'
      obtain ⟨b', hb', rfl⟩ := h'
      rw [ih hb', List.map_cons]
      congr 1
      unfold siOf at hv
      split at hv
      · cases hv; rfl
      · cases hv
theorem denL_ints (β : Val) (b : List SI) : SV.denL β (b.map fun i => .int .u8 i) = some (b.map fun i => .int .u8 i.den) := by
  induction b with
  | nil => rfl
  | cons i b ih => exact denL_cons.2 ⟨_, _, rfl, ih, rfl⟩
theorem optC_sat {α β : Type} {o : Option β} {f : β → R α} {n : Nat} {φ : α → Prop} (h : ∀ a, o = some a → (f a).Sat φ) : (optC o (.stuck n) f).Sat φ := by
  cases o with
  | none => trivial
  | some a => exact h a rfl
theorem toStrO_sat (hr : HeapRel0 P O w0 β H w) {a : SA} {A : Addr} {len : SN} (hA : a.den β = some A) {res : Result Next}
    (hfin : ∀ (ns : List Int) (s : SStr), ns.length = len.den → (∀ (j : Nat) (x : Value), (ns.map (Value.int .u8))[j]? = some x → w.cell? (A.add j) = some x) → s.den = ⟨(ns.map fun n => UInt8.ofNat n.toNat).toArray⟩ → (vR (.str s)).Sat (OpSem P H β w base res))
    {e : SO} (he : H[a.nm]? = some e) : (toStrO e a.off len).Sat (OpSem P H β w base res) := by
  have key : ∀ c, e.cells? = some c → (toStrC c a.off len).Sat (OpSem P H β w base res) := by
    intro c hc
    obtain ⟨l, vs, hl, hcr, hcell⟩ := entry_cells hr he hc
    obtain ⟨l', hl', rfl⟩ := SA.den_some hA
    rw [hl] at hl'; cases hl'
    cases c with
    | lst ls =>
      unfold toStrC
      simp only
      split
      · rename_i o n ho
        split
        · rename_i hn
          refine R.Sat.opt fun b hb => ?_
          have hb' := silistOf_spec hb
          rw [takeN_eq, dropN_eq] at hb' hn
          rw [lenN_eq] at hn
          have hd := denL_take (denL_drop hcr o) n
          rw [hb', denL_ints] at hd
          have hd' : b.map (fun i => Value.int .u8 i.den) = (vs.drop o).take n := Option.some.inj hd
          refine hfin (b.map SI.den) _ ?_ ?_ ?_
          · have := congrArg List.length hb'
            simp only [List.length_map] at this ⊢
            simp only [SN.den]; omega
          · intro j x hx
            rw [List.map_map] at hx
            have hx' : (b.map (fun i => Value.int .u8 i.den))[j]? = some x := hx
            rw [hd', List.getElem?_take] at hx'
            split at hx'
            · rw [List.getElem?_drop] at hx'
              rw [addr_add, Nat.add_assoc, ho]
              exact hcell _ _ hx'
            · cases hx'
          · simp [SStr.den, bytesOf]
        · trivial
      · rename_i len0 _ _ _
        refine optC_sat fun xs hx => ?_
        obtain ⟨hl1, hl2⟩ := unb_get hx hcr
        rw [lenN_eq]
        intro hle
        refine hfin ((List.range len0.den).map fun i => ((byteAt xs (a.off.den + i)).toNat : Int)) _ (by simp) ?_ ?_
        · intro j x hx'
          simp only [List.map_map, List.getElem?_map, Option.map_eq_some_iff] at hx'
          obtain ⟨j', hj', rfl⟩ := hx'
          have hj : j < len0.den := by
            have := (List.getElem?_eq_some_iff.1 hj').1; simpa using this
          rw [List.getElem?_range hj] at hj'
          cases hj'
          rw [addr_add, Nat.add_assoc]
          exact hcell _ _ (hl2 (a.off.den + j) (by omega))
        · simp [SStr.den, strOfFn, byteF, SV.num, SI.den]
    | fn f n =>
      rintro ⟨hle, hb⟩
      obtain ⟨hlen, hf⟩ := hcr
      have hint : ∀ i, i < n → f i = .int .u8 (.sym (f i).num) ∨ (f i).den β = some (.int .u8 (f i).num) := by
        intro i hi
        right
        have := hb i hi
        cases hfi : f i <;> rw [hfi] at this <;> first | exact this.elim | skip
        rename_i k m
        cases k <;> first | exact this.elim | rfl
      refine hfin ((List.range len.den).map fun i => (f (a.off.den + i)).num) _ (by simp) ?_ ?_
      · intro j x hx
        simp only [List.map_map, List.getElem?_map, Option.map_eq_some_iff] at hx
        obtain ⟨j', hj', rfl⟩ := hx
        have hj : j < len.den := by
          have := (List.getElem?_eq_some_iff.1 hj').1; simpa using this
        rw [List.getElem?_range hj] at hj'
        cases hj'
        have hlt : a.off.den + j < vs.length := by omega
        have h1 := hf _ _ (List.getElem?_eq_getElem hlt)
        have h2 : (f (a.off.den + j)).den β = some (.int .u8 (f (a.off.den + j)).num) := by
          rcases hint (a.off.den + j) (by omega) with h | h
          · rw [h]; rfl
          · exact h
        rw [h2] at h1
        rw [addr_add, Nat.add_assoc]
        show _ = some (Value.int .u8 (f (a.off.den + j)).num)
        rw [h1]
        exact hcell _ _ (List.getElem?_eq_getElem hlt)
      · simp [SStr.den, strOfFn]
  cases e with
  | own c wh el => exact key c rfl
  | row c => exact key c rfl
  | loop => trivial
  | deferred => trivial
  | gone => trivial
theorem toStrT_sat (hr : HeapRel0 P O w0 β H w) {v : SV} {x : Value} (hv : v.den β = some x) {res : Result Next} (hres : ∀ s, (Conv.bytesToString x).run P w = .ok (.string s) w → res = .ok (.value (.string s)) w) :
    (toStrT H v).Sat (OpSem P H β w base res) := by
  unfold toStrT
  split
  · simp only [SV.den, Option.some.injEq] at hv
    subst hv
    exact sem_val (hres _ rfl) rfl
  · rename_i a len cap
    rw [den_slice] at hv
    obtain ⟨A, C, hA, hC, hLC, rfl⟩ := hv
    refine entry_sat fun e he => toStrO_sat hr hA ?_ he
    intro ns s h1 h2 h3
    exact sem_val (hres _ (run_toStr h1 h2)) (by simp [SV.den, h3])
  · rename_i a n len cap
    rw [den_tail] at hv
    obtain ⟨A, C, hA, hC, hLC, rfl⟩ := hv
    refine entry_sat fun e he => toStrO_sat hr (SA.plus_den hA n) ?_ he
    intro ns s h1 h2 h3
    by_cases hC0 : C = 0
    · have hn0 : ns = [] := List.eq_nil_of_length_eq_zero (by omega)
      exact sem_val (hres _ (run_toStr h1 (by rw [hn0]; intro j x hx; simp at hx))) (by simp [SV.den, h3])
    · rw [if_neg hC0] at hres
      exact sem_val (hres _ (run_toStr h1 h2)) (by simp [SV.den, h3])
  · trivial
theorem grownCap_le (w : World) (need old : Nat) (e : TypeId) : need ≤ grownCap w need old e := by
  unfold grownCap Question.cut
  exact Nat.le_add_right _ _
theorem bytes_den (β : Val) (l : List UInt8) : SV.denL β (mapN (fun (b : UInt8) => SV.int .u8 (.lit (b.toNat : Int))) l) = some (l.map fun b => Value.int .u8 (b.toNat : Int)) := by
  rw [mapN_eq]
  induction l with
  | nil => rfl
  | cons b l ih => exact denL_cons.2 ⟨_, _, rfl, ih, rfl⟩
theorem bytesFn_den (β : Val) (s : ByteArray) (i : Nat) (x : Value) (h : (s.data.toList.map fun b => Value.int .u8 (b.toNat : Int))[i]? = some x) : (bytesFn s i).den β = some x := by
  simp only [List.getElem?_map, Option.map_eq_some_iff] at h
  obtain ⟨b, hb, rfl⟩ := h
  have hb' : s.data[i]? = some b := by rw [← hb]; simp
  have : s.data.getD i 0 = b := by rw [Array.getD_eq_getD_getElem?, hb']; rfl
  simp only [bytesFn, SV.den, SI.den, this]; rfl
theorem toBytesT_sat {elem : TypeId} {s : SStr} {res : Result Next}
    (hres : res = .ok (.value (.slice (some ⟨w.heap.size, 0, none⟩) s.den.size (grownCap w s.den.size 0 elem)))
      (w.drew.alloc (.cells (bytesRow s.den (grownCap w s.den.size 0 elem)) elem ((bytesRow s.den (grownCap w s.den.size 0 elem)).size, (bytesRow s.den (grownCap w s.den.size 0 elem)).size + 1)))) :
    (toBytesT P base elem s).Sat (OpSem P H β w base res) := by
  refine R.Sat.opt fun i hi => R.Sat.boolC (fun h1 => ?_) fun _ => trivial
  have hsz : i.size = 1 := Nat.eq_of_beq_eq_true h1
  have hcap := grownCap_le w s.den.size 0 elem
  have hfin : ∀ (c : Cells) (n : SN), n.den = s.den.size → CellsRel β c (s.den.data.toList.map fun b => Value.int .u8 (b.toNat : Int)) →
      (R.ok (OpRes.val (.slice ⟨base, .lit 0⟩ n (.rest base 0)) [] [.own c false elem])).Sat (OpSem P H β w base res) := by
    intro c n hn hc
    refine fun hb => ⟨_, _, _, β.upd base ⟨w.heap.size, 0, grownCap w s.den.size 0 elem⟩, hres, rfl, ?_, ?_, by simp⟩
    · rw [den_slice]
      exact ⟨⟨w.heap.size, 0, none⟩, grownCap w s.den.size 0 elem, by simp [SA.den, Val.upd_same, SN.den], by simp [SC.den, Val.upd_same], by rw [hn]; exact hcap, by rw [hn]⟩
    · have hl : (s.den.data.toList.map fun (b : UInt8) => Value.int .u8 (b.toNat : Int)).length = s.den.size := by simp
      refine Eff.alloc (vs := s.den.data.toList.map fun (b : UInt8) => Value.int .u8 (b.toNat : Int)) (rest := List.replicate (grownCap w s.den.size 0 elem - s.den.size) (Value.int .u8 0))
        (lo := (bytesRow s.den (grownCap w s.den.size 0 elem)).size) (hi := (bytesRow s.den (grownCap w s.den.size 0 elem)).size + 1) hb.hd ?_ rfl rfl rfl hc ?_ (by simp) ?_
      · show w.heap.push _ = _
        congr 2
        apply Array.ext'
        simp [bytesRow]
      · have : (bytesRow s.den (grownCap w s.den.size 0 elem)).size = (s.den.data.toList.map (fun (b : UInt8) => Value.int .u8 (b.toNat : Int)) ++ List.replicate (grownCap w s.den.size 0 elem - s.den.size) (Value.int .u8 0)).length := by
          simp [bytesRow]
        exact .inr (Nat.le_of_eq this.symm)
      · intro i' hi'
        rw [hi] at hi'; cases hi'
        rw [hsz, List.length_append, hl, List.length_replicate]; omega
  cases s with
  | lit s => exact hfin _ _ rfl (bytes_den β _)
  | sym s =>
    refine hfin _ _ rfl ⟨?_, fun i x hx => bytesFn_den β s i x hx⟩
    simp [SStr.den]
  | bytes l =>
    intro hbnd
    have hsz : (SStr.bytes l).den.size = l.length := by
      show (l.map fun i => UInt8.ofNat i.den.toNat).toArray.size = _
      simp
    refine hfin _ _ (by rw [hsz]; exact lenN_eq l) ?_
    show SV.denL β (mapN (fun i => SV.int .u8 i) l) = _
    rw [mapN_eq, denL_ints]
    simp only [SStr.den, bytesOf, List.map_map, Option.some.injEq]
    refine List.map_congr_left fun i hi => ?_
    have := hbnd i hi
    simp only [Function.comp, UInt8.toNat_ofNat']
    rw [Nat.mod_eq_of_lt (by omega)]
    congr 1; omega
theorem sameT_sat (hr : HeapRel0 P O w0 β H w) {src dt e e' : TypeId} {a : SA} {l : SN} {c : SC} (hs : P.underlying src = some (.slice e')) (hd : P.underlying dt = some (.slice e)) {v : Value} (hv : (SV.slice a l c).den β = some v) {res : Result Next}
    (hres : ∀ v' w', (convert src dt v).run P w = .ok v' w' → res = .ok (.value v') w') : (sameT P H src dt e a l c).Sat (OpSem P H β w base res) := by
  refine R.Sat.boolC (fun hsd => R.Sat.opt fun d he => ?_) fun _ => trivial
  split
  · refine entry_sat fun e0 h0 => ?_
    cases e0 with
    | row => trivial
    | loop => trivial
    | deferred => trivial
    | gone => trivial
    | own cl wh el =>
      obtain ⟨ll, vs, rest, lo, hi, hbl, h0', hc, hh, hfz, hw, hcap⟩ := hr.entries _ _ h0
      have hv' := hv
      rw [den_slice] at hv
      obtain ⟨A, C, hA, hC, hLC, rfl⟩ := hv
      obtain ⟨l', hl', hAe⟩ := SA.den_some hA
      rw [hbl] at hl'; cases hl'
      have hAb : A.block = ll.blk := by rw [hAe]
      have hlt : ll.blk < w.heap.size := (Array.getElem?_eq_some_iff.1 hh).1
      have hus := fun w => run_underlying (P := P) (w := w) hs
      have hud := fun w => run_underlying (P := P) (w := w) hd
      have hue := fun w => run_underlying (P := P) (w := w) he
      obtain ⟨lo', hi', hm, hfz'⟩ : ∃ lo' hi', w.freeze ⟨ll.blk, (vs ++ rest).toArray.size, none⟩ 1 = { w with heap := w.heap.setIfInBounds ll.blk (.cells (vs ++ rest).toArray el (lo', hi')) } ∧ Unfz lo' hi' (vs ++ rest).length := by
        refine ⟨if lo == hi then (vs ++ rest).toArray.size else min lo (vs ++ rest).toArray.size, if lo == hi then (vs ++ rest).toArray.size + 1 else max hi ((vs ++ rest).toArray.size + 1), ?_, ?_⟩
        · unfold World.freeze
          rw [if_neg (by decide)]
          congr 1
          apply Array.ext_getElem?
          intro j
          rw [Array.getElem?_modify, Array.getElem?_setIfInBounds]
          split
          · rename_i h; subst h
            rw [hh]
            show some (Obj.cells (vs ++ rest).toArray el (if lo == hi then _ else _)) = _
            cases (lo == hi) <;> rfl
          · rfl
        · by_cases hlh : lo = hi
          · subst hlh; simp only [beq_self_eq_true, if_true]; exact .inr (by simp)
          · have : (lo == hi) = false := by simpa using hlh
            rw [this]
            rcases hfz with h | h
            · exact absurd h hlh
            · exact .inr (by simp only [Bool.false_eq_true, if_false, List.size_toArray]; omega)
      have hsh : w.shape? ll.blk = some (el, (vs ++ rest).toArray.size) := by unfold World.shape?; rw [hh]
      have hrun : (convert src dt (.slice (some A) l.den C)).run P w = .ok (.slice (some A) l.den C) { w with heap := w.heap.setIfInBounds ll.blk (.cells (vs ++ rest).toArray el (lo', hi')) } := by
        rw [← hm]
        have hb : (src == dt) = true := by rw [Nat.eq_of_beq_eq_true hsd]; exact beq_self_eq_true _
        simp only [convert, Sem.run_bind, hus, hud, Result.andThen_ok, hue, hb, markStringish, hAb, run_shape, hsh, run_freeze, Sem.run_pure]
      refine ⟨.value _, _, _, _, hres _ _ hrun, rfl, hv', h0, rfl, Eff.turn hbl ?_⟩
      exact ⟨ll, vs, rest, lo', hi', hbl, h0', hc, by simp [hlt], hfz', hw, hcap⟩
  · trivial
theorem oConv_sat (hr : HeapRel0 P O w0 β H w) {src dt : TypeId} {x : Operand} (hx : (ev x).den β = some (ρ x)) :
    (oConv src dt x P ev H base).Sat (OpSem P H β w base ((execOp ρ ⟨dst, .convert src dt x, t, pos, af, g⟩).run P w)) := by
  refine R.Sat.opt fun s hs => R.Sat.opt fun d hd => ?_
  have hus := run_underlying (w := w) hs
  have hud := run_underlying (w := w) hd
  split
  · rename_i k' _ n h
    rw [h] at hx
    simp only [SV.den, Option.some.injEq] at hx
    exact sem_val (x := .int k' (k'.wrap n.den)) (by simp [execOp, ← hx, convert, hus, hud, Conv.intToInt]) (by simp [SV.den, convI_den])
  · rename_i s h
    rw [h] at hx
    simp only [SV.den, Option.some.injEq] at hx
    exact sem_val (x := .string s.den) (by simp [execOp, ← hx, convert, hus, hud]) rfl
  · rename_i e s h
    rw [h] at hx
    simp only [SV.den, Option.some.injEq] at hx
    refine R.Sat.opt fun ed hed => ?_
    split
    · refine toBytesT_sat ?_
      have := run_bytes_of_string w src dt e s.den hs hd hed
      simp only [execOp, ← hx, Sem.run_bind, this, Result.andThen_ok, Sem.run_pure]
    · trivial
  · rename_i e' e a l c h
    rw [h] at hx
    refine sameT_sat hr hs hd hx fun v' w' h => ?_
    simp only [execOp, Sem.run_bind, h, Result.andThen_ok, Sem.run_pure]
  · rename_i e
    refine R.Sat.opt fun ed hed => ?_
    split
    · refine toStrT_sat hr hx fun s hs' => ?_
      have hue := run_underlying (w := w) hed
      have hslice : (∃ a l c, ρ x = .slice a l c) ∨ ¬ ∃ a l c, ρ x = .slice a l c := Classical.em _
      rcases hslice with ⟨a, l, c, hρ⟩ | hno
      · simp only [execOp, hρ] at hs' ⊢
        simp only [convert, Sem.run_bind, hus, hud, Result.andThen_ok, hue, hs', Sem.run_pure]
      · exfalso
        cases hρ : ρ x <;> rw [hρ] at hs' hno <;> first | (exact hno ⟨_, _, _, rfl⟩) | (simp [Conv.bytesToString] at hs')
    · trivial
  · trivial
theorem lenS_sat {v : SV} {x : Value} (hv : v.den β = some x) {f : SN → R α} {φ : α → Prop}
    (hf : ∀ n : SN, (∀ (P : Program) (w' : World), (Builtin.lenOf x).run P w' = .ok n.den w') → (f n).Sat φ) : (lenS v f).Sat φ := by
  unfold lenS
  split
  · simp only [SV.den, Option.some.injEq] at hv; subst hv; exact hf _ fun _ _ => rfl
  · rw [den_slice] at hv; obtain ⟨A, C, _, _, _, rfl⟩ := hv; exact hf _ fun _ _ => rfl
  · rw [den_tail] at hv; obtain ⟨A, C, _, _, _, rfl⟩ := hv; exact hf _ fun _ _ => rfl
  · simp only [SV.den, Option.some.injEq] at hv; subst hv; exact hf _ fun _ _ => rfl
  · rename_i l
    simp only [SV.den, Option.some.injEq] at hv; subst hv
    refine hf _ fun P w' => ?_
    show Result.ok (SStr.bytes l).den.size w' = _
    congr 1
    show (l.map fun i => UInt8.ofNat i.den.toNat).toArray.size = lenN l
    rw [lenN_eq]; simp
  · simp only [SV.den, Option.some.injEq] at hv; subst hv; exact hf _ fun _ _ => rfl
  · trivial

end
end Go.Sim


/-
  The symbolic simulator, fourteenth part: append, copy, make, len, min; calls.
-/
namespace Go.Sim
variable {α : Type}

section
variable {P : Program} {O : Nat → Prop} {w0 : World} {β : Val} {H : List SO} {w : World} {base : Nat}
variable {ev : Operand → SV} {ρ : Operand → Value} {dst : Option Tmp} {t : TypeId} {pos : String} {af : Array Edge} {g : Option (Nat × Bool)}

theorem lenT_sat {tys : Array TypeId} {v : SV} {x : Value} (hv : v.den β = some x) {xs : List Value} {ty : TypeId} {res : Result Next} (hres : ∀ n : Nat, (Builtin.len_ tys ty (x :: xs).toArray).run P w = .ok (goInt n) w → res = .ok (.value (goInt n)) w) :
    (lenT P tys v).Sat (OpSem P H β w base res) := by
  refine R.Sat.opt fun t ht => R.Sat.opt fun d hd => ?_
  have hu := run_underlying (w := w) hd
  split
  · rename_i s
    simp only [SV.den, Option.some.injEq] at hv
    subst hv
    refine lenS_sat (β := β) (v := .str s) rfl fun n hn => sem_val (hres n.den ?_) (by simp [SV.den, toI_den, goInt])
    have : s.den.size = n.den := by
      have := hn P w
      simp only [Builtin.lenOf, Sem.run_pure, Result.ok.injEq] at this
      exact this.1
    simp [Builtin.len_, ht, hu, this]
  · rename_i n e
    refine sem_val (hres n ?_) rfl
    simp [Builtin.len_, ht, hu]
  · rename_i e a n c
    rw [den_slice] at hv
    obtain ⟨A, C, hA, hC, _, rfl⟩ := hv
    exact sem_val (hres n.den (by simp [Builtin.len_, ht, hu])) (by simp [SV.den, toI_den, goInt])
  · rename_i e a k n c
    rw [den_tail] at hv
    obtain ⟨A, C, hA, hC, _, rfl⟩ := hv
    exact sem_val (hres n.den (by simp [Builtin.len_, ht, hu])) (by simp [SV.den, toI_den, goInt])
  · rename_i e p n c
    simp only [SV.den, Option.some.injEq] at hv
    subst hv
    exact sem_val (hres n (by simp [Builtin.len_, ht, hu])) rfl
  · simp only [SV.den, Option.some.injEq] at hv
    subst hv
    exact sem_val (hres 0 (by simp [Builtin.len_, ht, hu])) rfl
  · simp only [SV.den, Option.some.injEq] at hv
    subst hv
    exact sem_val (hres 0 (by simp [Builtin.len_, ht, hu])) rfl
  · trivial
theorem min2_sat {a b : SV} {x y : Value} (ha : a.den β = some x) (hb : b.den β = some y) : (min2 a b).Sat fun v => ∃ z, v.den β = some z ∧ (Builtin.min2 x y).run P w = .ok z w := by
  unfold min2
  split
  · simp only [SV.den, Option.some.injEq] at ha hb; subst ha; subst hb; exact ⟨_, rfl, rfl⟩
  · rename_i k a k' b _
    simp only [SV.den, Option.some.injEq] at ha hb; subst ha; subst hb
    have hr : (Builtin.min2 (.int k a.den) (.int k' b.den)).run P w = .ok (.int k (if b.den < a.den then b.den else a.den)) w := rfl
    refine ⟨fun he => ⟨_, rfl, ?_⟩, fun he => ⟨_, rfl, ?_⟩⟩
    · rw [hr, if_pos (of_decide_eq_true he)]
    · rw [hr, if_neg (of_decide_eq_false he)]
  · trivial
/-- what a makeSlice of fitting numbers does -/
theorem run_makeSlice {ty elem : TypeId} {l c : Int} {i : TypeInfo} {z : Value} (hd : P.underlying ty = some (.slice elem)) (hi : P.info? elem = some i) (hz : i.zero = some z) (hzl : z.cells.size = i.size)
    (h0 : 0 ≤ l) (h1 : l ≤ c) (h2 : c ≤ 9223372036854775807) (h3 : i.bytes * c ≤ 2 ^ 48) :
    (Instr.makeSlice ty (.int .i64 l) (.int .i64 c)).run P w = .ok (.slice (some ⟨w.heap.size, 0, none⟩) l.toNat c.toNat) { w with heap := w.heap.push (.cells (List.replicate c.toNat z.cells.toList).flatten.toArray elem) } := by
  have hwl : IntKind.i64.wrap l = l := wrap_i64 ⟨by omega, by omega⟩
  have hwc : IntKind.i64.wrap c = c := wrap_i64 ⟨by omega, by omega⟩
  have ht : (decide (c < 0) || decide (i.bytes * c > 2 ^ 48)) = false := by simp; omega
  unfold Instr.makeSlice
  simp only [asInt, asIntOf, Sem.run_bind, run_underlying hd, Result.andThen_ok, Sem.run_pure, run_typeInfo hi, hwl, hwc]
  rw [if_neg (by rw [ht]; simp; omega)]
  simp only [Sem.run_bind, run_askRoom, Result.andThen_ok, run_sizeOf hi]
  by_cases hn : c.toNat * i.size = 0
  · rw [if_pos hn]
    simp only [Sem.run_pure, Result.andThen_ok, newRow, Sem.run_bind, run_newObj]
    rw [hn]
    have : (List.replicate c.toNat z.cells.toList).flatten = [] := List.eq_nil_of_length_eq_zero (by simp [hzl, hn])
    rw [this, show (Array.range 0).map (fun i => (#[] : Array Value)[i % (#[] : Array Value).size]!) = #[] from Array.eq_empty_of_size_eq_zero (by simp)]
  · rw [if_neg hn]
    simp only [Sem.run_bind, run_zeroValue hi hz, Sem.run_pure, Result.andThen_ok, newRow, run_newObj]
    rw [range_map_zero hzl hn]
theorem sameF_den {z : SV} {x : Value} (h : z.den β = some x) (j : Nat) : (sameF z j).den β = some x := by
  unfold sameF
  cases hz : unb1 z with
  | none => exact h
  | some b => rw [unb1_den hz h]; rfl
theorem oMakeSlice_sat {ty : TypeId} {l c : Operand} (hl : (ev l).den β = some (ρ l)) (hc : (ev c).den β = some (ρ c)) :
    (oMakeSlice ty l c P ev H base).Sat (OpSem P H β w base ((execOp ρ ⟨dst, .makeSlice ty l c, t, pos, af, g⟩).run P w)) := by
  refine R.Sat.opt fun d hd => ?_
  split
  · rename_i elem
    refine R.Sat.opt fun i hi => R.Sat.opt fun z hz => ?_
    obtain ⟨i', zv, hi', hzv, hden⟩ := zeroS_spec hz
    rw [hi] at hi'; cases hi'
    have hzl : lenN z = zv.cells.size := by rw [lenN_eq]; have := denL_length (hden β); simpa using this.symm
    split
    · rename_i ln cn h1 h2
      rw [h1] at hl; rw [h2] at hc
      simp only [SV.den, SI.den, Option.some.injEq] at hl hc
      split
      · rename_i hcond
        obtain ⟨h0, hle, hlt, hby⟩ := hcond
        split
        · trivial
        · rename_i hsz
          have hsz' : zv.cells.size = i.size := by rw [← hzl]; exact Classical.not_not.1 hsz
          have hrun := run_makeSlice (w := w) hd hi hzv hsz' h0 hle (by omega) (by
            have h5 : (i.bytes : Int) * cn ≤ 65536 * 1048576 := Int.mul_le_mul (by omega) (by omega) (by omega) (by decide)
            exact Int.le_trans h5 (by decide))
          refine fun hb => ⟨.value _, _, _, β.upd base ⟨w.heap.size, 0, 0⟩, by simp only [execOp, ← hl, ← hc, Sem.run_bind, hrun, Result.andThen_ok, Sem.run_pure]; rfl, rfl, ?_, ?_, by simp⟩
          · rw [den_slice]
            exact ⟨⟨w.heap.size, 0, none⟩, cn.toNat, by simp [SA.den, Val.upd_same, SN.den], rfl, by simp only [SN.den]; omega, rfl⟩
          · exact Eff.alloc (vs := (List.replicate cn.toNat zv.cells.toList).flatten) (rest := []) (lo := 0) (hi := 0) hb.hd (by simp) rfl rfl rfl (manyN_den (hden β) _) (by simp) (by simp) (by simp)
      · trivial
    · rename_i ln cn _ h1 h2
      rw [h1] at hl; rw [h2] at hc
      simp only [SV.den, Option.some.injEq] at hl hc
      split
      · rename_i z1
        rintro ⟨h0, hle, hby, hmax, hsz⟩
        obtain ⟨zx, zs, hzx, hzs, hzcells⟩ := denL_cons.1 (hden β)
        rw [denL_nil] at hzs; subst hzs
        have hsz' : zv.cells.size = i.size := by
          have := congrArg List.length hzcells
          simp at this; omega
        have hrun := run_makeSlice (w := w) hd hi hzv hsz' h0 hle (by omega) (by rw [Int.mul_comm]; exact hby)
        refine fun hb => ⟨.value _, _, _, β.upd base ⟨w.heap.size, 0, 0⟩, by simp only [execOp, ← hl, ← hc, Sem.run_bind, hrun, Result.andThen_ok, Sem.run_pure]; rfl, rfl, ?_, ?_, by simp⟩
        · rw [den_slice]
          exact ⟨⟨w.heap.size, 0, none⟩, cn.den.toNat, by simp [SA.den, Val.upd_same, SN.den], rfl, by rw [toN_den]; omega, by rw [toN_den]⟩
        · have hfl : (List.replicate cn.den.toNat [zx]).flatten = List.replicate cn.den.toNat zx := by
            generalize cn.den.toNat = m
            induction m with
            | zero => rfl
            | succ m ih => rw [List.replicate_succ, List.flatten_cons, ih]; rfl
          refine Eff.alloc (vs := List.replicate cn.den.toNat zx) (rest := []) (lo := 0) (hi := 0) hb.hd (by simp [hzcells, hfl]) rfl rfl rfl ⟨by simp, fun j x hx => ?_⟩ (by simp) (by simp) (by simp)
          have : x = zx := by
            have := List.eq_of_mem_replicate (List.mem_of_getElem? hx)
            exact this
          rw [this]; exact sameF_den hzx j
      · trivial
    · trivial
  · trivial

theorem firstCells_run {x : Value} {size n : Nat} {xs : List Value} (w' : World) (hh : w'.heap = w.heap)
    (h : (∃ c, x = .slice none 0 c ∧ xs = []) ∨ (∃ A l c, x = .slice (some A) l c ∧ xs.length = n * size ∧ ∀ (j : Nat) (y : Value), xs[j]? = some y → w.cell? (A.add j) = some y) ∨ (∃ s, x = .string s ∧ xs = (s.data.toList.take n).map fun b => Value.int .u8 (b.toNat : Int))) :
    (Builtin.firstCells size n x).run P w' = .ok xs.toArray w' := by
  rcases h with ⟨c, rfl, rfl⟩ | ⟨A, l, c, rfl, h1, h2⟩ | ⟨s, rfl, rfl⟩
  · rfl
  · have hc : ∀ a, w'.cell? a = w.cell? a := fun a => by simp [World.cell?, hh]
    exact run_loadCells h1 fun j y hy => by rw [hc]; exact h2 j y hy
  · simp only [Builtin.firstCells, Sem.run_pure, Result.ok.injEq, and_true]
    apply Array.ext'
    simp [ByteArray.data_extract, List.extract_eq_take_drop]
/- What the model's append does. -/
theorem growBy_le (need : Nat) : ∀ (r c : Nat), c ≤ 2 * need + 192 → c < need ∨ need ≤ c → Builtin.growBy need r c ≤ 2 * need + 192 := by
  intro r
  induction r with
  | zero => intro c h _; exact h
  | succ r ih =>
    intro c h _
    unfold Builtin.growBy
    split
    · exact h
    · exact ih _ (by omega) (by omega)
theorem nextcap_le {need cap : Nat} (h : cap < need) : Builtin.nextslicecap need cap ≤ 2 * need + 192 ∧ (need ≤ 256 → Builtin.nextslicecap need cap ≤ 2 * need) := by
  unfold Builtin.nextslicecap
  split
  · omega
  · split
    · omega
    · exact ⟨growBy_le need 4 cap (by omega) (.inl h), by omega⟩
/-- which appends the simulator knows: the second argument's type is a slice's or a string's -/
theorem plainA_spec {P : Program} {tys : Array TypeId} (h : plainA P tys = true) : tys[1]? = none ∨ ∃ xt, tys[1]? = some xt ∧ ((∃ e, P.underlying xt = some (.slice e)) ∨ P.underlying xt = some .string) := by
  unfold plainA at h
  split at h
  · rename_i xt hxt
    split at h
    · rename_i e he; exact .inr ⟨xt, hxt, .inl ⟨e, he⟩⟩
    · rename_i he; exact .inr ⟨xt, hxt, .inr he⟩
    · cases h
  · rename_i h1; exact .inl h1
theorem run_append_place {tys : Array TypeId} {st elem ty : TypeId} {i : TypeInfo} {bs : Option Addr} {sLen sCap n : Nat} {x : Value} {xs : List Value} (ht : tys[0]? = some st) (hd : P.underlying st = some (.slice elem)) (hi : P.info? elem = some i)
    (hm : plainA P tys = true) (hn : (Builtin.lenOf x).run P w = .ok n w) (hx : (Builtin.firstCells i.size n x).run P w = .ok xs.toArray w) (hle : sLen + n ≤ sCap) {w' : World}
    (hst : (match bs with | some a => storeCells (a.add (sLen * i.size)) xs | none => pure () : Sem Unit).run P w = .ok () w') :
    (Builtin.append_ tys ty #[.slice bs sLen sCap, x]).run P w = .ok (.slice bs (sLen + n) sCap) w' := by
  have hu := fun w => run_underlying (P := P) (w := w) hd
  have hs := fun w => run_sizeOf (P := P) (w := w) hi
  have key : ∀ h1 : (match tys[1]? with
      | some xType => do pure ((← underlying xType) matches .int _)
      | none => pure false : Sem Bool).run P w = .ok false w, True := fun _ => trivial
  rcases plainA_spec hm with h1 | ⟨xt, h1, ⟨e, h2⟩ | h2⟩
  · cases bs with
    | none => simp at hst; subst hst; simp [Builtin.append_, ht, h1, hu, hs, hn, hle, hx]
    | some a => simp at hst; simp [Builtin.append_, ht, h1, hu, hs, hn, hle, hx, hst]
  · have hu2 := fun w => run_underlying (P := P) (w := w) h2
    cases bs with
    | none => simp at hst; subst hst; simp [Builtin.append_, ht, h1, hu, hu2, hs, hn, hle, hx]
    | some a => simp at hst; simp [Builtin.append_, ht, h1, hu, hu2, hs, hn, hle, hx, hst]
  · have hu2 := fun w => run_underlying (P := P) (w := w) h2
    cases bs with
    | none => simp at hst; subst hst; simp [Builtin.append_, ht, h1, hu, hu2, hs, hn, hle, hx]
    | some a => simp at hst; simp [Builtin.append_, ht, h1, hu, hu2, hs, hn, hle, hx, hst]
theorem run_append_grow' {tys : Array TypeId} {st elem ty : TypeId} {i : TypeInfo} {z : Value} {bs : Option Addr} {sLen sCap n : Nat} {x : Value} {xs os : List Value} (ht : tys[0]? = some st) (hd : P.underlying st = some (.slice elem)) (hi : P.info? elem = some i)
    (hz : i.zero = some z) (hm : plainA P tys = true) (hn : (Builtin.lenOf x).run P w = .ok n w) (hx : ∀ w' : World, w'.heap = w.heap → (Builtin.firstCells i.size n x).run P w' = .ok xs.toArray w')
    (ho : ∀ w' : World, w'.heap = w.heap → (Builtin.firstCells i.size sLen (.slice bs sLen sCap)).run P w' = .ok os.toArray w') (hgt : sCap < sLen + n) (hb : (sLen + n) * i.bytes < 70368744177664) (hb2 : sLen + n < 70368744177664) :
    ∃ cap, sLen + n ≤ cap ∧ (Builtin.append_ tys ty #[.slice bs sLen sCap, x]).run P w = .ok (.slice (some ⟨w.heap.size, 0, none⟩) (sLen + n) cap)
      (w.drew.alloc (.cells (os.toArray ++ xs.toArray ++ Builtin.zeroCells z.cells (cap - (sLen + n))) elem)) := by
  refine ⟨grownCap w (sLen + n) sCap elem, grownCap_le _ _ _ _, ?_⟩
  have hnc := nextcap_le hgt
  have hsmall : ¬ (281474976710656 < Builtin.nextslicecap (sLen + n) sCap * i.bytes) := by
    rcases Nat.lt_or_ge 256 (sLen + n) with h | h
    · have h1 : Builtin.nextslicecap (sLen + n) sCap ≤ 3 * (sLen + n) := by omega
      have h2 := Nat.mul_le_mul_right i.bytes h1
      rw [Nat.mul_assoc] at h2
      omega
    · have h2 := Nat.mul_le_mul_right i.bytes (hnc.2 h)
      rw [Nat.mul_assoc] at h2
      omega
  have h63' : ¬ (9223372036854775807 < ((sLen : Int) + (n : Int))) := by omega
  have hng : ¬ (sLen + n ≤ sCap) := by omega
  have hu := fun w => run_underlying (P := P) (w := w) hd
  have hs := fun w => run_sizeOf (P := P) (w := w) hi
  have hti := fun w => run_typeInfo (P := P) (w := w) hi
  have hzv := fun w => run_zeroValue (P := P) (w := w) hi hz
  have hx' := hx w.drew rfl
  have ho' := ho w.drew rfl
  have fin : ∀ c : Array Value, w.drew.alloc (.cells (os.toArray ++ (xs.toArray ++ c)) elem) = w.drew.alloc (.cells ((os ++ xs).toArray ++ c) elem) := fun c => by
    congr 2; apply Array.ext'; simp
  rcases plainA_spec hm with h1 | ⟨xt, h1, ⟨e, h2⟩ | h2⟩
  · simp [Builtin.append_, ht, h1, hu, hs, hn, hng, hsmall, h63', hti, hzv, Question.forced, hx', ho', newRow, grownCap]
    exact fin _
  · have hu2 := fun w => run_underlying (P := P) (w := w) h2
    simp [Builtin.append_, ht, h1, hu, hu2, hs, hn, hng, hsmall, h63', hti, hzv, Question.forced, hx', ho', newRow, grownCap]
    exact fin _
  · have hu2 := fun w => run_underlying (P := P) (w := w) h2
    simp [Builtin.append_, ht, h1, hu, hu2, hs, hn, hng, hsmall, h63', hti, hzv, Question.forced, hx', ho', newRow, grownCap]
    exact fin _

/-- the spare room's zeros -/
theorem zeroCells_eq (z : Array Value) (n : Nat) : ∃ l : List Value, Builtin.zeroCells z n = l.toArray ∧ l.length = n * z.size :=
  ⟨(Builtin.zeroCells z n).toList, by simp, by simp [Builtin.zeroCells]⟩
/-- new memory behind an append -/
theorem ap_new {elem : TypeId} {i : TypeInfo} {z : Value} {cap len : Nat} {c : Cells} {vs : List Value} {n : SN} (hi : P.info? elem = some i) (hz : z.cells.size = i.size) (hc : CellsRel β c vs) (hl : vs.length = len * i.size) (hle : len ≤ cap) (hn : n.den = len) {res : Result Next}
    (hres : res = .ok (.value (.slice (some ⟨w.heap.size, 0, none⟩) len cap)) (w.drew.alloc (.cells (vs.toArray ++ Builtin.zeroCells z.cells (cap - len)) elem))) :
    (R.ok (OpRes.val (.slice ⟨base, .lit 0⟩ n (.rest base 0)) [] [.own c false elem])).Sat (OpSem P H β w base res) := by
  obtain ⟨zs, hzs, hzl⟩ := zeroCells_eq z.cells (cap - len)
  refine fun hb => ⟨.value _, _, _, β.upd base ⟨w.heap.size, 0, cap⟩, hres, rfl, ?_, ?_, by simp⟩
  · rw [den_slice]
    exact ⟨⟨w.heap.size, 0, none⟩, cap, by simp [SA.den, Val.upd_same, SN.den], by simp [SC.den, Val.upd_same], by rw [hn]; exact hle, by rw [hn]⟩
  · refine Eff.alloc (vs := vs) (rest := zs) (lo := 0) (hi := 0) hb.hd (by show w.heap.push _ = _; rw [hzs]; simp) rfl rfl rfl hc (by simp) (by simp) ?_
    intro i' hi'
    rw [hi] at hi'; cases hi'
    rw [List.length_append, hl, hzl, hz, ← Nat.add_mul]
    exact Nat.le_of_eq (by rw [Nat.add_sub_cancel' hle])
/-- the old name given up, new memory taken -/
theorem ap_new_gone {elem : TypeId} {i : TypeInfo} {z : Value} {cap len m : Nat} {c : Cells} {vs : List Value} {n : SN} {e0 : SO} (hm : H[m]? = some e0) (hm0 : e0.owned = true) (hi : P.info? elem = some i) (hz : z.cells.size = i.size) (hc : CellsRel β c vs) (hl : vs.length = len * i.size) (hle : len ≤ cap) (hn : n.den = len) {res : Result Next}
    (hres : res = .ok (.value (.slice (some ⟨w.heap.size, 0, none⟩) len cap)) (w.drew.alloc (.cells (vs.toArray ++ Builtin.zeroCells z.cells (cap - len)) elem))) :
    (R.ok (OpRes.val (.slice ⟨base, .lit 0⟩ n (.rest base 0)) [(m, .gone)] [.own c false elem])).Sat (OpSem P H β w base res) := by
  refine fun hb => ?_
  obtain ⟨nx, v', w', β', h1, h2, h3, hE, _⟩ := ap_new (H := H) hi hz hc hl hle hn hres hb
  refine ⟨nx, v', w', β', h1, h2, h3, ?_, fun k e hk => ?_⟩
  · exact ⟨hE.le, hE.os, hE.tape, hE.output, hE.size, hE.dom, fun b hb' _ => hE.frame b hb' (by simp), fun k a b ha hb' => by simp at ha hb'; rw [ha.2, hb'.2],
      fun k a ha => by simp at ha; rw [ha.2]; trivial, fun j e he => by
        obtain ⟨a, b, l, hl, hor⟩ := hE.made j e he
        exact ⟨a, b, l, hl, .inl (hor.resolve_right (by simp))⟩, hE.apart⟩
  · simp at hk; obtain ⟨rfl, rfl⟩ := hk; exact ⟨e0, hm, hm0⟩
theorem app_den {β : Val} {l r : List SV} {xs ys : List Value} (h : SV.denL β l = some xs) (k : SV.denL β r = some ys) : SV.denL β (app l r) = some (xs ++ ys) := by
  rw [app_eq]; exact denL_append h k

end
end Go.Sim


/-
  The symbolic simulator, fifteenth part: append and copy.
-/
namespace Go.Sim
variable {α : Type}

section
variable {P : Program} {O : Nat → Prop} {w0 : World} {β : Val} {H : List SO} {w : World} {base : Nat}

theorem blt_lt {a b : Nat} (h : Nat.blt a b = true) : a < b := Nat.le_of_ble_eq_true h
theorem lenOf_slice {A : Option Addr} {l c n : Nat} (h : ∀ (P : Program) (w' : World), (Builtin.lenOf (.slice A l c)).run P w' = .ok n w') (P : Program) (w : World) : n = l := by
  have := h P w
  simp only [Builtin.lenOf, Sem.run_pure, Result.ok.injEq, and_true] at this
  exact this.symm
/-- the setting of an append whose numbers are known -/
structure ApSet (P : Program) (w : World) (tys : Array TypeId) (st elem : TypeId) (i : TypeInfo) (z : Value) (x : Value) (xs : List Value) (n : Nat) : Prop where
  ht : tys[0]? = some st
  hd : P.underlying st = some (.slice elem)
  hi : P.info? elem = some i
  hz : i.zero = some z
  hzl : z.cells.size = i.size
  hm : plainA P tys = true
  hn : (Builtin.lenOf x).run P w = .ok n w
  hx : ∀ w' : World, w'.heap = w.heap → (Builtin.firstCells i.size n x).run P w' = .ok xs.toArray w'
  hxl : xs.length = n * i.size
theorem apLit_sat (hr : HeapRel0 P O w0 β H w) {tys : Array TypeId} {st elem ty : TypeId} {i : TypeInfo} {z x : Value} {xs : List Value} {n : Nat} (S : ApSet P w tys st elem i z x xs n) {new : List SV} (hnew : SV.denL β new = some xs)
    {a : SA} {A : Addr} {len c : Nat} (hA : a.den β = some A) (hlc : len ≤ c) (hb1 : (len + n) * i.bytes < 70368744177664) (hb2 : len + n < 70368744177664) {res : Result Next}
    (hres : ∀ v w', (Builtin.append_ tys ty #[.slice (some A) len c, x]).run P w = .ok v w' → res = .ok (.value v) w') :
    (apLit H base elem i.size a len c n new).Sat (OpSem P H β w base res) := by
  refine R.Sat.boolC (fun hle => R.Sat.boolC (fun h0 => ?_) fun h0 => R.Sat.boolC (fun hsc => entry_sat fun e he => ?_) fun _ => trivial) fun hgt => ?_
  · have hn0 : n = 0 := Nat.eq_of_beq_eq_true h0
    subst hn0
    have hxs : xs = [] := List.eq_nil_of_length_eq_zero (by rw [S.hxl]; simp)
    subst hxs
    have := run_append_place (ty := ty) (bs := some A) (sLen := len) (sCap := c) (w' := w) S.ht S.hd S.hi S.hm S.hn (S.hx w rfl) (by omega) rfl
    refine sem_val (hres _ _ this) ?_
    rw [den_slice]
    exact ⟨A, c, hA, rfl, hlc, rfl⟩
  · have hle' : len + n ≤ c := Nat.le_of_ble_eq_true hle
    cases e with
    | row => trivial
    | loop => trivial
    | deferred => trivial
    | gone => trivial
    | own cl wh el =>
      obtain ⟨ll, vs, rest, lo, hi, hbl, h0', hc, hh, hfz, hw, hcap⟩ := hr.entries _ _ he
      obtain ⟨l', hl', rfl⟩ := SA.den_some hA
      rw [hbl] at hl'; cases hl'
      refine wrCells_sat hc hnew fun c' hc' hle2 => ?_
      rw [SN.add_den] at hc' hle2
      replace hc' : CellsRel β c' (overC vs (a.off.den + len * i.size) xs) := hc'
      replace hle2 : a.off.den + len * i.size + xs.length ≤ vs.length := hle2
      have hoff : a.off.den + len * i.size + xs.length ≤ vs.length := hle2
      have hrun := run_storeCells (P := P) xs (vs ++ rest) (ll.off + a.off.den + len * i.size) 0 w hh (denL_one hnew hsc) hfz.at (by rw [h0']; simp; omega)
      rw [Nat.add_zero, h0', Nat.zero_add, overC_append hoff] at hrun
      have hplace := run_append_place (ty := ty) (bs := some ⟨ll.blk, ll.off + a.off.den, none⟩) (sLen := len) (sCap := c) S.ht S.hd S.hi S.hm S.hn (S.hx w rfl) hle' (by simp only [addr_add]; rw [h0', Nat.zero_add]; exact hrun)
      refine fun hb => ⟨.value _, _, _, β, hres _ _ hplace, rfl, ?_, Eff.turn hbl ?_, ?_⟩
      · rw [den_slice]
        exact ⟨_, c, hA, rfl, hle', rfl⟩
      · have hlt : ll.blk < w.heap.size := (Array.getElem?_eq_some_iff.1 hh).1
        refine ⟨ll, _, rest, lo, hi, hbl, h0', hc', by simp [hlt], ?_, hw, ?_⟩
        · simp only [List.length_append, overC_length hle2] at hfz ⊢; exact hfz
        · intro j hj
          have := hcap j hj
          simp only [List.length_append, overC_length hle2] at this ⊢; exact this
      · intro m e hm
        simp at hm
        obtain ⟨rfl, rfl⟩ := hm
        exact ⟨_, he, rfl⟩
  · have hgt' : c < len + n := by
      rcases Nat.lt_or_ge c (len + n) with h | h
      · exact h
      · rw [Nat.ble_eq_true_of_le h] at hgt; cases hgt
    refine loadN_sat hr hA fun old os h1 h2 h3 => ?_
    obtain ⟨cap, hcap, hrun⟩ := run_append_grow' (ty := ty) (bs := some A) (sLen := len) (sCap := c) (os := os) S.ht S.hd S.hi S.hz S.hm S.hn S.hx
      (fun w' hw' => firstCells_run w' hw' (.inr (.inl ⟨A, len, c, rfl, h2, h3⟩))) hgt' hb1 hb2
    refine ap_new (c := .lst (app old new)) (vs := os ++ xs) (len := len + n) S.hi S.hzl (app_den h1 hnew) (by rw [List.length_append, h2, S.hxl, Nat.add_mul]) hcap rfl (hres _ _ ?_)
    rw [hrun]; congr 3; simp
theorem apRest_sat (hr : HeapRel0 P O w0 β H w) {tys : Array TypeId} {st elem ty : TypeId} {i : TypeInfo} {z x : Value} {xs : List Value} {n : Nat} (S : ApSet P w tys st elem i z x xs n) {new : List SV} (hnew : SV.denL β new = some xs)
    {a : SA} {A : Addr} {len nm k C : Nat} (hA : a.den β = some A) (hC : (SC.rest nm k).den β = some C) (hlc : len ≤ C) (hb1 : (len + n) * i.bytes < 70368744177664) (hb2 : len + n < 70368744177664) {res : Result Next}
    (hres : ∀ v w', (Builtin.append_ tys ty #[.slice (some A) len C, x]).run P w = .ok v w' → res = .ok (.value v) w') :
    (apRest H base elem i.size a len nm k n new).Sat (OpSem P H β w base res) := by
  refine R.Sat.boolC (fun h0 => ?_) fun h0 => R.Sat.boolC (fun hsc => R.Sat.boolC (fun hnm => R.Sat.boolC (fun hk => SN.asLit_sat (fun o ho => R.Sat.boolC (fun ho0 => entry_sat fun e he => ?_) fun _ => trivial) fun _ => trivial) fun _ => trivial) fun _ => trivial) fun _ => trivial
  · have hn0 : n = 0 := Nat.eq_of_beq_eq_true h0
    subst hn0
    have hxs : xs = [] := List.eq_nil_of_length_eq_zero (by rw [S.hxl]; simp)
    subst hxs
    have := run_append_place (ty := ty) (bs := some A) (sLen := len) (sCap := C) (w' := w) S.ht S.hd S.hi S.hm S.hn (S.hx w rfl) (by omega) rfl
    refine sem_val (hres _ _ this) ?_
    rw [den_slice]
    exact ⟨A, C, hA, hC, hlc, rfl⟩
  · obtain rfl := Nat.eq_of_beq_eq_true hnm
    obtain rfl := Nat.eq_of_beq_eq_true hk
    obtain rfl := Nat.eq_of_beq_eq_true ho0
    cases e with
    | row => trivial
    | loop => trivial
    | deferred => trivial
    | gone => trivial
    | own cl wh el =>
      cases cl with
      | fn => trivial
      | lst l =>
        refine R.Sat.boolC (fun hel => R.Sat.boolC (fun hll => ?_) fun _ => trivial) fun _ => trivial
        obtain rfl := Nat.eq_of_beq_eq_true hel
        obtain ⟨ll, vs, rest, lo, hi, hbl, h0', hc, hh, hfz, hw, hcap⟩ := hr.entries _ _ he
        obtain ⟨l', hl', hAe⟩ := SA.den_some hA
        rw [hbl] at hl'; cases hl'
        have hAe' : A = ⟨ll.blk, 0, none⟩ := by rw [hAe, h0', ho]; rfl
        have hCe : C = ll.cap := by
          simp only [SC.den, hbl, Option.map_some, Option.some.injEq] at hC; omega
        have hvl : vs.length = l.length := denL_length hc
        have hle : len * i.size ≤ vs.length := by rw [hvl, ← lenN_eq]; exact Nat.le_of_ble_eq_true hll
        have hnewd : SV.denL β (app (takeN l (len * i.size)) new) = some (vs.take (len * i.size) ++ xs) := by
          rw [takeN_eq]; exact app_den (denL_take hc _) hnew
        have hnewl : (vs.take (len * i.size) ++ xs).length = (len + n) * i.size := by
          rw [List.length_append, List.length_take, S.hxl, Nat.add_mul]; omega
        have hcells : ∀ (j : Nat) (y : Value), (vs.take (len * i.size))[j]? = some y → w.cell? (A.add j) = some y := by
          intro j y hy
          rw [hAe', addr_add, cell?_of hh, Nat.zero_add]
          rw [List.getElem?_take] at hy
          split at hy
          · have := (List.getElem?_eq_some_iff.1 hy).1
            simp [List.getElem?_append_left this, hy]
          · cases hy
        rcases Nat.lt_or_ge C (len + n) with hgt | hfit
        · obtain ⟨cap, hcap', hrun⟩ := run_append_grow' (ty := ty) (bs := some A) (sLen := len) (sCap := C) (os := vs.take (len * i.size)) S.ht S.hd S.hi S.hz S.hm S.hn S.hx
            (fun w' hw' => firstCells_run w' hw' (.inr (.inl ⟨A, len, C, rfl, by rw [List.length_take]; omega, hcells⟩))) hgt hb1 hb2
          exact ap_new_gone (c := .lst _) he rfl S.hi S.hzl hnewd hnewl hcap' rfl (hres _ _ (by rw [hrun]; congr 3; simp))
        · have hroom : len * i.size + xs.length ≤ (vs ++ rest).length := by
            have h1 := hcap i S.hi
            have h2 := Nat.mul_le_mul_right i.size hfit
            rw [Nat.add_mul] at h2
            rw [S.hxl]; rw [← hCe] at h1; omega
          have hrun := run_storeCells (P := P) xs (vs ++ rest) (0 + len * i.size) 0 w hh (denL_one hnew hsc) hfz.at (by omega)
          rw [Nat.add_zero, Nat.zero_add] at hrun
          have hplace := run_append_place (ty := ty) (bs := some A) (sLen := len) (sCap := C) S.ht S.hd S.hi S.hm S.hn (S.hx w rfl) hfit (by rw [hAe']; simp only [addr_add, Nat.zero_add]; exact hrun)
          have hover : overC (vs ++ rest) (len * i.size) xs = (vs.take (len * i.size) ++ xs) ++ (vs ++ rest).drop (len * i.size + xs.length) := by
            unfold overC; rw [List.take_append_of_le_length hle]
          have hlt : ll.blk < w.heap.size := (Array.getElem?_eq_some_iff.1 hh).1
          have hlen' : ((vs.take (len * i.size) ++ xs) ++ (vs ++ rest).drop (len * i.size + xs.length)).length = (vs ++ rest).length := by
            rw [← hover, overC_length hroom]
          refine fun hb => ⟨.value _, _, _, β.upd base ll, hres _ _ hplace, rfl, ?_, ?_, ?_⟩
          · rw [den_slice]
            refine ⟨⟨ll.blk, 0, none⟩, C, by simp [SA.den, Val.upd_same, h0', SN.den], by simp [SC.den, Val.upd_same, hCe], hfit, by rw [hAe']; rfl⟩
          · refine ⟨Val.upd_le hb.hd, rfl, rfl, rfl, by simp, ?_, ?_, ?_, ?_, ?_, ?_⟩
            · intro m hm
              unfold Val.upd
              rw [if_neg]; simp at hm; omega
            · intro b _ hn
              have := hn a.nm .gone ll (by simp) hbl
              simp [this]
            · intro m e1 e2 h1 h2; simp at h1 h2; rw [h1.2, h2.2]
            · intro m e h1; simp at h1; rw [h1.2]; trivial
            · intro j e hj
              cases j with
              | succ j => simp at hj
              | zero =>
                simp at hj; subst hj
                refine ⟨rfl, ⟨ll, _, (vs ++ rest).drop (len * i.size + xs.length), lo, hi, Val.upd_same _ _ _, h0', SV.denL_mono (Val.upd_le hb.hd) _ hnewd, ?_, ?_, by simp, ?_⟩, ll, Val.upd_same _ _ _, .inr ⟨a.nm, ll, by simp, hbl, rfl⟩⟩
                · rw [← hover]; simp [hlt]
                · rw [hlen']; exact hfz
                · intro j hj; rw [hlen']; exact hcap j hj
            · intro j k l l' hjk hj hk; simp at hj hk; omega
          · intro m e hm
            simp at hm
            obtain ⟨rfl, rfl⟩ := hm
            exact ⟨_, he, rfl⟩
theorem fnSl_sat (hr : HeapRel0 P O w0 β H w) {a : SA} {n : SN} {A' : Addr} {C : Nat} (hA : n.den = 0 ∨ a.den β = some A') {f : (Nat → SV) → R α} {φ : α → Prop}
    (hf : ∀ g, (∀ (m : Nat), (∀ w' : World, (Builtin.lenOf (.slice (some A') n.den C)).run P w' = .ok m w') → ∃ xs : List Value, xs.length = m ∧ (∀ (j : Nat) (y : Value), xs[j]? = some y → (g j).den β = some y) ∧ ∀ w' : World, w'.heap = w.heap → (Builtin.firstCells 1 m (.slice (some A') n.den C)).run P w' = .ok xs.toArray w') → (f g).Sat φ) : (fnSl H a n f).Sat φ := by
  unfold fnSl
  refine entry_sat fun e he => ?_
  have key : ∀ (cl : Cells) (g : Nat → SV) (vs : List Value), e.cells? = some cl → CellsRel β cl vs → (∃ l, β a.nm = some l ∧ ∀ (i : Nat) (x : Value), vs[i]? = some x → w.cell? ⟨l.blk, l.off + i, none⟩ = some x) → a.off.den + n.den ≤ vs.length →
      (∀ i y, vs[a.off.den + i]? = some y → (g i).den β = some y) → (f g).Sat φ := by
    rintro cl g vs _ hcr ⟨l, hl, hcell⟩ hle hg
    refine hf g fun m hm => ⟨(vs.drop a.off.den).take n.den, ?_, fun j y hy => ?_, fun w' hw' => ?_⟩
    · have := hm w
      simp only [Builtin.lenOf, Sem.run_pure, Result.ok.injEq, and_true] at this
      simp; omega
    · rw [List.getElem?_take] at hy
      split at hy
      · rw [List.getElem?_drop] at hy; exact hg j y hy
      · cases hy
    · refine firstCells_run w' hw' (.inr (.inl ⟨_, _, _, rfl, ?_, fun j y hy => ?_⟩))
      · have := hm w
        simp only [Builtin.lenOf, Sem.run_pure, Result.ok.injEq, and_true] at this
        simp; omega
      · rw [List.getElem?_take] at hy
        split at hy
        · rename_i hjn
          rw [List.getElem?_drop] at hy
          obtain ⟨l', hl', rfl⟩ := SA.den_some (hA.resolve_left (by omega))
          rw [hl] at hl'; cases hl'
          rw [addr_add, Nat.add_assoc]; exact hcell _ _ hy
        · cases hy
  split
  · rename_i g m _ _
    obtain ⟨l, vs, hl, hcr, hcell⟩ := entry_cells hr he rfl
    intro hle
    exact key _ _ vs rfl hcr ⟨l, hl, hcell⟩ (by rw [hcr.1]; exact hle) fun i y hy => hcr.2 _ _ hy
  · rename_i g m
    obtain ⟨l, vs, hl, hcr, hcell⟩ := entry_cells hr he rfl
    intro hle
    exact key _ _ vs rfl hcr ⟨l, hl, hcell⟩ (by rw [hcr.1]; exact hle) fun i y hy => hcr.2 _ _ hy
  · rename_i ls _ _
    obtain ⟨l, vs, hl, hcr, hcell⟩ := entry_cells hr he rfl
    cases hun : unb ls with
    | none =>
      intro hle
      have hvl : vs.length = ls.length := denL_length hcr
      rw [lenN_eq] at hle
      refine key _ _ vs rfl hcr ⟨l, hl, hcell⟩ (by omega) fun i y hy => ?_
      have hlt := (List.getElem?_eq_some_iff.1 hy).1
      obtain ⟨y', hy', hd⟩ := denL_get hcr (List.getElem?_eq_getElem (show a.off.den + i < ls.length by omega))
      rw [hy] at hy'; cases hy'
      rw [nth_eq, List.getElem?_eq_getElem (show a.off.den + i < ls.length by omega)]; exact hd
    | some xs =>
      intro hle
      rw [lenN_eq] at hle
      obtain ⟨hb1, hb2⟩ := unb_get hun hcr
      refine key _ _ vs rfl hcr ⟨l, hl, hcell⟩ (by omega) fun i y hy => ?_
      have hlt := (List.getElem?_eq_some_iff.1 hy).1
      rw [hb2 _ (by omega)] at hy
      rw [← Option.some.inj hy]; rfl
  · rename_i ls
    obtain ⟨l, vs, hl, hcr, hcell⟩ := entry_cells hr he rfl
    cases hun : unb ls with
    | none =>
      intro hle
      have hvl : vs.length = ls.length := denL_length hcr
      rw [lenN_eq] at hle
      refine key _ _ vs rfl hcr ⟨l, hl, hcell⟩ (by omega) fun i y hy => ?_
      have hlt := (List.getElem?_eq_some_iff.1 hy).1
      obtain ⟨y', hy', hd⟩ := denL_get hcr (List.getElem?_eq_getElem (show a.off.den + i < ls.length by omega))
      rw [hy] at hy'; cases hy'
      rw [nth_eq, List.getElem?_eq_getElem (show a.off.den + i < ls.length by omega)]; exact hd
    | some xs =>
      intro hle
      rw [lenN_eq] at hle
      obtain ⟨hb1, hb2⟩ := unb_get hun hcr
      refine key _ _ vs rfl hcr ⟨l, hl, hcell⟩ (by omega) fun i y hy => ?_
      have hlt := (List.getElem?_eq_some_iff.1 hy).1
      rw [hb2 _ (by omega)] at hy
      rw [← Option.some.inj hy]; rfl
  · trivial
theorem fnOf_sat (hr : HeapRel0 P O w0 β H w) {v : SV} {x : Value} (hv : v.den β = some x) {f : (Nat → SV) → R α} {φ : α → Prop}
    (hf : ∀ g, (∀ (n : Nat), (∀ w' : World, (Builtin.lenOf x).run P w' = .ok n w') → ∃ xs : List Value, xs.length = n ∧ (∀ (j : Nat) (y : Value), xs[j]? = some y → (g j).den β = some y) ∧ ∀ w' : World, w'.heap = w.heap → (Builtin.firstCells 1 n x).run P w' = .ok xs.toArray w') → (f g).Sat φ) : (fnOf H v f).Sat φ := by
  unfold fnOf
  split
  · simp only [SV.den, Option.some.injEq] at hv; subst hv
    refine hf _ fun n hn => ⟨[], ?_, by simp, fun w' hw' => firstCells_run (w := w) w' hw' (.inl ⟨0, rfl, rfl⟩)⟩
    have := hn w
    simp only [Builtin.lenOf, Sem.run_pure, Result.ok.injEq, and_true] at this
    exact this
  · rename_i a n c
    rw [den_slice] at hv
    obtain ⟨A, C, hA, hC, _, rfl⟩ := hv
    exact fnSl_sat hr (.inr hA) hf
  · rename_i a k n c
    rw [den_tail] at hv
    obtain ⟨A, C, hA, hC, hle, rfl⟩ := hv
    refine fnSl_sat hr ?_ hf
    by_cases h0 : C = 0
    · left; omega
    · right; rw [if_neg h0]; exact SA.plus_den hA k
  · rename_i s
    simp only [SV.den, Option.some.injEq] at hv; subst hv
    refine hf _ fun n hn => ⟨s.den.data.toList.map fun b => Value.int .u8 (b.toNat : Int), ?_, fun j y hy => bytesFn_den β _ j y hy, fun w' hw' => ?_⟩
    · have := hn w
      simp only [Builtin.lenOf, Sem.run_pure, Result.ok.injEq, and_true] at this
      simp; exact this
    · have := hn w
      simp only [Builtin.lenOf, Sem.run_pure, Result.ok.injEq, and_true] at this
      refine firstCells_run (w := w) w' hw' (.inr (.inr ⟨s.den, rfl, ?_⟩))
      rw [List.take_of_length_le]
      simp; exact Nat.le_of_eq this
  · trivial

/-- n numbers of bytes -/
theorem bytesV_sat (hr : HeapRel0 P O w0 β H w) {v : SV} {x : Value} (hv : v.den β = some x) {n : SN} (hn : (Builtin.lenOf x).run P w = .ok n.den w) {f : (Nat → BitVec 8) → R α} {φ : α → Prop}
    (hf : ∀ (X : Nat → BitVec 8) (xs : List Value), xs.length = n.den → (∀ j, j < n.den → xs[j]? = some (.int .u8 ((X j).toNat : Int))) → (∀ w' : World, w'.heap = w.heap → (Builtin.firstCells 1 n.den x).run P w' = .ok xs.toArray w') → (f X).Sat φ) : (bytesV H v n f).Sat φ := by
  unfold bytesV
  split
  · simp only [SV.den, Option.some.injEq] at hv; subst hv
    simp only [Builtin.lenOf, Sem.run_pure, Result.ok.injEq, and_true] at hn
    refine hf _ [] hn (fun j hj => by omega) fun w' hw' => firstCells_run (w := w) w' hw' (.inl ⟨0, rfl, rfl⟩)
  · rename_i a l c
    rw [den_slice] at hv
    obtain ⟨A, C, hA, hC, _, rfl⟩ := hv
    simp only [Builtin.lenOf, Sem.run_pure, Result.ok.injEq, and_true] at hn
    refine entry_sat fun e he => ?_
    have key : ∀ cl : Cells, e.cells? = some cl → (viewC cl a.off.den n.den f).Sat φ := by
      intro cl hcl
      obtain ⟨ll, vs, hl, hcr, hcell⟩ := entry_cells hr he hcl
      obtain ⟨l', hl', rfl⟩ := SA.den_some hA
      rw [hl] at hl'; cases hl'
      refine viewC_sat hcr fun X hle hX => hf X ((vs.drop a.off.den).take n.den) (by simp; omega) (fun j hj => ?_) fun w' hw' => ?_
      · rw [List.getElem?_take, if_pos hj, List.getElem?_drop]; exact hX j hj
      · refine firstCells_run w' hw' (.inr (.inl ⟨_, _, _, rfl, by simp; omega, fun j y hy => ?_⟩))
        rw [List.getElem?_take] at hy
        split at hy
        · rw [List.getElem?_drop] at hy
          rw [addr_add, Nat.add_assoc]; exact hcell _ _ hy
        · cases hy
    cases e with
    | own c w el => exact key c rfl
    | row c => exact key c rfl
    | loop => trivial
    | deferred => trivial
    | gone => trivial
  · rename_i a k l c
    rw [den_tail] at hv
    obtain ⟨A, C, hA, hC, hle, rfl⟩ := hv
    simp only [Builtin.lenOf, Sem.run_pure, Result.ok.injEq, and_true] at hn
    refine entry_sat fun e he => ?_
    have key : ∀ cl : Cells, e.cells? = some cl → (viewC cl (a.off.den + k.den) n.den f).Sat φ := by
      intro cl hcl
      obtain ⟨ll, vs, hl, hcr, hcell⟩ := entry_cells hr he hcl
      obtain ⟨l', hl', rfl⟩ := SA.den_some hA
      rw [hl] at hl'; cases hl'
      refine viewC_sat hcr fun X hle hX => hf X ((vs.drop (a.off.den + k.den)).take n.den) (by simp; omega) (fun j hj => ?_) fun w' hw' => ?_
      · rw [List.getElem?_take, if_pos hj, List.getElem?_drop]; exact hX j hj
      · refine firstCells_run w' hw' (.inr (.inl ⟨_, _, _, rfl, by simp; omega, fun j y hy => ?_⟩))
        rw [List.getElem?_take] at hy
        split at hy
        · rename_i hj
          rw [List.getElem?_drop] at hy
          have hn' : l.den = n.den := hn
          rw [if_neg (by omega), addr_add, addr_add, Nat.add_assoc, Nat.add_assoc, ← Nat.add_assoc a.off.den]; exact hcell _ _ hy
        · cases hy
    cases e with
    | own c w el => exact key c rfl
    | row c => exact key c rfl
    | loop => trivial
    | deferred => trivial
    | gone => trivial
  · rename_i s
    simp only [SV.den, Option.some.injEq] at hv; subst hv
    simp only [Builtin.lenOf, Sem.run_pure, Result.ok.injEq, and_true] at hn
    have hsz : s.den.data.toList.length = n.den := by simp; exact hn
    refine hf _ (s.den.data.toList.map fun b => Value.int .u8 (b.toNat : Int)) (by simpa using hsz) (fun j hj => ?_) fun w' hw' => firstCells_run (w := w) w' hw' (.inr (.inr ⟨s.den, rfl, ?_⟩))
    · have hlt : j < s.den.data.size := by simpa [← hsz] using hj
      rw [List.getElem?_map, List.getElem?_eq_getElem (by simpa using hlt)]
      simp only [Option.map_some, Array.getElem_toList]
      rw [Array.getD_eq_getD_getElem?, Array.getElem?_eq_getElem hlt]
      rfl
    · rw [List.take_of_length_le (by omega)]
  · trivial
theorem cat_rel {X Y : Nat → BitVec 8} {os xs : List Value} {l n : Nat} (h1 : os.length = l) (h2 : xs.length = n) (hX : ∀ j, j < l → os[j]? = some (.int .u8 ((X j).toNat : Int))) (hY : ∀ j, j < n → xs[j]? = some (.int .u8 ((Y j).toNat : Int))) :
    CellsRel β (.fn (byteF (catB X l Y)) (l + n)) (os ++ xs) := by
  refine ⟨by simp [h1, h2], fun i y hy => ?_⟩
  show some (Value.int .u8 ((catB X l Y i).toNat : Int)) = some y
  unfold catB
  by_cases hi : i < l
  · rw [if_pos hi]
    rw [List.getElem?_append_left (by omega), hX i hi] at hy
    exact hy
  · rw [if_neg hi]
    rw [List.getElem?_append_right (by omega), h1] at hy
    have hlt := (List.getElem?_eq_some_iff.1 hy).1
    rw [hY (i - l) (by omega)] at hy
    exact hy

end
end Go.Sim


/-
  The symbolic simulator, sixteenth part: built-ins and calls; every operation.
-/
namespace Go.Sim
variable {α : Type}

section
variable {P : Program} {O : Nat → Prop} {w0 : World} {β : Val} {H : List SO} {w : World} {base : Nat}
variable {ev : Operand → SV} {ρ : Operand → Value} {dst : Option Tmp} {t : TypeId} {pos : String} {af : Array Edge} {g : Option (Nat × Bool)}

theorem srcCells_len (hr : HeapRel0 P O w0 β H w) {v : SV} {x : Value} (hv : v.den β = some x) {size m n : Nat} (hn : ∀ (P : Program) (w' : World), (Builtin.lenOf x).run P w' = .ok n w') (hmn : m ≤ n) {f : List SV → R α} {φ : α → Prop}
    (hf : ∀ l xs, SV.denL β l = some xs → (∀ w' : World, w'.heap = w.heap → (Builtin.firstCells size m x).run P w' = .ok xs.toArray w') → xs.length = m * size → (f l).Sat φ) : (srcCells H size v (.lit m) f).Sat φ := by
  have hlen := hn P w
  unfold srcCells
  split
  · simp only [SV.den, Option.some.injEq] at hv; subst hv
    simp only [Builtin.lenOf, Sem.run_pure, Result.ok.injEq, and_true] at hlen
    exact hf [] [] rfl (fun w' hw' => firstCells_run (w := w) w' hw' (.inl ⟨0, rfl, rfl⟩)) (by
      have : m = 0 := by omega
      rw [this]; simp)
  · rename_i a _ _ n' hm
    cases hm
    rw [den_slice] at hv
    obtain ⟨A, C, hA, hC, _, rfl⟩ := hv
    exact loadN_sat hr hA fun l xs h1 h2 h3 => hf l xs h1 (fun w' hw' => firstCells_run w' hw' (.inr (.inl ⟨A, _, _, rfl, h2, h3⟩))) h2
  · rename_i a k l0 _ n' hm
    cases hm
    rw [den_tail] at hv
    obtain ⟨A, C, hA, hC, hle, rfl⟩ := hv
    simp only [Builtin.lenOf, Sem.run_pure, Result.ok.injEq, and_true] at hlen
    refine loadN_sat hr (SA.plus_den hA k) fun l xs h1 h2 h3 => hf l xs h1 (fun w' hw' => firstCells_run w' hw' (.inr (.inl ⟨_, _, _, rfl, h2, fun j y hy => ?_⟩))) h2
    by_cases hC0 : C = 0
    · have hm0 : m = 0 := by omega
      rw [hm0, Nat.zero_mul] at h2
      rw [List.eq_nil_of_length_eq_zero h2] at hy
      simp at hy
    · rw [if_neg hC0]; exact h3 j y hy
  · rename_i s n' hm
    cases hm
    simp only [SV.den, Option.some.injEq] at hv; subst hv
    simp only [Builtin.lenOf, Sem.run_pure, Result.ok.injEq, and_true] at hlen
    refine R.Sat.boolC (fun h1 => ?_) fun _ => trivial
    have h := Nat.eq_of_beq_eq_true h1
    rw [takeN_eq]
    refine hf _ _ (bytes_den β _) (fun w' hw' => firstCells_run (w := w) w' hw' (.inr (.inr ⟨s, rfl, rfl⟩))) ?_
    rw [h]; simp; have : s.size = s.data.size := rfl
    simp only [SStr.den] at hlen; omega
  · rename_i l n' hm
    cases hm
    simp only [SV.den, Option.some.injEq] at hv; subst hv
    simp only [Builtin.lenOf, Sem.run_pure, Result.ok.injEq, and_true] at hlen
    have hsz : (SStr.bytes l).den.size = l.length := by
      show (l.map fun i => UInt8.ofNat i.den.toNat).toArray.size = _
      simp
    refine R.Sat.boolC (fun h1 => ?_) fun _ => trivial
    have h := Nat.eq_of_beq_eq_true h1
    intro hbnd
    rw [takeN_eq, mapN_eq]
    refine hf _ _ (denL_ints β _) (fun w' hw' => firstCells_run (w := w) w' hw' (.inr (.inr ⟨(SStr.bytes l).den, rfl, ?_⟩))) ?_
    · simp only [SStr.den, bytesOf, ← List.map_take, List.map_map]
      refine List.map_congr_left fun i hi => ?_
      have := hbnd i (List.mem_of_mem_take hi)
      simp only [Function.comp, UInt8.toNat_ofNat']
      rw [Nat.mod_eq_of_lt (by omega)]
      congr 1; omega
    · rw [h]; simp; omega
  · trivial
/-- the setting of an append of bytes -/
structure CatSet (P : Program) (w : World) (tys : Array TypeId) (st elem : TypeId) (i : TypeInfo) (z : Value) (x : Value) (xs : List Value) (n : Nat) (Y : Nat → BitVec 8) : Prop where
  ht : tys[0]? = some st
  hd : P.underlying st = some (.slice elem)
  hi : P.info? elem = some i
  hz : i.zero = some z
  hzl : z.cells.size = i.size
  hm : plainA P tys = true
  hn : (Builtin.lenOf x).run P w = .ok n w
  hx : ∀ w' : World, w'.heap = w.heap → (Builtin.firstCells 1 n x).run P w' = .ok xs.toArray w'
  hxl : xs.length = n
  hY : ∀ j, j < n → xs[j]? = some (.int .u8 ((Y j).toNat : Int))
theorem apCatNew_sat (hr : HeapRel0 P O w0 β H w) {tys : Array TypeId} {st elem ty : TypeId} {i : TypeInfo} {z x : Value} {xs : List Value} {n len c : SN} {Y : Nat → BitVec 8} (S : CatSet P w tys st elem i z x xs n.den Y) {s : SV} {A : Addr} (hs : s.den β = some (.slice (some A) len.den c.den)) {res : Result Next}
    (hres : ∀ v w', (Builtin.append_ tys ty #[.slice (some A) len.den c.den, x]).run P w = .ok v w' → res = .ok (.value v) w') :
    (apCatNew H base elem i.size i.bytes s c len n Y).Sat (OpSem P H β w base res) := by
  refine bytesV_sat hr hs (n := len) rfl fun X os h1 h2 h3 => ?_
  rintro ⟨hgt, ⟨hb1, hb2⟩, hs1⟩
  obtain ⟨cap, hcap, hrun⟩ := run_append_grow' (ty := ty) (bs := some A) (sLen := len.den) (sCap := c.den) (os := os) (xs := xs) S.ht S.hd S.hi S.hz S.hm S.hn (by rw [hs1]; exact S.hx) (by rw [hs1]; exact h3) hgt hb1 hb2
  refine ap_new (c := .fn (byteF (catB X len.den Y)) (len.den + n.den)) (vs := os ++ xs) (len := len.den + n.den) S.hi S.hzl (cat_rel h1 S.hxl h2 S.hY) (by rw [hs1, List.length_append, h1, S.hxl, Nat.mul_one]) hcap (SN.add_den _ _) (hres _ _ ?_)
  rw [hrun]; congr 3; simp
theorem apCatRest_sat (hr : HeapRel0 P O w0 β H w) {tys : Array TypeId} {st elem ty : TypeId} {i : TypeInfo} {z x : Value} {xs : List Value} {n len : SN} {Y : Nat → BitVec 8} (S : CatSet P w tys st elem i z x xs n.den Y) {a : SA} {A : Addr} {nm k C : Nat} (hA : a.den β = some A) (hC : (SC.rest nm k).den β = some C) {res : Result Next}
    (hres : ∀ v w', (Builtin.append_ tys ty #[.slice (some A) len.den C, x]).run P w = .ok v w' → res = .ok (.value v) w') :
    (apCatRest H base elem i.size i.bytes a nm k len n Y).Sat (OpSem P H β w base res) := by
  refine R.Sat.boolC (fun hnm => R.Sat.boolC (fun hk => SN.asLit_sat (fun o ho => R.Sat.boolC (fun ho0 => entry_sat fun e he => ?_) fun _ => trivial) fun _ => trivial) fun _ => trivial) fun _ => trivial
  obtain rfl := Nat.eq_of_beq_eq_true hnm
  obtain rfl := Nat.eq_of_beq_eq_true hk
  obtain rfl := Nat.eq_of_beq_eq_true ho0
  cases e with
  | row => trivial
  | loop => trivial
  | deferred => trivial
  | gone => trivial
  | own cl wh el =>
    refine R.Sat.boolC (fun hel => ?_) fun _ => trivial
    obtain rfl := Nat.eq_of_beq_eq_true hel
    obtain ⟨ll, vs, rest, lo, hi, hbl, h0', hc, hh, hfz, hw, hcap⟩ := hr.entries _ _ he
    obtain ⟨l', hl', hAe⟩ := SA.den_some hA
    rw [hbl] at hl'; cases hl'
    have hAe' : A = ⟨ll.blk, 0, none⟩ := by rw [hAe, h0', ho]; rfl
    have hCe : C = ll.cap := by
      simp only [SC.den, hbl, Option.map_some, Option.some.injEq] at hC; omega
    refine viewC_sat hc fun X hle hX => ?_
    rw [Nat.zero_add] at hle
    rintro ⟨⟨hb1, hb2⟩, hs1⟩
    have hol : (vs.take len.den).length = len.den := by rw [List.length_take]; omega
    have hos : ∀ j, j < len.den → (vs.take len.den)[j]? = some (.int .u8 ((X j).toNat : Int)) := by
      intro j hj
      rw [List.getElem?_take, if_pos hj]
      have := hX j hj
      rw [Nat.zero_add] at this; exact this
    have hcells : ∀ (j : Nat) (y : Value), (vs.take len.den)[j]? = some y → w.cell? (A.add j) = some y := by
      intro j y hy
      rw [hAe', addr_add, cell?_of hh, Nat.zero_add]
      rw [List.getElem?_take] at hy
      split at hy
      · have := (List.getElem?_eq_some_iff.1 hy).1
        simp [List.getElem?_append_left this, hy]
      · cases hy
    have hnewd : CellsRel β (.fn (byteF (catB X len.den Y)) (len.den + n.den)) (vs.take len.den ++ xs) := cat_rel hol S.hxl hos S.hY
    rcases Nat.lt_or_ge C (len.den + n.den) with hgt | hfit
    · obtain ⟨cap, hcap', hrun⟩ := run_append_grow' (ty := ty) (bs := some A) (sLen := len.den) (sCap := C) (os := vs.take len.den) (xs := xs) S.ht S.hd S.hi S.hz S.hm S.hn (by rw [hs1]; exact S.hx)
        (fun w' hw' => firstCells_run w' hw' (.inr (.inl ⟨A, len.den, C, rfl, by rw [hol, hs1, Nat.mul_one], hcells⟩))) hgt hb1 hb2
      exact ap_new_gone (c := .fn _ _) he rfl S.hi S.hzl hnewd (by rw [hs1, List.length_append, hol, S.hxl, Nat.mul_one]) hcap' (SN.add_den _ _) (hres _ _ (by rw [hrun]; congr 3; simp))
    · have hroom : len.den + xs.length ≤ (vs ++ rest).length := by
        have h1 := hcap i S.hi
        rw [hs1, Nat.mul_one] at h1
        rw [S.hxl]; rw [← hCe] at h1; omega
      have hsc : ∀ y ∈ xs, y.oneCell' = true := by
        intro y hy
        obtain ⟨j, hj⟩ := List.getElem?_of_mem hy
        have hlt := (List.getElem?_eq_some_iff.1 hj).1
        rw [S.hY j (by rw [← S.hxl]; exact hlt)] at hj
        cases hj; rfl
      have hrun := run_storeCells (P := P) xs (vs ++ rest) (0 + len.den) 0 w hh hsc hfz.at (by omega)
      rw [Nat.add_zero, Nat.zero_add] at hrun
      have hplace := run_append_place (ty := ty) (bs := some A) (sLen := len.den) (sCap := C) S.ht S.hd S.hi S.hm S.hn (by rw [hs1]; exact S.hx w rfl) hfit (by rw [hAe', hs1, Nat.mul_one]; simp only [addr_add, Nat.zero_add]; exact hrun)
      have hover : overC (vs ++ rest) len.den xs = (vs.take len.den ++ xs) ++ (vs ++ rest).drop (len.den + xs.length) := by
        unfold overC; rw [List.take_append_of_le_length hle]
      have hlt : ll.blk < w.heap.size := (Array.getElem?_eq_some_iff.1 hh).1
      have hlen' : ((vs.take len.den ++ xs) ++ (vs ++ rest).drop (len.den + xs.length)).length = (vs ++ rest).length := by
        rw [← hover, overC_length hroom]
      refine fun hb => ⟨.value _, _, _, β.upd base ll, hres _ _ hplace, rfl, ?_, ?_, ?_⟩
      · rw [den_slice]
        refine ⟨⟨ll.blk, 0, none⟩, C, by simp [SA.den, Val.upd_same, h0', SN.den], by simp [SC.den, Val.upd_same, hCe], by rw [SN.add_den]; exact hfit, by rw [hAe', SN.add_den]⟩
      · refine ⟨Val.upd_le hb.hd, rfl, rfl, rfl, by simp, ?_, ?_, ?_, ?_, ?_, ?_⟩
        · intro m hm
          unfold Val.upd
          rw [if_neg]; simp at hm; omega
        · intro b _ hn
          have := hn a.nm .gone ll (by simp) hbl
          simp [this]
        · intro m e1 e2 h1 h2; simp at h1 h2; rw [h1.2, h2.2]
        · intro m e h1; simp at h1; rw [h1.2]; trivial
        · intro j e hj
          cases j with
          | succ j => simp at hj
          | zero =>
            simp at hj; subst hj
            refine ⟨rfl, ⟨ll, _, (vs ++ rest).drop (len.den + xs.length), lo, hi, Val.upd_same _ _ _, h0', hnewd.mono (Val.upd_le hb.hd), ?_, ?_, by simp, ?_⟩, ll, Val.upd_same _ _ _, .inr ⟨a.nm, ll, by simp, hbl, rfl⟩⟩
            · rw [← hover]; simp [hlt]
            · rw [hlen']; exact hfz
            · intro j hj; rw [hlen']; exact hcap j hj
        · intro j k l l' hjk hj hk; simp at hj hk; omega
      · intro m e hm
        simp at hm
        obtain ⟨rfl, rfl⟩ := hm
        exact ⟨_, he, rfl⟩
theorem apCat_sat (hr : HeapRel0 P O w0 β H w) {tys : Array TypeId} {st elem ty : TypeId} {i : TypeInfo} {z xv : Value} {n len l : SN} {x : SV} (hx : x.den β = some xv) (ht : tys[0]? = some st) (hd : P.underlying st = some (.slice elem)) (hi : P.info? elem = some i) (hz : i.zero = some z) (hzl : z.cells.size = i.size) (hm : plainA P tys = true) (hn : (Builtin.lenOf xv).run P w = .ok n.den w)
    {a : SA} {c : SC} {sv : Value} (hs : (SV.slice a l c).den β = some sv) (hlen : ∀ (P : Program) (w' : World), (Builtin.lenOf sv).run P w' = .ok len.den w') {res : Result Next}
    (hres : ∀ v w', (Builtin.append_ tys ty #[sv, xv]).run P w = .ok v w' → res = .ok (.value v) w') :
    (apCat H base elem i.size i.bytes a l c len n x).Sat (OpSem P H β w base res) := by
  refine bytesV_sat hr hx hn fun Y xs h1 h2 h3 => ?_
  have S : CatSet P w tys st elem i z xv xs n.den Y := ⟨ht, hd, hi, hz, hzl, hm, hn, h3, h1, h2⟩
  have hs0 := hs
  rw [den_slice] at hs
  obtain ⟨A, C, hA, hC, hLC, rfl⟩ := hs
  have hl0 : len.den = l.den := lenOf_slice hlen P w
  rw [← hl0] at hres hs0 hLC
  cases c with
  | lit c' =>
    simp only [SC.den, Option.some.injEq] at hC
    subst hC
    exact apCatNew_sat (c := .lit c') (ty := ty) hr S hs0 hres
  | sym c' =>
    simp only [SC.den, Option.some.injEq] at hC
    subst hC
    exact apCatNew_sat (c := .sym c') (ty := ty) hr S hs0 hres
  | rest nm k => exact apCatRest_sat (ty := ty) hr S hA hC hres
theorem appendP_sat (hr : HeapRel0 P O w0 β H w) {tys : Array TypeId} {ty : TypeId} {s x : SV} {sv xv : Value} (hs : s.den β = some sv) (hx : x.den β = some xv) {res : Result Next}
    (hres : ∀ v w', (Builtin.append_ tys ty #[sv, xv]).run P w = .ok v w' → res = .ok (.value v) w') :
    (appendP P H base tys s x).Sat (OpSem P H β w base res) := by
  refine R.Sat.opt fun st ht => R.Sat.opt fun d hd => asSl_sat (fun elem hde => ?_) trivial
  subst hde
  refine R.Sat.opt fun i hi => R.Sat.boolC (fun hm => R.Sat.opt fun z hz => R.Sat.boolC (fun hzl => lenS_sat hx fun n hn => lenS_sat hs fun len hlen => ?_) fun _ => trivial) fun _ => trivial
  obtain ⟨i', zv, hi', hzv, hden⟩ := zeroS_spec hz
  rw [hi] at hi'; cases hi'
  have hzl' : zv.cells.size = i.size := by
    have h1 := denL_length (hden β)
    have h2 := Nat.eq_of_beq_eq_true hzl
    rw [lenN_eq] at h2; simp at h1; omega
  split
  · rename_i len n
    refine R.Sat.boolC (fun hb1 => R.Sat.boolC (fun hb2 => ?_) fun _ => trivial) fun _ => trivial
    have hb1 := blt_lt hb1
    have hb2 := blt_lt hb2
    refine srcCells_len hr hx hn (Nat.le_refl n) fun new xs hnew hfc hxl => ?_
    have S : ApSet P w tys st elem i zv xv xs n := ⟨ht, hd, hi, hzv, hzl', hm, hn P w, hfc, hxl⟩
    unfold apKnown
    split
    · simp only [SV.den, Option.some.injEq] at hs; subst hs
      have hl0 : len = 0 := lenOf_slice hlen P w
      subst hl0
      refine R.Sat.boolC (fun h0 => ?_) fun h0 => ?_
      · have hn0 : n = 0 := Nat.eq_of_beq_eq_true h0
        subst hn0
        have hxs : xs = [] := List.eq_nil_of_length_eq_zero (by rw [hxl]; simp)
        subst hxs
        exact sem_val (hres _ _ (run_append_place (ty := ty) (bs := none) (sLen := 0) (sCap := 0) (w' := w) ht hd hi hm (hn P w) (hfc w rfl) (by simp [SN.den]) rfl)) rfl
      · have hn0 : 0 < n := by
          rcases Nat.eq_zero_or_pos n with h | h
          · subst h; cases h0
          · exact h
        obtain ⟨cap, hcap, hrun⟩ := run_append_grow' (ty := ty) (bs := none) (sLen := 0) (sCap := 0) (os := []) ht hd hi hzv hm (hn P w) hfc (fun w' _ => rfl) (by simp [SN.den]; exact hn0) (by simpa [SN.den] using hb1) (by simpa [SN.den] using hb2)
        refine ap_new (c := .lst new) (vs := xs) (len := n) hi hzl' hnew hxl (by simpa [SN.den] using hcap) rfl (hres _ _ ?_)
        rw [hrun]; simp [SN.den]
    · rename_i a ln c
      rw [den_slice] at hs
      obtain ⟨A, C, hA, hC, hLC, rfl⟩ := hs
      have hl0 : len = ln.den := lenOf_slice hlen P w
      simp only [SC.den, Option.some.injEq] at hC
      subst hC
      refine apLit_sat (ty := ty) hr S hnew hA (by omega) hb1 hb2 (fun v w' h => hres v w' ?_)
      rw [← hl0]; exact h
    · rename_i a ln nm k
      rw [den_slice] at hs
      obtain ⟨A, C, hA, hC, hLC, rfl⟩ := hs
      have hl0 : len = ln.den := lenOf_slice hlen P w
      refine apRest_sat (ty := ty) hr S hnew hA hC (by omega) hb1 hb2 (fun v w' h => hres v w' ?_)
      rw [← hl0]; exact h
    · trivial
  · unfold apSym
    split
    · exact apCat_sat (ty := ty) hr hx ht hd hi hzv hzl' hm (hn P w) hs hlen hres
    · exact apCat_sat (ty := ty) hr hx ht hd hi hzv hzl' hm (hn P w) hs hlen hres
    · exact apCat_sat (ty := ty) hr hx ht hd hi hzv hzl' hm (hn P w) hs hlen hres
    rename_i hno1 hno2 hno3
    clear hno1 hno2 hno3
    refine fnOf_sat hr hx fun g hg => ?_
    obtain ⟨xs, hxl, hgd, hfc⟩ := hg n.den (fun w' => hn P w')
    unfold apFn
    split
    · simp only [SV.den, Option.some.injEq] at hs; subst hs
      have hl0 := lenOf_slice hlen P w
      refine ⟨fun h0 => fun hs1 => ?_, fun h0 => ?_⟩
      · have hn0 : n.den = 0 := of_decide_eq_true h0
        have hxs : xs = [] := List.eq_nil_of_length_eq_zero (by rw [hxl, hn0])
        subst hxs
        exact sem_val (hres _ _ (run_append_place (ty := ty) (bs := none) (sLen := 0) (sCap := 0) (w' := w) (xs := []) ht hd hi hm (hn P w) (by rw [hs1]; exact hfc w rfl) (by omega) rfl)) (by rw [hn0]; rfl)
      have hpos : ¬ n.den = 0 := of_decide_eq_false h0
      rintro ⟨⟨hr1, hr2⟩, hs1⟩
      obtain ⟨cap, hcap, hrun⟩ := run_append_grow' (ty := ty) (bs := none) (sLen := 0) (sCap := 0) (os := []) (xs := xs) ht hd hi hzv hm (hn P w) (by rw [hs1]; exact hfc) (fun w' _ => rfl) (by omega) (by simpa using hr1) (by simpa using hr2)
      refine ap_new (c := .fn g n.den) (vs := xs) (len := n.den) hi hzl' ⟨hxl, hgd⟩ (by rw [hs1, hxl]; simp) (by simpa using hcap) rfl (hres _ _ ?_)
      rw [hrun]; simp
    · rename_i a ln
      rw [den_slice] at hs
      obtain ⟨A, C, hA, hC, hLC, rfl⟩ := hs
      simp only [SC.den, Option.some.injEq] at hC
      subst hC
      have hl0 := lenOf_slice hlen P w
      have hln : ln.den = 0 := by omega
      rw [hln] at hres
      refine ⟨fun h0 => fun hs1 => ?_, fun h0 => ?_⟩
      · have hn0 : n.den = 0 := of_decide_eq_true h0
        have hxs : xs = [] := List.eq_nil_of_length_eq_zero (by rw [hxl, hn0])
        subst hxs
        refine sem_val (hres _ _ (run_append_place (ty := ty) (bs := some A) (sLen := 0) (sCap := 0) (w' := w) (xs := []) ht hd hi hm (hn P w) (by rw [hs1]; exact hfc w rfl) (by omega) rfl)) ?_
        rw [den_slice]
        exact ⟨A, 0, hA, rfl, Nat.le_refl _, by rw [hn0]; rfl⟩
      have hpos : ¬ n.den = 0 := of_decide_eq_false h0
      rintro ⟨⟨hr1, hr2⟩, hs1⟩
      obtain ⟨cap, hcap, hrun⟩ := run_append_grow' (ty := ty) (bs := some A) (sLen := 0) (sCap := 0) (os := []) (xs := xs) ht hd hi hzv hm (hn P w) (by rw [hs1]; exact hfc)
        (fun w' hw' => firstCells_run (w := w) w' hw' (.inr (.inl ⟨A, 0, 0, rfl, by simp, by simp⟩))) (by omega) (by simpa using hr1) (by simpa using hr2)
      refine ap_new (c := .fn g n.den) (vs := xs) (len := n.den) hi hzl' ⟨hxl, hgd⟩ (by rw [hs1, hxl]; simp) (by simpa using hcap) rfl (hres _ _ ?_)
      rw [hrun]; simp
    · trivial
theorem zeroStr_size (n : Nat) : (zeroStr n).size = n := by simp [zeroStr, ByteArray.size]
theorem zeros_first (n : Nat) : ((zeroStr n).extract 0 n).data.map (fun b => Value.int .u8 (b.toNat : Int)) = Array.replicate n (.int .u8 0) := by
  apply Array.ext'
  simp [zeroStr, ByteArray.data_extract]
theorem zeroCells_u8 {z : Array Value} (hz : z = #[.int .u8 0]) (n : Nat) : Builtin.zeroCells z n = Array.replicate n (.int .u8 0) := by
  subst hz
  apply Array.ext
  · simp [Builtin.zeroCells]
  · intro i h1 h2
    simp [Builtin.zeroCells, Nat.mod_one]
/-- append of a make is append of so many zeros -/
theorem append_zeros {tys : Array TypeId} {st tn elem ty : TypeId} {i : TypeInfo} {z : Value} {k kn : IntKind} {bs : Option Addr} {sLen sCap n : Nat} (ht : tys[0]? = some st) (ht1 : tys[1]? = some tn) (hd : P.underlying st = some (.slice elem)) (htn : P.underlying tn = some (.int kn))
    (hi : P.info? elem = some i) (hz : i.zero = some z) (hzc : z.cells = #[.int .u8 0]) (h1 : i.size = 1) (hb : (sLen + n) * i.bytes < 70368744177664) (hb2 : sLen + n < 70368744177664) :
    (Builtin.append_ tys ty #[.slice bs sLen sCap, .int k n]).run P w = (Builtin.append_ #[st] ty #[.slice bs sLen sCap, .string (zeroStr n)]).run P w := by
  have hu := fun w => run_underlying (P := P) (w := w) hd
  have hu2 := fun w => run_underlying (P := P) (w := w) htn
  have hs := fun w => run_sizeOf (P := P) (w := w) hi
  have hti := fun w => run_typeInfo (P := P) (w := w) hi
  have hzv := fun w => run_zeroValue (P := P) (w := w) hi hz
  have hw : IntKind.i64.wrap (n : Int) = n := by rw [IntKind.wrap_i64]; omega
  have hneg : ¬ ((n : Int) < 0) := by omega
  have hnb : n * i.bytes ≤ (sLen + n) * i.bytes := Nat.mul_le_mul_right _ (by omega)
  have h48i : ¬ (281474976710656 < (n : Int) * (i.bytes : Int)) := by
    rw [← Int.natCast_mul]; omega
  have hzz := fun m => zeroCells_u8 hzc m
  have hstr : ∀ w' : World, (Builtin.firstCells i.size n (.string (zeroStr n))).run P w' = .ok (Array.replicate n (.int .u8 0)) w' := by
    intro w'
    simp only [Builtin.firstCells, Sem.run_pure]
    rw [zeros_first]
  have hlen : (Builtin.lenOf (.string (zeroStr n))).run P w = .ok n w := by
    simp only [Builtin.lenOf, Sem.run_pure, zeroStr_size]
  by_cases hle : sLen + n ≤ sCap
  · simp only [Builtin.append_, ht, ht1]
    by_cases hn : n = 0
    · have hns : n * i.size = 0 := by rw [hn, Nat.zero_mul]
      have hrep : Array.replicate n (Value.int .u8 0) = #[] := by rw [hn]; rfl
      rw [hrep] at hstr
      simp [hu, hu2, hs, hti, asInt, asIntOf, hw, hneg, h48i, hle, hlen, hns, hstr]
    · have hns : ¬ (n * i.size = 0) := by rw [h1]; omega
      simp [hu, hu2, hs, hti, hzv, asInt, asIntOf, hw, hneg, h48i, hle, hlen, hns, hzz, hstr]
  · have hnc := nextcap_le (Nat.lt_of_not_le hle)
    have hsmall : ¬ (281474976710656 < Builtin.nextslicecap (sLen + n) sCap * i.bytes) := by
      rcases Nat.lt_or_ge 256 (sLen + n) with h | h
      · have h1 : Builtin.nextslicecap (sLen + n) sCap ≤ 3 * (sLen + n) := by omega
        have h2 := Nat.mul_le_mul_right i.bytes h1
        rw [Nat.mul_assoc] at h2
        omega
      · have h2 := Nat.mul_le_mul_right i.bytes (hnc.2 h)
        rw [Nat.mul_assoc] at h2
        omega
    have h63' : ¬ (9223372036854775807 < ((sLen : Int) + (n : Int))) := by omega
    simp only [Builtin.append_, ht, ht1]
    by_cases hn : n = 0
    · have hns : n * i.size = 0 := by rw [hn, Nat.zero_mul]
      have hrep : Array.replicate n (Value.int .u8 0) = #[] := by rw [hn]; rfl
      rw [hrep] at hstr
      simp [hu, hu2, hs, hti, asInt, asIntOf, hw, hneg, h48i, hle, hlen, hns, hstr, hsmall, h63']
    · have hns : ¬ (n * i.size = 0) := by rw [h1]; omega
      simp [hu, hu2, hs, hti, hzv, asInt, asIntOf, hw, hneg, h48i, hle, hlen, hns, hzz, hstr, hsmall, h63']
theorem isZ1_spec {z : List SV} (h : isZ1 z = true) : z = [.int .u8 (.lit 0)] := by
  unfold isZ1 at h
  split at h
  · rfl
  · cases h
theorem isIntT_spec {t : TypeId} (h : isIntT P t = true) : ∃ k, P.underlying t = some (.int k) := by
  unfold isIntT at h
  cases hd : P.underlying t with
  | none => rw [hd] at h; cases h
  | some d =>
    rw [hd] at h
    cases d <;> first | exact ⟨_, rfl⟩ | cases h
theorem siLit_sat {α : Type} {x : SI} {d : R α} {f : Int → R α} {φ : α → Prop} (h : ∀ n, x = .lit n → (f n).Sat φ) (hd : d.Sat φ) : (x.asLit d f).Sat φ := by
  cases x with
  | lit n => exact h n rfl
  | _ => exact hd
theorem appendT_sat (hr : HeapRel0 P O w0 β H w) {tys : Array TypeId} {ty : TypeId} {s x : SV} {sv xv : Value} (hs : s.den β = some sv) (hx : x.den β = some xv) {res : Result Next}
    (hres : ∀ v w', (Builtin.append_ tys ty #[sv, xv]).run P w = .ok v w' → res = .ok (.value v) w') :
    (appendT P H base tys s x).Sat (OpSem P H β w base res) := by
  refine R.Sat.boolC (fun _ => appendP_sat hr hs hx hres) fun _ => ?_
  refine R.Sat.opt fun st ht => R.Sat.opt fun tn ht1 => R.Sat.boolC (fun hint => R.Sat.opt fun d hd => asSl_sat (fun elem hde => ?_) trivial) fun _ => trivial
  subst hde
  refine R.Sat.opt fun i hi => R.Sat.opt fun z hz => R.Sat.boolC (fun hz1 => R.Sat.boolC (fun hsz => lenS_sat hs fun len hlen => ?_) fun _ => trivial) fun _ => trivial
  obtain ⟨kn, htn⟩ := isIntT_spec hint
  obtain ⟨i', zv, hi', hzv, hden⟩ := zeroS_spec hz
  rw [hi] at hi'; cases hi'
  have h1 : i.size = 1 := Nat.eq_of_beq_eq_true hsz
  have hzc : zv.cells = #[.int .u8 0] := by
    have := hden β
    rw [isZ1_spec hz1] at this
    apply Array.ext'
    exact (Option.some.inj this).symm
  rcases asInt_cases x with ⟨k, n, rfl⟩ | hno
  · show (appendN P H base st i.bytes s len n).Sat _
    have hxv : xv = .int k n.den := (Option.some.inj hx).symm
    subst hxv
    have key : ∀ (m : Nat) (x' : SV), n.den = m → roomy (len.den + m) i.bytes → x'.den β = some (.string (zeroStr m)) → (appendP P H base #[st] s x').Sat (OpSem P H β w base res) := by
      intro m x' hm hro hx'
      refine appendP_sat (ty := ty) hr hs hx' fun v w' h => hres v w' ?_
      rw [hm]
      have hsl : ∃ bs c, sv = .slice bs len.den c := by
        have := hlen P w
        cases sv <;> simp [Builtin.lenOf] at this
        case slice bs l c => exact ⟨bs, c, by rw [this]⟩
        case string str =>
          exfalso
          simp [Builtin.append_, run_underlying hd] at h
      obtain ⟨bs, c, rfl⟩ := hsl
      rw [append_zeros ht ht1 hd htn hi hzv hzc h1 hro.1 hro.2]
      exact h
    refine siLit_sat (fun m hm => ?_) ?_
    · cases m with
      | negSucc m => trivial
      | ofNat m =>
        have hn : n.den = (m : Nat) := by rw [hm]; rfl
        refine SN.asLit_sat (fun l hl => R.Sat.boolC (fun hb1 => R.Sat.boolC (fun hb2 => key m _ hn ?_ rfl) fun _ => trivial) fun _ => trivial) fun _ => fun hro => key m _ hn hro rfl
        rw [hl]
        exact ⟨blt_lt hb1, blt_lt hb2⟩
    · exact fun hp => key n.den.toNat _ (by omega) hp.2 rfl
  · rw [hno]; trivial
theorem copyV_sat (hr : HeapRel0 P O w0 β H w) {tys : Array TypeId} {st elem ty : TypeId} {i : TypeInfo} {d x : SV} {dv xv : Value} (hdv : d.den β = some dv) (hx : x.den β = some xv) (ht : tys[0]? = some st) (hd : P.underlying st = some (.slice elem)) (hi : P.info? elem = some i) (hs1 : i.size = 1)
    {len n : SN} (hn : ∀ (P : Program) (w' : World), (Builtin.lenOf xv).run P w' = .ok n.den w') (hlen : ∀ (P : Program) (w' : World), (Builtin.lenOf dv).run P w' = .ok len.den w') {res : Result Next}
    (hres : ∀ v w', (Builtin.copy_ tys ty #[dv, xv]).run P w = .ok v w' → res = .ok (.value v) w') : (copyV H d x len n).Sat (OpSem P H β w base res) := by
  unfold copyV
  split
  · rename_i a ln c
    rw [den_slice] at hdv
    obtain ⟨A, C, hA, hC, _, rfl⟩ := hdv
    have hl0 : len.den = ln.den := lenOf_slice hlen P w
    refine bytesV_sat hr hx (hn P w) fun Y xs h1 h2 h3 => fun hle => entry_sat fun e he => ?_
    split
    · rename_i cl wh el
      obtain ⟨ll, vs, rest, lo, hi', hbl, h0', hc, hh, hfz, hw, hcap⟩ := hr.entries _ _ he
      obtain ⟨l', hl', rfl⟩ := SA.den_some hA
      rw [hbl] at hl'; cases hl'
      have hsc : ∀ y ∈ xs, y.oneCell' = true := by
        intro y hy
        obtain ⟨j, hj⟩ := List.getElem?_of_mem hy
        have hlt := (List.getElem?_eq_some_iff.1 hj).1
        rw [h2 j (by omega)] at hj
        cases hj; rfl
      refine putC_sat hc h1 h2 fun c' hc' hle2 => ?_
      have hrun := run_storeCells (P := P) xs (vs ++ rest) (ll.off + a.off.den) 0 w hh hsc hfz.at (by rw [h0']; simp; omega)
      rw [Nat.add_zero, h0', Nat.zero_add, overC_append hle2] at hrun
      have hu := run_underlying (w := w) hd
      have hcopy : ∀ W', (storeCells ⟨ll.blk, a.off.den, none⟩ xs).run P w = .ok () W' → (Builtin.copy_ tys ty #[.slice (some ⟨ll.blk, 0 + a.off.den, none⟩) ln.den C, xv]).run P w = .ok (goInt (n.den : Nat)) W' := by
        intro W' hst
        have hmin : min n.den ln.den = n.den := by omega
        have h4 := h3 w rfl
        have h5 := hn P w
        unfold Builtin.copy_
        simp only [ht, List.getElem?_toArray, List.getElem?_cons_zero, List.getElem?_cons_succ, Sem.run_bind, hu, Result.andThen_ok, h5, run_sizeOf hi, hs1, hmin, h4]
        rw [Nat.zero_add]
        simp [hst]
      rw [h0'] at hres
      refine fun hb => ⟨.value _, _, _, β, hres _ _ (hcopy _ hrun), rfl, by show some (Value.int .i64 n.toI.den) = _; rw [toI_den]; rfl, Eff.turn hbl ?_, ?_⟩
      · have hlt : ll.blk < w.heap.size := (Array.getElem?_eq_some_iff.1 hh).1
        refine ⟨ll, overC vs a.off.den xs, rest, lo, hi', hbl, h0', hc', by simp [hlt], ?_, hw, ?_⟩
        · simp only [List.length_append, overC_length hle2] at hfz ⊢; exact hfz
        · intro j hj
          have := hcap j hj
          simp only [List.length_append, overC_length hle2] at this ⊢; exact this
      · intro m e hm
        simp at hm
        obtain ⟨rfl, rfl⟩ := hm
        exact ⟨_, he, rfl⟩
    · trivial
  · trivial
theorem copyT_sat (hr : HeapRel0 P O w0 β H w) {tys : Array TypeId} {ty : TypeId} {d x : SV} {dv xv : Value} (hdv : d.den β = some dv) (hx : x.den β = some xv) {res : Result Next}
    (hres : ∀ v w', (Builtin.copy_ tys ty #[dv, xv]).run P w = .ok v w' → res = .ok (.value v) w') :
    (copyT P H tys d x).Sat (OpSem P H β w base res) := by
  refine R.Sat.opt fun st ht => R.Sat.opt fun td hd => ?_
  have hu := run_underlying (w := w) hd
  split
  · rename_i elem
    refine R.Sat.opt fun i hi => lenS_sat hx fun n hn => lenS_sat hdv fun len hlen => ?_
    split
    · rename_i len n
      refine srcCells_len (m := Nat.min n len) hr hx hn (Nat.min_le_left _ _) fun new xs hnew hfc hxl => ?_
      have hcopy : ∀ (bs : Option Addr) (c : Nat) (w' : World), dv = .slice bs len c → (match bs with | some a => storeCells a xs | none => pure () : Sem Unit).run P w = .ok () w' →
          (Builtin.copy_ tys ty #[dv, xv]).run P w = .ok (goInt (Nat.min n len : Nat)) w' := by
        intro bs c w' hdv' hst
        subst hdv'
        have h1 := hfc w rfl
        have h2 := hn P w
        simp only [SN.den] at h2
        unfold Builtin.copy_
        simp only [ht, List.getElem?_toArray, List.getElem?_cons_zero, List.getElem?_cons_succ, Sem.run_bind, hu, Result.andThen_ok, h2, run_sizeOf hi, h1]
        cases bs with
        | none => simp at hst; subst hst; simp
        | some a => simp at hst; simp [hst]
      split
      · simp only [SV.den, Option.some.injEq] at hdv; subst hdv
        have hl0 := lenOf_slice hlen P w
        simp only [SN.den] at hl0
        subst hl0
        exact sem_val (hres _ _ (hcopy none 0 w rfl rfl)) rfl
      · rename_i a ln c
        rw [den_slice] at hdv
        obtain ⟨A, C, hA, hC, _, rfl⟩ := hdv
        have hl0 : len = ln.den := lenOf_slice hlen P w
        split
        · rename_i hm0
          have hxs : xs = [] := List.eq_nil_of_length_eq_zero (by rw [hxl, hm0]; simp)
          subst hxs
          refine sem_val (x := goInt (Nat.min n len : Nat)) (hres _ _ (hcopy (some A) C w (by rw [← hl0]) rfl)) ?_
          rw [hm0]; rfl
        · split
          · rename_i hsc
            refine entry_sat fun e he => ?_
            split
            · rename_i cl wh el
              obtain ⟨ll, vs, rest, lo, hi', hbl, h0', hc, hh, hfz, hw, hcap⟩ := hr.entries _ _ he
              obtain ⟨l', hl', rfl⟩ := SA.den_some hA
              rw [hbl] at hl'; cases hl'
              refine wrCells_sat hc hnew fun c' hc' hle => ?_
              have hrun := run_storeCells (P := P) xs (vs ++ rest) (ll.off + a.off.den) 0 w hh (denL_one hnew hsc) hfz.at (by rw [h0']; simp; omega)
              rw [Nat.add_zero, h0', Nat.zero_add, overC_append hle] at hrun
              refine fun hb => ⟨.value _, _, _, β, hres _ _ (hcopy _ C _ (by rw [← hl0]) (by rw [h0', Nat.zero_add]; exact hrun)), rfl, rfl, Eff.turn hbl ?_, ?_⟩
              · have hlt : ll.blk < w.heap.size := (Array.getElem?_eq_some_iff.1 hh).1
                refine ⟨ll, overC vs a.off.den xs, rest, lo, hi', hbl, h0', hc', by simp [hlt], ?_, hw, ?_⟩
                · simp only [List.length_append, overC_length hle] at hfz ⊢; exact hfz
                · intro j hj
                  have := hcap j hj
                  simp only [List.length_append, overC_length hle] at this ⊢; exact this
              · intro m e hm
                simp at hm
                obtain ⟨rfl, rfl⟩ := hm
                exact ⟨_, he, rfl⟩
            · trivial
          · trivial
      · trivial
    · exact R.Sat.boolC (fun hs1 => copyV_sat (ty := ty) hr hdv hx ht hd hi (Nat.eq_of_beq_eq_true hs1) hn hlen hres) fun _ => trivial
  · trivial

theorem run_builtin_value {P : Program} {b : Builtin} {tys : Array TypeId} {ty : TypeId} {cs : Array Bool} {args : Array Value} {w w' : World} {v : Value} {s : Sem Value} (h : builtin b tys ty cs args = (do pure (.value (← s)) : Sem Next)) (hs : s.run P w = .ok v w') :
    (builtin b tys ty cs args).run P w = .ok (.value v) w' := by
  rw [h]; simp [hs]
theorem oCallB_sat (hr : HeapRel0 P O w0 β H w) {b : Builtin} {args : Array Operand} {tys : Array TypeId} (hev : ∀ x ∈ args.toList, (ev x).den β = some (ρ x)) :
    (oCallB b ⟨.builtin b, args, tys⟩ P ev H base).Sat (OpSem P H β w base ((execOp ρ ⟨dst, .call ⟨.builtin b, args, tys⟩, t, pos, af, g⟩).run P w)) := by
  have hargs := mapEv_den args.toList hev
  have hex : (execOp ρ ⟨dst, .call ⟨.builtin b, args, tys⟩, t, pos, af, g⟩).run P w = (builtin b tys t (args.map fun | .const _ => true | _ => false) (args.toList.map ρ).toArray).run P w := by
    simp only [execOp, resolve, Sem.run_bind, Sem.run_pure, Result.andThen_ok, invoke]
    congr 2
    simp [← Array.toList_map]
  rw [hex]
  generalize (args.map fun | Operand.const _ => true | _ => false) = cs
  show (builtinT P H base b tys (mapN ev args.toList)).Sat _
  generalize hA : mapN ev args.toList = as at hargs
  generalize args.toList.map ρ = vs at hargs
  unfold builtinT
  split
  · rename_i x xs
    obtain ⟨y, ys, hy, hys, rfl⟩ := denL_cons.1 hargs
    exact lenT_sat hy (ty := t) fun n hn => run_builtin_value rfl hn
  · rename_i s x
    obtain ⟨y, ys, hy, hys, rfl⟩ := denL_cons.1 hargs
    obtain ⟨z, zs, hz, hzs, rfl⟩ := denL_cons.1 hys
    rw [denL_nil] at hzs; subst hzs
    exact appendT_sat hr hy hz (ty := t) fun v w' h => run_builtin_value rfl h
  · rename_i d x
    obtain ⟨y, ys, hy, hys, rfl⟩ := denL_cons.1 hargs
    obtain ⟨z, zs, hz, hzs, rfl⟩ := denL_cons.1 hys
    rw [denL_nil] at hzs; subst hzs
    exact copyT_sat hr hy hz (ty := t) fun v w' h => run_builtin_value rfl h
  · rename_i x y
    obtain ⟨y1, ys, hy, hys, rfl⟩ := denL_cons.1 hargs
    obtain ⟨z, zs, hz, hzs, rfl⟩ := denL_cons.1 hys
    rw [denL_nil] at hzs; subst hzs
    refine (min2_sat (P := P) (w := w) hy hz).bind fun v ⟨u, hu, hrun⟩ => sem_val (run_builtin_value rfl (s := Builtin.min_ tys t #[y1, z]) ?_) hu
    simp [Builtin.min_, hrun]
  · trivial
theorem asFunc_cases (v : SV) : (∃ f xs ys, v = .func f xs ys) ∨ ∀ {γ : Type} (d : γ) (f : SFn → List SV → List SV → γ), v.asFunc d f = d := by
  cases v <;> first | exact .inl ⟨_, _, _, rfl⟩ | exact .inr fun _ _ => rfl
theorem callT_sat {f : SV} {fv : Value} {as : List SV} {vs : List Value} (hf : f.den β = some fv) (has : SV.denL β as = some vs) :
    (callT f as).Sat (OpSem P H β w base ((do let d ← Deferred.ofValue fv vs.toArray; invoke d.target d.args : Sem Next).run P w)) := by
  unfold callT
  rcases asFunc_cases f with ⟨fn, xs, ys, h⟩ | h
  · rw [h] at hf ⊢
    simp only [SV.den, Option.bind_eq_some_iff, Option.map_eq_some_iff] at hf
    obtain ⟨F, hF, x, hx, y, hy, rfl⟩ := hf
    cases fn with
    | yield nm =>
      simp only [SFn.den, Option.map_eq_some_iff] at hF
      obtain ⟨l, hl, rfl⟩ := hF
      refine ⟨l, x ++ vs, hl, app_den hx has, ?_⟩
      simp [Deferred.ofValue, invoke]
    | fn fn =>
      simp only [SFn.den, Option.some.injEq] at hF
      subst hF
      cases fn with
      | func g =>
        refine ⟨x ++ (vs ++ y), app_den hx (app_den has hy), ?_⟩
        simp [Deferred.ofValue, invoke]
      | method => trivial
      | methodOf => trivial
      | via => trivial
      | yield => trivial
  · rw [h]; trivial
theorem viaT_sat0 {path : List FieldStep} {g : FuncId} {as : List SV} {vs : List Value} (has : SV.denL β as = some vs) :
    (viaT P path g as).Sat fun r => ∃ args x xs y xt e, r = .enter g args ∧ vs = x :: xs ∧ SV.denL β args = some (y :: xs) ∧ (∀ ty, (follow path ty (.val x)).run P w = .ok (xt, .val y) w) ∧ (underlying xt).run P w = .ok (.pointer e) w ∧ path.isEmpty = false := by
  unfold viaT
  split
  · rename_i s l rest
    obtain ⟨x, xs, hx, hxs, rfl⟩ := denL_cons.1 has
    simp only [SV.den, Option.map_eq_some_iff] at hx
    obtain ⟨cs, hcs, rfl⟩ := hx
    split
    · trivial
    · rename_i hd
      refine R.Sat.opt fun d hu => ?_
      split
      · rename_i fs
        refine R.Sat.opt fun f hf => R.Sat.opt fun d2 hu2 => ?_
        have h1 := run_underlying (w := w) hu
        have h2 := run_underlying (w := w) hu2
        rw [nth_eq] at hf
        have hf' : fs[s.index]? = some f := by rw [← hf]; simp
        split
        · rename_i e
          refine partS_sat (w := w) hcs fun v x hv hpart => ?_
          refine ⟨_, _, _, x, f.type, e, rfl, rfl, denL_cons.2 ⟨x, xs, hv, hxs, rfl⟩, fun ty => ?_, h2, rfl⟩
          simp [follow, h1, hf', hd, hpart]
        · trivial
      · trivial
  · trivial
theorem viaT_sat {ty : TypeId} {path : Array FieldStep} {g : FuncId} {cap : Array Value} {as : List SV} {vs : List Value} (has : SV.denL β as = some vs) :
    (viaT P path.toList g as).Sat (OpSem P H β w base ((invoke (.fn (.via ty path g true) cap) vs.toArray : Sem Next).run P w)) := by
  refine R.Sat.mono (viaT_sat0 (w := w) has) fun r ⟨args, x, xs, y, xt, e, hr, hvs, hargs, hf, hu, _⟩ => ?_
  subst hr hvs
  refine ⟨y :: xs, hargs, ?_⟩
  simp [invoke, receiverVia, hf, receiverAt, hu, Place.get]
theorem methodT_sat {ty : TypeId} {name : String} {cap : Array Value} {as : List SV} {vs : List Value} (has : SV.denL β as = some vs) :
    (methodT P ty name as).Sat (OpSem P H β w base ((invoke (.fn (.methodOf ty name) cap) vs.toArray : Sem Next).run P w)) := by
  unfold methodT
  refine R.Sat.opt fun d hu => ?_
  split
  · rename_i fs
    refine R.Sat.opt fun i hi => R.Sat.opt fun m hm => ?_
    split
    · rename_i g hmf
      have h1 := run_underlying (w := w) hu
      have h2 := run_typeInfo (w := w) hi
      refine R.Sat.mono (viaT_sat0 (w := w) has) fun r ⟨args, x, xs, y, xt, e, hr, hvs, hargs, hf, hu, hp⟩ => ?_
      subst hr hvs
      refine ⟨y :: xs, hargs, ?_⟩
      have hm' : (i.methods.find? fun m => m.name == name) = some m := hm
      have hmeth : ∀ n, (method (n + 1) ty x name).run P w = .ok (g, y) w := fun n => by
        unfold method
        simp [h2, hm', hmf, hf, receiverAt, hu, Place.get]
      have hm2 : (method (P.types.size + Made.depth) ty x name).run P w = .ok (g, y) w := hmeth (P.types.size + 99)
      simp [invoke, h1, callMethod, hm2]
    · trivial
  · trivial
theorem callP_sat {f : SV} {fv : Value} {as : List SV} {vs : List Value} (hf : f.den β = some fv) (has : SV.denL β as = some vs) :
    (callP P f as).Sat (OpSem P H β w base ((do let d ← Deferred.ofValue fv vs.toArray; invoke d.target d.args : Sem Next).run P w)) := by
  unfold callP
  split
  · rename_i ty path g xs ys
    simp only [SV.den, Option.bind_eq_some_iff, Option.map_eq_some_iff] at hf
    obtain ⟨F, hF, x, hx, y, hy, rfl⟩ := hf
    simp only [SFn.den, Option.some.injEq] at hF
    subst hF
    have h := viaT_sat (P := P) (H := H) (w := w) (base := base) (ty := ty) (path := path) (g := g) (cap := y.toArray) (app_den hx has)
    simpa [Deferred.ofValue] using h
  · rename_i ty name xs ys
    simp only [SV.den, Option.bind_eq_some_iff, Option.map_eq_some_iff] at hf
    obtain ⟨F, hF, x, hx, y, hy, rfl⟩ := hf
    simp only [SFn.den, Option.some.injEq] at hF
    subst hF
    have h := methodT_sat (P := P) (H := H) (w := w) (base := base) (ty := ty) (name := name) (cap := y.toArray) (app_den hx has)
    simpa [Deferred.ofValue] using h
  · exact callT_sat hf has
theorem oCallV_sat {f : Operand} {args : Array Operand} {tys : Array TypeId} (hf : (ev f).den β = some (ρ f)) (hev : ∀ x ∈ args.toList, (ev x).den β = some (ρ x)) :
    (oCallV f ⟨.value f, args, tys⟩ P ev H base).Sat (OpSem P H β w base ((execOp ρ ⟨dst, .call ⟨.value f, args, tys⟩, t, pos, af, g⟩).run P w)) := by
  have hargs := mapEv_den args.toList hev
  have h := callP_sat (P := P) (H := H) (w := w) (base := base) hf hargs
  have e : (args.toList.map ρ).toArray = args.map ρ := by simp [← Array.toList_map]
  rw [e] at h
  exact h

/-- EVERY OPERATION -/
theorem opS_sat (hr : HeapRel0 P O w0 β H w) (o : Oper) (hev : ∀ x ∈ o.op.operands, (ev x).den β = some (ρ x)) :
    (opS P ev H base o).Sat (OpSem P H β w base ((execOp ρ o).run P w)) := by
  obtain ⟨dst, op, t, pos, af, g⟩ := o
  show (opD op P ev H base).Sat _
  cases op <;> simp only [Op.operands] at hev
  case move x => exact (oMove_sat (hev x (by simp))).1
  case assign x => exact (oMove_sat (hev x (by simp))).2
  case pick c a b => exact oPick_sat (hev c (by simp)) (hev a (by simp)) (hev b (by simp))
  case alloc e => exact oAlloc_sat (ev := ev)
  case box e x => exact oBox_sat (hev x (by simp))
  case build ty ps => exact oBuild_sat fun x hx => hev x (by simpa using hx)
  case buildSlice ty n ps => exact oBuildSlice_sat fun x hx => hev x (by simpa using hx)
  case load ty a => exact oLoad_sat hr (hev a (by simp))
  case store ty a x => exact oStore_sat hr (hev a (by simp)) (hev x (by simp))
  case nilCheck x => exact oNil_sat (hev x (by simp))
  case binOp op ty x y yt => exact oBin_sat (hev x (by simp)) (hev y (by simp))
  case unOp op ty x => exact oUn_sat (hev x (by simp))
  case convert s d x => exact oConv_sat hr (hev x (by simp))
  case sliceToArrayPointer ty x => exact oArr_sat (hev x (by simp))
  case makeInterface ty x => exact oIface_sat (hev x (by simp))
  case makeFunc fn xs ys => exact oFunc_sat (fun x hx => hev x (by simp at hx ⊢; exact .inl hx)) (fun x hx => hev x (by simp at hx ⊢; exact .inr hx))
  case makeSlice ty l c => exact oMakeSlice_sat (hev l (by simp)) (hev c (by simp))
  case slice ty x lo hi mx =>
    have ho : ∀ v : Option Operand, (∀ y, v = some y → (ev y).den β = some (ρ y)) → ODen β (v.map ev) (v.map ρ) := by
      intro v hv
      cases v with
      | none => trivial
      | some y => exact hv y rfl
    exact oSlice_sat (hev x (by simp)) (ho lo fun y hy => hev y (by subst hy; simp)) (ho hi fun y hy => hev y (by subst hy; simp)) (ho mx fun y hy => hev y (by subst hy; simp))
  case fieldAddr ty x n => exact oFieldAddr_sat (hev x (by simp))
  case field ty x n => exact oField_sat (hev x (by simp))
  case indexAddr ty x i => exact oIndexAddr_sat (hev x (by simp)) (hev i (by simp))
  case index ty x i => exact oIndex_sat (hev x (by simp)) (hev i (by simp))
  case extract x n => exact oExtract_sat (hev x (by simp))
  case call c =>
    obtain ⟨callee, args, tys⟩ := c
    simp only [Call.operands] at hev
    cases callee with
    | value f => exact oCallV_sat (hev f (by simp)) fun x hx => hev x (by simp at hx ⊢; exact .inr hx)
    | invoke r m => trivial
    | builtin b => exact oCallB_sat hr fun x hx => hev x (by simp at hx ⊢; exact hx)
  all_goals trivial

end
end Go.Sim


/-
  The symbolic simulator, seventeenth part: frames and machines; the plain steps.
-/
namespace Go.Sim
variable {α : Type}

/-- obligations of a tree -/
def Tree.Ob (t : Tree) (D : SV → List SO → Prop) (S : SS → Prop) : Prop :=
  match t with
  | .done v H => D v H
  | .stop s => S s
  | .need p t => p ∧ t.Ob D S
  | .fork b t f => (b = true → t.Ob D S) ∧ (b = false → f.Ob D S)
  | .stuck _ => False
  | .any k => ∀ z, (k z).Ob D S
theorem R.tree_ob {r : R α} {k : α → Tree} {φ : α → Prop} {D : SV → List SO → Prop} {S : SS → Prop} (h : r.Sat φ) (ho : (r.tree k).Ob D S) : ∃ a, φ a ∧ (k a).Ob D S := by
  induction r with
  | ok a => exact ⟨a, h, ho⟩
  | need p r ih => exact ih (h ho.1) ho.2
  | fork b t f iht ihf =>
    cases b with
    | true => exact iht (h.1 rfl) (ho.1 rfl)
    | false => exact ihf (h.2 rfl) (ho.2 rfl)
  | stuck n => exact ho.elim
  | any k ih => obtain ⟨z, h⟩ := h; exact ih z h (ho z)

def GlobRel (glob : Nat → Option Nat) (β : Val) : Prop := ∀ g nm, glob g = some nm → ∃ l, β nm = some l ∧ l.blk = g ∧ l.off = 0
theorem GlobRel.mono {glob : Nat → Option Nat} {β β' : Val} (h : GlobRel glob β) (hl : β.le β') : GlobRel glob β' := fun g nm hg => let ⟨l, a, b⟩ := h g nm hg; ⟨l, hl _ _ a, b⟩
def ItemRel (β : Val) : SItem → Item → Prop
  | .code c, .code c' => c' = c
  | .inBlock i, .inBlock j => j = i
  | .inLoop c, .inLoop c' => c' = c
  | .inLoop c, .code x => x = .loop c
  | .inScope c, .inScope c' => c' = c
  | .ops os l, .inRegion os' idx => os' = os ∧ ∃ pre, os.toList = pre ++ l ∧ idx = List.range' pre.length l.length
  | .inRF n, .inRangeFunc b => ∃ l, β n = some l ∧ b = l.blk
  | .endRF n, .endRangeFunc b => ∃ l, β n = some l ∧ b = l.blk
  | .beginRound, .beginRound => True
  | _, _ => False
def TodoRel (β : Val) : List SItem → List Item → Prop
  | [], [] => True
  | x :: k, y :: k' => ItemRel β x y ∧ TodoRel β k k'
  | _, _ => False
theorem ItemRel.mono {β β' : Val} (hl : β.le β') {x : SItem} {y : Item} (h : ItemRel β x y) : ItemRel β' x y := by
  cases x <;> cases y <;> first
    | exact h
    | (obtain ⟨l, a, b⟩ := h; exact ⟨l, hl _ _ a, b⟩)
theorem TodoRel.mono {β β' : Val} (hl : β.le β') : ∀ {x : List SItem} {y : List Item}, TodoRel β x y → TodoRel β' x y
  | [], [], _ => trivial
  | _ :: _, _ :: _, h => ⟨h.1.mono hl, TodoRel.mono hl h.2⟩
  | [], _ :: _, h => h.elim
  | _ :: _, [], h => h.elim
def RoundRel (β : Val) : Option Nat → Option Nat → Prop
  | none, none => True
  | some n, some b => ∃ l, β n = some l ∧ b = l.blk
  | _, _ => False
theorem RoundRel.mono {β β' : Val} (hl : β.le β') {x y : Option Nat} (h : RoundRel β x y) : RoundRel β' x y := by
  cases x <;> cases y <;> first | exact h | (obtain ⟨l, a, b⟩ := h; exact ⟨l, hl _ _ a, b⟩)
structure FrameRel (β : Val) (s : SF) (f : Frame) : Prop where
  fn : f.fn = s.fn
  tmps : SV.denL β s.tmps = some f.tmps.toList
  todo : TodoRel β s.todo f.todo
  defers : SD.denL β s.defers = some f.defers
  mode : f.mode = .run
  kind : f.kind = .normal
  round : RoundRel β s.roundOf f.roundOf
theorem FrameRel.mono {β β' : Val} (hl : β.le β') {s : SF} {f : Frame} (h : FrameRel β s f) : FrameRel β' s f :=
  ⟨h.fn, SV.denL_mono hl _ h.tmps, h.todo.mono hl, SD.denL_mono hl h.defers, h.mode, h.kind, h.round.mono hl⟩
def FramesRel (β : Val) : List SF → List Frame → Prop
  | [], [] => True
  | s :: r, f :: r' => FrameRel β s f ∧ FramesRel β r r'
  | _, _ => False
theorem FramesRel.mono {β β' : Val} (hl : β.le β') : ∀ {x : List SF} {y : List Frame}, FramesRel β x y → FramesRel β' x y
  | [], [], _ => trivial
  | _ :: _, _ :: _, h => ⟨h.1.mono hl, FramesRel.mono hl h.2⟩
  | [], _ :: _, h => h.elim
  | _ :: _, [], h => h.elim
theorem frame_eta {f : Frame} (h : f.mode = .run) : f = f.atR ⟨f.tmps, f.defers⟩ f.todo := by
  cases f; simp only [Frame.atR] at *; subst h; rfl

/-- the setting of a run: what lies beneath its frames, the world at its start, the blocks that it may write, its bottom function -/
structure Base where
  P : Program
  glob : Nat → Option Nat
  O : Nat → Prop
  w0 : World
  cs : List Frame
  fn0 : FuncId
  /-- names that stand for something from the start -/
  fix : Val
structure BRel (B : Base) (β : Val) : Prop where
  glob : GlobRel B.glob β
  fix : B.fix.le β
theorem BRel.mono {B : Base} {β β' : Val} (h : BRel B β) (hl : β.le β') : BRel B β' := ⟨h.glob.mono hl, Val.le_trans h.fix hl⟩
structure MRel (B : Base) (s : SS) (m : Machine) : Prop where
  ex : ∃ β fr frs w, m = lone fr (frs ++ B.cs) w ∧ FramesRel β s.frames (fr :: frs) ∧ HeapRel B.P B.O B.w0 β s.heap w ∧ BRel B β ∧ ((fr :: frs).getLast?).map (·.fn) = some B.fn0
structure DoneRel (B : Base) (v : SV) (H : List SO) (m : Machine) : Prop where
  ex : ∃ β fr v' w, m = lone fr B.cs w ∧ fr.fn = B.fn0 ∧ fr.leaving B.P w (.returned v') ∧ v.den β = some v' ∧ HeapRel B.P B.O B.w0 β H w ∧ BRel B β
/-- from here the run comes to an end, or to a state from which 'go' goes on -/
def After (B : Base) (go : SS → Tree) (D : SV → List SO → Prop) (S : SS → Prop) (m : Machine) : Prop :=
  ∃ m', Steps B.P m m' ∧ ((∃ s', (go s').Ob D S ∧ MRel B s' m') ∨ (∃ v H, D v H ∧ DoneRel B v H m'))
theorem After.of_steps {B : Base} {go : SS → Tree} {D : SV → List SO → Prop} {S : SS → Prop} {m m1 : Machine} (h : Steps B.P m m1) (h' : After B go D S m1) : After B go D S m :=
  let ⟨m', a, b⟩ := h'; ⟨m', h.trans a, b⟩
theorem After.step {B : Base} {go : SS → Tree} {D : SV → List SO → Prop} {S : SS → Prop} {m m1 : Machine} (h : step B.P m = .next m1) (h' : After B go D S m1) : After B go D S m := h'.of_steps (.one h)

section
variable {B : Base} {go : SS → Tree} {D : SV → List SO → Prop} {S : SS → Prop}

theorem evS_den {glob : Nat → Option Nat} {β : Val} {T : List SV} {a : Act} (hT : SV.denL β T = some a.tmps.toList) (hg : GlobRel glob β) (x : Operand) : (evS glob T x).den β = some (a.eval x) := by
  cases x with
  | tmp t =>
    show (optC (nth T t) undefS fun v => v).den β = some (a.tmps.getD t undef)
    rw [nth_eq]
    cases h : T[t]? with
    | none =>
      have hlen := denL_length hT
      have : a.tmps.size ≤ t := by
        rw [List.getElem?_eq_none_iff] at h
        simp at hlen; omega
      rw [Array.getD_eq_getD_getElem?, Array.getElem?_eq_none this]; rfl
    | some v =>
      obtain ⟨x, hx, hd⟩ := denL_get hT h
      rw [Array.getD_eq_getD_getElem?, show a.tmps[t]? = some x from by rw [← hx]; simp]
      exact hd
  | const v => exact constV_den β v
  | global g =>
    show (evGlob g glob T).den β = _
    unfold evGlob
    split
    · rename_i nm h
      obtain ⟨l, h1, h2, h3⟩ := hg g nm h
      simp [SV.den, SA.den, h1, h2, h3, SN.den, Act.eval]
    · rfl
  | func f => rfl
theorem putT_den {β : Val} {T : List SV} {a : Act} (hT : SV.denL β T = some a.tmps.toList) (dst : Option Tmp) {v : SV} {x : Value} (hv : v.den β = some x) : SV.denL β (putT T dst v) = some (a.put dst x).tmps.toList := by
  cases dst with
  | none => exact hT
  | some d =>
    show SV.denL β (setN T d v) = _
    rw [setN_eq]
    simp only [Act.put, Array.toList_setIfInBounds]
    exact denL_set hT hv
/-- the frame with another todo -/
theorem FrameRel.to {β : Val} {s : SF} {f : Frame} (h : FrameRel β s f) {k : List SItem} {k' : List Item} (hk : TodoRel β k k') : FrameRel β (s.to k) (f.atR ⟨f.tmps, f.defers⟩ k') :=
  ⟨h.fn, h.tmps, hk, h.defers, rfl, h.kind, h.round⟩
theorem last_fn {f f' : Frame} {frs : List Frame} (h : f'.fn = f.fn) : ((f' :: frs).getLast?).map (·.fn) = ((f :: frs).getLast?).map (·.fn) := by
  cases frs with
  | nil => simp [h]
  | cons g r => simp [List.getLast?_cons_cons]
/-- one step of the top frame alone, nothing else turned -/
theorem after_to {s : SF} {rest : List SF} {H : List SO} {β : Val} {fr : Frame} {frs : List Frame} {w : World} (hF : FrameRel β s fr) (hR : FramesRel β rest frs) (hH : HeapRel B.P B.O B.w0 β H w) (hG : BRel B β)
    (hl : ((fr :: frs).getLast?).map (·.fn) = some B.fn0) {k : List SItem} {k' : List Item} (hk : TodoRel β k k') (hgo : (go ⟨s.to k :: rest, H⟩).Ob D S)
    (hst : step B.P (lone (fr.atR ⟨fr.tmps, fr.defers⟩ fr.todo) (frs ++ B.cs) w) = .next (lone (fr.atR ⟨fr.tmps, fr.defers⟩ k') (frs ++ B.cs) w)) : After B go D S (lone fr (frs ++ B.cs) w) := by
  rw [frame_eta hF.mode]
  exact ⟨_, .one hst, .inl ⟨_, hgo, ⟨β, _, frs, w, rfl, ⟨hF.to hk, hR⟩, hH, hG, by have := last_fn (f := fr) (f' := fr.atR ⟨fr.tmps, fr.defers⟩ k') (frs := frs) rfl; rw [this]; exact hl⟩⟩⟩

theorem exitS_spec {β : Val} (id : Nat) : ∀ (k : List SItem) (k' : List Item), TodoRel β k k' → match exitS id k with
    | some r => ∃ r', exitTo id k' = some r' ∧ TodoRel β r r'
    | none => exitTo id k' = none
  | [], [], _ => rfl
  | [], _ :: _, h => h.elim
  | _ :: _, [], h => h.elim
  | x :: k, y :: k', h => by
    have ih := exitS_spec id k k' h.2
    obtain ⟨h1, h2⟩ := h
    cases x <;> cases y <;> first | exact h1.elim | skip
    case inBlock.inBlock i j =>
      have h1' : j = i := h1
      subst h1'
      simp only [exitS, exitTo]
      by_cases hj : j = id
      · subst hj; simp; exact h2
      · simp [hj]; exact ih
    all_goals first | exact ih | skip

end
end Go.Sim


/-
  The symbolic simulator, eighteenth part: every step but a region that draws its order.
-/
namespace Go.Sim
variable {α : Type}

/-- what a call that is not entered comes to -/
def SumSem (P : Program) (H : List SO) (β : Val) (w : World) (base : Nat) (f : FuncId) (vs : List Value) (r : SumRes) : Prop :=
  (∀ i, i < r.news.length → β (base + i) = none) →
  (∀ n e, (n, e) ∈ r.sets → ∃ e0, H[n]? = some e0 ∧ e0.owned = true) ∧
  (((∃ fn, P.funcs[f]? = some fn ∧ fn.body.isSome = true) ∧ Calls P f vs.toArray w fun e w' => ∃ v' β', e = .returned v' ∧ r.v.den β' = some v' ∧ Eff P β w base r.sets r.news β' w') ∨
    ∃ v' w' β', (callFunc f vs.toArray).run P w = .ok (.value v') w' ∧ r.v.den β' = some v' ∧ Eff P β w base r.sets r.news β' w')
/-- A SUMMARY TELLS THE TRUTH, where package-level variables bear these names -/
def SumAt (P : Program) (glob : Nat → Option Nat) (f : FuncId) (s : Summ) : Prop :=
  ∀ (O : Nat → Prop) (w0 : World) (β : Val) (H : List SO) (w : World) (base : Nat) (args : List SV) (vs : List Value), HeapRel0 P O w0 β H w → GlobRel glob β → SV.denL β args = some vs →
    (s args H base).Sat (SumSem P H β w base f vs)
def SumOK (P : Program) (f : FuncId) (s : Summ) : Prop := ∀ glob, SumAt P glob f s
structure ProgOK (P : Program) : Prop where
  noNG : ∀ (f : FuncId) (fn : Func), P.funcs[f]? = some fn → fn.body.isSome = true → (fn.name == "runtime.NumGoroutine") = false
  mixed : P.follows .mixedOrders = true
structure CfgOK (c : Cfg) : Prop where
  prog : ProgOK c.P
  sums : ∀ f s, c.sums f = some s → SumAt c.P c.glob f s

section
variable {c : Cfg} {B : Base} {go : SS → Tree} {D : SV → List SO → Prop} {S : SS → Prop}

theorem run_callFunc {P : Program} (hP : ProgOK P) {f : FuncId} {fn : Func} (h : P.funcs[f]? = some fn) (hb : fn.body.isSome = true) (args : Array Value) (w : World) : (callFunc f args).run P w = .ok (.enter f args) w := by
  have hn : fn.body.isNone = false := by cases hx : fn.body <;> simp [hx] at hb ⊢
  unfold callFunc
  simp only [Sem.run_bind, run_program, Result.andThen_ok, h, hP.noNG f fn h hb, hn]
  rfl

/-- a frame that waits for a value, once it has it -/
theorem finish_rel {β : Val} {s s' : SF} {f : Frame} (h : FrameRel β s f) {v : SV} {x : Value} (hv : v.den β = some x) (hs : s.finish v = some s') : FrameRel β s' (f.finish x) ∧ (f.finish x).fn = f.fn := by
  obtain ⟨fn, T, td, ds, ro⟩ := s
  obtain ⟨hfn, hT, htd, hds, hm, hk, hr⟩ := h
  have h1 : finTodo td ⟨fn, T, td, ds, ro⟩ v = some s' := hs
  cases td with
  | nil => cases h1
  | cons x k =>
    have h2 : finItem x k ⟨fn, T, x :: k, ds, ro⟩ v = some s' := h1
    cases hft : f.todo with
    | nil => rw [hft] at htd; exact htd.elim
    | cons y k' =>
      rw [hft] at htd
      obtain ⟨hxy, hkk⟩ := htd
      cases x <;> first | (cases h2; done) | skip
      case ops os l =>
        cases l with
        | nil => cases h2
        | cons o l =>
          cases y <;> first | exact hxy.elim | skip
          rename_i os' idx
          obtain ⟨rfl, pre, hos, rfl⟩ := hxy
          have h3 : s' = ⟨fn, putT T o.dst v, .ops os' l :: k, ds, ro⟩ := (Option.some.inj h2).symm
          subst h3
          have ho : os'[pre.length]? = some o := by
            rw [← Array.getElem?_toList, hos]; simp
          have hfin : f.finish x = f.atR ((⟨f.tmps, f.defers⟩ : Act).put o.dst x) (.inRegion os' (List.range' (pre.length + 1) l.length) :: k') := by
            have := Frame.finish_atR f ⟨f.tmps, f.defers⟩ os' pre.length (List.range' (pre.length + 1) l.length) k' x
            rw [ho] at this
            rw [← Option.bind_some (f := fun x : Oper => x.dst), ← this, frame_eta hm]
            simp [hft, Frame.atR, List.range'_succ]
          rw [hfin]
          refine ⟨⟨hfn, putT_den (a := ⟨f.tmps, f.defers⟩) hT o.dst hv, ⟨⟨rfl, pre ++ [o], by rw [hos]; simp, by simp⟩, hkk⟩, ?_, rfl, hk, hr⟩, rfl⟩
          show SD.denL β ds = some (Act.put _ _ _).defers
          rw [hds]; cases o.dst <;> rfl
      case inRF nm =>
        cases y <;> first | exact hxy.elim | skip
        rename_i b
        have h3 : s' = ⟨fn, T, .endRF nm :: k, ds, ro⟩ := (Option.some.inj h2).symm
        subst h3
        have hfin : f.finish x = f.atR ⟨f.tmps, f.defers⟩ (.endRangeFunc b :: k') := by
          rw [← finish_atR_inRangeFunc b x]
          congr 1
          rw [frame_eta hm]; simp [hft, Frame.atR]
        rw [hfin]
        exact ⟨⟨hfn, hT, ⟨hxy, hkk⟩, hds, rfl, hk, hr⟩, rfl⟩

/-- a frame that is entered -/
theorem enter_rel {P : Program} {β : Val} {f : FuncId} {args : List SV} {vs : List Value} {s : SF} (h : enterF P f args = some s) (ha : SV.denL β args = some vs) :
    FrameRel β s (Frame.enter P f vs.toArray .normal) ∧ ∃ fn, P.funcs[f]? = some fn ∧ fn.body.isSome = true := by
  unfold enterF at h
  rw [nth_eq] at h
  have hf : P.funcs.toList[f]? = P.funcs[f]? := by simp
  rw [hf] at h
  cases hfn : P.funcs[f]? with
  | none => rw [hfn] at h; cases h
  | some fn =>
    rw [hfn] at h
    simp only [optC_some] at h
    cases hb : fn.body with
    | none => rw [hb] at h; cases h
    | some c =>
      rw [hb] at h
      simp only [optC_some, Option.some.injEq] at h
      subst h
      refine ⟨⟨rfl, ?_, ?_, rfl, rfl, rfl, trivial⟩, fn, rfl, by rw [hb]; rfl⟩
      · have hl := denL_length ha
        simp only [Frame.enter, hfn, Option.map_some, Option.getD_some]
        rw [app_eq, repN_eq, lenN_eq, ← hl]
        simp only [Array.toList_append, Array.toList_replicate, List.size_toArray]
        exact denL_append ha (denL_replicate (by simp [undefS, SV.den, SV.denL, undef]) _)
      · simp only [Frame.enter, hfn, Option.bind_some, hb, Option.getD_some]
        exact ⟨rfl, trivial⟩

theorem getLast_cons {f g : Frame} {frs : List Frame} : ((f :: g :: frs).getLast?).map (·.fn) = ((g :: frs).getLast?).map (·.fn) := by
  rw [List.getLast?_cons_cons]
/-- the value goes back to the caller, or the bottom has returned: the machine's part is given -/
theorem back_after {rest : List SF} {H : List SO} {v : SV} {x : Value} {β : Val} {fr : Frame} {frs : List Frame} {w : World} (hR : FramesRel β rest frs) (hH : HeapRel B.P B.O B.w0 β H w) (hG : BRel B β) (hv : v.den β = some x)
    (hl : ((fr :: frs).getLast?).map (·.fn) = some B.fn0) (hleave : fr.leaving B.P w (.returned x)) (hob : (backT rest H v go).Ob D S) : After B go D S (lone fr (frs ++ B.cs) w) := by
  unfold backT at hob
  cases rest with
  | nil =>
    cases frs with
    | cons => exact hR.elim
    | nil =>
      refine ⟨_, .refl _ _, .inr ⟨v, H, hob, ⟨β, fr, x, w, rfl, by simpa using hl, hleave, hv, hH, hG⟩⟩⟩
  | cons s rest =>
    cases frs with
    | nil => exact hR.elim
    | cons f frs =>
      simp only at hob
      cases hs : s.finish v with
      | none => rw [hs] at hob; exact hob.elim
      | some s' =>
        rw [hs] at hob
        obtain ⟨h1, h2⟩ := finish_rel hR.1 hv hs
        refine ⟨_, .one (step_leave_returned hleave), .inl ⟨_, hob, ⟨β, _, frs, w, rfl, ⟨h1, hR.2⟩, hH, hG, ?_⟩⟩⟩
        rw [last_fn h2, ← getLast_cons (f := fr)]; exact hl

/-- a call, from a frame that waits for its value: 'm0' is the machine ahead of the call -/
theorem callFT_after (hc : CfgOK c) (hP : B.P = c.P) (hgl : B.glob = c.glob) {f : FuncId} {args : List SV} {vs : List Value} {s : SF} {rest : List SF} {H : List SO} {β : Val} {fr : Frame} {frs : List Frame} {w : World} (hF : FrameRel β s fr) (hR : FramesRel β rest frs) (hH : HeapRel B.P B.O B.w0 β H w) (hG : BRel B β)
    (hl : ((fr :: frs).getLast?).map (·.fn) = some B.fn0) (ha : SV.denL β args = some vs) (hob : (callFT c f args s rest H go).Ob D S) {m0 : Machine}
    (henter : (callFunc f vs.toArray).run B.P w = .ok (.enter f vs.toArray) w → Steps B.P m0 (lone (Frame.enter B.P f vs.toArray .normal) (fr :: (frs ++ B.cs)) w))
    (hval : ∀ v w', (callFunc f vs.toArray).run B.P w = .ok (.value v) w' → Steps B.P m0 (lone (fr.finish v) (frs ++ B.cs) w')) : After B go D S m0 := by
  unfold callFT at hob
  cases hs : c.sums f with
  | some sm =>
    rw [hs] at hob
    simp only at hob
    rw [lenN_eq] at hob
    obtain ⟨r, hr, hob⟩ := R.tree_ob (hc.sums f sm hs B.O B.w0 β H w H.length args vs (hP ▸ hH.toHeapRel0) (hgl ▸ hG.glob) ha) hob
    cases hfin : s.finish r.v with
    | none => rw [hfin] at hob; exact hob.elim
    | some s' =>
      rw [hfin] at hob
      obtain ⟨hown, hcall⟩ := hr fun i _ => hH.bound _ (Nat.le_add_right _ _)
      rw [← hP] at hcall
      have hend : ∀ (v' : Value) (β' : Val) (w' : World), r.v.den β' = some v' → Eff B.P β w H.length r.sets r.news β' w' → Steps B.P m0 (lone (fr.finish v') (frs ++ B.cs) w') → After B go D S m0 := by
        intro v' β' w' hv hE hst
        obtain ⟨h1, h2⟩ := finish_rel (hF.mono hE.le) hv hfin
        exact ⟨_, hst, .inl ⟨_, hob, ⟨β', _, frs, w', rfl, ⟨h1, hR.mono hE.le⟩, hH.apply hE hown, hG.mono hE.le, by rw [last_fn h2]; exact hl⟩⟩⟩
      rcases hcall with ⟨⟨fn, hfn, hb⟩, hcall⟩ | ⟨v', w', β', hrun, hv, hE⟩
      · obtain ⟨e, w', fr', ⟨v', β', rfl, hv, hE⟩, hcomes, _, hleave⟩ := hcall (fr :: (frs ++ B.cs))
        refine hend v' β' w' hv hE ((henter (run_callFunc (hP ▸ hc.prog) hfn hb _ _)).trans (Steps.trans hcomes (.one ?_)))
        exact step_leave_returned hleave
      · exact hend v' β' w' hv hE (hval v' w' hrun)
  | none =>
    rw [hs] at hob
    simp only at hob
    rw [← hP] at hob
    cases he : enterF B.P f args with
    | none => rw [he] at hob; exact hob.elim
    | some g =>
      rw [he] at hob
      obtain ⟨h1, fn, hfn, hb⟩ := enter_rel he ha
      refine ⟨_, henter (run_callFunc (hP ▸ hc.prog) hfn hb _ _), .inl ⟨_, hob, ⟨β, _, fr :: frs, w, rfl, ⟨h1, hF, hR⟩, hH, hG, ?_⟩⟩⟩
      rw [getLast_cons]; exact hl

theorem loopOf_spec {H : List SO} {nm : Nat} {s p f T ps a b d} (h : loopOf H nm = some (s, p, f, T, ps, a, b, d)) : H[nm]? = some (.loop s p f T ps a b d) := by
  unfold loopOf at h
  rw [nth_eq] at h
  split at h
  · rename_i he; cases h; exact he
  · cases h
/-- a loop's record turns -/
theorem loop_turn {P : Program} {O : Nat → Prop} {w0 : World} {β : Val} {H : List SO} {w : World} (hH : HeapRel P O w0 β H w) {nm : Nat} {s p f T ps a b d} (h : H[nm]? = some (.loop s p f T ps a b d)) :
    ∃ l r, β nm = some l ∧ w.heap[l.blk]? = some (.loop r) ∧ r.state = s ∧ r.pending = p ∧ r.fn = f ∧ SV.denL β T = some r.tmps.toList ∧ r.params = ps ∧ r.assign = a ∧ r.body = b ∧ (∃ ld, β d = some ld ∧ r.defers = ld.blk) ∧
      ∀ s' p', HeapRel P O w0 β (setN H nm (.loop s' p' f T ps a b d)) (w.putObj l.blk (.loop { r with state := s', pending := p' })) := by
  obtain ⟨l, ld, Ts, hl, hd, hT, hh⟩ := hH.entries _ _ h
  refine ⟨l, _, hl, hh, rfl, rfl, rfl, by simpa using hT, rfl, rfl, rfl, ⟨ld, hd, rfl⟩, fun s' p' => ?_⟩
  have hlt : l.blk < w.heap.size := (Array.getElem?_eq_some_iff.1 hh).1
  refine hH.apply (sets := [(nm, .loop s' p' f T ps a b d)]) (news := []) (Eff.turn hl ?_) ?_
  · exact ⟨l, ld, Ts, hl, hd, hT, by simp [hlt]⟩
  · intro n e hn; simp at hn; obtain ⟨rfl, rfl⟩ := hn; exact ⟨_, h, rfl⟩
theorem setH_one (H : List SO) (n : Nat) (e : SO) : applyH H [(n, e)] [] = setN H n e := rfl

theorem endRound_after {H : List SO} {rest : List SF} {nm : Nat} {jump : Option Code} {β : Val} {fr : Frame} {frs : List Frame} {w : World} (hR : FramesRel β rest frs) (hH : HeapRel B.P B.O B.w0 β H w) (hG : BRel B β)
    (hl : ((fr :: frs).getLast?).map (·.fn) = some B.fn0) (hob : (endRoundT H rest nm jump go).Ob D S)
    (hst : ∀ (l : Loc) (c : Frame) (cs : List Frame) (w' : World), β nm = some l → (Instr.endRound l.blk jump).run B.P w = .ok (.bool jump.isNone) w' → step B.P (lone fr (c :: cs) w) = .next (lone (c.finish (.bool jump.isNone)) cs w')) :
    After B go D S (lone fr (frs ++ B.cs) w) := by
  unfold endRoundT at hob
  split at hob
  · rename_i st p f T ps a b d s rest' hloop
    cases frs with
    | nil => exact hR.elim
    | cons g frs =>
      cases hs : s.finish (.bool (.lit jump.isNone)) with
      | none => rw [hs] at hob; exact hob.elim
      | some s' =>
        rw [hs] at hob
        obtain ⟨l, r, hb, hh, _, _, _, _, _, _, _, _, hturn⟩ := loop_turn hH (loopOf_spec hloop)
        obtain ⟨h1, h2⟩ := finish_rel hR.1 (x := .bool jump.isNone) rfl hs
        refine ⟨_, .one (hst l g _ _ hb (run_endRound jump hh)), .inl ⟨_, hob, ⟨β, _, frs, _, rfl, ⟨h1, hR.2⟩, hturn _ _, hG, ?_⟩⟩⟩
        rw [last_fn h2, ← getLast_cons (f := fr)]; exact hl
  · exact hob.elim

end
end Go.Sim


/-
  The symbolic simulator, nineteenth part: returning; the operations; loops over functions.
-/
namespace Go.Sim
variable {α : Type}

section
variable {c : Cfg} {B : Base} {go : SS → Tree} {D : SV → List SO → Prop} {S : SS → Prop}

theorem step_take {P : Program} {fr : Frame} {cs : List Frame} {w w' : World} {b : Nat} {ds calls : List Deferred} (hm : fr.mode = .returning) (hd : fr.defers = { target := .collected b, args := #[] } :: ds) (hr : (Instr.takeDeferred b).run P w = .ok calls w') :
    step P (lone fr cs w) = .next (lone { fr with defers := calls ++ ds } cs w') :=
  step_lone_go (by simp [stepG, unwind, hm, hd, Sem.runT_eq, hr, GStep.bare_after])

theorem resultsR_sat {P : Program} {O : Nat → Prop} {w0 : World} {β : Val} {H : List SO} {w : World} (hr : HeapRel0 P O w0 β H w) {T : List SV} {ts : Array Value} (hT : SV.denL β T = some ts.toList) {φ : α → Prop} : ∀ (l : List ResultVar) (k : List SV → R α),
    (∀ svs vs, SV.denL β svs = some vs → (l.mapM (m := Sem) fun
      | .tmp t => pure (ts.getD t undef)
      | .cell a t => do loadVar t (← asAddr (ts.getD a undef))).run P w = .ok vs w → (k svs).Sat φ) → (resultsR P H T l k).Sat φ := by
  have hget : ∀ t, ((nth T t).getD undefS).den β = some (ts.getD t undef) := by
    intro t
    have := evS_den (glob := fun _ => none) (a := ⟨ts, []⟩) hT (fun _ _ h => by cases h) (.tmp t)
    have e : evS (fun _ => none) T (.tmp t) = (nth T t).getD undefS := by
      show optC (nth T t) undefS (fun v => v) = _
      cases nth T t <;> rfl
    rw [e] at this; exact this
  intro l
  induction l with
  | nil => intro k h; exact h [] [] rfl (by simp)
  | cons x l ih =>
    intro k h
    cases x with
    | tmp t =>
      refine ih _ fun svs vs h1 h2 => h _ _ (denL_cons.2 ⟨_, _, hget t, h1, rfl⟩) ?_
      rw [List.mapM_cons]
      simp only [Sem.run_bind, Sem.run_pure, Result.andThen_ok, h2]
    | cell a t =>
      refine ptrS_sat (hget a) fun a' A _ hA hx => loadT_sat hr hA fun v x hv hrun => ih _ fun svs vs h1 h2 => h _ _ (denL_cons.2 ⟨_, _, hv, h1, rfl⟩) ?_
      have ha : asAddr (ts.getD a undef) = pure A := by rw [hx]; rfl
      rw [List.mapM_cons]
      simp only [ha, Sem.run_bind, Sem.run_pure, Result.andThen_ok, hrun, h2]
theorem tupleS_den {β : Val} {svs : List SV} {vs : List Value} (h : SV.denL β svs = some vs) : (tupleS svs).den β = some (if h : vs.toArray.size = 1 then vs.toArray[0] else .tuple vs.toArray) := by
  cases svs with
  | nil => rw [denL_nil] at h; subst h; rfl
  | cons a l =>
    obtain ⟨x, xs, hx, hxs, rfl⟩ := denL_cons.1 h
    cases l with
    | nil => rw [denL_nil] at hxs; subst hxs; simpa [tupleS] using hx
    | cons b l =>
      obtain ⟨y, ys, hy, hys, rfl⟩ := denL_cons.1 hxs
      have : tupleS (a :: b :: l) = .tuple (a :: b :: l) := rfl
      rw [this, dif_neg (by simp)]
      simp only [SV.den, h]; rfl
theorem results_sat {P : Program} {O : Nat → Prop} {w0 : World} {β : Val} {H : List SO} {w : World} (hr : HeapRel0 P O w0 β H w) {T : List SV} {ts : Array Value} (hT : SV.denL β T = some ts.toList) (fn : Func) :
    (resultsR P H T fn.results.toList fun l => .ok (tupleS l)).Sat fun v => ∃ x, v.den β = some x ∧ (results fn ts).run P w = .ok x w := by
  refine resultsR_sat hr hT _ _ fun svs vs h1 h2 => ⟨_, tupleS_den h1, ?_⟩
  unfold results
  rw [Array.mapM_eq_mapM_toList]
  simp only [Sem.run_bind, Sem.run_map, Sem.run_pure]
  exact congrArg (fun z : Result (List Value) => (z.andThen fun a w' => Result.ok a.toArray w').andThen fun a w' => .ok (if h : a.size = 1 then a[0] else .tuple a) w') h2

theorem undefer_steps {P : Program} {O : Nat → Prop} {w0 : World} {β : Val} {cs : List Frame} : ∀ {ds : List SD} {H H' : List SO} {w : World} {fr : Frame}, fr.mode = .returning → SD.denL β ds = some fr.defers → HeapRel P O w0 β H w → undefer ds H = some H' →
    ∃ w', Steps P (lone fr cs w) (lone { fr with defers := [] } cs w') ∧ HeapRel P O w0 β H' w'
  | [], H, H', w, fr, _, hd, hH, hu => by
    cases hu
    cases hd' : fr.defers with
    | nil =>
      have : { fr with defers := [] } = fr := by cases fr; simp at hd'; subst hd'; rfl
      rw [this]; exact ⟨w, .refl _ _, hH⟩
    | cons => rw [hd'] at hd; cases hd
  | .call _ _ _ :: _, _, _, _, _, _, _, _, hu => by cases hu
  | .coll nm :: r, H, H', w, fr, hm, hd, hH, hu => by
    unfold undefer at hu
    simp only [SD.denL, SD.den, Option.bind_eq_some_iff, Option.map_eq_some_iff] at hd
    obtain ⟨dx, ⟨l, hl1, rfl⟩, ds', hr1, hr2⟩ := hd
    rw [nth_eq] at hu
    split at hu
    · rename_i he
      obtain ⟨l', ds2, hb, hd, hh⟩ := hH.entries _ _ he
      rw [hl1] at hb; cases hb
      have hd' : ds2 = some [] := by
        simp [SD.denO, SD.denL] at hd; exact hd.symm
      subst hd'
      have hlt : l.blk < w.heap.size := (Array.getElem?_eq_some_iff.1 hh).1
      have hH' : HeapRel P O w0 β (setN H nm (.deferred none)) (w.putObj l.blk (.deferred none)) := by
        refine hH.apply (sets := [(nm, .deferred none)]) (news := []) (Eff.turn hl1 ?_) ?_
        · exact ⟨l, none, hl1, rfl, by simp [hlt]⟩
        · intro n e hn; simp at hn; obtain ⟨rfl, rfl⟩ := hn; exact ⟨_, he, rfl⟩
      have hstep := step_take (P := P) (fr := fr) (cs := cs) (b := l.blk) (ds := ds') (calls := []) hm hr2.symm (run_takeDeferred hh)
      obtain ⟨w', hst, hH2⟩ := undefer_steps (ds := r) (fr := { fr with defers := ds' }) (cs := cs) hm hr1 hH' hu
      exact ⟨w', (Steps.one hstep).trans hst, hH2⟩
    · cases hu

theorem returnT_after (hP : B.P = c.P) {s : SF} {rest : List SF} {H : List SO} {β : Val} {fr : Frame} {frs : List Frame} {w : World} (hF : FrameRel β s fr) (hR : FramesRel β rest frs) (hH : HeapRel B.P B.O B.w0 β H w) (hG : BRel B β)
    (hl : ((fr :: frs).getLast?).map (·.fn) = some B.fn0) (htd : s.todo = [] ∨ ∃ k, s.todo = .code .ret :: k) (hob : (returnT c.P s rest H go).Ob D S) : After B go D S (lone fr (frs ++ B.cs) w) := by
  unfold returnT at hob
  have htd' : fr.todo = [] ∨ ∃ k, fr.todo = .code .ret :: k := by
    have := hF.todo
    rcases htd with h | ⟨k, h⟩
    · rw [h] at this
      cases hf : fr.todo with
      | nil => exact .inl rfl
      | cons y k' => rw [hf] at this; exact this.elim
    · rw [h] at this
      cases hf : fr.todo with
      | nil => rw [hf] at this; exact this.elim
      | cons y k' =>
        rw [hf] at this
        obtain ⟨h1, _⟩ := this
        cases y <;> first | exact h1.elim | skip
        exact .inr ⟨k', by rw [show _ = Code.ret from h1]⟩
  cases hro : s.roundOf with
  | some nm =>
    rw [hro] at hob
    simp only at hob
    have hround := hF.round
    rw [hro] at hround
    cases hfr : fr.roundOf with
    | none => rw [hfr] at hround; exact hround.elim
    | some bl =>
      rw [hfr] at hround
      obtain ⟨l0, hl0, rfl⟩ := hround
      refine endRound_after hR hH hG hl hob fun l cc cs w' hb hrun => ?_
      rw [hl0] at hb; cases hb
      rw [frame_eta hF.mode]
      rcases htd with h | ⟨k, h⟩
      · have ht : fr.todo = [] := by
          rcases htd' with h' | ⟨k', h'⟩
          · exact h'
          · have := hF.todo; rw [h, h'] at this; exact this.elim
        rw [h] at hrun ⊢
        rw [ht]
        exact stepR_round_end hfr hF.kind hrun
      · obtain ⟨k', ht⟩ : ∃ k', fr.todo = .code .ret :: k' := by
          rcases htd' with h' | h'
          · have := hF.todo; rw [h, h'] at this; exact this.elim
          · exact h'
        rw [h] at hrun ⊢
        rw [ht]
        exact stepR_round_ret hfr hF.kind hrun
  | none =>
    rw [hro] at hob
    simp only at hob
    have hround := hF.round
    rw [hro] at hround
    have hfr : fr.roundOf = none := by
      cases hfr : fr.roundOf with
      | none => rfl
      | some bl => rw [hfr] at hround; exact hround.elim
    -- to 'returning'
    have hstep : step B.P (lone fr (frs ++ B.cs) w) = .next (lone { fr.atR ⟨fr.tmps, fr.defers⟩ fr.todo with mode := .returning } (frs ++ B.cs) w) := by
      rw [frame_eta hF.mode]
      rcases htd' with h' | ⟨k', h'⟩
      · rw [h']; exact stepR_end hfr
      · rw [h']; exact stepR_ret hfr
    refine .step hstep ?_
    rw [nth_eq] at hob
    have hfn : B.P.funcs.toList[fr.fn]? = B.P.funcs[fr.fn]? := by simp
    rw [← hP, ← hF.fn, hfn] at hob
    cases hfun : B.P.funcs[fr.fn]? with
    | none => rw [hfun] at hob; exact hob.elim
    | some fn =>
      rw [hfun] at hob
      simp only at hob
      have hds := hF.defers
      split at hob
      · rename_i H' hu
        obtain ⟨w', hst, hH'⟩ := undefer_steps (fr := { fr.atR ⟨fr.tmps, fr.defers⟩ fr.todo with mode := .returning }) (cs := frs ++ B.cs) rfl hds hH hu
        refine .of_steps hst ?_
        obtain ⟨v, ⟨x, hv, hrun⟩, hob⟩ := R.tree_ob (results_sat hH'.toHeapRel0 hF.tmps fn) hob
        refine back_after hR hH' hG hv ((last_fn (f := fr) (f' := { ({ fr.atR ⟨fr.tmps, fr.defers⟩ fr.todo with mode := .returning } : Frame) with defers := [] }) rfl).trans hl) ⟨rfl, rfl, hF.kind, fn, hfun, hrun⟩ hob
      · exact hob.elim

end
end Go.Sim

