/-
  The symbolic simulator, tenth part: the operations on numbers, strings, nil; parts and addresses.
-/
import Derived.Test.YtdnaaeagllejjaaEng9
import Derived.Laws.Entries
import Derived.Laws.Strings
import Derived.Laws.IdiomStrings
import Derived.Laws.BytesString
import Derived.Laws.StructEq
namespace Go.Sim
variable {α : Type}

section
variable {P : Program} {O : Nat → Prop} {w0 : World} {β : Val} {H : List SO} {w : World} {base : Nat}
variable {ev : Operand → SV} {ρ : Operand → Value} {dst : Option Tmp} {t : TypeId} {pos : String} {af : Array Edge} {g : Option (Nat × Bool)}

/-- neither two nil interfaces nor two structs or arrays -/
def plainPair : Value → Value → Bool
  | .nilIface, .nilIface => false
  | .agg _, .agg _ => false
  | _, _ => true
theorem run_eqGuard {op : BinOp} {t : TypeId} {x y : Operand} {a b : Value} (h : plainPair a b = true) : (eqGuard op t x y a b).run P w = .ok () w := by
  unfold eqGuard
  cases a <;> cases b <;> first | (cases h; done) | (dsimp only; split <;> rfl)
theorem sem_bin {op : BinOp} {ty yt : TypeId} {x y : Operand} {v : SV} {z : Value} (hg : plainPair (ρ x) (ρ y) = true) (hrun : (binOp op ty (ρ x) (ρ y)).run P w = .ok z w) (hv : v.den β = some z) :
    (vR v).Sat (OpSem P H β w base ((execOp ρ ⟨dst, .binOp op ty x y yt, t, pos, af, g⟩).run P w)) := by
  refine sem_val (x := z) ?_ hv
  simp [execOp, run_eqGuard hg, hrun]
theorem run_arM {op : BinOp} {ty : TypeId} {k : IntKind} {a b n : Int} (h : arM op k a b = some n) : (binOp op ty (.int k a) (.int k b)).run P w = .ok (.int k n) w := by
  cases op <;> simp only [arM, reduceCtorEq, Option.some.injEq] at h <;> subst h
  · rw [binOp_add]; rfl
  · rw [binOp_sub]; rfl
  · rw [binOp_mul]; rfl
  · rw [binOp_and]; rfl
  · rw [binOp_or]; rfl
  · rw [binOp_xor]; rfl
  · rw [binOp_andNot]; rfl
theorem run_cmpI {op : BinOp} {ty : TypeId} {k : IntKind} {a b : Int} {n : Bool} (h : cmpI op a b = some n) : (binOp op ty (.int k a) (.int k b)).run P w = .ok (.bool n) w := by
  cases op <;> simp only [cmpI, reduceCtorEq, Option.some.injEq] at h <;> subst h
  · rw [binOp_eql]; rfl
  · rw [binOp_neq]; rfl
  · rw [binOp_lss]; rfl
  · rw [binOp_leq]; rfl
  · rw [binOp_gtr]; rfl
  · rw [binOp_geq]; rfl
theorem bnInt_sat {op : BinOp} {ty yt : TypeId} {x y : Operand} {k k' : IntKind} {a b : SI} (hx : ρ x = .int k a.den) (hy : ρ y = .int k' b.den) :
    (bnInt op k a k' b).Sat (OpSem P H β w base ((execOp ρ ⟨dst, .binOp op ty x y yt, t, pos, af, g⟩).run P w)) := by
  have hg : plainPair (ρ x) (ρ y) = true := by rw [hx, hy]; rfl
  have har : ∀ op', op' = op → (bnAr op' k a k' b).Sat (OpSem P H β w base ((execOp ρ ⟨dst, .binOp op ty x y yt, t, pos, af, g⟩).run P w)) := by
    rintro op' rfl
    refine R.Sat.boolC (fun hk => ?_) fun _ => trivial
    have := idxK_inj hk; subst this
    refine (arithS_sat op' k a b).bind fun z hz => sem_bin hg (z := .int k z.den) (by rw [hx, hy]; exact run_arM hz) rfl
  have hcm : ∀ op', op' = op → (bnCm op' k a k' b).Sat (OpSem P H β w base ((execOp ρ ⟨dst, .binOp op ty x y yt, t, pos, af, g⟩).run P w)) := by
    rintro op' rfl
    refine R.Sat.boolC (fun hk => ?_) fun _ => trivial
    have := idxK_inj hk; subst this
    refine (cmpS_sat op' a b).bind fun z hz => sem_bin hg (z := .bool z.den) (by rw [hx, hy]; exact run_cmpI hz) rfl
  have hdv : ∀ op', op' = op → op' = .quo ∨ op' = .rem → (bnDv op' k a k' b).Sat (OpSem P H β w base ((execOp ρ ⟨dst, .binOp op ty x y yt, t, pos, af, g⟩).run P w)) := by
    rintro op' rfl hop
    refine R.Sat.boolC (fun hk => ?_) fun _ => trivial
    have := idxK_inj hk; subst this
    refine (divS_sat op' k a b).bind fun z hz => sem_bin hg (z := .int k z.den) ?_ rfl
    rw [hx, hy, ← hz.2]
    rcases hop with rfl | rfl
    · rw [binOp_quo]; unfold Op.intDiv; rw [if_neg hz.1]; rfl
    · rw [binOp_rem]; unfold Op.intDiv; rw [if_neg hz.1]; rfl
  have hsh : ∀ op', op' = op → op' = .shl ∨ op' = .shr → (bnSh op' k a k' b).Sat (OpSem P H β w base ((execOp ρ ⟨dst, .binOp op ty x y yt, t, pos, af, g⟩).run P w)) := by
    rintro op' rfl hop
    refine (shiftS_sat op' k a b hop).bind fun z hz => sem_bin hg (z := .int k z.den) ?_ rfl
    rw [hx, hy, ← hz.2]
    have h0 : ¬ b.den < 0 := by omega
    rcases hop with rfl | rfl
    · rw [binOp_shl]; unfold Op.shift; rw [if_neg h0]; rfl
    · rw [binOp_shr]; unfold Op.shift; rw [if_neg h0]; rfl
  cases op
  · exact har _ rfl
  · exact har _ rfl
  · exact har _ rfl
  · exact hdv _ rfl (.inl rfl)
  · exact hdv _ rfl (.inr rfl)
  · exact har _ rfl
  · exact har _ rfl
  · exact har _ rfl
  · exact hsh _ rfl (.inl rfl)
  · exact hsh _ rfl (.inr rfl)
  · exact har _ rfl
  · exact hcm _ rfl
  · exact hcm _ rfl
  · exact hcm _ rfl
  · exact hcm _ rfl
  · exact hcm _ rfl
  · exact hcm _ rfl
theorem beq_bytes (a b : ByteArray) : (a.toList == b.toList) = decide (a = b) := by
  rw [ByteArray.toList_eq, ByteArray.toList_eq, Bool.eq_iff_iff]
  simp only [beq_iff_eq, decide_eq_true_eq]
  obtain ⟨⟨x⟩⟩ := a
  obtain ⟨⟨y⟩⟩ := b
  simp
theorem beq_data (a b : ByteArray) : (a.toList == b.toList) = (a.data.toList == b.data.toList) := by
  rw [ByteArray.toList_eq, ByteArray.toList_eq]
theorem strEq_sat {op : BinOp} {ty yt : TypeId} {x y : Operand} {a b : SStr} (hx : ρ x = .string a.den) (hy : ρ y = .string b.den) :
    (strEq op a b).Sat (OpSem P H β w base ((execOp ρ ⟨dst, .binOp op ty x y yt, t, pos, af, g⟩).run P w)) := by
  have hg : plainPair (ρ x) (ρ y) = true := by rw [hx, hy]; rfl
  have key : ∀ (v : SV) (z : Value), v.den β = some z → (binOp op ty (.string a.den) (.string b.den)).run P w = .ok z w → (vR v).Sat (OpSem P H β w base ((execOp ρ ⟨dst, .binOp op ty x y yt, t, pos, af, g⟩).run P w)) :=
    fun v z hv hz => sem_bin hg (by rw [hx, hy]; exact hz) hv
  cases op
  case eql =>
    have hs : (binOp .eql ty (.string a.den) (.string b.den)).run P w = .ok (.bool (decide (a.den = b.den))) w := by rw [binOp_string_eql, beq_bytes]; rfl
    cases a <;> cases b <;> first
      | (refine key _ _ rfl ?_; rw [binOp_string_eql, beq_data]; rfl)
      | exact key _ _ rfl hs
  case neq =>
    have hs : (binOp .neq ty (.string a.den) (.string b.den)).run P w = .ok (.bool (!decide (a.den = b.den))) w := by rw [binOp_string_neq, beq_bytes]; rfl
    cases a <;> cases b <;> first
      | (refine key _ _ rfl ?_; rw [binOp_string_neq, beq_data]; rfl)
      | exact key _ _ rfl hs
  case lss =>
    refine key _ _ rfl ?_
    rw [binOp_string_lss, ByteArray.toList_eq, ByteArray.toList_eq]; rfl
  case add =>
    have hs : a.den.size + b.den.size ≤ 9223372036854775807 → (binOp .add ty (.string a.den) (.string b.den)).run P w = .ok (.string (a.den ++ b.den)) w := by
      intro hle
      rw [binOp_string_add]
      unfold Op.stringOp
      simp only
      rw [if_neg (by simp only [IntKind.max, IntKind.signed, IntKind.bits]; simp; omega)]
      rfl
    cases a <;> cases b <;> first
      | (show R.Sat (if _ then _ else _) _
         split
         · rename_i h; exact key _ _ rfl (hs h)
         · trivial)
      | exact fun h => key _ _ rfl (hs h)
  all_goals trivial

theorem asInt_cases (v : SV) : (∃ k n, v = .int k n) ∨ ∀ {γ : Type} (d : γ) (f : IntKind → SI → γ), v.asInt d f = d := by
  cases v <;> first | exact .inl ⟨_, _, rfl⟩ | exact .inr fun _ _ => rfl
theorem equal_succ : ∃ d, ∀ t x y, Op.equal t x y = Op.equalIn (d + 1) t x y := ⟨9999, fun _ _ _ => rfl⟩
theorem run_equal_bool {ty : TypeId} (h : P.underlying ty = some .bool) (a b : Bool) : (Op.equal ty (.bool a) (.bool b)).run P w = .ok (a == b) w := by
  obtain ⟨m, hm⟩ := equal_succ
  rw [hm]
  simp [Op.equalIn, run_underlying h]
theorem bnBool_sat {op : BinOp} {ty yt : TypeId} {x y : Operand} {a b : SB} (hx : ρ x = .bool a.den) (hy : ρ y = .bool b.den) :
    (bnBool P op ty a b).Sat (OpSem P H β w base ((execOp ρ ⟨dst, .binOp op ty x y yt, t, pos, af, g⟩).run P w)) := by
  have hg : plainPair (ρ x) (ρ y) = true := by rw [hx, hy]; rfl
  refine R.Sat.opt fun d hd => ?_
  split
  · cases op
    case eql =>
      have h1 : (binOp .eql ty (.bool a.den) (.bool b.den)).run P w = .ok (.bool (a.den == b.den)) w := by
        simp [binOp, run_equal_bool hd]
      cases a <;> cases b <;> exact sem_bin hg (by rw [hx, hy]; exact h1) rfl
    case neq =>
      have h1 : (binOp .neq ty (.bool a.den) (.bool b.den)).run P w = .ok (.bool (!(a.den == b.den))) w := by
        simp [binOp, run_equal_bool hd]
      cases a <;> cases b <;> exact sem_bin hg (by rw [hx, hy]; exact h1) rfl
    all_goals trivial
  · trivial
theorem run_equal_nil {ty : TypeId} {d : TypeDesc} (h : P.underlying ty = some d) {x y : SV} (hn : isNilType d x y = true) {b : Bool} (hb : nilEq x y = some b) {a c : Value} (hx : x.den β = some a) (hy : y.den β = some c) :
    (Op.equal ty a c).run P w = .ok b w ∧ plainPair a c = true ∧ ∀ op, (op = .eql ∨ op = .neq) → (binOp op ty a c).run P w = .ok (.bool (if op = .eql then b else !b)) w := by
  have key : (Op.equal ty a c).run P w = .ok b w → (∀ s, a ≠ .string s) → (∀ k n, a ≠ .int k n) → (∀ k n, a ≠ .float k n) → (∀ k n m, a ≠ .complex k n m) → a ≠ .nilIface → (∀ l, a ≠ .agg l) →
      (Op.equal ty a c).run P w = .ok b w ∧ plainPair a c = true ∧ ∀ op, (op = .eql ∨ op = .neq) → (binOp op ty a c).run P w = .ok (.bool (if op = .eql then b else !b)) w := by
    intro h1 n1 n2 n3 n4 n5 n6
    refine ⟨h1, ?_, fun op hop => ?_⟩
    · cases a <;> first | rfl | exact absurd rfl (n6 _) | exact absurd rfl n5
    · rcases hop with rfl | rfl
      · have : binOp .eql ty a c = (do pure (.bool (← Op.equal ty a c))) := by
          cases a <;> first | rfl | exact absurd rfl (n1 _) | exact absurd rfl (n2 _ _) | exact absurd rfl (n3 _ _) | exact absurd rfl (n4 _ _ _)
        rw [this]; simp [h1]
      · have : binOp .neq ty a c = (do pure (.bool (!(← Op.equal ty a c)))) := by
          cases a <;> first | rfl | exact absurd rfl (n1 _) | exact absurd rfl (n2 _ _) | exact absurd rfl (n3 _ _) | exact absurd rfl (n4 _ _ _)
        rw [this]; simp [h1]
  obtain ⟨m, hm⟩ := equal_succ
  have heq : ∀ z : Sem Bool, Op.equalIn (m + 1) ty a c = z → z.run P w = .ok b w → (Op.equal ty a c).run P w = .ok b w := fun z e1 e2 => by
    rw [hm, e1]; exact e2
  cases d <;> cases x <;> first
    | (cases hn; done)
    | (cases y <;> first
        | (cases hn; done)
        | (simp only [SV.den, Option.map_eq_some_iff, Option.bind_eq_some_iff, Option.some.injEq, sliceV_eq, tailV_eq] at hx hy
           simp only [nilEq, Option.some.injEq] at hb
           subst hb
           refine key (heq _ rfl ?_) ?_ ?_ ?_ ?_ ?_ ?_ <;> first
             | (first
                 | (subst hx; subst hy)
                 | (subst hx; obtain ⟨_, _, rfl⟩ := hy)
                 | (subst hy; obtain ⟨_, _, rfl⟩ := hx)
                 | (subst hx; obtain ⟨_, _, _, _, _, rfl⟩ := hy)
                 | (subst hy; obtain ⟨_, _, _, _, _, rfl⟩ := hx)
                 | (subst hx; obtain ⟨_, _, _, _, _, _, rfl⟩ := hy)
                 | (subst hy; obtain ⟨_, _, _, _, _, _, rfl⟩ := hx)) <;> first | (simp [Op.equalIn, run_underlying h]; done) | (intros; simp; done)))

end
end Go.Sim
