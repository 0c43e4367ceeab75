/-
  The reference's block cipher, first part: products, adding, mixing.
-/
import Derived.Test.YtbgpdpeafdoomaaDoorAes6
namespace Go.Proofs.YtbgpdpeafdoomaaDoor.Aes
open Go.Sim
open Go.Proofs
variable {α : Type}

/-- the table's name: always the first -/
noncomputable def globR : Nat → Option Nat := fun g => boolC (Nat.beq g 0) (some 0) none
theorem rtwice_run (x : BitVec 8) : callSim cfg0 100 24 [.int .u8 (.b8 x)] [] = .fork (decide ((x.toNat : Int) ≥ 128)) (.done (.int .u8 (.b8 (x <<< 1 ^^^ BitVec.ofInt 8 27))) []) (.done (.int .u8 (.b8 (x <<< 1))) []) := by kernel_rfl
theorem rtwiceOK : SumOK Tryd.prog 24 dblS := by
  intro glob O w0 β H w base args vs hH hG ha
  refine args1_sat fun v hv => optC_only fun x hx => ?_
  subst hv
  refine sum_run cfg0OK rfl 100 hH ⟨[], [], [.int .u8 (.b8 x)]⟩ (denL1 ha (unb1_imp hx)) (fits0 rfl) [] (by simp) (by simp) ?_
  rw [rtwice_run]
  refine ⟨fun h => ?_, fun h => ?_⟩
  · have e : dbl x = x <<< 1 ^^^ BitVec.ofInt 8 27 := by
      have : 128 ≤ x.toNat := by have := of_decide_eq_true h; omega
      unfold dbl; rw [if_pos this]; rfl
    rw [e]; exact ends0 rfl rfl rfl
  · have e : dbl x = x <<< 1 := by
      have : ¬ 128 ≤ x.toNat := by have := of_decide_eq_false h; omega
      unfold dbl; rw [if_neg this]
    rw [e]; exact ends0 rfl rfl rfl
noncomputable def cfgR1 : Cfg := cfgOf (sumsOf [(24, dblS)])
theorem cfgR1OK : CfgOK cfgR1 := sumsOf_ok (all1 rtwiceOK)
theorem rtimes_run (x : BitVec 8) :
    callSim cfgR1 400 43 [.int .u8 (.lit 1), .int .u8 (.b8 x)] [] = .done (.int .u8 (.b8 (BitVec.ofInt 8 0 ^^^ x))) [] ∧
    callSim cfgR1 400 43 [.int .u8 (.lit 2), .int .u8 (.b8 x)] [] = .done (.int .u8 (.b8 (BitVec.ofInt 8 0 ^^^ dbl x))) [] ∧
    callSim cfgR1 400 43 [.int .u8 (.lit 3), .int .u8 (.b8 x)] [] = .done (.int .u8 (.b8 (BitVec.ofInt 8 0 ^^^ x ^^^ dbl x))) [] ∧
    callSim cfgR1 400 43 [.int .u8 (.lit 9), .int .u8 (.b8 x)] [] = .done (.int .u8 (.b8 (BitVec.ofInt 8 0 ^^^ x ^^^ dbl (dbl (dbl x))))) [] ∧
    callSim cfgR1 400 43 [.int .u8 (.lit 11), .int .u8 (.b8 x)] [] = .done (.int .u8 (.b8 (BitVec.ofInt 8 0 ^^^ x ^^^ dbl x ^^^ dbl (dbl (dbl x))))) [] ∧
    callSim cfgR1 400 43 [.int .u8 (.lit 13), .int .u8 (.b8 x)] [] = .done (.int .u8 (.b8 (BitVec.ofInt 8 0 ^^^ x ^^^ dbl (dbl x) ^^^ dbl (dbl (dbl x))))) [] ∧
    callSim cfgR1 400 43 [.int .u8 (.lit 14), .int .u8 (.b8 x)] [] = .done (.int .u8 (.b8 (BitVec.ofInt 8 0 ^^^ dbl x ^^^ dbl (dbl x) ^^^ dbl (dbl (dbl x))))) [] := by
  refine ⟨?_, ?_, ?_, ?_, ?_, ?_, ?_⟩ <;> kernel_rfl
theorem rtimesOK : SumOK Tryd.prog 43 timesS := by
  intro glob O w0 β H w base args vs hH hG ha
  refine args2_sat fun u v hv => optC_only fun n hn => optC_only fun x hx => ?_
  subst hv
  have hu := unl1_spec hn
  subst hu
  obtain ⟨h1, h2, h3, h9, h11, h13, h14⟩ := rtimes_run x
  have key : ∀ (m : Int) (y z : BitVec 8) (o : R SumRes), callSim cfgR1 400 43 [.int .u8 (.lit m), .int .u8 (.b8 x)] [] = .done (.int .u8 (.b8 z)) [] → z = y → o.Sat (SumSem Tryd.prog H β w base 43 vs) →
      (boolC (eqI n m) (byteR y) o).Sat (SumSem Tryd.prog H β w base 43 vs) := by
    intro m y z o hrun hz ho
    refine boolC_sat (fun hm => ?_) fun _ => ho
    have hn := eqI_spec hm
    subst hn; subst hz
    refine sum_run cfgR1OK rfl 400 hH ⟨[], [], [.int .u8 (.lit n), .int .u8 (.b8 x)]⟩ (impL_cons (.refl _) (impL_cons (unb1_imp hx) impL_nil) _ _ ha) (fits0 rfl) [] (by simp) (by simp) ?_
    rw [hrun]
    exact ends0 rfl rfl rfl
  have z0 : BitVec.ofInt 8 0 = 0#8 := by rfl
  rw [z0] at h1 h2 h3 h9 h11 h13 h14
  refine key 1 _ _ _ h1 (by simp) (key 2 _ _ _ h2 (by simp) (key 3 _ _ _ h3 (by simp [m3]) (key 9 _ _ _ h9 (by simp [m9]) (key 11 _ _ _ h11 (by simp [m11]) (key 13 _ _ _ h13 (by simp [m13]) (key 14 _ _ _ h14 (by simp [m14]) ?_))))))
  trivial

/- Adding a round key. -/
noncomputable def at2 (W : Nat → BitVec 8) (o : Nat) : Nat → BitVec 8 := fun i => W (o + i)
noncomputable def needs2 (f g : Nat → Prop) (n : Nat) : Nat → List Prop := Nat.rec (motive := fun _ => Nat → List Prop) (fun _ => []) (fun _ ih i => f i :: g i :: ih (Nat.succ i)) n
theorem needs2_all {f g : Nat → Prop} : ∀ {n i : Nat}, (∀ j, i ≤ j → j < i + n → f j ∧ g j) → ∀ p ∈ needs2 f g n i, p
  | 0, i, _, p, hp => by cases hp
  | n + 1, i, h, p, hp => by
    rcases List.mem_cons.1 (show p ∈ f i :: g i :: needs2 f g n (i + 1) from hp) with rfl | hp
    · exact (h i (by omega) (by omega)).1
    · rcases List.mem_cons.1 hp with rfl | hp
      · exact (h i (by omega) (by omega)).2
      · exact needs2_all (fun j h1 h2 => h j (by omega) (by omega)) p hp
theorem radd_run (X W : Nat → BitVec 8) (n m o o2 n2 m2 r : Nat) (hr : r < 11) : outP [2] (callSim cfg0 6000 34 [.slice ⟨0, .sym o⟩ (.lit 16) (.sym m), .slice ⟨1, .sym o2⟩ (.lit 176) (.sym m2), .int .i64 (.lit (.ofNat r))] [rowF X n, rowF W n2]) =
    (needs2 (fun i => o + i < n) (fun i => o2 + (16 * r + i) < n2) 16 0, some (.slice ⟨2, .lit 0⟩ (.lit 16) (.lit 16), [some (.own (.lst (bx (addL (block16 X o) (rkey (at2 W o2) r)))) true 5)])) := by
  have hr' : r = 0 ∨ r = 1 ∨ r = 2 ∨ r = 3 ∨ r = 4 ∨ r = 5 ∨ r = 6 ∨ r = 7 ∨ r = 8 ∨ r = 9 ∨ r = 10 := by omega
  rcases hr' with rfl | rfl | rfl | rfl | rfl | rfl | rfl | rfl | rfl | rfl | rfl <;> (show (_ : List Prop × Option (SV × List (Option SO))) = _) <;> kernel_rfl
/-- a new block of bytes, whole -/
noncomputable def wholeR (base : Nat) (xs : List (BitVec 8)) : R SumRes := .ok ⟨.slice ⟨base, .lit 0⟩ (.lit 16) (.lit 16), [], [.own (.lst (bx xs)) true 5]⟩
noncomputable def raddS : Summ := fun args H base => args3 args fun v u r => sliceR v (.stuck 720) fun a l => sliceR u (.stuck 720) fun b l2 => optC (litI r) (.stuck 720) fun r =>
  lenIs l 16 (lenIs l2 176 (boolC (Nat.blt r 11) (boolC (Nat.beq a.nm b.nm) (.stuck 721) (bytesE (nth H a.nm) fun X n => bytesE (nth H b.nm) fun W n2 => .need (a.off.den + 16 ≤ n ∧ b.off.den + 176 ≤ n2) (wholeR base (addL (block16 X a.off.den) (rkey (at2 W b.off.den) r))))) (.stuck 722)) (.stuck 722)) (.stuck 722)
theorem given_bytes {p : Nat → Bool} {g : Nat → Nat} {E : Option SO} {xs : List (BitVec 8)} {w : Bool} {el : TypeId} (h : E = some (.own (.lst (bx xs)) w el)) : Given p g E (.own (.lst (bx xs)) w el) := by
  refine given_own h (bx_uses _ _) ?_
  show SO.own (.lst (SV.renL _ (bx _))) w el = _
  rw [bx_ren]
theorem raddOK : SumOK Tryd.prog 34 raddS := by
  intro glob O w0 β H w base args vs hH hG ha
  refine args3_sat fun v u r hv => sliceR_sat (fun _ => trivial) fun a l c1 hs1 => sliceR_sat (fun _ => trivial) fun b l2 c2 hs2 => optC_only fun r hr => lenIs_sat (fun hl => lenIs_sat (fun hl2 => boolC_only fun hr11 => boolC_sat (fun _ => trivial) fun hab => bytesE_sat fun X n ht => bytesE_sat fun W n2 ht2 => fun hn => ?_) fun _ => trivial) fun _ => trivial
  rw [hv, hs1, hs2, litI_spec hr] at ha
  rw [nth_eq] at ht ht2
  obtain ⟨x, ys, hx, hys, rfl⟩ := denL_cons.1 ha
  obtain ⟨y, zs, hy, hz, rfl⟩ := denL_cons.1 hys
  obtain ⟨m, _, hd, _, _⟩ := slice_den hx
  obtain ⟨m2, _, hd2, _, _⟩ := slice_den hy
  rw [hl] at hd
  rw [hl2] at hd2
  refine sum_run cfg0OK rfl 6000 hH ⟨[a.nm, b.nm], [rowF X n, rowF W n2], [.slice ⟨0, .sym a.off.den⟩ (.lit 16) (.sym m), .slice ⟨1, .sym b.off.den⟩ (.lit 176) (.sym m2), .int .i64 (.lit (.ofNat r))]⟩
    (denL_cons.2 ⟨_, _, hd, denL_cons.2 ⟨_, _, hd2, hz, rfl⟩, rfl⟩) (Ifc.fits (by simpa using beq_ne hab) rfl ⟨⟨ht _, rowF_uses _ _ _⟩, ⟨ht2 _, rowF_uses _ _ _⟩, trivial⟩) [2] (by simp) (by simp) ?_
  show (callSim cfg0 6000 34 [.slice ⟨0, .sym a.off.den⟩ (.lit 16) (.sym m), .slice ⟨1, .sym b.off.den⟩ (.lit 176) (.sym m2), .int .i64 (.lit (.ofNat r))] [rowF X n, rowF W n2]).Ob _ _
  have hrun := radd_run X W n m a.off.den b.off.den n2 m2 r (blt_spec hr11)
  generalize callSim cfg0 6000 34 [.slice ⟨0, .sym a.off.den⟩ (.lit 16) (.sym m), .slice ⟨1, .sym b.off.den⟩ (.lit 176) (.sym m2), .int .i64 (.lit (.ofNat r))] [rowF X n, rowF W n2] = t at hrun ⊢
  refine outP_ob hrun (needs2_all fun j h1 h2 => ?_) fun H2 hH2 => ⟨SV.imp_of_eq rfl, rfl, trivial, ⟨given_bytes (List.cons.inj hH2).1, trivial⟩⟩
  have := blt_spec hr11
  omega

/- Mixing. -/
def pm (k : Bool) (j : Nat) (x : BitVec 8) : BitVec 8 :=
  match k, j with
  | true, 0 => dbl x
  | true, 1 => m3 x
  | true, _ => x
  | false, 0 => m14 x
  | false, 1 => m11 x
  | false, 2 => m13 x
  | false, _ => m9 x
def rmixAt (k : Bool) (l : List (BitVec 8)) (c r : Nat) : BitVec 8 :=
  BitVec.ofInt 8 0 ^^^ pm k ((4 - r) % 4) (byteAt l (4 * c)) ^^^ pm k ((5 - r) % 4) (byteAt l (4 * c + 1)) ^^^ pm k ((6 - r) % 4) (byteAt l (4 * c + 2)) ^^^ pm k ((7 - r) % 4) (byteAt l (4 * c + 3))
def rmixL (k : Bool) (xs : List (BitVec 8)) : List (BitVec 8) :=
  [rmixAt k xs 0 0, rmixAt k xs 0 1, rmixAt k xs 0 2, rmixAt k xs 0 3, rmixAt k xs 1 0, rmixAt k xs 1 1, rmixAt k xs 1 2, rmixAt k xs 1 3,
   rmixAt k xs 2 0, rmixAt k xs 2 1, rmixAt k xs 2 2, rmixAt k xs 2 3, rmixAt k xs 3 0, rmixAt k xs 3 1, rmixAt k xs 3 2, rmixAt k xs 3 3]
theorem xor_lc (a b c : BitVec 8) : a ^^^ (b ^^^ c) = b ^^^ (a ^^^ c) := by rw [← BitVec.xor_assoc, BitVec.xor_comm a b, BitVec.xor_assoc]
theorem rmixAt_eq (k : Bool) (l : List (BitVec 8)) (c r : Nat) (hr : r < 4) : rmixAt k l c r = mixAt k l c r := by
  have z0 : BitVec.ofInt 8 0 = 0#8 := by rfl
  have hr' : r = 0 ∨ r = 1 ∨ r = 2 ∨ r = 3 := by omega
  unfold rmixAt mixAt mixW
  rw [z0, BitVec.zero_xor]
  cases k <;> rcases hr' with rfl | rfl | rfl | rfl <;> simp only [pm, Nat.reduceSub, Nat.reduceMod, Nat.add_zero, Nat.reduceAdd, if_true, Bool.false_eq_true, if_false] <;> simp only [BitVec.xor_assoc, BitVec.xor_comm, xor_lc]
theorem rmixL_eq (k : Bool) (xs : List (BitVec 8)) : rmixL k xs = mixL k xs := by
  unfold rmixL mixL
  simp only [rmixAt_eq, Nat.reduceLT]
noncomputable def cfgR2 : Cfg := cfgOf (sumsOf [(43, timesS)])
theorem cfgR2OK : CfgOK cfgR2 := sumsOf_ok (all1 rtimesOK)

end Go.Proofs.YtbgpdpeafdoomaaDoor.Aes
