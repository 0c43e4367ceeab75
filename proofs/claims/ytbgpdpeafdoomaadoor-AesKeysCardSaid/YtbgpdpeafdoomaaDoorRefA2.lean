/-
  The reference's block cipher, second part: mixing; the words of a key; encrypting and decrypting: runs.
-/
import Derived.Test.YtbgpdpeafdoomaaDoorRefA1
import Derived.Test.YtbgpdpeafdoomaaDoorAes5
namespace Go.Proofs.YtbgpdpeafdoomaaDoor.Aes
open Go.Sim
open Go.Proofs
variable {α : Type}

noncomputable def need1 (f : Nat → Prop) (n : Nat) : List Prop := mapN f (fromN n 0)
theorem fromN_eq : ∀ n k : Nat, fromN n k = List.range' k n := by
  intro n
  induction n with
  | zero => intro k; rfl
  | succ n ih => intro k; show k :: fromN n (k + 1) = _; rw [ih]; rfl
theorem need1_all {f : Nat → Prop} {n : Nat} (h : ∀ i, i < n → f i) : ∀ p ∈ need1 f n, p := by
  intro p hp
  unfold need1 at hp
  rw [mapN_eq, fromN_eq] at hp
  obtain ⟨i, hi, rfl⟩ := List.mem_map.1 hp
  rw [List.mem_range'] at hi
  obtain ⟨j, hj, rfl⟩ := hi
  exact h _ (by omega)
theorem rmix_run (k : Bool) (X : Nat → BitVec 8) (n m o : Nat) : outP [2] (callSim cfgR2 8000 35 [.slice ⟨0, .sym o⟩ (.lit 16) (.sym m), .agg (lx (factors k))] [rowF X n]) =
    (need1 (fun i => o + (4 * (i / 16) + i % 4) < n) 64, some (.slice ⟨2, .lit 0⟩ (.lit 16) (.lit 16), [some (.own (.lst (bx (rmixL k (block16 X o)))) true 5)])) := by
  cases k <;> kernel_rfl
noncomputable def aggL (v : SV) : Option (List SV) := v.asAgg none some
theorem aggL_spec {v : SV} {l : List SV} (h : aggL v = some l) : v = .agg l := by
  cases v <;> first | (cases h; done) | (cases h; rfl)
noncomputable def rmixK (k : Bool) (base : Nat) (X : Nat → BitVec 8) (o : Nat) (g : List SV) (e : R SumRes) : R SumRes := boolC (isLit (factors k) g) (wholeR base (mixL k (block16 X o))) e
noncomputable def rmixS : Summ := fun args H base => args2 args fun v g => sliceR v (.stuck 730) fun a l => optC (aggL g) (.stuck 730) fun g =>
  lenIs l 16 (bytesE (nth H a.nm) fun X n => .need (a.off.den + 16 ≤ n) (rmixK true base X a.off.den g (rmixK false base X a.off.den g (.stuck 731)))) (.stuck 731)
theorem rmixOK : SumOK Tryd.prog 35 rmixS := by
  intro glob O w0 β H w base args vs hH hG ha
  refine args2_sat fun v g hv => sliceR_sat (fun _ => trivial) fun a l c1 hs1 => optC_only fun g hg => lenIs_sat (fun hl => bytesE_sat fun X n ht => fun hn => ?_) fun _ => trivial
  rw [hv, hs1, aggL_spec hg] at ha
  rw [nth_eq] at ht
  obtain ⟨x, ys, hx, hys, rfl⟩ := denL_cons.1 ha
  obtain ⟨m, _, hd, _, _⟩ := slice_den hx
  rw [hl] at hd
  have key : ∀ (k : Bool) (e : R SumRes), e.Sat (SumSem Tryd.prog H β w base 35 (x :: ys)) → (rmixK k base X a.off.den g e).Sat (SumSem Tryd.prog H β w base 35 (x :: ys)) := by
    intro k e he
    refine boolC_sat (fun hk => ?_) fun _ => he
    rw [isLit_spec hk] at hys
    refine sum_run cfgR2OK rfl 8000 hH ⟨[a.nm], [rowF X n], [.slice ⟨0, .sym a.off.den⟩ (.lit 16) (.sym m), .agg (lx (factors k))]⟩
      (denL_cons.2 ⟨_, _, hd, ?_, rfl⟩) (Ifc.fits (by simp) (by show (true && (SV.usesL _ (lx (factors k)) && true)) = true; rw [lx_uses]; rfl) ⟨⟨ht _, rowF_uses _ _ _⟩, trivial⟩) [2] (by simp) (by simp) ?_
    · show SV.denL β [.agg (SV.renL _ (lx (factors k)))] = _
      rw [lx_ren]; exact hys
    · show (callSim cfgR2 8000 35 [.slice ⟨0, .sym a.off.den⟩ (.lit 16) (.sym m), .agg (lx (factors k))] [rowF X n]).Ob _ _
      have hrun := rmix_run k X n m a.off.den
      generalize callSim cfgR2 8000 35 [.slice ⟨0, .sym a.off.den⟩ (.lit 16) (.sym m), .agg (lx (factors k))] [rowF X n] = t at hrun ⊢
      rw [rmixL_eq] at hrun
      exact outP_ob hrun (need1_all fun j h1 => by omega) fun H2 hH2 => ⟨SV.imp_of_eq rfl, rfl, trivial, ⟨given_bytes (List.cons.inj hH2).1, trivial⟩⟩
  exact key true _ (key false _ trivial)

/- The functions that read the table: it is the first name. -/
def subsI : List Int := subs.map Int.ofNat
noncomputable def tabR : SO := .row (.lst (lx subsI))
noncomputable def cfgR3 : Cfg := cfgG globR (sumsOf [(24, dblS), (34, raddS), (35, rmixS)])
theorem cfgR3OK : CfgOK cfgR3 := sumsG_ok fun x hx => (allC rtwiceOK (allC raddOK (all1 rmixOK))) x hx _

end Go.Proofs.YtbgpdpeafdoomaaDoor.Aes
