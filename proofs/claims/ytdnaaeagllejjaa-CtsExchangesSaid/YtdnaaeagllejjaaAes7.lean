/-
  The block cipher, seventh part: making a cipher.
-/
import Derived.Test.YtdnaaeagllejjaaAes6
import Derived.Test.YtdnaaeagllejjaaEng31
namespace Go.Proofs.Ytdnaaeagllejjaa.Aes
open Go.Sim
open Go.Proofs
variable {α : Type}

noncomputable def isCipher (T : List Int) (e : Option SO) : Bool := optC (ownE 67 e) false fun l => boolC (preLit T l) (isTrue1 (dropN l (lenN T))) false
theorem isCipher_spec {T : List Int} {e : Option SO} (h : isCipher T e = true) : e = some (.own (.lst (app (lx T) [.bool (.lit true)])) true 67) := by
  unfold isCipher at h
  cases hl : ownE 67 e with
  | none => rw [hl] at h; cases h
  | some l =>
    rw [hl] at h
    have h : boolC (preLit T l) (isTrue1 (dropN l (lenN T))) false = true := h
    cases h1 : preLit T l with
    | false => rw [h1] at h; cases h
    | true =>
      rw [h1] at h
      have h1 := preLit_spec h1
      rw [isTrue1_spec h] at h1
      rw [ownE_spec hl, h1]
noncomputable def fillS : Summ := fun args H _ => args1 args fun c => optC (headP c) (.stuck 660) fun p => boolC (isCipher (zerosL 688) (nth H p)) (.ok ⟨.tuple [], [(p, filledC)], []⟩) (.stuck 661)
theorem lxt_ren (f : Nat → Nat) (T : List Int) : SV.renL f (app (lx T) [.bool (.lit true)]) = app (lx T) [.bool (.lit true)] := by rw [renL_app, lx_ren]; rfl
theorem lxt_uses (p : Nat → Bool) (T : List Int) : SV.usesL p (app (lx T) [.bool (.lit true)]) = true := by rw [usesL_app, lx_uses]; rfl
theorem filled_eq : filledC = .own (.lst (app (lx (app tabI (zerosL 176))) [.bool (.lit true)])) true 67 := by
  have : app (lx tabI) (app (lx (zerosL 176)) [SV.bool (.lit true)]) = app (lx (app tabI (zerosL 176))) [.bool (.lit true)] := by kernel_rfl
  unfold filledC
  rw [this]
theorem fillOK : SumOK Try.prog 38 fillS := by
  intro glob O w0 β H w base args vs hH hG ha
  refine args1_sat fun c hv => optC_only fun p h1 => boolC_only fun hp => ?_
  rw [hv, headP_spec h1] at ha
  rw [nth_eq] at hp
  refine sum_run cfg0OK rfl 20000 hH ⟨[p], [freshC], [.ptr ⟨0, .lit 0⟩]⟩ ha (Ifc.fits (by simp) rfl ⟨⟨⟨_, isCipher_spec hp, taken_imp (by rw [lxt_ren]; exact .refl _)⟩, lxt_uses _ _⟩, trivial⟩) [] (by simp) (by simp) ?_
  show (callSim cfg0 20000 38 [.ptr ⟨0, .lit 0⟩] [freshC]).Ob _ _
  have hr := fill_run
  generalize callSim cfg0 20000 38 [.ptr ⟨0, .lit 0⟩] [freshC] = t at hr ⊢
  refine outP_ob0 hr ?_
  intro H2 hH2
  refine ⟨SV.Imp.refl _, rfl, ?_, trivial⟩
  show SetsOK _ _ _ _ [0] _
  have hH2 : H2[0]? = some filledC := (List.cons.inj hH2).1
  rw [filled_eq] at hH2
  refine ⟨⟨rfl, ?_⟩, trivial⟩
  show Given _ _ _ filledC
  refine given_own hH2 (lxt_uses _ _) ?_
  rw [filled_eq]
  show SO.own (.lst (SV.renL _ _)) true _ = _
  rw [lxt_ren]
noncomputable def expandS : Summ := fun args H _ => args2 args fun c v => optC (headP c) (.stuck 662) fun p => sliceR v (.stuck 663) fun a l => boolC (isCipher (app tabI (zerosL 176)) (nth H p)) (boolC (Nat.beq p a.nm) (.stuck 664)
  (lenIs l 16 (bytesE (nth H a.nm) fun X n => .need (a.off.den + 16 ≤ n) (.ok ⟨.tuple [], [(p, readyC (keysL (block16 X a.off.den)))], []⟩)) (.stuck 665))) (.stuck 666)
theorem expandOK : SumOK Try.prog 39 expandS := by
  intro glob O w0 β H w base args vs hH hG ha
  refine args2_sat fun c v hv => optC_only fun p h1 => sliceR_sat (fun _ => trivial) fun a l cc hs => boolC_only fun hp => boolC_sat (fun _ => trivial) fun hpa => lenIs_sat (fun hl => bytesE_sat fun X n ht => fun hn => ?_) fun _ => trivial
  rw [hv, headP_spec h1, hs] at ha
  rw [nth_eq] at hp ht
  obtain ⟨x, ys, hx, hys, rfl⟩ := denL_cons.1 ha
  obtain ⟨y, zs, hy, hz, rfl⟩ := denL_cons.1 hys
  obtain ⟨m, hlm, hd, _, _⟩ := slice_den hy
  rw [hl] at hd
  refine sum_run cfg6OK rfl 20000 hH ⟨[p, a.nm], [filledC, rowF X n], [.ptr ⟨0, .lit 0⟩, .slice ⟨1, .sym a.off.den⟩ (.lit 16) (.sym m)]⟩ (denL_cons.2 ⟨_, _, hx, denL_cons.2 ⟨_, _, hd, hz, rfl⟩, rfl⟩)
    (Ifc.fits (by simpa using beq_ne hpa) rfl ⟨⟨⟨_, isCipher_spec hp, ?_⟩, ?_⟩, ⟨ht _, rowF_uses _ _ _⟩, trivial⟩) [] (by simp) (by simp) ?_
  · rw [filled_eq]; exact taken_imp (by rw [lxt_ren]; exact .refl _)
  · rw [filled_eq]; exact lxt_uses _ _
  · show (callSim cfg6 20000 39 [.ptr ⟨0, .lit 0⟩, .slice ⟨1, .sym a.off.den⟩ (.lit 16) (.sym m)] [filledC, rowF X n]).Ob _ _
    have hr := expand_run X a.off.den n m
    generalize callSim cfg6 20000 39 [.ptr ⟨0, .lit 0⟩, .slice ⟨1, .sym a.off.den⟩ (.lit 16) (.sym m)] [filledC, rowF X n] = t at hr ⊢
    refine outP_ob hr ?_ ?_
    · intro q hq
      simp only [List.mem_cons, List.not_mem_nil, or_false] at hq
      rcases hq with rfl | rfl | rfl | rfl | rfl | rfl | rfl | rfl <;> omega
    · intro H2 hH2
      refine ⟨SV.Imp.refl _, rfl, ?_, trivial⟩
      show SetsOK _ _ _ _ (ownsOf [filledC, rowF X n] 0) _
      rw [filled_eq]
      have hH2 : H2[0]? = some (readyC (keysL (block16 X a.off.den))) := (List.cons.inj hH2).1
      refine ⟨⟨rfl, given_own hH2 (cipherL_uses _ _) ?_⟩, trivial⟩
      show SO.own (.lst (SV.renL _ (cipherL _))) true _ = _
      rw [cipherL_ren]; rfl

noncomputable def cfg7 : Cfg := cfgOf (sumsOf [(38, fillS), (39, expandS)])
theorem cfg7OK : CfgOK cfg7 := sumsOf_ok (allC fillOK (all1 expandOK))

theorem new_run (X : Nat → BitVec 8) (o n m : Nat) : outP [1] (callSim cfg7 6000 25 [.slice ⟨0, .sym o⟩ (.lit 16) (.sym m)] [rowF X n]) =
    ([IsB (byteF X), o + 16 ≤ n], some (.tuple [.ptr ⟨1, .lit 0⟩, .int .i64 (.lit (.ofNat 0))], [some (readyC (keysL (block16 X o)))])) := by kernel_rfl
theorem new_err (o m k : Nat) : outF [] (callSim cfg7 6000 25 [.slice ⟨0, .sym o⟩ (.sym k) (.sym m)] [.gone]) = some (((k : Int) != 16), ([], some (.tuple [.nilPtr, .int .i64 (.lit (.ofNat 2))], [])), ([], none)) := by kernel_rfl
theorem new_nil : outP [] (callSim cfg7 6000 25 [.nilSlice] []) = ([], some (.tuple [.nilPtr, .int .i64 (.lit (.ofNat 2))], [])) := by kernel_rfl
noncomputable def newR (H : List SO) (base : Nat) (a : SA) : R SumRes :=
  bytesE (nth H a.nm) fun X n => .need (a.off.den + 16 ≤ n) (.ok ⟨.tuple [.ptr ⟨base, .lit 0⟩, .int .i64 (.lit (.ofNat 0))], [], [readyC (keysL (block16 X a.off.den))]⟩)
noncomputable def newS : Summ := fun args H base => args1 args fun v => valS v (sliceR v (errR .nilPtr 2) fun a l => lenIs l 16 (newR H base a) (boolC (placedE (nth H a.nm)) (errR .nilPtr 2) (.stuck 671))) fun n => .need (n ≠ 16) (errR .nilPtr 2)
theorem new_val (p : Option Addr) (k c : Nat) : outO [] (callSim cfg7 6000 25 [.val (.slice p k c)] []) [true] = ([((k : Int) != 16) = true], some (.tuple [.nilPtr, .int .i64 (.lit (.ofNat 2))], [])) := by kernel_rfl
theorem newOK : SumOK Try.prog 25 newS := by
  intro glob O w0 β H w base args vs hH hG ha
  refine args1_sat fun v hv => valS_sat (sliceR_sat (fun hn => ?_) fun a l cc hs => ?_) fun p n c hs => fun hn => ?_
  rotate_left 2
  · rw [hv, hs] at ha
    exact sum_outO cfg7OK rfl 6000 hH ⟨[], [], [.val (.slice p n c)]⟩ ha (fits0 rfl) [] (by simp) (by simp) (new_val p n c) (all_cons (by rw [bne_iff_ne]; omega) all_nil) fun _ _ => ends0 rfl rfl rfl
  · rw [hv, hn] at ha
    exact sum_out cfg7OK rfl 6000 hH ⟨[], [], [.nilSlice]⟩ ha (fits0 rfl) [] (by simp) (by simp)
      new_nil (by simp) fun H2 _ => ends0 rfl rfl rfl
  · rw [hv, hs] at ha
    obtain ⟨y, zs, hy, hz, rfl⟩ := denL_cons.1 ha
    obtain ⟨m, hlm, hd, hd2, _⟩ := slice_den hy
    refine lenIs_sat (fun hl => ?_) fun hl => ?_
    · refine bytesE_sat fun X n ht => fun hn => ?_
      rw [nth_eq] at ht
      rw [hl] at hd
      refine sum_run cfg7OK rfl 6000 hH ⟨[a.nm], [rowF X n], [.slice ⟨0, .sym a.off.den⟩ (.lit 16) (.sym m)]⟩ (denL_cons.2 ⟨_, _, hd, hz, rfl⟩) (Ifc.fits (by simp) rfl ⟨⟨ht _, rowF_uses _ _ _⟩, trivial⟩) [1] (by simp) (by simp) ?_
      show (callSim cfg7 6000 25 [.slice ⟨0, .sym a.off.den⟩ (.lit 16) (.sym m)] [rowF X n]).Ob _ _
      have hr := new_run X a.off.den n m
      generalize callSim cfg7 6000 25 [.slice ⟨0, .sym a.off.den⟩ (.lit 16) (.sym m)] [rowF X n] = t at hr ⊢
      refine outP_ob hr ?_ ?_
      · intro q hq
        simp only [List.mem_cons, List.not_mem_nil, or_false] at hq
        rcases hq with rfl | rfl
        · exact byteF_isB X
        · exact hn
      · intro H2 hH2
        have hH2 : H2[1]? = some (readyC (keysL (block16 X a.off.den))) := (List.cons.inj hH2).1
        refine ⟨SV.imp_of_eq rfl, rfl, trivial, ⟨given_own hH2 (cipherL_uses _ _) ?_, trivial⟩⟩
        show SO.own (.lst (SV.renL _ (cipherL _))) true _ = _
        rw [cipherL_ren]; rfl
    · refine boolC_only fun hpl => ?_
      rw [nth_eq] at hpl
      refine sum_outF cfg7OK rfl 6000 hH ⟨[a.nm], [.gone], [.slice ⟨0, .sym a.off.den⟩ (.sym l.den) (.sym m)]⟩ (denL_cons.2 ⟨_, _, hd, hz, rfl⟩) (Ifc.fits (by simp) rfl ⟨⟨taken_gone hpl, trivial⟩, trivial⟩) [] (by simp) (by simp)
        (new_err a.off.den m l.den) (fun _ t' ht' => outP_ob0 ht' fun H2 _ => ends0 rfl rfl rfl) fun hb => ?_
      exfalso; apply hl
      have : ((l.den : Int) == 16) = true := by simpa [bne] using hb
      have : (l.den : Int) = 16 := by simpa using this
      omega

end Go.Proofs.Ytdnaaeagllejjaa.Aes
