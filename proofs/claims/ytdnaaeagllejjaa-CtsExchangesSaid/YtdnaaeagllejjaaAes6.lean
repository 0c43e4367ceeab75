/-
  The block cipher, sixth part: what its functions come to.
-/
import Derived.Test.YtdnaaeagllejjaaAes5
namespace Go.Proofs.Ytdnaaeagllejjaa.Aes
open Go.Sim
open Go.Proofs
variable {α : Type}

noncomputable def isTrueV (v : SV) : Bool := v.asBool false fun b => SB.rec (motive := fun _ => Bool) (fun b => b) (fun _ => false) b
noncomputable def isTrue1 (l : List SV) : Bool := List.rec (motive := fun _ => Bool) false (fun v r _ => boolC (isTrueV v) (List.rec (motive := fun _ => Bool) true (fun _ _ _ => false) r) false) l
theorem isTrueV_spec {v : SV} (h : isTrueV v = true) : v = .bool (.lit true) := by
  cases v <;> first | (cases h; done) | skip
  rename_i b
  cases b with
  | lit b => cases (show b = true from h); rfl
  | sym b => cases h
theorem isTrue1_spec {l : List SV} (h : isTrue1 l = true) : l = [.bool (.lit true)] := by
  cases l with
  | nil => cases h
  | cons v r =>
    have h' : boolC (isTrueV v) (List.rec (motive := fun _ => Bool) true (fun _ _ _ => false) r) false = true := h
    cases hv : isTrueV v with
    | false => rw [hv] at h'; cases h'
    | true =>
      rw [hv] at h'
      rw [isTrueV_spec hv]
      cases r with
      | nil => rfl
      | cons => cases h'
noncomputable def cipherK (e : Option SO) : Option (List (BitVec 8)) :=
  optC (cellsE e) none fun l => boolC (preLit tabI l) (optC (unb (takeN (dropN l 512) 176)) none fun ks => boolC (Nat.beq (lenN ks) 176) (boolC (isTrue1 (dropN (dropN l 512) 176)) (some ks) none) none) none
theorem keyOf_byteAt {ks : List (BitVec 8)} (h : ks.length = 176) : keyOf (byteAt ks) = ks := by
  have hf : ∀ n k : Nat, fromN n k = List.range' k n := by
    intro n
    induction n with
    | zero => intro k; rfl
    | succ n ih => intro k; show k :: fromN n (k + 1) = _; rw [ih]; rfl
  unfold keyOf
  rw [mapN_eq, hf]
  apply List.ext_getElem
  · simp [h]
  · intro i h1 h2
    simp [byteAt, List.getElem?_eq_getElem h2]
theorem cipherK_spec {e : Option SO} {ks : List (BitVec 8)} (h : cipherK e = some ks) : ∃ l, cellsE e = some l ∧ SV.ImpL l (cipherL (keyOf (byteAt ks))) := by
  obtain ⟨l, hl, h⟩ := optC_opt h
  obtain ⟨h1, h⟩ := boolC_opt h
  obtain ⟨xs, hx, h⟩ := optC_opt h
  obtain ⟨h2, h⟩ := boolC_opt h
  obtain ⟨h3, h⟩ := boolC_opt h
  cases h
  refine ⟨l, hl, ?_⟩
  have h2 := beq_spec h2
  rw [lenN_eq] at h2
  rw [keyOf_byteAt h2]
  have hlen : lenN tabI = 512 := by kernel_rfl
  have h1 := preLit_spec h1
  rw [hlen] at h1
  rw [h1]
  refine impL_app (.refl _) ?_
  rw [← app_take_drop (dropN l 512) 176, isTrue1_spec h3]
  exact impL_app (unb_imp hx) (.refl _)
theorem cipherL_ren (f : Nat → Nat) (ks : List (BitVec 8)) : SV.renL f (cipherL ks) = cipherL ks := by
  unfold cipherL
  rw [renL_app, renL_app, lx_ren, bx_ren]; rfl
theorem cipherL_uses (p : Nat → Bool) (ks : List (BitVec 8)) : SV.usesL p (cipherL ks) = true := by
  unfold cipherL
  rw [usesL_app, usesL_app, lx_uses, bx_uses]; rfl
theorem taken_cipher {f : Nat → Nat} {e : Option SO} {ks : List (BitVec 8)} (h : cipherK e = some ks) : ∃ e', e = some e' ∧ Taken f (.row (.lst (cipherL (keyOf (byteAt ks))))) e' := by
  obtain ⟨l, hl, hi⟩ := cipherK_spec h
  exact taken_cells hl (by rw [cipherL_ren]; exact hi)

/-- no result, with a number of an error -/
noncomputable def errR (v : SV) (e : Nat) : R SumRes := .ok ⟨.tuple [v, .int .i64 (.lit (.ofNat e))], [], []⟩
noncomputable def cryptR (F : (Nat → BitVec 8) → List (BitVec 8) → List (BitVec 8)) (H : List SO) (base : Nat) (ks : List (BitVec 8)) (a : SA) : R SumRes :=
  (bytesE (nth H a.nm) fun X n => .need (a.off.den + 16 ≤ n)
    (.ok ⟨.tuple [.slice ⟨base, .lit 0⟩ (.lit 16) (.rest base 0), .int .i64 (.lit (.ofNat 0))], [], [.own (.lst (bx (F (byteAt ks) (block16 X a.off.den)))) false 5]⟩))
/-- Encrypt and Decrypt -/
noncomputable def cryptS (F : (Nat → BitVec 8) → List (BitVec 8) → List (BitVec 8)) : Summ := fun args H base => args2 args fun c v => optC (headP c) (.stuck 650) fun p => optC (cipherK (nth H p)) (.stuck 651) fun ks =>
  sliceR v (errR .nilSlice 2) fun a l => boolC (Nat.beq p a.nm) (.stuck 652) (lenIs l 16 (cryptR F H base ks a) (boolC (placedE (nth H a.nm)) (errR .nilSlice 2) (.stuck 653)))
theorem cryptOK {f : FuncId} {F : (Nat → BitVec 8) → List (BitVec 8) → List (BitVec 8)}
    (hrun : ∀ (K X : Nat → BitVec 8) (o n m k : Nat), outF [24] (callSim cfg5 6000 f [.ptr ⟨0, .lit 0⟩, .slice ⟨1, .sym o⟩ (.sym k) (.sym m)] [.row (.lst (cipherL (keyOf K))), rowF X n]) =
      some (((k : Int) != 16), ([], some (.tuple [.nilSlice, .int .i64 (.lit (.ofNat 2))], [none])), [16 ≤ k, o + 16 ≤ n], some (.tuple [.slice ⟨24, .lit 0⟩ (.lit 16) (.rest 24 0), .int .i64 (.lit (.ofNat 0))], [some (.own (.lst (bx (F K (block16 X o)))) false 5)])))
    (herr : ∀ (K : Nat → BitVec 8) (o m k : Nat), outF [] (callSim cfg5 6000 f [.ptr ⟨0, .lit 0⟩, .slice ⟨1, .sym o⟩ (.sym k) (.sym m)] [.row (.lst (cipherL (keyOf K))), .gone]) = some (((k : Int) != 16), ([], some (.tuple [.nilSlice, .int .i64 (.lit (.ofNat 2))], [])), ([16 ≤ k], none)))
    (hnil : ∀ K : Nat → BitVec 8, outP [] (callSim cfg5 6000 f [.ptr ⟨0, .lit 0⟩, .nilSlice] [.row (.lst (cipherL (keyOf K)))]) = ([], some (.tuple [.nilSlice, .int .i64 (.lit (.ofNat 2))], []))) :
    SumOK Try.prog f (cryptS F) := by
  intro glob O w0 β H w base args vs hH hG ha
  refine args2_sat fun c v hv => optC_only fun p h1 => optC_only fun ks hk => sliceR_sat (fun hn => ?_) fun a l cc hs => ?_
  · rw [hv, headP_spec h1, hn] at ha
    rw [nth_eq] at hk
    exact sum_out cfg5OK rfl 6000 hH ⟨[p], [.row (.lst (cipherL (keyOf (byteAt ks))))], [.ptr ⟨0, .lit 0⟩, .nilSlice]⟩ ha (Ifc.fits (by simp) rfl ⟨⟨taken_cipher hk, cipherL_uses _ _⟩, trivial⟩) [] (by simp) (by simp)
      (hnil _) (by simp) fun H2 _ => ends0 rfl rfl rfl
  · rw [hv, headP_spec h1, hs] at ha
    rw [nth_eq] at hk
    obtain ⟨x, ys, hx, hys, rfl⟩ := denL_cons.1 ha
    obtain ⟨y, zs, hy, hz, rfl⟩ := denL_cons.1 hys
    obtain ⟨m, hlm, hd, _, _⟩ := slice_den hy
    refine boolC_sat (fun _ => trivial) fun hpa => ?_
    refine lenIs_sat (fun hl => ?_) fun hl => ?_
    · refine bytesE_sat fun X n ht => fun hn => ?_
      rw [nth_eq] at ht
      refine sum_outF cfg5OK rfl 6000 hH ⟨[p, a.nm], [.row (.lst (cipherL (keyOf (byteAt ks)))), rowF X n], [.ptr ⟨0, .lit 0⟩, .slice ⟨1, .sym a.off.den⟩ (.sym l.den) (.sym m)]⟩ (denL_cons.2 ⟨_, _, hx, denL_cons.2 ⟨_, _, hd, hz, rfl⟩, rfl⟩)
        (Ifc.fits (by simpa using beq_ne hpa) rfl ⟨⟨taken_cipher hk, cipherL_uses _ _⟩, ⟨ht _, rowF_uses _ _ _⟩, trivial⟩) [24] (by simp) (by simp)
        (hrun (byteAt ks) X a.off.den n m l.den) (fun hb => ?_) fun _ t' ht' => outP_ob ht' ?_ fun H2 hH2 => ?_
      · rw [hl] at hb; cases hb
      · intro q hq
        simp only [List.mem_cons, List.not_mem_nil, or_false] at hq
        rcases hq with rfl | rfl
        · omega
        · exact hn
      · have hH2 : H2[24]? = some (.own (.lst (bx (F (byteAt ks) (block16 X a.off.den)))) false 5) := (List.cons.inj hH2).1
        refine ⟨SV.imp_of_eq rfl, rfl, trivial, ⟨given_own hH2 (bx_uses _ _) ?_, trivial⟩⟩
        show SO.own (.lst (SV.renL _ (bx _))) false _ = _
        rw [bx_ren]
    · -- the length is another: what the block holds does not matter
      refine boolC_only fun hpl => ?_
      rw [nth_eq] at hpl
      refine sum_outF cfg5OK rfl 6000 hH ⟨[p, a.nm], [.row (.lst (cipherL (keyOf (byteAt ks)))), .gone], [.ptr ⟨0, .lit 0⟩, .slice ⟨1, .sym a.off.den⟩ (.sym l.den) (.sym m)]⟩ (denL_cons.2 ⟨_, _, hx, denL_cons.2 ⟨_, _, hd, hz, rfl⟩, rfl⟩)
        (Ifc.fits (by simpa using beq_ne hpa) rfl ⟨⟨taken_cipher hk, cipherL_uses _ _⟩, ⟨taken_gone hpl, trivial⟩, trivial⟩) [] (by simp) (by simp)
        (herr (byteAt ks) a.off.den m l.den) (fun _ t' ht' => outP_ob0 ht' fun H2 _ => ends0 rfl rfl rfl) fun hb => ?_
      exfalso; apply hl
      have : ((l.den : Int) == 16) = true := by simpa [bne] using hb
      have : (l.den : Int) = 16 := by simpa using this
      omega
theorem encryptOK : SumOK Try.prog 15 (cryptS encL) := cryptOK enc_run (fun K o m k => (err_run K o m k).1) fun K => (nil_run K).1
theorem decryptOK : SumOK Try.prog 24 (cryptS decL) := cryptOK dec_run (fun K o m k => (err_run K o m k).2) fun K => (nil_run K).2

end Go.Proofs.Ytdnaaeagllejjaa.Aes
