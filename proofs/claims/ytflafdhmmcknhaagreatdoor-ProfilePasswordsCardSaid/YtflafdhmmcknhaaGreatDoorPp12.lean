/-
  Texts behind one another: the symbolic simulator and what it is told of the program.
-/
import Derived.Test.YtflafdhmmcknhaaGreatDoorPzAes5
import Derived.Test.YtflafdhmmcknhaaGreatDoorPp9
import Derived.Laws.Externs
import Derived.Lib.MakeNoZero
import Derived.Test.YtflafdhmmcknhaaGreatDoorPp5

/-
  The block cipher, sixth part: what its functions come to.
-/
namespace Go.Proofs.YtflafdhmmcknhaaGreatDoor.Aes
open Go.Sim
open Go.Proofs
variable {α : Type}

noncomputable def isTrueV (v : SV) : Bool := v.asBool false fun b => SB.rec (motive := fun _ => Bool) (fun b => b) (fun _ => false) b
noncomputable def isTrue1 (l : List SV) : Bool := List.rec (motive := fun _ => Bool) false (fun v r _ => boolC (isTrueV v) (List.rec (motive := fun _ => Bool) true (fun _ _ _ => false) r) false) l
theorem isTrueV_spec {v : SV} (h : isTrueV v = true) : v = .bool (.lit true) := by
  cases v <;> first | (cases h; done) | skip
  rename_i b
  cases b with
  | lit b => cases (show b = true from h); rfl
  | sym b => cases h
theorem isTrue1_spec {l : List SV} (h : isTrue1 l = true) : l = [.bool (.lit true)] := by
  cases l with
  | nil => cases h
  | cons v r =>
    have h' : boolC (isTrueV v) (List.rec (motive := fun _ => Bool) true (fun _ _ _ => false) r) false = true := h
    cases hv : isTrueV v with
    | false => rw [hv] at h'; cases h'
    | true =>
      rw [hv] at h'
      rw [isTrueV_spec hv]
      cases r with
      | nil => rfl
      | cons => cases h'
noncomputable def cipherK (e : Option SO) : Option (List (BitVec 8)) :=
  optC (cellsE e) none fun l => boolC (preLit tabI l) (optC (unb (takeN (dropN l 512) 176)) none fun ks => boolC (Nat.beq (lenN ks) 176) (boolC (isTrue1 (dropN (dropN l 512) 176)) (some ks) none) none) none
theorem keyOf_byteAt {ks : List (BitVec 8)} (h : ks.length = 176) : keyOf (byteAt ks) = ks := by
  have hf : ∀ n k : Nat, fromN n k = List.range' k n := by
    intro n
    induction n with
    | zero => intro k; rfl
    | succ n ih => intro k; show k :: fromN n (k + 1) = _; rw [ih]; rfl
  unfold keyOf
  rw [mapN_eq, hf]
  apply List.ext_getElem
  · simp [h]
  · intro i h1 h2
    simp [byteAt, List.getElem?_eq_getElem h2]
theorem cipherK_spec {e : Option SO} {ks : List (BitVec 8)} (h : cipherK e = some ks) : ∃ l, cellsE e = some l ∧ SV.ImpL l (cipherL (keyOf (byteAt ks))) := by
  obtain ⟨l, hl, h⟩ := optC_opt h
  obtain ⟨h1, h⟩ := boolC_opt h
  obtain ⟨xs, hx, h⟩ := optC_opt h
  obtain ⟨h2, h⟩ := boolC_opt h
  obtain ⟨h3, h⟩ := boolC_opt h
  cases h
  refine ⟨l, hl, ?_⟩
  have h2 := beq_spec h2
  rw [lenN_eq] at h2
  rw [keyOf_byteAt h2]
  have hlen : lenN tabI = 512 := by kernel_rfl
  have h1 := preLit_spec h1
  rw [hlen] at h1
  rw [h1]
  refine impL_app (.refl _) ?_
  rw [← app_take_drop (dropN l 512) 176, isTrue1_spec h3]
  exact impL_app (unb_imp hx) (.refl _)
theorem cipherL_ren (f : Nat → Nat) (ks : List (BitVec 8)) : SV.renL f (cipherL ks) = cipherL ks := by
  unfold cipherL
  rw [renL_app, renL_app, lx_ren, bx_ren]; rfl
theorem cipherL_uses (p : Nat → Bool) (ks : List (BitVec 8)) : SV.usesL p (cipherL ks) = true := by
  unfold cipherL
  rw [usesL_app, usesL_app, lx_uses, bx_uses]; rfl
theorem taken_cipher {f : Nat → Nat} {e : Option SO} {ks : List (BitVec 8)} (h : cipherK e = some ks) : ∃ e', e = some e' ∧ Taken f (.row (.lst (cipherL (keyOf (byteAt ks))))) e' := by
  obtain ⟨l, hl, hi⟩ := cipherK_spec h
  exact taken_cells hl (by rw [cipherL_ren]; exact hi)

/-- no result, with a number of an error -/
noncomputable def errR (v : SV) (e : Nat) : R SumRes := .ok ⟨.tuple [v, .int .i64 (.lit (.ofNat e))], [], []⟩
noncomputable def cryptR (F : (Nat → BitVec 8) → List (BitVec 8) → List (BitVec 8)) (H : List SO) (base : Nat) (ks : List (BitVec 8)) (a : SA) : R SumRes :=
  (bytesE (nth H a.nm) fun X n => .need (a.off.den + 16 ≤ n)
    (.ok ⟨.tuple [.slice ⟨base, .lit 0⟩ (.lit 16) (.rest base 0), .int .i64 (.lit (.ofNat 0))], [], [.own (.lst (bx (F (byteAt ks) (block16 X a.off.den)))) false 5]⟩))
/-- Encrypt and Decrypt -/
noncomputable def cryptS (F : (Nat → BitVec 8) → List (BitVec 8) → List (BitVec 8)) : Summ := fun args H base => args2 args fun c v => optC (headP c) (.stuck 650) fun p => optC (cipherK (nth H p)) (.stuck 651) fun ks =>
  sliceR v (errR .nilSlice 2) fun a l => boolC (Nat.beq p a.nm) (.stuck 652) (lenIs l 16 (cryptR F H base ks a) (boolC (placedE (nth H a.nm)) (errR .nilSlice 2) (.stuck 653)))
theorem cryptOK {f : FuncId} {F : (Nat → BitVec 8) → List (BitVec 8) → List (BitVec 8)}
    (hrun : ∀ (K X : Nat → BitVec 8) (o n m k : Nat), outF [24] (callSim cfg5 6000 f [.ptr ⟨0, .lit 0⟩, .slice ⟨1, .sym o⟩ (.sym k) (.sym m)] [.row (.lst (cipherL (keyOf K))), rowF X n]) =
      some (((k : Int) != 16), ([], some (.tuple [.nilSlice, .int .i64 (.lit (.ofNat 2))], [none])), [16 ≤ k, o + 16 ≤ n], some (.tuple [.slice ⟨24, .lit 0⟩ (.lit 16) (.rest 24 0), .int .i64 (.lit (.ofNat 0))], [some (.own (.lst (bx (F K (block16 X o)))) false 5)])))
    (herr : ∀ (K : Nat → BitVec 8) (o m k : Nat), outF [] (callSim cfg5 6000 f [.ptr ⟨0, .lit 0⟩, .slice ⟨1, .sym o⟩ (.sym k) (.sym m)] [.row (.lst (cipherL (keyOf K))), .gone]) = some (((k : Int) != 16), ([], some (.tuple [.nilSlice, .int .i64 (.lit (.ofNat 2))], [])), ([16 ≤ k], none)))
    (hnil : ∀ K : Nat → BitVec 8, outP [] (callSim cfg5 6000 f [.ptr ⟨0, .lit 0⟩, .nilSlice] [.row (.lst (cipherL (keyOf K)))]) = ([], some (.tuple [.nilSlice, .int .i64 (.lit (.ofNat 2))], []))) :
    SumOK Tryz.prog f (cryptS F) := by
  intro glob O w0 β H w base args vs hH hG ha
  refine args2_sat fun c v hv => optC_only fun p h1 => optC_only fun ks hk => sliceR_sat (fun hn => ?_) fun a l cc hs => ?_
  · rw [hv, headP_spec h1, hn] at ha
    rw [nth_eq] at hk
    exact sum_out cfg5OK rfl 6000 hH ⟨[p], [.row (.lst (cipherL (keyOf (byteAt ks))))], [.ptr ⟨0, .lit 0⟩, .nilSlice]⟩ ha (Ifc.fits (by simp) rfl ⟨⟨taken_cipher hk, cipherL_uses _ _⟩, trivial⟩) [] (by simp) (by simp)
      (hnil _) (by simp) fun H2 _ => ends0 rfl rfl rfl
  · rw [hv, headP_spec h1, hs] at ha
    rw [nth_eq] at hk
    obtain ⟨x, ys, hx, hys, rfl⟩ := denL_cons.1 ha
    obtain ⟨y, zs, hy, hz, rfl⟩ := denL_cons.1 hys
    obtain ⟨m, hlm, hd, _, _⟩ := slice_den hy
    refine boolC_sat (fun _ => trivial) fun hpa => ?_
    refine lenIs_sat (fun hl => ?_) fun hl => ?_
    · refine bytesE_sat fun X n ht => fun hn => ?_
      rw [nth_eq] at ht
      refine sum_outF cfg5OK rfl 6000 hH ⟨[p, a.nm], [.row (.lst (cipherL (keyOf (byteAt ks)))), rowF X n], [.ptr ⟨0, .lit 0⟩, .slice ⟨1, .sym a.off.den⟩ (.sym l.den) (.sym m)]⟩ (denL_cons.2 ⟨_, _, hx, denL_cons.2 ⟨_, _, hd, hz, rfl⟩, rfl⟩)
        (Ifc.fits (by simpa using beq_ne hpa) rfl ⟨⟨taken_cipher hk, cipherL_uses _ _⟩, ⟨ht _, rowF_uses _ _ _⟩, trivial⟩) [24] (by simp) (by simp)
        (hrun (byteAt ks) X a.off.den n m l.den) (fun hb => ?_) fun _ t' ht' => outP_ob ht' ?_ fun H2 hH2 => ?_
      · rw [hl] at hb; cases hb
      · intro q hq
        simp only [List.mem_cons, List.not_mem_nil, or_false] at hq
        rcases hq with rfl | rfl
        · omega
        · exact hn
      · have hH2 : H2[24]? = some (.own (.lst (bx (F (byteAt ks) (block16 X a.off.den)))) false 5) := (List.cons.inj hH2).1
        refine ⟨SV.imp_of_eq rfl, rfl, trivial, ⟨given_own hH2 (bx_uses _ _) ?_, trivial⟩⟩
        show SO.own (.lst (SV.renL _ (bx _))) false _ = _
        rw [bx_ren]
    · -- the length is another: what the block holds does not matter
      refine boolC_only fun hpl => ?_
      rw [nth_eq] at hpl
      refine sum_outF cfg5OK rfl 6000 hH ⟨[p, a.nm], [.row (.lst (cipherL (keyOf (byteAt ks)))), .gone], [.ptr ⟨0, .lit 0⟩, .slice ⟨1, .sym a.off.den⟩ (.sym l.den) (.sym m)]⟩ (denL_cons.2 ⟨_, _, hx, denL_cons.2 ⟨_, _, hd, hz, rfl⟩, rfl⟩)
        (Ifc.fits (by simpa using beq_ne hpa) rfl ⟨⟨taken_cipher hk, cipherL_uses _ _⟩, ⟨taken_gone hpl, trivial⟩, trivial⟩) [] (by simp) (by simp)
        (herr (byteAt ks) a.off.den m l.den) (fun _ t' ht' => outP_ob0 ht' fun H2 _ => ends0 rfl rfl rfl) fun hb => ?_
      exfalso; apply hl
      have : ((l.den : Int) == 16) = true := by simpa [bne] using hb
      have : (l.den : Int) = 16 := by simpa using this
      omega
theorem encryptOK : SumOK Tryz.prog 86 (cryptS encL) := cryptOK enc_run (fun K o m k => (err_run K o m k).1) fun K => (nil_run K).1
theorem decryptOK : SumOK Tryz.prog 76 (cryptS decL) := cryptOK dec_run (fun K o m k => (err_run K o m k).2) fun K => (nil_run K).2

end Go.Proofs.YtflafdhmmcknhaaGreatDoor.Aes


/-
  Chained blocks, first part: the exclusive or of two blocks.
-/
namespace Go.Proofs.YtflafdhmmcknhaaGreatDoor.Aes
open Go.Sim
open Go.Proofs
variable {α : Type}

noncomputable def cfgC1 : Cfg := cfgOf (sumsOf [(50, cloneS)])
theorem cfgC1OK : CfgOK cfgC1 := sumsOf_ok (all1 cloneOK)
theorem comb_run (X Y : Nat → BitVec 8) (n m o o2 n2 m2 : Nat) : outP [2] (callSim cfgC1 20000 77 [.slice ⟨0, .sym o⟩ (.lit 16) (.sym m), .slice ⟨1, .sym o2⟩ (.lit 16) (.sym m2)] [rowF X n, rowF Y n2]) =
    (IsB (byteF X) :: (o + 16 ≤ n) :: need1 (fun i => o2 + i < n2) 16, some (.slice ⟨2, .lit 0⟩ (.lit 16) (.rest 2 0), [some (.own (.lst (bx (addL (block16 X o) (block16 Y o2)))) false 5)])) := by kernel_rfl
noncomputable def combS : Summ := fun args H base => args2 args fun v u => sliceR v (.stuck 800) fun a l => sliceR u (.stuck 800) fun b l2 => lenIs l 16 (lenIs l2 16 (boolC (Nat.beq a.nm b.nm) (.stuck 801) (bytesE (nth H a.nm) fun X n => bytesE (nth H b.nm) fun Y n2 => .need (a.off.den + 16 ≤ n ∧ b.off.den + 16 ≤ n2)
  (.ok ⟨.slice ⟨base, .lit 0⟩ (.lit 16) (.rest base 0), [], [.own (.lst (bx (addL (block16 X a.off.den) (block16 Y b.off.den)))) false 5]⟩))) (.stuck 802)) (.stuck 802)
theorem given_bytes' {p : Nat → Bool} {g : Nat → Nat} {E : Option SO} {xs : List (BitVec 8)} {w : Bool} {el : TypeId} (h : E = some (.own (.lst (bx xs)) w el)) : Given p g E (.own (.lst (bx xs)) w el) := by
  refine given_own h (bx_uses _ _) ?_
  show SO.own (.lst (SV.renL _ (bx _))) w el = _
  rw [bx_ren]
theorem combOK : SumOK Tryz.prog 77 combS := by
  intro glob O w0 β H w base args vs hH hG ha
  refine args2_sat fun v u hv => sliceR_sat (fun _ => trivial) fun a l c1 hs1 => sliceR_sat (fun _ => trivial) fun b l2 c2 hs2 => lenIs_sat (fun hl => lenIs_sat (fun hl2 => boolC_sat (fun _ => trivial) fun hab => bytesE_sat fun X n ht => bytesE_sat fun Y n2 ht2 => fun hn => ?_) fun _ => trivial) fun _ => trivial
  rw [hv, hs1, hs2] at ha
  rw [nth_eq] at ht ht2
  obtain ⟨x, ys, hx, hys, rfl⟩ := denL_cons.1 ha
  obtain ⟨y, zs, hy, hz, rfl⟩ := denL_cons.1 hys
  obtain ⟨m, _, hd, _, _⟩ := slice_den hx
  obtain ⟨m2, _, hd2, _, _⟩ := slice_den hy
  rw [hl] at hd
  rw [hl2] at hd2
  exact sum_out cfgC1OK rfl 20000 hH ⟨[a.nm, b.nm], [rowF X n, rowF Y n2], [.slice ⟨0, .sym a.off.den⟩ (.lit 16) (.sym m), .slice ⟨1, .sym b.off.den⟩ (.lit 16) (.sym m2)]⟩
    (denL_cons.2 ⟨_, _, hd, denL_cons.2 ⟨_, _, hd2, hz, rfl⟩, rfl⟩) (Ifc.fits (by simpa using beq_ne hab) rfl ⟨⟨ht _, rowF_uses _ _ _⟩, ⟨ht2 _, rowF_uses _ _ _⟩, trivial⟩) [2] (by simp) (by simp)
    (comb_run X Y n m a.off.den b.off.den n2 m2) (all_cons (byteF_isB X) (all_cons hn.1 (need1_all fun i hi => by omega))) fun H2 hH2 => ⟨SV.imp_of_eq rfl, rfl, trivial, ⟨given_bytes' (List.cons.inj hH2).1, trivial⟩⟩

end Go.Proofs.YtflafdhmmcknhaaGreatDoor.Aes


/-
  internal/bytealg.MakeNoZero: bytes that nobody knows.
-/
namespace Go.Proofs.YtflafdhmmcknhaaGreatDoor.Aes
open Go.Sim
open Go.Proofs
variable {α : Type}

noncomputable def zbyte (z : Nat → Nat) : Nat → BitVec 8 := fun i => BitVec.ofNat 8 (z i)
theorem digits_list : ∀ (n t : Nat) (acc : Array Value), (Extern.BytealgMakeNoZero.digits n t acc).toList = acc.toList ++ (List.range n).map fun i => Value.int .u8 (Int.ofNat (t / 256 ^ i % 256))
  | 0, t, acc => by simp [Extern.BytealgMakeNoZero.digits]
  | n + 1, t, acc => by
    rw [Extern.BytealgMakeNoZero.digits, digits_list n, List.range_succ_eq_map]
    simp only [Array.toList_push, List.append_assoc, List.map_cons, List.map_map, Nat.pow_zero, Nat.div_one]
    congr 1
    show _ :: _ = _ :: _
    congr 1
    apply List.map_congr_left
    intro i _
    show Value.int .u8 _ = Value.int .u8 _
    rw [Nat.div_div_eq_div_mul, Nat.pow_succ, Nat.mul_comm]
theorem mnz_run {P : Program} (w : World) (ps : Array TypeId) (t e : TypeId) (ht : P.underlying t = some (.slice e)) (n : Nat) (hn : n ≤ 281474976710656) :
    ∃ cap bytes, (Extern.BytealgMakeNoZero.makeNoZero ps #[t] #[.int .i64 n]).run P w = .ok (.slice (some ⟨w.heap.size, 0, none⟩) n cap) (w.drew.drew.alloc (.cells (Extern.BytealgMakeNoZero.digits cap bytes #[]) e)) ∧ n ≤ cap := by
  have hdef : Extern.BytealgMakeNoZero.makeNoZero ps #[t] #[.int .i64 n] =
      (do
        let .slice elem ← underlying t | stuck "bytealg.MakeNoZero: slice type expected"
        if (n : Int) < 0 || (n : Int) > 2 ^ 48 then runtimePanic (.error "makeslice: len out of range")
        let cap ← choose (.appendCap (n : Int).toNat 0 elem)
        askRoom cap
        let bytes ← choose (.extern "internal/bytealg.MakeNoZero.bytes" 0)
        let a ← newRow elem (Extern.BytealgMakeNoZero.digits cap bytes #[])
        pure (.slice (some a) (n : Int).toNat cap)) := rfl
  refine ⟨grownCap w n 0 e, (Question.extern "internal/bytealg.MakeNoZero.bytes" 0).cut (w.tape (w.drawn + 1) (.extern "internal/bytealg.MakeNoZero.bytes" 0)), ?_, ?_⟩
  · rw [hdef]
    have h1 : ¬ (n : Int) < 0 := by omega
    have h2 : ¬ (281474976710656 : Int) < (n : Int) := by omega
    simp [run_underlying ht, h1, h2, Question.forced, newRow, grownCap]
  · simpa using grownCap_ge w n 0 e
theorem ext_of {P : Program} {f : FuncId} {e : Array Value → Sem Value} (h1 : (P.funcs[f]?).map (fun fn => (fn.name == "runtime.NumGoroutine", fn.body.isNone)) = some (false, true)) (h2 : (P.funcs[f]?).map (fun fn => (Extern.findNext fn).isNone) = some true) (h3 : (P.funcs[f]?).map Extern.find = some (some e)) :
    ∃ fn, P.funcs[f]? = some fn ∧ (fn.name == "runtime.NumGoroutine") = false ∧ fn.body.isNone = true ∧ Extern.findNext fn = none ∧ Extern.find fn = some e := by
  cases hf : P.funcs[f]? with
  | none => rw [hf] at h1; cases h1
  | some fn =>
    rw [hf] at h1 h2 h3
    simp only [Option.map_some, Option.some.injEq, Prod.mk.injEq] at h1 h2 h3
    exact ⟨fn, rfl, h1.1, h1.2, by simpa using h2, h3⟩
theorem find_mnz : ∃ fn, Tryz.prog.funcs[88]? = some fn ∧ (fn.name == "runtime.NumGoroutine") = false ∧ fn.body.isNone = true ∧ Extern.findNext fn = none ∧ Extern.find fn = some (Extern.BytealgMakeNoZero.makeNoZero #[3] #[23]) := ext_of (by kernel_rfl) (by kernel_rfl) (by kernel_rfl)
noncomputable def mnzS : Summ := fun args _ base => args1 args fun v => optC (litI v) (.stuck 780) fun n => boolC (Nat.ble n 16777216) (.any fun z => .ok ⟨.slice ⟨base, .lit 0⟩ (.lit n) (.rest base 0), [], [.own (.lst (bx (bytesFrom (zbyte z) 0 n))) false 5]⟩) (.stuck 781)
theorem under_bytes : Tryz.prog.underlying 23 = some (.slice 5) := by kernel_rfl
theorem info_byte : (Tryz.prog.info? 5).map (·.size) = some 1 := by kernel_rfl
set_option maxRecDepth 100000 in
theorem mnzOK : SumOK Tryz.prog 88 mnzS := by
  intro glob O w0 β H w base args vs hH hG ha
  refine args1_sat fun v hv => optC_only fun n hn => boolC_only fun hle => ?_
  rw [hv, litI_spec hn] at ha
  cases ha
  have hle : n ≤ 16777216 := Nat.le_of_ble_eq_true hle
  obtain ⟨fn, h1, h2, h3, h4, h5⟩ := find_mnz
  obtain ⟨cap, bytes, hrun, hcap⟩ := mnz_run (P := Tryz.prog) w #[3] 23 5 under_bytes n (by omega)
  refine ⟨fun i => bytes / 256 ^ i % 256, ?_⟩
  intro hfree
  have hb : β base = none := hfree 0 (by simp)
  refine ⟨by simp, .inr ?_⟩
  let vs : List Value := (List.range n).map fun i => Value.int .u8 (Int.ofNat (bytes / 256 ^ i % 256))
  let rest : List Value := (List.range' n (cap - n)).map fun i => Value.int .u8 (Int.ofNat (bytes / 256 ^ i % 256))
  have hcells : Extern.BytealgMakeNoZero.digits cap bytes #[] = (vs ++ rest).toArray := by
    apply Array.ext'
    rw [digits_list]
    show _ = (vs ++ rest)
    simp only [vs, rest]
    rw [← List.map_append, List.range_eq_range', List.range_eq_range']
    have : List.range' 0 cap = List.range' 0 n ++ List.range' n (cap - n) := by
      have := (List.range'_append (s := 0) (m := n) (n := cap - n) (step := 1)).symm
      rw [show n + (cap - n) = cap from by omega] at this
      simpa using this
    rw [this]; rfl
  have hE := Eff.alloc (P := Tryz.prog) (β := β) (w := w) (w' := w.drew.drew.alloc (.cells (Extern.BytealgMakeNoZero.digits cap bytes #[]) 5)) (base := base) (c := .lst (bx (bytesFrom (zbyte fun i => bytes / 256 ^ i % 256) 0 n))) (whole := false) (elem := 5) (vs := vs) (rest := rest) (lo := 0) (hi := 0) (cap := cap) hb
    (by rw [← hcells]; rfl) rfl rfl rfl ?_ (.inl rfl) (by simp) ?_
  · refine ⟨.slice (some ⟨w.heap.size, 0, none⟩) n cap, _, _, ?_, ?_, hE⟩
    · rw [run_callFunc_extern h1 h2 h3 h4 h5]
      show ((Extern.BytealgMakeNoZero.makeNoZero #[3] #[23] #[.int .i64 n]).run Tryz.prog w).andThen _ = _
      rw [hrun]; rfl
    · simp [SV.den, SA.den, SC.den, SN.den, Val.upd, sliceV, hcap]
  · show SV.denL β (bx _) = some vs
    rw [bx_den]
    congr 1
    apply List.ext_getElem?
    intro i
    rw [List.getElem?_map]
    by_cases hi : i < n
    · rw [bytesFrom_get _ _ _ _ hi]
      simp only [vs, List.getElem?_map, List.getElem?_range hi, Option.map_some]
      congr 1
      show Value.int .u8 (((BitVec.ofNat 8 (bytes / 256 ^ (0 + i) % 256)).toNat : Nat) : Int) = _
      rw [BitVec.toNat_ofNat, Nat.zero_add, Nat.mod_mod_of_dvd _ (by decide)]
      rfl
    · rw [List.getElem?_eq_none (by rw [bytesFrom_length]; omega), List.getElem?_eq_none (by simp [vs]; omega)]; rfl
  · intro i hi
    have := info_byte
    rw [hi] at this
    have h1 : i.size = 1 := Option.some.inj this
    rw [h1]
    simp [vs, rest]; omega

end Go.Proofs.YtflafdhmmcknhaaGreatDoor.Aes


/-
  The block cipher, seventh part: making a cipher.
-/
namespace Go.Proofs.YtflafdhmmcknhaaGreatDoor.Aes
open Go.Sim
open Go.Proofs
variable {α : Type}

noncomputable def isCipher (T : List Int) (e : Option SO) : Bool := optC (ownE 155 e) false fun l => boolC (preLit T l) (isTrue1 (dropN l (lenN T))) false
theorem isCipher_spec {T : List Int} {e : Option SO} (h : isCipher T e = true) : e = some (.own (.lst (app (lx T) [.bool (.lit true)])) true 155) := by
  unfold isCipher at h
  cases hl : ownE 155 e with
  | none => rw [hl] at h; cases h
  | some l =>
    rw [hl] at h
    have h : boolC (preLit T l) (isTrue1 (dropN l (lenN T))) false = true := h
    cases h1 : preLit T l with
    | false => rw [h1] at h; cases h
    | true =>
      rw [h1] at h
      have h1 := preLit_spec h1
      rw [isTrue1_spec h] at h1
      rw [ownE_spec hl, h1]
noncomputable def fillS : Summ := fun args H _ => args1 args fun c => optC (headP c) (.stuck 660) fun p => boolC (isCipher (zerosL 688) (nth H p)) (.ok ⟨.tuple [], [(p, filledC)], []⟩) (.stuck 661)
theorem lxt_ren (f : Nat → Nat) (T : List Int) : SV.renL f (app (lx T) [.bool (.lit true)]) = app (lx T) [.bool (.lit true)] := by rw [renL_app, lx_ren]; rfl
theorem lxt_uses (p : Nat → Bool) (T : List Int) : SV.usesL p (app (lx T) [.bool (.lit true)]) = true := by rw [usesL_app, lx_uses]; rfl
theorem filled_eq : filledC = .own (.lst (app (lx (app tabI (zerosL 176))) [.bool (.lit true)])) true 155 := by
  have : app (lx tabI) (app (lx (zerosL 176)) [SV.bool (.lit true)]) = app (lx (app tabI (zerosL 176))) [.bool (.lit true)] := by kernel_rfl
  unfold filledC
  rw [this]
theorem fillOK : SumOK Tryz.prog 103 fillS := by
  intro glob O w0 β H w base args vs hH hG ha
  refine args1_sat fun c hv => optC_only fun p h1 => boolC_only fun hp => ?_
  rw [hv, headP_spec h1] at ha
  rw [nth_eq] at hp
  refine sum_run cfg0OK rfl 20000 hH ⟨[p], [freshC], [.ptr ⟨0, .lit 0⟩]⟩ ha (Ifc.fits (by simp) rfl ⟨⟨⟨_, isCipher_spec hp, taken_imp (by rw [lxt_ren]; exact .refl _)⟩, lxt_uses _ _⟩, trivial⟩) [] (by simp) (by simp) ?_
  show (callSim cfg0 20000 103 [.ptr ⟨0, .lit 0⟩] [freshC]).Ob _ _
  have hr := fill_run
  generalize callSim cfg0 20000 103 [.ptr ⟨0, .lit 0⟩] [freshC] = t at hr ⊢
  refine outP_ob0 hr ?_
  intro H2 hH2
  refine ⟨SV.Imp.refl _, rfl, ?_, trivial⟩
  show SetsOK _ _ _ _ [0] _
  have hH2 : H2[0]? = some filledC := (List.cons.inj hH2).1
  rw [filled_eq] at hH2
  refine ⟨⟨rfl, ?_⟩, trivial⟩
  show Given _ _ _ filledC
  refine given_own hH2 (lxt_uses _ _) ?_
  rw [filled_eq]
  show SO.own (.lst (SV.renL _ _)) true _ = _
  rw [lxt_ren]
noncomputable def expandS : Summ := fun args H _ => args2 args fun c v => optC (headP c) (.stuck 662) fun p => sliceR v (.stuck 663) fun a l => boolC (isCipher (app tabI (zerosL 176)) (nth H p)) (boolC (Nat.beq p a.nm) (.stuck 664)
  (lenIs l 16 (bytesE (nth H a.nm) fun X n => .need (a.off.den + 16 ≤ n) (.ok ⟨.tuple [], [(p, readyC (keysL (block16 X a.off.den)))], []⟩)) (.stuck 665))) (.stuck 666)
theorem expandOK : SumOK Tryz.prog 104 expandS := by
  intro glob O w0 β H w base args vs hH hG ha
  refine args2_sat fun c v hv => optC_only fun p h1 => sliceR_sat (fun _ => trivial) fun a l cc hs => boolC_only fun hp => boolC_sat (fun _ => trivial) fun hpa => lenIs_sat (fun hl => bytesE_sat fun X n ht => fun hn => ?_) fun _ => trivial
  rw [hv, headP_spec h1, hs] at ha
  rw [nth_eq] at hp ht
  obtain ⟨x, ys, hx, hys, rfl⟩ := denL_cons.1 ha
  obtain ⟨y, zs, hy, hz, rfl⟩ := denL_cons.1 hys
  obtain ⟨m, hlm, hd, _, _⟩ := slice_den hy
  rw [hl] at hd
  refine sum_run cfg6OK rfl 20000 hH ⟨[p, a.nm], [filledC, rowF X n], [.ptr ⟨0, .lit 0⟩, .slice ⟨1, .sym a.off.den⟩ (.lit 16) (.sym m)]⟩ (denL_cons.2 ⟨_, _, hx, denL_cons.2 ⟨_, _, hd, hz, rfl⟩, rfl⟩)
    (Ifc.fits (by simpa using beq_ne hpa) rfl ⟨⟨⟨_, isCipher_spec hp, ?_⟩, ?_⟩, ⟨ht _, rowF_uses _ _ _⟩, trivial⟩) [] (by simp) (by simp) ?_
  · rw [filled_eq]; exact taken_imp (by rw [lxt_ren]; exact .refl _)
  · rw [filled_eq]; exact lxt_uses _ _
  · show (callSim cfg6 20000 104 [.ptr ⟨0, .lit 0⟩, .slice ⟨1, .sym a.off.den⟩ (.lit 16) (.sym m)] [filledC, rowF X n]).Ob _ _
    have hr := expand_run X a.off.den n m
    generalize callSim cfg6 20000 104 [.ptr ⟨0, .lit 0⟩, .slice ⟨1, .sym a.off.den⟩ (.lit 16) (.sym m)] [filledC, rowF X n] = t at hr ⊢
    refine outP_ob hr ?_ ?_
    · intro q hq
      simp only [List.mem_cons, List.not_mem_nil, or_false] at hq
      rcases hq with rfl | rfl | rfl | rfl | rfl | rfl | rfl | rfl <;> omega
    · intro H2 hH2
      refine ⟨SV.Imp.refl _, rfl, ?_, trivial⟩
      show SetsOK _ _ _ _ (ownsOf [filledC, rowF X n] 0) _
      rw [filled_eq]
      have hH2 : H2[0]? = some (readyC (keysL (block16 X a.off.den))) := (List.cons.inj hH2).1
      refine ⟨⟨rfl, given_own hH2 (cipherL_uses _ _) ?_⟩, trivial⟩
      show SO.own (.lst (SV.renL _ (cipherL _))) true _ = _
      rw [cipherL_ren]; rfl

noncomputable def cfg7 : Cfg := cfgOf (sumsOf [(103, fillS), (104, expandS)])
theorem cfg7OK : CfgOK cfg7 := sumsOf_ok (allC fillOK (all1 expandOK))

theorem new_run (X : Nat → BitVec 8) (o n m : Nat) : outP [1] (callSim cfg7 6000 83 [.slice ⟨0, .sym o⟩ (.lit 16) (.sym m)] [rowF X n]) =
    ([IsB (byteF X), o + 16 ≤ n], some (.tuple [.ptr ⟨1, .lit 0⟩, .int .i64 (.lit (.ofNat 0))], [some (readyC (keysL (block16 X o)))])) := by kernel_rfl
theorem new_err (o m k : Nat) : outF [] (callSim cfg7 6000 83 [.slice ⟨0, .sym o⟩ (.sym k) (.sym m)] [.gone]) = some (((k : Int) != 16), ([], some (.tuple [.nilPtr, .int .i64 (.lit (.ofNat 2))], [])), ([], none)) := by kernel_rfl
theorem anew_nil : outP [] (callSim cfg7 6000 83 [.nilSlice] []) = ([], some (.tuple [.nilPtr, .int .i64 (.lit (.ofNat 2))], [])) := by kernel_rfl
noncomputable def anewR (H : List SO) (base : Nat) (a : SA) : R SumRes :=
  bytesE (nth H a.nm) fun X n => .need (a.off.den + 16 ≤ n) (.ok ⟨.tuple [.ptr ⟨base, .lit 0⟩, .int .i64 (.lit (.ofNat 0))], [], [readyC (keysL (block16 X a.off.den))]⟩)
noncomputable def anewS : Summ := fun args H base => args1 args fun v => valS v (sliceR v (errR .nilPtr 2) fun a l => lenIs l 16 (anewR H base a) (boolC (placedE (nth H a.nm)) (errR .nilPtr 2) (.stuck 671))) fun n => .need (n ≠ 16) (errR .nilPtr 2)
theorem new_val (p : Option Addr) (k c : Nat) : outO [] (callSim cfg7 6000 83 [.val (.slice p k c)] []) [true] = ([((k : Int) != 16) = true], some (.tuple [.nilPtr, .int .i64 (.lit (.ofNat 2))], [])) := by kernel_rfl
theorem anewOK : SumOK Tryz.prog 83 anewS := by
  intro glob O w0 β H w base args vs hH hG ha
  refine args1_sat fun v hv => valS_sat (sliceR_sat (fun hn => ?_) fun a l cc hs => ?_) fun p n c hs => fun hn => ?_
  rotate_left 2
  · rw [hv, hs] at ha
    exact sum_outO cfg7OK rfl 6000 hH ⟨[], [], [.val (.slice p n c)]⟩ ha (fits0 rfl) [] (by simp) (by simp) (new_val p n c) (all_cons (by rw [bne_iff_ne]; omega) all_nil) fun _ _ => ends0 rfl rfl rfl
  · rw [hv, hn] at ha
    exact sum_out cfg7OK rfl 6000 hH ⟨[], [], [.nilSlice]⟩ ha (fits0 rfl) [] (by simp) (by simp)
      anew_nil (by simp) fun H2 _ => ends0 rfl rfl rfl
  · rw [hv, hs] at ha
    obtain ⟨y, zs, hy, hz, rfl⟩ := denL_cons.1 ha
    obtain ⟨m, hlm, hd, hd2, _⟩ := slice_den hy
    refine lenIs_sat (fun hl => ?_) fun hl => ?_
    · refine bytesE_sat fun X n ht => fun hn => ?_
      rw [nth_eq] at ht
      rw [hl] at hd
      refine sum_run cfg7OK rfl 6000 hH ⟨[a.nm], [rowF X n], [.slice ⟨0, .sym a.off.den⟩ (.lit 16) (.sym m)]⟩ (denL_cons.2 ⟨_, _, hd, hz, rfl⟩) (Ifc.fits (by simp) rfl ⟨⟨ht _, rowF_uses _ _ _⟩, trivial⟩) [1] (by simp) (by simp) ?_
      show (callSim cfg7 6000 83 [.slice ⟨0, .sym a.off.den⟩ (.lit 16) (.sym m)] [rowF X n]).Ob _ _
      have hr := new_run X a.off.den n m
      generalize callSim cfg7 6000 83 [.slice ⟨0, .sym a.off.den⟩ (.lit 16) (.sym m)] [rowF X n] = t at hr ⊢
      refine outP_ob hr ?_ ?_
      · intro q hq
        simp only [List.mem_cons, List.not_mem_nil, or_false] at hq
        rcases hq with rfl | rfl
        · exact byteF_isB X
        · exact hn
      · intro H2 hH2
        have hH2 : H2[1]? = some (readyC (keysL (block16 X a.off.den))) := (List.cons.inj hH2).1
        refine ⟨SV.imp_of_eq rfl, rfl, trivial, ⟨given_own hH2 (cipherL_uses _ _) ?_, trivial⟩⟩
        show SO.own (.lst (SV.renL _ (cipherL _))) true _ = _
        rw [cipherL_ren]; rfl
    · refine boolC_only fun hpl => ?_
      rw [nth_eq] at hpl
      refine sum_outF cfg7OK rfl 6000 hH ⟨[a.nm], [.gone], [.slice ⟨0, .sym a.off.den⟩ (.sym l.den) (.sym m)]⟩ (denL_cons.2 ⟨_, _, hd, hz, rfl⟩) (Ifc.fits (by simp) rfl ⟨⟨taken_gone hpl, trivial⟩, trivial⟩) [] (by simp) (by simp)
        (new_err a.off.den m l.den) (fun _ t' ht' => outP_ob0 ht' fun H2 _ => ends0 rfl rfl rfl) fun hb => ?_
      exfalso; apply hl
      have : ((l.den : Int) == 16) = true := by simpa [bne] using hb
      have : (l.den : Int) = 16 := by simpa using this
      omega

end Go.Proofs.YtflafdhmmcknhaaGreatDoor.Aes

