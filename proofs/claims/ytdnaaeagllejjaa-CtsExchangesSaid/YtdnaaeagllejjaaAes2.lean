/-
  The block cipher, second part: one mixed byte, the table, and the operations on a block.
-/
import Derived.Test.YtdnaaeagllejjaaAes1
namespace Go.Proofs.Ytdnaaeagllejjaa.Aes
open Go.Sim
open Go.Proofs
variable {α : Type}

/-- a mixed byte: by encrypting, by decrypting -/
def mixW (k : Bool) (a b c d : BitVec 8) : BitVec 8 := if k then dbl a ^^^ m3 b ^^^ c ^^^ d else m14 a ^^^ m11 b ^^^ m13 c ^^^ m9 d
def mixAt (k : Bool) (l : List (BitVec 8)) (c r : Nat) : BitVec 8 := mixW k (byteAt l (4 * c + r)) (byteAt l (4 * c + (r + 1) % 4)) (byteAt l (4 * c + (r + 2) % 4)) (byteAt l (4 * c + (r + 3) % 4))
def factors (k : Bool) : List Int := if k then [2, 3, 1, 1] else [14, 11, 13, 9]
def mixZ (k : Bool) (l : List (BitVec 8)) (c r : Nat) : BitVec 8 :=
  if k then BitVec.ofInt 8 0 ^^^ dbl (byteAt l (4 * c + r)) ^^^ m3 (byteAt l (4 * c + (r + 1) % 4)) ^^^ byteAt l (4 * c + (r + 2) % 4) ^^^ byteAt l (4 * c + (r + 3) % 4)
  else BitVec.ofInt 8 0 ^^^ m14 (byteAt l (4 * c + r)) ^^^ m11 (byteAt l (4 * c + (r + 1) % 4)) ^^^ m13 (byteAt l (4 * c + (r + 2) % 4)) ^^^ m9 (byteAt l (4 * c + (r + 3) % 4))
noncomputable def cfg2 : Cfg := cfgOf (sumsOf [(45, dblS), (47, timesS)])
theorem cfg2OK : CfgOK cfg2 := sumsOf_ok (allC dblOK (all1 timesOK))
theorem mixed_run (k : Bool) (x0 x1 x2 x3 x4 x5 x6 x7 x8 x9 xa xb xc xd xe xf : BitVec 8) (c r : Nat) (hc : c < 4) (hr : r < 4) :
    outP [] (callSim cfg2 600 46 [.int .i64 (.lit (.ofNat c)), .int .i64 (.lit (.ofNat r)), .ptr ⟨0, .lit 0⟩, .ptr ⟨1, .lit 0⟩] [.row (.lst (lx (factors k))), .row (.lst (bx [x0, x1, x2, x3, x4, x5, x6, x7, x8, x9, xa, xb, xc, xd, xe, xf]))]) =
      ([], some (.int .u8 (.b8 (mixAt k [x0, x1, x2, x3, x4, x5, x6, x7, x8, x9, xa, xb, xc, xd, xe, xf] c r)), [])) := by
  have hz : ∀ y : BitVec 8, BitVec.ofInt 8 0 ^^^ y = y := fun y => by
    have : BitVec.ofInt 8 0 = 0#8 := by rfl
    rw [this]; simp
  have h : ∀ c r : Nat, c < 4 → r < 4 → outP [] (callSim cfg2 600 46 [.int .i64 (.lit (.ofNat c)), .int .i64 (.lit (.ofNat r)), .ptr ⟨0, .lit 0⟩, .ptr ⟨1, .lit 0⟩] [.row (.lst (lx (factors k))), .row (.lst (bx [x0, x1, x2, x3, x4, x5, x6, x7, x8, x9, xa, xb, xc, xd, xe, xf]))]) =
      ([], some (.int .u8 (.b8 (mixZ k [x0, x1, x2, x3, x4, x5, x6, x7, x8, x9, xa, xb, xc, xd, xe, xf] c r)), [])) := by
    intro c r hc hr
    have hc' : c = 0 ∨ c = 1 ∨ c = 2 ∨ c = 3 := by omega
    have hr' : r = 0 ∨ r = 1 ∨ r = 2 ∨ r = 3 := by omega
    cases k <;> rcases hc' with rfl | rfl | rfl | rfl <;> rcases hr' with rfl | rfl | rfl | rfl <;> (show (_ : List Prop × Option (SV × List (Option SO))) = _) <;> kernel_rfl
  rw [h c r hc hr]
  cases k
  · simp only [mixZ, mixAt, mixW, hz]
  · simp only [mixZ, mixAt, mixW, hz]
/-- cells that are these known bytes, and no others -/
noncomputable def isLit (T : List Int) (l : List SV) : Bool := boolC (Nat.beq (lenN l) (lenN T)) (preLit T l) false
theorem isLit_spec {T : List Int} {l : List SV} (h : isLit T l = true) : l = lx T := by
  unfold isLit at h
  cases h1 : Nat.beq (lenN l) (lenN T) with
  | false => rw [h1] at h; cases h
  | true =>
    rw [h1] at h
    have h2 := preLit_spec (show preLit T l = true from h)
    have h1 := beq_spec h1
    rw [h2, ← h1, lenN_eq, dropN_eq, List.drop_length, app_eq, List.append_nil]
theorem sixteen {xs : List (BitVec 8)} (h : Nat.beq (lenN xs) 16 = true) : ∃ x0 x1 x2 x3 x4 x5 x6 x7 x8 x9 xa xb xc xd xe xf, xs = [x0, x1, x2, x3, x4, x5, x6, x7, x8, x9, xa, xb, xc, xd, xe, xf] := by
  have h := beq_spec h
  rw [lenN_eq] at h
  match xs, h with
  | [x0, x1, x2, x3, x4, x5, x6, x7, x8, x9, xa, xb, xc, xd, xe, xf], _ => exact ⟨_, _, _, _, _, _, _, _, _, _, _, _, _, _, _, _, rfl⟩
noncomputable def mixedK (H : List SO) (k : Bool) (c r a b : Nat) (o : R SumRes) : R SumRes :=
  optC (cellsE (nth H a)) o fun l => boolC (isLit (factors k) l) (optC (cellsE (nth H b)) (.stuck 612) fun l => optC (unb l) (.stuck 611) fun xs => boolC (Nat.beq (lenN xs) 16) (byteR (mixAt k xs c r)) (.stuck 612)) o
noncomputable def mixedS : Summ := fun args H _ => args4 args fun c r a b => optC (litI c) (.stuck 613) fun c => optC (litI r) (.stuck 613) fun r => optC (headP a) (.stuck 613) fun a => optC (headP b) (.stuck 613) fun b =>
  boolC (Nat.blt c 4) (boolC (Nat.blt r 4) (boolC (Nat.beq a b) (.stuck 613) (mixedK H true c r a b (mixedK H false c r a b (.stuck 614)))) (.stuck 615)) (.stuck 615)
theorem mixedOK : SumOK Try.prog 46 mixedS := by
  intro glob O w0 β H w base args vs hH hG ha
  refine args4_sat fun v1 v2 v3 v4 hv => optC_only fun c h1 => optC_only fun r h2 => optC_only fun a h3 => optC_only fun b h4 => boolC_only fun hc => boolC_only fun hr => boolC_sat (fun _ => trivial) fun hab => ?_
  rw [hv, litI_spec h1, litI_spec h2, headP_spec h3, headP_spec h4] at ha
  have key : ∀ (k : Bool) (o : R SumRes), o.Sat (SumSem Try.prog H β w base 46 vs) → (mixedK H k c r a b o).Sat (SumSem Try.prog H β w base 46 vs) := by
    intro k o ho
    unfold mixedK
    cases hl : cellsE (nth H a) with
    | none => exact ho
    | some l =>
      refine boolC_sat (fun hk => optC_only fun m hm => optC_only fun xs hx => boolC_only fun h16 => ?_) fun _ => ho
      have hl2 := isLit_spec hk
      subst hl2
      obtain ⟨x0, x1, x2, x3, x4, x5, x6, x7, x8, x9, xa, xb, xc, xd, xe, xf, rfl⟩ := sixteen h16
      rw [nth_eq] at hl hm
      exact sum_out cfg2OK rfl 600 hH ⟨[a, b], [.row (.lst (lx (factors k))), .row (.lst (bx [x0, x1, x2, x3, x4, x5, x6, x7, x8, x9, xa, xb, xc, xd, xe, xf]))], [.int .i64 (.lit (.ofNat c)), .int .i64 (.lit (.ofNat r)), .ptr ⟨0, .lit 0⟩, .ptr ⟨1, .lit 0⟩]⟩
        ha (Ifc.fits (by simpa using beq_ne hab) rfl ⟨⟨taken_cells hl (by rw [lx_ren]; exact .refl _), lx_uses _ _⟩, ⟨taken_cells hm (by rw [bx_ren]; exact unb_imp hx), bx_uses _ _⟩, trivial⟩) [] (by simp) (by simp)
        (mixed_run k _ _ _ _ _ _ _ _ _ _ _ _ _ _ _ _ c r (blt_spec hc) (blt_spec hr)) (by simp) fun H2 _ => ends0 rfl rfl rfl
  exact key true _ (key false _ trivial)

/- The table. -/
def subs : List Nat :=
  [0x63, 0x7c, 0x77, 0x7b, 0xf2, 0x6b, 0x6f, 0xc5, 0x30, 0x01, 0x67, 0x2b, 0xfe, 0xd7, 0xab, 0x76, 0xca, 0x82, 0xc9, 0x7d, 0xfa, 0x59, 0x47, 0xf0, 0xad, 0xd4, 0xa2, 0xaf, 0x9c, 0xa4, 0x72, 0xc0,
   0xb7, 0xfd, 0x93, 0x26, 0x36, 0x3f, 0xf7, 0xcc, 0x34, 0xa5, 0xe5, 0xf1, 0x71, 0xd8, 0x31, 0x15, 0x04, 0xc7, 0x23, 0xc3, 0x18, 0x96, 0x05, 0x9a, 0x07, 0x12, 0x80, 0xe2, 0xeb, 0x27, 0xb2, 0x75,
   0x09, 0x83, 0x2c, 0x1a, 0x1b, 0x6e, 0x5a, 0xa0, 0x52, 0x3b, 0xd6, 0xb3, 0x29, 0xe3, 0x2f, 0x84, 0x53, 0xd1, 0x00, 0xed, 0x20, 0xfc, 0xb1, 0x5b, 0x6a, 0xcb, 0xbe, 0x39, 0x4a, 0x4c, 0x58, 0xcf,
   0xd0, 0xef, 0xaa, 0xfb, 0x43, 0x4d, 0x33, 0x85, 0x45, 0xf9, 0x02, 0x7f, 0x50, 0x3c, 0x9f, 0xa8, 0x51, 0xa3, 0x40, 0x8f, 0x92, 0x9d, 0x38, 0xf5, 0xbc, 0xb6, 0xda, 0x21, 0x10, 0xff, 0xf3, 0xd2,
   0xcd, 0x0c, 0x13, 0xec, 0x5f, 0x97, 0x44, 0x17, 0xc4, 0xa7, 0x7e, 0x3d, 0x64, 0x5d, 0x19, 0x73, 0x60, 0x81, 0x4f, 0xdc, 0x22, 0x2a, 0x90, 0x88, 0x46, 0xee, 0xb8, 0x14, 0xde, 0x5e, 0x0b, 0xdb,
   0xe0, 0x32, 0x3a, 0x0a, 0x49, 0x06, 0x24, 0x5c, 0xc2, 0xd3, 0xac, 0x62, 0x91, 0x95, 0xe4, 0x79, 0xe7, 0xc8, 0x37, 0x6d, 0x8d, 0xd5, 0x4e, 0xa9, 0x6c, 0x56, 0xf4, 0xea, 0x65, 0x7a, 0xae, 0x08,
   0xba, 0x78, 0x25, 0x2e, 0x1c, 0xa6, 0xb4, 0xc6, 0xe8, 0xdd, 0x74, 0x1f, 0x4b, 0xbd, 0x8b, 0x8a, 0x70, 0x3e, 0xb5, 0x66, 0x48, 0x03, 0xf6, 0x0e, 0x61, 0x35, 0x57, 0xb9, 0x86, 0xc1, 0x1d, 0x9e,
   0xe1, 0xf8, 0x98, 0x11, 0x69, 0xd9, 0x8e, 0x94, 0x9b, 0x1e, 0x87, 0xe9, 0xce, 0x55, 0x28, 0xdf, 0x8c, 0xa1, 0x89, 0x0d, 0xbf, 0xe6, 0x42, 0x68, 0x41, 0x99, 0x2d, 0x0f, 0xb0, 0x54, 0xbb, 0x16]
def recs : List Nat :=
  [0x52, 0x09, 0x6a, 0xd5, 0x30, 0x36, 0xa5, 0x38, 0xbf, 0x40, 0xa3, 0x9e, 0x81, 0xf3, 0xd7, 0xfb, 0x7c, 0xe3, 0x39, 0x82, 0x9b, 0x2f, 0xff, 0x87, 0x34, 0x8e, 0x43, 0x44, 0xc4, 0xde, 0xe9, 0xcb,
   0x54, 0x7b, 0x94, 0x32, 0xa6, 0xc2, 0x23, 0x3d, 0xee, 0x4c, 0x95, 0x0b, 0x42, 0xfa, 0xc3, 0x4e, 0x08, 0x2e, 0xa1, 0x66, 0x28, 0xd9, 0x24, 0xb2, 0x76, 0x5b, 0xa2, 0x49, 0x6d, 0x8b, 0xd1, 0x25,
   0x72, 0xf8, 0xf6, 0x64, 0x86, 0x68, 0x98, 0x16, 0xd4, 0xa4, 0x5c, 0xcc, 0x5d, 0x65, 0xb6, 0x92, 0x6c, 0x70, 0x48, 0x50, 0xfd, 0xed, 0xb9, 0xda, 0x5e, 0x15, 0x46, 0x57, 0xa7, 0x8d, 0x9d, 0x84,
   0x90, 0xd8, 0xab, 0x00, 0x8c, 0xbc, 0xd3, 0x0a, 0xf7, 0xe4, 0x58, 0x05, 0xb8, 0xb3, 0x45, 0x06, 0xd0, 0x2c, 0x1e, 0x8f, 0xca, 0x3f, 0x0f, 0x02, 0xc1, 0xaf, 0xbd, 0x03, 0x01, 0x13, 0x8a, 0x6b,
   0x3a, 0x91, 0x11, 0x41, 0x4f, 0x67, 0xdc, 0xea, 0x97, 0xf2, 0xcf, 0xce, 0xf0, 0xb4, 0xe6, 0x73, 0x96, 0xac, 0x74, 0x22, 0xe7, 0xad, 0x35, 0x85, 0xe2, 0xf9, 0x37, 0xe8, 0x1c, 0x75, 0xdf, 0x6e,
   0x47, 0xf1, 0x1a, 0x71, 0x1d, 0x29, 0xc5, 0x89, 0x6f, 0xb7, 0x62, 0x0e, 0xaa, 0x18, 0xbe, 0x1b, 0xfc, 0x56, 0x3e, 0x4b, 0xc6, 0xd2, 0x79, 0x20, 0x9a, 0xdb, 0xc0, 0xfe, 0x78, 0xcd, 0x5a, 0xf4,
   0x1f, 0xdd, 0xa8, 0x33, 0x88, 0x07, 0xc7, 0x31, 0xb1, 0x12, 0x10, 0x59, 0x27, 0x80, 0xec, 0x5f, 0x60, 0x51, 0x7f, 0xa9, 0x19, 0xb5, 0x4a, 0x0d, 0x2d, 0xe5, 0x7a, 0x9f, 0x93, 0xc9, 0x9c, 0xef,
   0xa0, 0xe0, 0x3b, 0x4d, 0xae, 0x2a, 0xf5, 0xb0, 0xc8, 0xeb, 0xbb, 0x3c, 0x83, 0x53, 0x99, 0x61, 0x17, 0x2b, 0x04, 0x7e, 0xba, 0x77, 0xd6, 0x26, 0xe1, 0x69, 0x14, 0x63, 0x55, 0x21, 0x0c, 0x7d]
def tabN : List Nat := subs ++ recs
def tabB (i : Nat) : BitVec 8 := BitVec.ofNat 8 ((tabN[i]?).getD 0)
def tabI : List Int := tabN.map Int.ofNat
def subB (x : BitVec 8) : BitVec 8 := tabB x.toNat
def recB (x : BitVec 8) : BitVec 8 := tabB (256 + x.toNat)
theorem tab_all : tabN.all (fun n => Nat.blt n 256) = true := by kernel_rfl
theorem tab_small : ∀ n ∈ tabN, n < 256 := fun n h => blt_spec (List.all_eq_true.1 tab_all n h)
theorem tab_len : tabN.length = 512 := by kernel_rfl
theorem lx_get {T : List Int} {γ : Val} {vs : List Value} (h : SV.denL γ (lx T) = some vs) : vs = T.map (Value.int .u8) := by
  induction T generalizing vs with
  | nil => cases h; rfl
  | cons t T ih =>
    obtain ⟨x, ys, hx, hy, rfl⟩ := denL_cons.1 (show SV.denL γ (.int .u8 (.lit t) :: lx T) = some vs from h)
    rw [ih hy]; cases hx; rfl
noncomputable def tabG (i : Nat) : SV := .int .u8 (.b8 (tabB i))
/-- cells with the table at their head -/
noncomputable def tabE (e : Option SO) : Bool := optC (cellsE e) false (preLit tabI)
theorem tabE_spec {e : Option SO} (h : tabE e = true) : ∃ r, cellsE e = some (app (lx tabI) r) := by
  unfold tabE at h
  cases hl : cellsE e with
  | none => rw [hl] at h; cases h
  | some l =>
    rw [hl] at h
    exact ⟨_, by rw [← preLit_spec (show preLit tabI l = true from h)]⟩
theorem taken_tab {f : Nat → Nat} {e : Option SO} (h : tabE e = true) : ∃ e', e = some e' ∧ Taken f (.row (.lst (lx tabI))) e' := by
  obtain ⟨r, hr⟩ := tabE_spec h
  exact taken_front hr (by rw [lx_ren]; exact .refl _)
theorem taken_tabG {f : Nat → Nat} {e : Option SO} (h : tabE e = true) : ∃ e', e = some e' ∧ Taken f (.row (.fn tabG 512)) e' := by
  obtain ⟨r, hr⟩ := tabE_spec h
  obtain ⟨e', rfl, hc⟩ := cellsE_spec hr
  refine ⟨e', rfl, taken_row hc fun γ vs hv => ⟨512, ?_⟩⟩
  have hv : SV.denL γ (app (lx tabI) r) = some vs := hv
  rw [app_eq] at hv
  obtain ⟨x, y, hx, hy, rfl⟩ := denL_split hv
  have hx := lx_get hx
  have hl : x.length = 512 := by rw [hx]; simp [tabI, tab_len]
  rw [List.take_append_of_le_length (by omega), List.take_of_length_le (by omega)]
  refine ⟨hl, fun i u hu => ?_⟩
  rw [hx, tabI, List.map_map, List.getElem?_map] at hu
  cases hn : tabN[i]? with
  | none => rw [hn] at hu; cases hu
  | some n =>
    rw [hn] at hu; cases hu
    have := tab_small n (List.mem_of_getElem? hn)
    show some (Value.int .u8 (((tabB i).toNat : Nat) : Int)) = _
    unfold tabB
    rw [hn, Option.getD_some, BitVec.toNat_ofNat, Nat.mod_eq_of_lt (by omega)]
    rfl
noncomputable def lookS (F : BitVec 8 → BitVec 8) : Summ := fun args H _ => args2 args fun c v => optC (headP c) (.stuck 640) fun c => optC (unb1 v) (.stuck 640) fun x => boolC (tabE (nth H c)) (byteR (F x)) (.stuck 641)
theorem replace_run (x : BitVec 8) : outP [] (callSim cfg0 200 40 [.ptr ⟨0, .lit 0⟩, .int .u8 (.b8 x)] [.row (.fn tabG 512)]) =
    ([0 + x.toNat < 512], some (.int .u8 (.b8 (tabB (0 + x.toNat))), [])) := by kernel_rfl
theorem recall_run (x : BitVec 8) : outP [] (callSim cfg0 200 44 [.ptr ⟨0, .lit 0⟩, .int .u8 (.b8 x)] [.row (.fn tabG 512)]) =
    ([256 + x.toNat < 512], some (.int .u8 (.b8 (tabB (256 + x.toNat))), [])) := by kernel_rfl
theorem lookOK {f : FuncId} {F : BitVec 8 → BitVec 8} {k : Nat} (hk : k + 256 ≤ 512) (hF : ∀ x, F x = tabB (k + x.toNat)) (h : ∀ x : BitVec 8, outP [] (callSim cfg0 200 f [.ptr ⟨0, .lit 0⟩, .int .u8 (.b8 x)] [.row (.fn tabG 512)]) =
    ([k + x.toNat < 512], some (.int .u8 (.b8 (tabB (k + x.toNat))), []))) : SumOK Try.prog f (lookS F) := by
  intro glob O w0 β H w base args vs hH hG ha
  refine args2_sat fun c v hv => optC_only fun c h1 => optC_only fun x hx => boolC_only fun ht => ?_
  rw [hv, headP_spec h1] at ha
  rw [nth_eq] at ht
  have hx2 := x.isLt
  refine sum_out cfg0OK rfl 200 hH ⟨[c], [.row (.fn tabG 512)], [.ptr ⟨0, .lit 0⟩, .int .u8 (.b8 x)]⟩ (impL_cons (.refl _) (impL_cons (unb1_imp hx) impL_nil) _ _ ha) (Ifc.fits (by simp) rfl ⟨⟨taken_tabG ht, fun _ => rfl⟩, trivial⟩) [] (by simp) (by simp)
    (h x) ?_ fun H2 _ => ?_
  · intro p hp
    rcases List.mem_cons.1 hp with rfl | hp
    · omega
    · cases hp
  · rw [← hF]; exact ends0 rfl rfl rfl
theorem replaceOK : SumOK Try.prog 40 (lookS subB) := lookOK (k := 0) (by omega) (fun x => by rw [Nat.zero_add]; rfl) replace_run
theorem recallOK : SumOK Try.prog 44 (lookS recB) := lookOK (k := 256) (by omega) (fun _ => rfl) recall_run

end Go.Proofs.Ytdnaaeagllejjaa.Aes
