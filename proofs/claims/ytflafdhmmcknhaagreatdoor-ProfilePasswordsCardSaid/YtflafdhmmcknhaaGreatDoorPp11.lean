/-
  Texts behind one another: the symbolic simulator and what it is told of the program.
-/
import Derived.Test.YtflafdhmmcknhaaGreatDoorPp9

/-
  The block cipher, second part: one mixed byte, the table, and the operations on a block.
-/
namespace Go.Proofs.YtflafdhmmcknhaaGreatDoor.Aes
open Go.Sim
open Go.Proofs
variable {α : Type}

/-- a mixed byte: by encrypting, by decrypting -/
def mixW (k : Bool) (a b c d : BitVec 8) : BitVec 8 := if k then dbl a ^^^ m3 b ^^^ c ^^^ d else m14 a ^^^ m11 b ^^^ m13 c ^^^ m9 d
def mixAt (k : Bool) (l : List (BitVec 8)) (c r : Nat) : BitVec 8 := mixW k (byteAt l (4 * c + r)) (byteAt l (4 * c + (r + 1) % 4)) (byteAt l (4 * c + (r + 2) % 4)) (byteAt l (4 * c + (r + 3) % 4))
def factors (k : Bool) : List Int := if k then [2, 3, 1, 1] else [14, 11, 13, 9]
def mixZ (k : Bool) (l : List (BitVec 8)) (c r : Nat) : BitVec 8 :=
  if k then BitVec.ofInt 8 0 ^^^ dbl (byteAt l (4 * c + r)) ^^^ m3 (byteAt l (4 * c + (r + 1) % 4)) ^^^ byteAt l (4 * c + (r + 2) % 4) ^^^ byteAt l (4 * c + (r + 3) % 4)
  else BitVec.ofInt 8 0 ^^^ m14 (byteAt l (4 * c + r)) ^^^ m11 (byteAt l (4 * c + (r + 1) % 4)) ^^^ m13 (byteAt l (4 * c + (r + 2) % 4)) ^^^ m9 (byteAt l (4 * c + (r + 3) % 4))
noncomputable def cfg2 : Cfg := cfgOf (sumsOf [(114, dblS), (116, timesS)])
theorem cfg2OK : CfgOK cfg2 := sumsOf_ok (allC dblOK (all1 timesOK))
theorem mixed_run (k : Bool) (x0 x1 x2 x3 x4 x5 x6 x7 x8 x9 xa xb xc xd xe xf : BitVec 8) (c r : Nat) (hc : c < 4) (hr : r < 4) :
    outP [] (callSim cfg2 600 115 [.int .i64 (.lit (.ofNat c)), .int .i64 (.lit (.ofNat r)), .ptr ⟨0, .lit 0⟩, .ptr ⟨1, .lit 0⟩] [.row (.lst (lx (factors k))), .row (.lst (bx [x0, x1, x2, x3, x4, x5, x6, x7, x8, x9, xa, xb, xc, xd, xe, xf]))]) =
      ([], some (.int .u8 (.b8 (mixAt k [x0, x1, x2, x3, x4, x5, x6, x7, x8, x9, xa, xb, xc, xd, xe, xf] c r)), [])) := by
  have hz : ∀ y : BitVec 8, BitVec.ofInt 8 0 ^^^ y = y := fun y => by
    have : BitVec.ofInt 8 0 = 0#8 := by rfl
    rw [this]; simp
  have h : ∀ c r : Nat, c < 4 → r < 4 → outP [] (callSim cfg2 600 115 [.int .i64 (.lit (.ofNat c)), .int .i64 (.lit (.ofNat r)), .ptr ⟨0, .lit 0⟩, .ptr ⟨1, .lit 0⟩] [.row (.lst (lx (factors k))), .row (.lst (bx [x0, x1, x2, x3, x4, x5, x6, x7, x8, x9, xa, xb, xc, xd, xe, xf]))]) =
      ([], some (.int .u8 (.b8 (mixZ k [x0, x1, x2, x3, x4, x5, x6, x7, x8, x9, xa, xb, xc, xd, xe, xf] c r)), [])) := by
    intro c r hc hr
    have hc' : c = 0 ∨ c = 1 ∨ c = 2 ∨ c = 3 := by omega
    have hr' : r = 0 ∨ r = 1 ∨ r = 2 ∨ r = 3 := by omega
    cases k <;> rcases hc' with rfl | rfl | rfl | rfl <;> rcases hr' with rfl | rfl | rfl | rfl <;> (show (_ : List Prop × Option (SV × List (Option SO))) = _) <;> kernel_rfl
  rw [h c r hc hr]
  cases k
  · simp only [mixZ, mixAt, mixW, hz]
  · simp only [mixZ, mixAt, mixW, hz]
/-- cells that are these known bytes, and no others -/
noncomputable def isLit (T : List Int) (l : List SV) : Bool := boolC (Nat.beq (lenN l) (lenN T)) (preLit T l) false
theorem isLit_spec {T : List Int} {l : List SV} (h : isLit T l = true) : l = lx T := by
  unfold isLit at h
  cases h1 : Nat.beq (lenN l) (lenN T) with
  | false => rw [h1] at h; cases h
  | true =>
    rw [h1] at h
    have h2 := preLit_spec (show preLit T l = true from h)
    have h1 := beq_spec h1
    rw [h2, ← h1, lenN_eq, dropN_eq, List.drop_length, app_eq, List.append_nil]
theorem sixteen {xs : List (BitVec 8)} (h : Nat.beq (lenN xs) 16 = true) : ∃ x0 x1 x2 x3 x4 x5 x6 x7 x8 x9 xa xb xc xd xe xf, xs = [x0, x1, x2, x3, x4, x5, x6, x7, x8, x9, xa, xb, xc, xd, xe, xf] := by
  have h := beq_spec h
  rw [lenN_eq] at h
  match xs, h with
  | [x0, x1, x2, x3, x4, x5, x6, x7, x8, x9, xa, xb, xc, xd, xe, xf], _ => exact ⟨_, _, _, _, _, _, _, _, _, _, _, _, _, _, _, _, rfl⟩
noncomputable def mixedK (H : List SO) (k : Bool) (c r a b : Nat) (o : R SumRes) : R SumRes :=
  optC (cellsE (nth H a)) o fun l => boolC (isLit (factors k) l) (optC (cellsE (nth H b)) (.stuck 612) fun l => optC (unb l) (.stuck 611) fun xs => boolC (Nat.beq (lenN xs) 16) (byteR (mixAt k xs c r)) (.stuck 612)) o
noncomputable def mixedS : Summ := fun args H _ => args4 args fun c r a b => optC (litI c) (.stuck 613) fun c => optC (litI r) (.stuck 613) fun r => optC (headP a) (.stuck 613) fun a => optC (headP b) (.stuck 613) fun b =>
  boolC (Nat.blt c 4) (boolC (Nat.blt r 4) (boolC (Nat.beq a b) (.stuck 613) (mixedK H true c r a b (mixedK H false c r a b (.stuck 614)))) (.stuck 615)) (.stuck 615)
theorem mixedOK : SumOK Tryz.prog 115 mixedS := by
  intro glob O w0 β H w base args vs hH hG ha
  refine args4_sat fun v1 v2 v3 v4 hv => optC_only fun c h1 => optC_only fun r h2 => optC_only fun a h3 => optC_only fun b h4 => boolC_only fun hc => boolC_only fun hr => boolC_sat (fun _ => trivial) fun hab => ?_
  rw [hv, litI_spec h1, litI_spec h2, headP_spec h3, headP_spec h4] at ha
  have key : ∀ (k : Bool) (o : R SumRes), o.Sat (SumSem Tryz.prog H β w base 115 vs) → (mixedK H k c r a b o).Sat (SumSem Tryz.prog H β w base 115 vs) := by
    intro k o ho
    unfold mixedK
    cases hl : cellsE (nth H a) with
    | none => exact ho
    | some l =>
      refine boolC_sat (fun hk => optC_only fun m hm => optC_only fun xs hx => boolC_only fun h16 => ?_) fun _ => ho
      have hl2 := isLit_spec hk
      subst hl2
      obtain ⟨x0, x1, x2, x3, x4, x5, x6, x7, x8, x9, xa, xb, xc, xd, xe, xf, rfl⟩ := sixteen h16
      rw [nth_eq] at hl hm
      exact sum_out cfg2OK rfl 600 hH ⟨[a, b], [.row (.lst (lx (factors k))), .row (.lst (bx [x0, x1, x2, x3, x4, x5, x6, x7, x8, x9, xa, xb, xc, xd, xe, xf]))], [.int .i64 (.lit (.ofNat c)), .int .i64 (.lit (.ofNat r)), .ptr ⟨0, .lit 0⟩, .ptr ⟨1, .lit 0⟩]⟩
        ha (Ifc.fits (by simpa using beq_ne hab) rfl ⟨⟨taken_cells hl (by rw [lx_ren]; exact .refl _), lx_uses _ _⟩, ⟨taken_cells hm (by rw [bx_ren]; exact unb_imp hx), bx_uses _ _⟩, trivial⟩) [] (by simp) (by simp)
        (mixed_run k _ _ _ _ _ _ _ _ _ _ _ _ _ _ _ _ c r (blt_spec hc) (blt_spec hr)) (by simp) fun H2 _ => ends0 rfl rfl rfl
  exact key true _ (key false _ trivial)

/- The table. -/
def subs : List Nat :=
  [0x63, 0x7c, 0x77, 0x7b, 0xf2, 0x6b, 0x6f, 0xc5, 0x30, 0x01, 0x67, 0x2b, 0xfe, 0xd7, 0xab, 0x76, 0xca, 0x82, 0xc9, 0x7d, 0xfa, 0x59, 0x47, 0xf0, 0xad, 0xd4, 0xa2, 0xaf, 0x9c, 0xa4, 0x72, 0xc0,
   0xb7, 0xfd, 0x93, 0x26, 0x36, 0x3f, 0xf7, 0xcc, 0x34, 0xa5, 0xe5, 0xf1, 0x71, 0xd8, 0x31, 0x15, 0x04, 0xc7, 0x23, 0xc3, 0x18, 0x96, 0x05, 0x9a, 0x07, 0x12, 0x80, 0xe2, 0xeb, 0x27, 0xb2, 0x75,
   0x09, 0x83, 0x2c, 0x1a, 0x1b, 0x6e, 0x5a, 0xa0, 0x52, 0x3b, 0xd6, 0xb3, 0x29, 0xe3, 0x2f, 0x84, 0x53, 0xd1, 0x00, 0xed, 0x20, 0xfc, 0xb1, 0x5b, 0x6a, 0xcb, 0xbe, 0x39, 0x4a, 0x4c, 0x58, 0xcf,
   0xd0, 0xef, 0xaa, 0xfb, 0x43, 0x4d, 0x33, 0x85, 0x45, 0xf9, 0x02, 0x7f, 0x50, 0x3c, 0x9f, 0xa8, 0x51, 0xa3, 0x40, 0x8f, 0x92, 0x9d, 0x38, 0xf5, 0xbc, 0xb6, 0xda, 0x21, 0x10, 0xff, 0xf3, 0xd2,
   0xcd, 0x0c, 0x13, 0xec, 0x5f, 0x97, 0x44, 0x17, 0xc4, 0xa7, 0x7e, 0x3d, 0x64, 0x5d, 0x19, 0x73, 0x60, 0x81, 0x4f, 0xdc, 0x22, 0x2a, 0x90, 0x88, 0x46, 0xee, 0xb8, 0x14, 0xde, 0x5e, 0x0b, 0xdb,
   0xe0, 0x32, 0x3a, 0x0a, 0x49, 0x06, 0x24, 0x5c, 0xc2, 0xd3, 0xac, 0x62, 0x91, 0x95, 0xe4, 0x79, 0xe7, 0xc8, 0x37, 0x6d, 0x8d, 0xd5, 0x4e, 0xa9, 0x6c, 0x56, 0xf4, 0xea, 0x65, 0x7a, 0xae, 0x08,
   0xba, 0x78, 0x25, 0x2e, 0x1c, 0xa6, 0xb4, 0xc6, 0xe8, 0xdd, 0x74, 0x1f, 0x4b, 0xbd, 0x8b, 0x8a, 0x70, 0x3e, 0xb5, 0x66, 0x48, 0x03, 0xf6, 0x0e, 0x61, 0x35, 0x57, 0xb9, 0x86, 0xc1, 0x1d, 0x9e,
   0xe1, 0xf8, 0x98, 0x11, 0x69, 0xd9, 0x8e, 0x94, 0x9b, 0x1e, 0x87, 0xe9, 0xce, 0x55, 0x28, 0xdf, 0x8c, 0xa1, 0x89, 0x0d, 0xbf, 0xe6, 0x42, 0x68, 0x41, 0x99, 0x2d, 0x0f, 0xb0, 0x54, 0xbb, 0x16]
def recs : List Nat :=
  [0x52, 0x09, 0x6a, 0xd5, 0x30, 0x36, 0xa5, 0x38, 0xbf, 0x40, 0xa3, 0x9e, 0x81, 0xf3, 0xd7, 0xfb, 0x7c, 0xe3, 0x39, 0x82, 0x9b, 0x2f, 0xff, 0x87, 0x34, 0x8e, 0x43, 0x44, 0xc4, 0xde, 0xe9, 0xcb,
   0x54, 0x7b, 0x94, 0x32, 0xa6, 0xc2, 0x23, 0x3d, 0xee, 0x4c, 0x95, 0x0b, 0x42, 0xfa, 0xc3, 0x4e, 0x08, 0x2e, 0xa1, 0x66, 0x28, 0xd9, 0x24, 0xb2, 0x76, 0x5b, 0xa2, 0x49, 0x6d, 0x8b, 0xd1, 0x25,
   0x72, 0xf8, 0xf6, 0x64, 0x86, 0x68, 0x98, 0x16, 0xd4, 0xa4, 0x5c, 0xcc, 0x5d, 0x65, 0xb6, 0x92, 0x6c, 0x70, 0x48, 0x50, 0xfd, 0xed, 0xb9, 0xda, 0x5e, 0x15, 0x46, 0x57, 0xa7, 0x8d, 0x9d, 0x84,
   0x90, 0xd8, 0xab, 0x00, 0x8c, 0xbc, 0xd3, 0x0a, 0xf7, 0xe4, 0x58, 0x05, 0xb8, 0xb3, 0x45, 0x06, 0xd0, 0x2c, 0x1e, 0x8f, 0xca, 0x3f, 0x0f, 0x02, 0xc1, 0xaf, 0xbd, 0x03, 0x01, 0x13, 0x8a, 0x6b,
   0x3a, 0x91, 0x11, 0x41, 0x4f, 0x67, 0xdc, 0xea, 0x97, 0xf2, 0xcf, 0xce, 0xf0, 0xb4, 0xe6, 0x73, 0x96, 0xac, 0x74, 0x22, 0xe7, 0xad, 0x35, 0x85, 0xe2, 0xf9, 0x37, 0xe8, 0x1c, 0x75, 0xdf, 0x6e,
   0x47, 0xf1, 0x1a, 0x71, 0x1d, 0x29, 0xc5, 0x89, 0x6f, 0xb7, 0x62, 0x0e, 0xaa, 0x18, 0xbe, 0x1b, 0xfc, 0x56, 0x3e, 0x4b, 0xc6, 0xd2, 0x79, 0x20, 0x9a, 0xdb, 0xc0, 0xfe, 0x78, 0xcd, 0x5a, 0xf4,
   0x1f, 0xdd, 0xa8, 0x33, 0x88, 0x07, 0xc7, 0x31, 0xb1, 0x12, 0x10, 0x59, 0x27, 0x80, 0xec, 0x5f, 0x60, 0x51, 0x7f, 0xa9, 0x19, 0xb5, 0x4a, 0x0d, 0x2d, 0xe5, 0x7a, 0x9f, 0x93, 0xc9, 0x9c, 0xef,
   0xa0, 0xe0, 0x3b, 0x4d, 0xae, 0x2a, 0xf5, 0xb0, 0xc8, 0xeb, 0xbb, 0x3c, 0x83, 0x53, 0x99, 0x61, 0x17, 0x2b, 0x04, 0x7e, 0xba, 0x77, 0xd6, 0x26, 0xe1, 0x69, 0x14, 0x63, 0x55, 0x21, 0x0c, 0x7d]
def tabN : List Nat := subs ++ recs
def atabB (i : Nat) : BitVec 8 := BitVec.ofNat 8 ((tabN[i]?).getD 0)
def tabI : List Int := tabN.map Int.ofNat
def subB (x : BitVec 8) : BitVec 8 := atabB x.toNat
def recB (x : BitVec 8) : BitVec 8 := atabB (256 + x.toNat)
theorem tab_all : tabN.all (fun n => Nat.blt n 256) = true := by kernel_rfl
theorem tab_small : ∀ n ∈ tabN, n < 256 := fun n h => blt_spec (List.all_eq_true.1 tab_all n h)
theorem tab_len : tabN.length = 512 := by kernel_rfl
theorem lx_get {T : List Int} {γ : Val} {vs : List Value} (h : SV.denL γ (lx T) = some vs) : vs = T.map (Value.int .u8) := by
  induction T generalizing vs with
  | nil => cases h; rfl
  | cons t T ih =>
    obtain ⟨x, ys, hx, hy, rfl⟩ := denL_cons.1 (show SV.denL γ (.int .u8 (.lit t) :: lx T) = some vs from h)
    rw [ih hy]; cases hx; rfl
noncomputable def tabG (i : Nat) : SV := .int .u8 (.b8 (atabB i))
/-- cells with the table at their head -/
noncomputable def tabE (e : Option SO) : Bool := optC (cellsE e) false (preLit tabI)
theorem tabE_spec {e : Option SO} (h : tabE e = true) : ∃ r, cellsE e = some (app (lx tabI) r) := by
  unfold tabE at h
  cases hl : cellsE e with
  | none => rw [hl] at h; cases h
  | some l =>
    rw [hl] at h
    exact ⟨_, by rw [← preLit_spec (show preLit tabI l = true from h)]⟩
theorem taken_tab {f : Nat → Nat} {e : Option SO} (h : tabE e = true) : ∃ e', e = some e' ∧ Taken f (.row (.lst (lx tabI))) e' := by
  obtain ⟨r, hr⟩ := tabE_spec h
  exact taken_front hr (by rw [lx_ren]; exact .refl _)
theorem taken_tabG {f : Nat → Nat} {e : Option SO} (h : tabE e = true) : ∃ e', e = some e' ∧ Taken f (.row (.fn tabG 512)) e' := by
  obtain ⟨r, hr⟩ := tabE_spec h
  obtain ⟨e', rfl, hc⟩ := cellsE_spec hr
  refine ⟨e', rfl, taken_row hc fun γ vs hv => ⟨512, ?_⟩⟩
  have hv : SV.denL γ (app (lx tabI) r) = some vs := hv
  rw [app_eq] at hv
  obtain ⟨x, y, hx, hy, rfl⟩ := denL_split hv
  have hx := lx_get hx
  have hl : x.length = 512 := by rw [hx]; simp [tabI, tab_len]
  rw [List.take_append_of_le_length (by omega), List.take_of_length_le (by omega)]
  refine ⟨hl, fun i u hu => ?_⟩
  rw [hx, tabI, List.map_map, List.getElem?_map] at hu
  cases hn : tabN[i]? with
  | none => rw [hn] at hu; cases hu
  | some n =>
    rw [hn] at hu; cases hu
    have := tab_small n (List.mem_of_getElem? hn)
    show some (Value.int .u8 (((atabB i).toNat : Nat) : Int)) = _
    unfold atabB
    rw [hn, Option.getD_some, BitVec.toNat_ofNat, Nat.mod_eq_of_lt (by omega)]
    rfl
noncomputable def lookS (F : BitVec 8 → BitVec 8) : Summ := fun args H _ => args2 args fun c v => optC (headP c) (.stuck 640) fun c => optC (unb1 v) (.stuck 640) fun x => boolC (tabE (nth H c)) (byteR (F x)) (.stuck 641)
theorem replace_run (x : BitVec 8) : outP [] (callSim cfg0 200 113 [.ptr ⟨0, .lit 0⟩, .int .u8 (.b8 x)] [.row (.fn tabG 512)]) =
    ([0 + x.toNat < 512], some (.int .u8 (.b8 (atabB (0 + x.toNat))), [])) := by kernel_rfl
theorem recall_run (x : BitVec 8) : outP [] (callSim cfg0 200 110 [.ptr ⟨0, .lit 0⟩, .int .u8 (.b8 x)] [.row (.fn tabG 512)]) =
    ([256 + x.toNat < 512], some (.int .u8 (.b8 (atabB (256 + x.toNat))), [])) := by kernel_rfl
theorem lookOK {f : FuncId} {F : BitVec 8 → BitVec 8} {k : Nat} (hk : k + 256 ≤ 512) (hF : ∀ x, F x = atabB (k + x.toNat)) (h : ∀ x : BitVec 8, outP [] (callSim cfg0 200 f [.ptr ⟨0, .lit 0⟩, .int .u8 (.b8 x)] [.row (.fn tabG 512)]) =
    ([k + x.toNat < 512], some (.int .u8 (.b8 (atabB (k + x.toNat))), []))) : SumOK Tryz.prog f (lookS F) := by
  intro glob O w0 β H w base args vs hH hG ha
  refine args2_sat fun c v hv => optC_only fun c h1 => optC_only fun x hx => boolC_only fun ht => ?_
  rw [hv, headP_spec h1] at ha
  rw [nth_eq] at ht
  have hx2 := x.isLt
  refine sum_out cfg0OK rfl 200 hH ⟨[c], [.row (.fn tabG 512)], [.ptr ⟨0, .lit 0⟩, .int .u8 (.b8 x)]⟩ (impL_cons (.refl _) (impL_cons (unb1_imp hx) impL_nil) _ _ ha) (Ifc.fits (by simp) rfl ⟨⟨taken_tabG ht, fun _ => rfl⟩, trivial⟩) [] (by simp) (by simp)
    (h x) ?_ fun H2 _ => ?_
  · intro p hp
    rcases List.mem_cons.1 hp with rfl | hp
    · omega
    · cases hp
  · rw [← hF]; exact ends0 rfl rfl rfl
theorem replaceOK : SumOK Tryz.prog 113 (lookS subB) := lookOK (k := 0) (by omega) (fun x => by rw [Nat.zero_add]; rfl) replace_run
theorem recallOK : SumOK Tryz.prog 110 (lookS recB) := lookOK (k := 256) (by omega) (fun _ => rfl) recall_run

end Go.Proofs.YtflafdhmmcknhaaGreatDoor.Aes


/-
  The block cipher, third part: the operations on a pass.
-/
namespace Go.Proofs.YtflafdhmmcknhaaGreatDoor.Aes
open Go.Sim
open Go.Proofs
variable {α : Type}

/-- a pass: the cipher's name, the block, the round key -/
noncomputable def passL (c : Nat) (xs ks : List (BitVec 8)) : List SV := .ptr ⟨c, .lit 0⟩ :: app (bx xs) (bx ks)
noncomputable def passE (c : Nat) (xs ks : List (BitVec 8)) : SO := .own (.lst (passL c xs ks)) true 135
noncomputable def passK (l : List SV) (f : Nat → List (BitVec 8) → List (BitVec 8) → R α) : R α :=
  List.rec (motive := fun _ => R α) (.stuck 622) (fun v l _ => optC (headP v) (.stuck 622) fun c => optC (unb (takeN l 16)) (.stuck 623) fun xs => optC (unb (dropN l 16)) (.stuck 623) fun ks =>
    boolC (Nat.beq (lenN xs) 16) (boolC (Nat.beq (lenN ks) 16) (f c xs ks) (.stuck 624)) (.stuck 624)) l
theorem passK_sat {l : List SV} {f : Nat → List (BitVec 8) → List (BitVec 8) → R α} {φ : α → Prop} (h : ∀ c xs ks, SV.ImpL l (passL c xs ks) → Nat.beq (lenN xs) 16 = true → Nat.beq (lenN ks) 16 = true → (f c xs ks).Sat φ) : (passK l f).Sat φ := by
  cases l with
  | nil => trivial
  | cons v l =>
    refine optC_only fun c h1 => optC_only fun xs hx => optC_only fun ks hk => boolC_only fun h16 => boolC_only fun k16 => h c xs ks ?_ h16 k16
    rw [headP_spec h1]
    refine impL_cons (.refl _) ?_
    rw [← app_take_drop l 16]
    exact impL_app (unb_imp hx) (unb_imp hk)
theorem passL_ren (f : Nat → Nat) (c : Nat) (xs ks : List (BitVec 8)) : SV.renL f (passL c xs ks) = passL (f c) xs ks := by
  show _ :: SV.renL f (app (bx xs) (bx ks)) = _
  rw [renL_app, bx_ren, bx_ren]; rfl
theorem passL_uses (p : Nat → Bool) (c : Nat) (h : p c = true) (xs ks : List (BitVec 8)) : SV.usesL p (passL c xs ks) = true := by
  show (p c && SV.usesL p (app (bx xs) (bx ks))) = true
  rw [h, usesL_app, bx_uses, bx_uses]; rfl
/-- an operation on a pass; the cipher's entry is looked at first -/
noncomputable def passS (chk : Option SO → Bool) (F : List (BitVec 8) → List (BitVec 8) → List (BitVec 8)) : Summ := fun args H _ => args1 args fun v => optC (headP v) (.stuck 627) fun p =>
  optC (ownE 135 (nth H p)) (.stuck 628) fun l => passK l fun c xs ks => boolC (Nat.beq p c) (.stuck 628) (boolC (chk (nth H c)) (.ok ⟨.tuple [], [(p, passE c (F xs ks) ks)], []⟩) (.stuck 629))
theorem passOK {c0 : Cfg} (hc : CfgOK c0) (hgl : c0.glob = fun _ => none) {f : FuncId} {n : Nat} {chk : Option SO → Bool} {E1 : SO} (hE : ∀ (g : Nat → Nat) (e : Option SO), chk e = true → ∃ e', e = some e' ∧ Taken g E1 e') (hU : ∀ p, E1.CUses p) (hO : ownsOf [E1] 1 = [])
    {F : List (BitVec 8) → List (BitVec 8) → List (BitVec 8)}
    (hrun : ∀ x0 x1 x2 x3 x4 x5 x6 x7 x8 x9 xa xb xc xd xe xf k0 k1 k2 k3 k4 k5 k6 k7 k8 k9 ka kb kc kd ke kf : BitVec 8,
      outP [0] (callSim c0 n f [.ptr ⟨0, .lit 0⟩] [passE 1 [x0, x1, x2, x3, x4, x5, x6, x7, x8, x9, xa, xb, xc, xd, xe, xf] [k0, k1, k2, k3, k4, k5, k6, k7, k8, k9, ka, kb, kc, kd, ke, kf], E1]) =
        ([], some (.tuple [], [some (passE 1 (F [x0, x1, x2, x3, x4, x5, x6, x7, x8, x9, xa, xb, xc, xd, xe, xf] [k0, k1, k2, k3, k4, k5, k6, k7, k8, k9, ka, kb, kc, kd, ke, kf]) [k0, k1, k2, k3, k4, k5, k6, k7, k8, k9, ka, kb, kc, kd, ke, kf])]))) :
    SumOK c0.P f (passS chk F) := by
  intro glob O w0 β H w base args vs hH hG ha
  refine args1_sat fun v hv => optC_only fun p h1 => optC_only fun l hl => passK_sat fun c xs ks hi h16 k16 => boolC_sat (fun _ => trivial) fun hpc => boolC_only fun hck => ?_
  rw [hv, headP_spec h1] at ha
  rw [nth_eq] at hl hck
  obtain ⟨x0, x1, x2, x3, x4, x5, x6, x7, x8, x9, xa, xb, xc, xd, xe, xf, rfl⟩ := sixteen h16
  obtain ⟨k0, k1, k2, k3, k4, k5, k6, k7, k8, k9, ka, kb, kc, kd, ke, kf, rfl⟩ := sixteen k16
  have hown : ownsOf [passE 1 [x0, x1, x2, x3, x4, x5, x6, x7, x8, x9, xa, xb, xc, xd, xe, xf] [k0, k1, k2, k3, k4, k5, k6, k7, k8, k9, ka, kb, kc, kd, ke, kf], E1] 0 = [0] := by show 0 :: ownsOf [E1] 1 = _; rw [hO]
  refine sum_out hc hgl n hH ⟨[p, c], [passE 1 [x0, x1, x2, x3, x4, x5, x6, x7, x8, x9, xa, xb, xc, xd, xe, xf] [k0, k1, k2, k3, k4, k5, k6, k7, k8, k9, ka, kb, kc, kd, ke, kf], E1], [.ptr ⟨0, .lit 0⟩]⟩
    ha (Ifc.fits (by simpa using beq_ne hpc) rfl ⟨⟨⟨_, ownE_spec hl, taken_imp (by rw [passL_ren]; exact hi)⟩, passL_uses _ _ rfl _ _⟩, ⟨hE _ _ hck, hU _⟩, trivial⟩) [] (by simp) (by simp)
    (hrun x0 x1 x2 x3 x4 x5 x6 x7 x8 x9 xa xb xc xd xe xf k0 k1 k2 k3 k4 k5 k6 k7 k8 k9 ka kb kc kd ke kf) (by simp) fun H2 hH2 => ⟨.refl _, rfl, ?_, trivial⟩
  rw [hown]
  have hH2 : H2[0]? = some (passE 1 _ _) := (List.cons.inj hH2).1
  refine ⟨⟨rfl, given_own hH2 (passL_uses _ _ rfl _ _) ?_⟩, trivial⟩
  show SO.own (.lst (SV.renL _ (passL 1 _ _))) true _ = _
  rw [passL_ren]; rfl

/- The operations. -/
noncomputable def cfg3 : Cfg := cfgOf (sumsOf [(115, mixedS), (109, shiftedS)])
theorem cfg3OK : CfgOK cfg3 := sumsOf_ok (allC mixedOK (all1 shiftedOK))
noncomputable def cfg4 : Cfg := cfgOf (sumsOf [(113, lookS subB), (110, lookS recB)])
theorem cfg4OK : CfgOK cfg4 := sumsOf_ok (allC replaceOK (all1 recallOK))
def mixL (k : Bool) (xs : List (BitVec 8)) : List (BitVec 8) :=
  [mixAt k xs 0 0, mixAt k xs 0 1, mixAt k xs 0 2, mixAt k xs 0 3, mixAt k xs 1 0, mixAt k xs 1 1, mixAt k xs 1 2, mixAt k xs 1 3,
   mixAt k xs 2 0, mixAt k xs 2 1, mixAt k xs 2 2, mixAt k xs 2 3, mixAt k xs 3 0, mixAt k xs 3 1, mixAt k xs 3 2, mixAt k xs 3 3]
def pick16 (xs : List (BitVec 8)) (a0 a1 a2 a3 a4 a5 a6 a7 a8 a9 aa ab ac ad ae af : Nat) : List (BitVec 8) :=
  [byteAt xs a0, byteAt xs a1, byteAt xs a2, byteAt xs a3, byteAt xs a4, byteAt xs a5, byteAt xs a6, byteAt xs a7, byteAt xs a8, byteAt xs a9, byteAt xs aa, byteAt xs ab, byteAt xs ac, byteAt xs ad, byteAt xs ae, byteAt xs af]
def shiftL (xs : List (BitVec 8)) : List (BitVec 8) := pick16 xs 0 5 10 15 4 9 14 3 8 13 2 7 12 1 6 11
def unshiftL (xs : List (BitVec 8)) : List (BitVec 8) := pick16 xs 0 13 10 7 4 1 14 11 8 5 2 15 12 9 6 3
def addL (xs ks : List (BitVec 8)) : List (BitVec 8) :=
  [byteAt xs 0 ^^^ byteAt ks 0, byteAt xs 1 ^^^ byteAt ks 1, byteAt xs 2 ^^^ byteAt ks 2, byteAt xs 3 ^^^ byteAt ks 3, byteAt xs 4 ^^^ byteAt ks 4, byteAt xs 5 ^^^ byteAt ks 5, byteAt xs 6 ^^^ byteAt ks 6, byteAt xs 7 ^^^ byteAt ks 7,
   byteAt xs 8 ^^^ byteAt ks 8, byteAt xs 9 ^^^ byteAt ks 9, byteAt xs 10 ^^^ byteAt ks 10, byteAt xs 11 ^^^ byteAt ks 11, byteAt xs 12 ^^^ byteAt ks 12, byteAt xs 13 ^^^ byteAt ks 13, byteAt xs 14 ^^^ byteAt ks 14, byteAt xs 15 ^^^ byteAt ks 15]
def mapL (F : BitVec 8 → BitVec 8) (xs : List (BitVec 8)) : List (BitVec 8) :=
  [F (byteAt xs 0), F (byteAt xs 1), F (byteAt xs 2), F (byteAt xs 3), F (byteAt xs 4), F (byteAt xs 5), F (byteAt xs 6), F (byteAt xs 7), F (byteAt xs 8), F (byteAt xs 9), F (byteAt xs 10), F (byteAt xs 11), F (byteAt xs 12), F (byteAt xs 13), F (byteAt xs 14), F (byteAt xs 15)]
theorem mixOK : SumOK Tryz.prog 107 (passS placedE fun xs _ => mixL true xs) := passOK cfg3OK rfl (n := 20000) (E1 := .gone) (fun _ _ => taken_gone) (fun _ => trivial) rfl (by intros; kernel_rfl)
theorem unmixOK : SumOK Tryz.prog 91 (passS placedE fun xs _ => mixL false xs) := passOK cfg3OK rfl (n := 20000) (E1 := .gone) (fun _ _ => taken_gone) (fun _ => trivial) rfl (by intros; kernel_rfl)
theorem shiftOK : SumOK Tryz.prog 106 (passS placedE fun xs _ => shiftL xs) := passOK cfg3OK rfl (n := 20000) (E1 := .gone) (fun _ _ => taken_gone) (fun _ => trivial) rfl (by intros; kernel_rfl)
theorem unshiftOK : SumOK Tryz.prog 92 (passS placedE fun xs _ => unshiftL xs) := passOK cfg3OK rfl (n := 20000) (E1 := .gone) (fun _ _ => taken_gone) (fun _ => trivial) rfl (by intros; kernel_rfl)
theorem aaddOK : SumOK Tryz.prog 90 (passS placedE addL) := passOK cfg3OK rfl (n := 20000) (E1 := .gone) (fun _ _ => taken_gone) (fun _ => trivial) rfl (by intros; kernel_rfl)
theorem substituteOK : SumOK Tryz.prog 105 (passS tabE fun xs _ => mapL subB xs) := passOK cfg4OK rfl (n := 20000) (E1 := .row (.lst (lx tabI))) (fun _ _ => taken_tab) (fun _ => lx_uses _ _) rfl (by intros; kernel_rfl)
theorem restoreOK : SumOK Tryz.prog 93 (passS tabE fun xs _ => mapL recB xs) := passOK cfg4OK rfl (n := 20000) (E1 := .row (.lst (lx tabI))) (fun _ _ => taken_tab) (fun _ => lx_uses _ _) rfl (by intros; kernel_rfl)

end Go.Proofs.YtflafdhmmcknhaaGreatDoor.Aes


/-
  The block cipher, fourth part: encrypting and decrypting, from runs.
-/
namespace Go.Proofs.YtflafdhmmcknhaaGreatDoor.Aes
open Go.Sim
open Go.Proofs
variable {α : Type}

noncomputable def cfg5 : Cfg := cfgOf (sumsOf [(105, passS tabE fun xs _ => mapL subB xs), (106, passS placedE fun xs _ => shiftL xs), (107, passS placedE fun xs _ => mixL true xs), (90, passS placedE addL),
  (93, passS tabE fun xs _ => mapL recB xs), (92, passS placedE fun xs _ => unshiftL xs), (91, passS placedE fun xs _ => mixL false xs)])
theorem cfg5OK : CfgOK cfg5 := sumsOf_ok (allC substituteOK (allC shiftOK (allC mixOK (allC aaddOK (allC restoreOK (allC unshiftOK (all1 unmixOK)))))))
/-- a cipher's cells -/
noncomputable def cipherL (ks : List (BitVec 8)) : List SV := app (lx tabI) (app (bx ks) [.bool (.lit true)])
noncomputable def keyOf (K : Nat → BitVec 8) : List (BitVec 8) := mapN K (fromN 176 0)
noncomputable def rkey (K : Nat → BitVec 8) (r : Nat) : List (BitVec 8) := mapN K (fromN 16 (16 * r))
noncomputable def block16 (X : Nat → BitVec 8) (o : Nat) : List (BitVec 8) := mapN (fun i => X (o + i)) (fromN 16 0)
noncomputable def encR (K : Nat → BitVec 8) (r : Nat) (xs : List (BitVec 8)) : List (BitVec 8) := addL (mixL true (shiftL (mapL subB xs))) (rkey K r)
noncomputable def encL (K : Nat → BitVec 8) (xs : List (BitVec 8)) : List (BitVec 8) := addL (shiftL (mapL subB (encR K 9 (encR K 8 (encR K 7 (encR K 6 (encR K 5 (encR K 4 (encR K 3 (encR K 2 (encR K 1 (addL xs (rkey K 0))))))))))))) (rkey K 10)
noncomputable def decR (K : Nat → BitVec 8) (r : Nat) (xs : List (BitVec 8)) : List (BitVec 8) := mapL recB (unshiftL (mixL false (addL xs (rkey K r))))
noncomputable def decL (K : Nat → BitVec 8) (xs : List (BitVec 8)) : List (BitVec 8) := addL (decR K 1 (decR K 2 (decR K 3 (decR K 4 (decR K 5 (decR K 6 (decR K 7 (decR K 8 (decR K 9 (mapL recB (unshiftL (addL xs (rkey K 10))))))))))))) (rkey K 0)
theorem enc_run (K X : Nat → BitVec 8) (o n m k : Nat) : outF [24] (callSim cfg5 6000 86 [.ptr ⟨0, .lit 0⟩, .slice ⟨1, .sym o⟩ (.sym k) (.sym m)] [.row (.lst (cipherL (keyOf K))), rowF X n]) =
    some (((k : Int) != 16), ([], some (.tuple [.nilSlice, .int .i64 (.lit (.ofNat 2))], [none])), [16 ≤ k, o + 16 ≤ n], some (.tuple [.slice ⟨24, .lit 0⟩ (.lit 16) (.rest 24 0), .int .i64 (.lit (.ofNat 0))], [some (.own (.lst (bx (encL K (block16 X o)))) false 5)])) := by kernel_rfl
theorem dec_run (K X : Nat → BitVec 8) (o n m k : Nat) : outF [24] (callSim cfg5 6000 76 [.ptr ⟨0, .lit 0⟩, .slice ⟨1, .sym o⟩ (.sym k) (.sym m)] [.row (.lst (cipherL (keyOf K))), rowF X n]) =
    some (((k : Int) != 16), ([], some (.tuple [.nilSlice, .int .i64 (.lit (.ofNat 2))], [none])), [16 ≤ k, o + 16 ≤ n], some (.tuple [.slice ⟨24, .lit 0⟩ (.lit 16) (.rest 24 0), .int .i64 (.lit (.ofNat 0))], [some (.own (.lst (bx (decL K (block16 X o)))) false 5)])) := by kernel_rfl

theorem nil_run (K : Nat → BitVec 8) : outP [] (callSim cfg5 6000 86 [.ptr ⟨0, .lit 0⟩, .nilSlice] [.row (.lst (cipherL (keyOf K)))]) = ([], some (.tuple [.nilSlice, .int .i64 (.lit (.ofNat 2))], [])) ∧
    outP [] (callSim cfg5 6000 76 [.ptr ⟨0, .lit 0⟩, .nilSlice] [.row (.lst (cipherL (keyOf K)))]) = ([], some (.tuple [.nilSlice, .int .i64 (.lit (.ofNat 2))], [])) := by
  refine ⟨?_, ?_⟩ <;> kernel_rfl

theorem err_run (K : Nat → BitVec 8) (o m k : Nat) : outF [] (callSim cfg5 6000 86 [.ptr ⟨0, .lit 0⟩, .slice ⟨1, .sym o⟩ (.sym k) (.sym m)] [.row (.lst (cipherL (keyOf K))), .gone]) = some (((k : Int) != 16), ([], some (.tuple [.nilSlice, .int .i64 (.lit (.ofNat 2))], [])), ([16 ≤ k], none)) ∧
    outF [] (callSim cfg5 6000 76 [.ptr ⟨0, .lit 0⟩, .slice ⟨1, .sym o⟩ (.sym k) (.sym m)] [.row (.lst (cipherL (keyOf K))), .gone]) = some (((k : Int) != 16), ([], some (.tuple [.nilSlice, .int .i64 (.lit (.ofNat 2))], [])), ([16 ≤ k], none)) := by
  refine ⟨?_, ?_⟩ <;> kernel_rfl

end Go.Proofs.YtflafdhmmcknhaaGreatDoor.Aes

