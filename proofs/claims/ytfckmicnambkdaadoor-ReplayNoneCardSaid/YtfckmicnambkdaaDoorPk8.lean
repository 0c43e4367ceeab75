/-
  The reference's hash: the summaries of Padded and of a block.
-/
import Derived.Test.YtfckmicnambkdaaDoorZPad2
namespace Go.Proofs.YtfckmicnambkdaaDoor.Aes
open Go.Sim
open Go.Proofs
variable {α : Type}

theorem fn_imp_lt {f g : Nat → SV} {n : Nat} (h : ∀ i, i < n → (f i).Imp (g i)) : (Cells.fn f n).Imp (.fn g n) := fun γ vs hv => ⟨hv.1, fun i x hx => h i (by have := (List.getElem?_eq_some_iff.1 hx).1; have := hv.1; omega) γ x (hv.2 i x hx)⟩
noncomputable def padR (base : Nat) (X : Nat → BitVec 8) (n : Nat) : SumRes := ⟨.slice ⟨base, .lit 0⟩ (.sym (lenP n)) (.rest base 0), [], [.own (.fn (byteF (padF X n n)) (lenP n)) false 5]⟩
noncomputable def padS : Summ := fun args H base => args1 args fun v => sliceR v (.ok (padR base (fun _ => 0#8) 0)) fun a l => bytesE (nth H a.nm) fun X N => .need (a.off.den + l.den ≤ N ∧ l.den ≤ 1099511627776) (.ok (padR base (fun i => X (a.off.den + i)) l.den))
theorem given_bytesF {p : Nat → Bool} {g : Nat → Nat} {E : Option SO} {Y Z : Nat → BitVec 8} {n : Nat} {w : Bool} {el : TypeId} (hE : E = some (.own (.fn (byteF Y) n) w el)) (h : ∀ i, i < n → Y i = Z i) : Given p g E (.own (.fn (byteF Z) n) w el) :=
  ⟨_, w, el, _, hE, fun _ => rfl, fn_imp_lt fun i hi => by show (SV.int .u8 (.b8 (Y i))).Imp (.int .u8 (.b8 (Z i))); rw [h i hi]; exact .refl _, rfl⟩
theorem padL0_imp (X : Nat → BitVec 8) : (Cells.lst (kx .u8 padL0)).Imp (.fn (byteF (padF X 0 0)) 64) := by
  have hl : (kx .u8 padL0).length = 64 := by
    unfold kx padL0
    rw [mapN_eq, List.length_map, List.length_cons, repN_eq, List.length_replicate]
  refine imp_fn hl fun i v hv => ?_
  unfold kx padL0 at hv
  rw [mapN_eq, repN_eq] at hv
  have hi : i < 64 := by
    have := (List.getElem?_eq_some_iff.1 hv).1
    simpa using this
  show v.Imp (.int .u8 (.b8 (padF X 0 0 i)))
  unfold padF
  rw [if_neg (by omega)]
  cases i with
  | zero => simp at hv; subst hv; exact int_imp rfl
  | succ i =>
    rw [List.map_cons, List.getElem?_cons_succ, List.map_replicate, List.getElem?_replicate, if_pos (by omega)] at hv
    cases hv
    rw [if_neg (by omega)]
    split
    · refine int_imp ?_
      show (0 : Int) = ((lenByte 0 _).toNat : Int)
      unfold lenByte
      simp
    · exact int_imp rfl
theorem given_pad0 {p : Nat → Bool} {g : Nat → Nat} {E : Option SO} (X : Nat → BitVec 8) {el : TypeId} (hE : E = some (.own (.lst (kx .u8 padL0)) false el)) : Given p g E (.own (.fn (byteF (padF X 0 0)) 64) false el) :=
  ⟨_, false, el, _, hE, kx_uses _ _ _, by show (Cells.lst (SV.renL g (kx .u8 padL0))).Imp _; rw [kx_ren]; exact padL0_imp X, rfl⟩
theorem slice_imp {nm : Nat} {l l' : SN} (h : l.den = l'.den) : (SV.slice ⟨nm, .lit 0⟩ l (.rest nm 0)).Imp (.slice ⟨nm, .lit 0⟩ l' (.rest nm 0)) := by
  intro γ x hx
  rw [den_slice] at hx ⊢
  rw [← h]; exact hx
theorem padOK : SumOK Tryd.prog 48 padS := by
  intro glob O w0 β H w base args vs hH hG ha
  refine args1_sat fun v hv => sliceR_sat (fun hn => ?_) fun a l c hs => bytesE_sat fun X N ht => fun hle => ?_
  · rw [hv, hn] at ha
    exact sum_outO cfg0OK rfl 12000 hH ⟨[], [], [.nilSlice]⟩ ha (fits0 rfl) [128] (by simp) (by simp) pad_nil all_nil fun H2 hH2 => ⟨slice_imp rfl, rfl, trivial, ⟨given_pad0 _ (List.cons.inj hH2).1, trivial⟩⟩
  · rw [hv, hs] at ha
    rw [nth_eq] at ht
    obtain ⟨x, ys, hx, hys, rfl⟩ := denL_cons.1 ha
    obtain ⟨m, hm, hd, hd', _⟩ := slice_den hx
    have hfit : ∀ args : List SV, SV.usesL (Ifc.known ⟨[a.nm], [rowF X N], args⟩) args = true → Ifc.Fits ⟨[a.nm], [rowF X N], args⟩ H := fun args hu => Ifc.fits (by simp) hu ⟨⟨ht _, rowF_uses _ _ _⟩, trivial⟩
    by_cases h0 : l.den = 0
    · rw [h0]
      rw [h0] at hd
      exact sum_outO cfg0OK rfl 12000 hH ⟨[a.nm], [rowF X N], [.slice ⟨0, .sym a.off.den⟩ (.lit 0) (.sym m)]⟩ (denL_cons.2 ⟨_, _, hd, hys, rfl⟩) (hfit _ rfl) [129] (by simp) (by simp) (pad_zero X N a.off.den m) (all_cons (by omega) all_nil) fun H2 hH2 => ⟨slice_imp rfl, rfl, trivial, ⟨given_pad0 _ (List.cons.inj hH2).1, trivial⟩⟩
    · exact Go.Sim.sum_runs (c := cfg0) hH ⟨[a.nm], [rowF X N], padArgs a.off.den l.den m⟩ (fun g j h => by cases h) (denL_cons.2 ⟨_, _, hd, hys, rfl⟩) (hfit _ rfl) [17] (by simp) (by simp)
        (runs_mono (pad_runs hle.1 h0 hle.2) fun v H2 ⟨Y, h1, h2, h3⟩ => ⟨by rw [h1]; exact slice_imp rfl, by rw [h1]; rfl, trivial, ⟨given_bytesF h2 h3, trivial⟩⟩)

/- A block. -/
noncomputable def uni1 (v : SV) : Option W32 := v.asInt none fun k n => boolC (eqK k .i64) (si32 n) none
noncomputable def unI (l : List SV) : Option (List W32) := List.rec (motive := fun _ => Option (List W32)) (some []) (fun v _ ih => optC (uni1 v) none fun x => optC ih none fun xs => some (x :: xs)) l
theorem uni1_imp {v : SV} {x : W32} (h : uni1 v = some x) : v.Imp (iw x) := by
  unfold uni1 at h
  rcases asInt_cases v with ⟨k, n, rfl⟩ | hv
  · obtain ⟨hk, h⟩ := boolC_opt (show boolC (eqK k .i64) (si32 n) none = some x from h)
    rw [eqK_spec hk]
    cases n with
    | lit n =>
      cases n with
      | negSucc m => cases h
      | ofNat m =>
        obtain ⟨hm, h⟩ := boolC_opt (show boolC (Nat.blt m 4294967296) (some (wi m)) none = some x from h)
        cases h
        exact int_imp (wi_toNat (blt_spec hm)).symm
    | sym => cases h
    | b8 => cases h
    | b32 y => cases h; exact .refl _
    | b64 => cases h
  · rw [hv] at h; cases h
theorem unI_imp : ∀ {l : List SV} {xs : List W32}, unI l = some xs → SV.ImpL l (ux xs)
  | [], xs, h => by cases h; exact .refl _
  | v :: l, xs, h => by
    obtain ⟨x, hx, h⟩ := optC_opt (show (optC (uni1 v) none fun x => optC (unI l) none fun xs => some (x :: xs)) = some xs from h)
    obtain ⟨ys, hy, h⟩ := optC_opt h
    cases h
    exact impL_cons (uni1_imp hx) (unI_imp hy)
theorem ux_ren (f : Nat → Nat) : ∀ xs, SV.renL f (ux xs) = ux xs
  | [] => rfl
  | x :: xs => by show _ :: SV.renL f (ux xs) = _; rw [ux_ren f xs]; rfl
theorem ux_uses (p : Nat → Bool) : ∀ xs, SV.usesL p (ux xs) = true
  | [] => rfl
  | x :: xs => by show (true && SV.usesL p (ux xs)) = true; rw [ux_uses p xs]; rfl
/-- a slice, or the tail of one that is not empty: name, place, length -/
noncomputable def sliceW (v : SV) (nil : R α) (f : Nat → Nat → SN → R α) : R α :=
  SV.rec (motive_1 := fun _ => R α) (motive_2 := fun _ => Unit) (fun _ _ => .stuck 713) (fun _ => .stuck 713) (fun _ => .stuck 713) (fun _ => .stuck 713) (.stuck 713) (fun a l _ => f a.nm a.off.den l) nil (fun _ => .stuck 713) (.stuck 713) (fun _ _ _ _ _ => .stuck 713) (.stuck 713) (fun _ _ _ => .stuck 713) (.stuck 713) (fun _ _ => .stuck 713) (fun _ _ => .stuck 713) (fun _ => .stuck 713)
    (fun a n l _ => .need (0 < l.den) (f a.nm (a.off.den + n.den) l)) () (fun _ _ _ _ => ()) v
theorem sliceW_sat {v : SV} {nil : R α} {f : Nat → Nat → SN → R α} {φ : α → Prop} (h0 : v = .nilSlice → nil.Sat φ)
    (h : ∀ nm o l, (∀ γ x, v.den γ = some x → ∃ m, l.den ≤ m ∧ (SV.slice ⟨nm, .sym o⟩ (.sym l.den) (.sym m)).den γ = some x) → (f nm o l).Sat φ) : (sliceW v nil f).Sat φ := by
  cases v <;> first | trivial | exact h0 rfl | skip
  · rename_i a l c
    exact h a.nm a.off.den l fun γ x hx => by
      obtain ⟨m, h1, h2, _, _⟩ := slice_den hx
      exact ⟨m, h1, h2⟩
  · rename_i a n l c
    intro hl
    refine h a.nm (a.off.den + n.den) l fun γ x hx => ?_
    rw [den_tail] at hx
    obtain ⟨A, C, hA, hC, hle, rfl⟩ := hx
    rw [if_neg (by omega)]
    refine ⟨C, hle, ?_⟩
    rw [den_slice]
    obtain ⟨ll, hl2, rfl⟩ := SA.den_some hA
    exact ⟨_, C, by simp only [SA.den, hl2, Option.map_some, SN.den]; rfl, rfl, hle, by rw [addr_add, Nat.add_assoc]; rfl⟩
noncomputable def blockS : Summ := fun args H _ => args2 args fun h v => h.asAgg (.stuck 762) fun l => optC (unI l) (.stuck 762) fun ws => boolC (Nat.beq (lenN ws) 8) (shaT H (sliceW v (.stuck 763) fun nm o len => boolC (newOne nm) (lenIs len 64 (bytesE (nth H nm) fun X N => .need (o + 64 ≤ N) (.ok ⟨.agg (ux (eight (cmpW ws (words16 X o)))), [], []⟩)) (.stuck 763)) (.stuck 763))) (.stuck 762)
theorem rconF_taken {H : List SO} (hT : ShaT H) (g : Nat → Nat) : ∃ e', H[3]? = some e' ∧ Taken g rconF e' := by
  obtain ⟨e', he, c0, hc, hf⟩ := hT.s3 g
  refine ⟨e', he, c0, hc, ?_⟩
  intro γ vs hv
  obtain ⟨k, hk⟩ := hf γ vs hv
  refine ⟨k, ?_⟩
  have hk : CellsRel γ (.lst (SV.renL g (kx .i64 constL))) (vs.take k) := hk
  rw [kx_ren] at hk
  have hi : (Cells.lst (kx .i64 constL)).Imp (.fn (fun i => iw (kW i)) 64) := by
    refine imp_fn rfl fun i v hv => ?_
    unfold kx at hv
    rw [mapN_eq, List.getElem?_map] at hv
    cases hc : constL[i]? with
    | none => rw [hc] at hv; cases hv
    | some t =>
      rw [hc] at hv
      cases hv
      refine int_imp ?_
      show (t : Int) = ((kW i).toNat : Int)
      have hlt : t < 4294967296 := by
        have hall : ∀ t ∈ constL, t < 4294967296 := by decide
        exact hall t (List.mem_of_getElem? hc)
      unfold kW atW constV'
      rw [nth_eq, mapN_eq, List.getElem?_map, hc]
      exact (wi_toNat hlt).symm
  exact hi _ _ hk
theorem blockOK : SumAt Tryd.prog globS 49 blockS := by
  intro O w0 β H w base args vs hH hG ha
  refine args2_sat fun h v hv => ?_
  rcases asAgg_cases h with ⟨l, rfl⟩ | hno
  · refine optC_only fun ws hws => boolC_only fun h8 => shaT_sat fun hT => sliceW_sat (fun _ => trivial) fun nm o len hsl => boolC_only fun hn => lenIs_sat (fun hl => bytesE_sat fun X N ht => fun hle => ?_) fun _ => trivial
    rw [hv] at ha
    rw [nth_eq] at ht
    obtain ⟨x, ys, hx, hys, rfl⟩ := denL_cons.1 ha
    obtain ⟨y, zs, hy, hz, rfl⟩ := denL_cons.1 hys
    obtain ⟨m, hm, hd⟩ := hsl _ _ hy
    rw [hl] at hd
    have h8 := beq_spec h8
    rw [lenN_eq] at h8
    have hx' : (SV.agg (ux (eight ws))).den β = some x := by
      rw [eight_eq h8]
      simp only [SV.den, Option.map_eq_some_iff] at hx ⊢
      obtain ⟨us, hus, rfl⟩ := hx
      exact ⟨us, unI_imp hws _ _ hus, rfl⟩
    have hd' : (SV.slice ⟨nm, .sym o⟩ (.lit 64) (.sym m)).den β = some y := by
      rw [den_slice] at hd ⊢
      exact hd
    rw [eight_eq (cmpW_length h8)]
    refine Go.Sim.sum_runs (c := cfgR1) hH ⟨[0, 1, 2, 3, nm], blkEnts X N, blkArgs o m ws⟩ (shaI_glob (names := [nm]) (ents := [rowF X N]) (args := blkArgs o m ws) hG) (denL_cons.2 ⟨_, _, ?_, denL_cons.2 ⟨_, _, hd', hz, rfl⟩, rfl⟩) (Ifc.fits (nd5 hn) ?_ ⟨⟨hT.s0 _, kx_uses _ _ _⟩, ⟨hT.s1 _, kx_uses _ _ _⟩, ⟨hT.s2 _ rfl, rfl⟩, ⟨rconF_taken hT _, fun _ => rfl⟩, ⟨ht _, rowF_uses _ _ _⟩, trivial⟩) [] (by simp) (by simp) (runs_mono (blk_runs h8 hle) fun v H2 h => ?_)
    · show (SV.agg (SV.renL _ (ux (eight ws)))).den β = _
      rw [ux_ren]; exact hx'
    · show (SV.usesL _ (ux (eight ws)) && true) = true
      rw [ux_uses]; rfl
    · subst h
      refine ends0 rfl ?_ (ux_uses _ _)
      show SV.agg (ux _) = .agg (SV.renL _ (ux _))
      rw [ux_ren]
  · rw [hno]; trivial
noncomputable def cfgR2 : Cfg := cfgG globS (sumsOf [(48, padS), (49, blockS)])
theorem cfgR2OK : CfgOK cfgR2 := sumsG_ok (allS (padOK _) (allS blockOK (by simp)))
end Go.Proofs.YtfckmicnambkdaaDoor.Aes

