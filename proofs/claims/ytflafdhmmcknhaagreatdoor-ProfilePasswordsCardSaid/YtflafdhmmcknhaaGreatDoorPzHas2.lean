/-
  A hash in progress: the summary of a block.
-/
import Derived.Test.YtflafdhmmcknhaaGreatDoorPzHas1
namespace Go.Proofs.YtflafdhmmcknhaaGreatDoor.Aes
open Go.Sim
open Go.Proofs
variable {α : Type}

theorem tabB_len (X : Nat → BitVec 8) (n : Nat) : (tabB X n).length = n := by
  unfold tabB; rw [mapN_eq, fromN_eq, List.length_map, List.length_range']
theorem tabB_at (l : List (BitVec 8)) {n : Nat} (h : l.length = n) : tabB (byteAt l) n = l := by
  subst h
  apply List.ext_getElem?
  intro i
  unfold tabB
  rw [mapN_eq, fromN_eq, List.getElem?_map]
  by_cases hi : i < l.length
  · rw [List.getElem?_range' hi, List.getElem?_eq_getElem hi]
    simp [byteAt, List.getElem?_eq_getElem hi]
  · rw [List.getElem?_eq_none (by simpa using hi), List.getElem?_eq_none (by simpa using hi)]; rfl
theorem int_imp0 {k : IntKind} {a b : SI} (h : a.den = b.den) : (SV.int k a).Imp (.int k b) := by
  intro γ x hx
  have hx : some (Value.int k a.den) = some x := hx
  rw [h] at hx
  exact hx
/- The looks. -/
noncomputable def ptrL (v : SV) : Option (Nat × Nat) := v.asPtr none fun a => a.off.asLit none fun n => some (a.nm, n)
theorem ptrL_spec {v : SV} {p : Nat × Nat} (h : ptrL v = some p) : v = .ptr ⟨p.1, .lit p.2⟩ := by
  unfold ptrL at h
  rcases asPtr_cases v with ⟨⟨q, off⟩, rfl⟩ | hv
  · have h : (off.asLit none fun n => some (q, n)) = some p := h
    cases off with
    | lit n => cases h; rfl
    | sym n => cases h
    | byt => cases h
  · rw [hv] at h; cases h
noncomputable def isSlO (v : SV) (nm o n : Nat) : Bool := v.asSlice false fun a l c => boolC (Nat.beq a.nm nm) (a.off.asLit false fun q => boolC (Nat.beq q o) (l.asLit false fun m => boolC (Nat.beq m n) (SC.rec (motive := fun _ => Bool) (fun k => Nat.beq k n) (fun _ => false) (fun _ _ => false) c) false) false) false
theorem isSlO_spec {v : SV} {nm o n : Nat} (h : isSlO v nm o n = true) : v = .slice ⟨nm, .lit o⟩ (.lit n) (.lit n) := by
  unfold isSlO at h
  rcases asSlice_cases v with ⟨⟨q, o⟩, l, c, rfl⟩ | hv
  · obtain ⟨h1, h⟩ := boolC_tt h
    cases o <;> first | (cases h; done) | skip
    obtain ⟨h2, h⟩ := boolC_tt h
    cases l <;> first | (cases h; done) | skip
    obtain ⟨h3, h⟩ := boolC_tt h
    cases c <;> first | (cases h; done) | skip
    have h1 := beq_spec h1
    have h2 := beq_spec h2
    have h3 := beq_spec h3
    have h4 := beq_spec h
    subst h1 h2 h3 h4; rfl
  · rw [hv] at h; cases h
noncomputable def slNm (v : SV) : Option Nat := v.asSlice none fun a _ _ => some a.nm
noncomputable def unZ (v : SV) : Option Int := v.asInt none fun k n => boolC (eqK k .i64) (SI.rec (motive := fun _ => Option Int) (fun z => some z) (fun z => some z) (fun _ => none) (fun _ => none) (fun _ => none) n) none
theorem unZ_imp {v : SV} {z : Int} (h : unZ v = some z) (hz : 0 ≤ z) : v.Imp (.int .i64 (.sym z.toNat)) := by
  unfold unZ at h
  rcases asInt_cases v with ⟨k, n, rfl⟩ | hv
  · obtain ⟨hk, h⟩ := boolC_opt (show boolC (eqK k .i64) (SI.rec (motive := fun _ => Option Int) (fun z => some z) (fun z => some z) (fun _ => none) (fun _ => none) (fun _ => none) n) none = some z from h)
    rw [eqK_spec hk]
    cases n with
    | lit n => cases h; exact int_imp0 (Int.toNat_of_nonneg hz).symm
    | sym n => cases h; exact int_imp0 (Int.toNat_of_nonneg hz).symm
    | b8 => cases h
    | b32 => cases h
    | b64 => cases h
  · rw [hv] at h; cases h
noncomputable def hlook (l : List SV) (f : List W32 → (Nat → BitVec 8) → Nat → List SV → R α) : R α :=
  optC (unw (takeN l 8)) (.stuck 750) fun ws => boolC (Nat.beq (lenN ws) 8) (optC (unb (takeN (dropN l 8) 64)) (.stuck 751) fun r => boolC (Nat.beq (lenN r) 64)
    (List.rec (motive := fun _ => R α) (.stuck 752) (fun v t _ => optC (unZ v) (.stuck 753) fun z => .need (0 ≤ z) (f ws (byteAt r) z.toNat t)) (dropN (dropN l 8) 64)) (.stuck 751)) (.stuck 750)
theorem hlook_sat {l : List SV} {f : List W32 → (Nat → BitVec 8) → Nat → List SV → R α} {φ : α → Prop} (h : ∀ ws X n t, ws.length = 8 → (∀ K, SV.ImpL l (app (hcells ⟨K, ws, X, n⟩) t)) → (f ws X n t).Sat φ) : (hlook l f).Sat φ := by
  refine optC_only fun ws hw => boolC_only fun h8 => optC_only fun r hr => boolC_only fun h64 => ?_
  have h8 := beq_spec h8
  have h64 := beq_spec h64
  rw [lenN_eq] at h8 h64
  cases hd : dropN (dropN l 8) 64 with
  | nil => trivial
  | cons v t =>
    refine optC_only fun z hz => fun h0 => h ws (byteAt r) z.toNat t h8 fun K => ?_
    have e : l = app (takeN l 8) (app (takeN (dropN l 8) 64) (v :: t)) := by rw [← hd, app_take_drop, app_take_drop]
    rw [e]
    unfold hcells
    rw [eight_eq h8]
    show SV.ImpL _ (app (app (wx ws) (app (bx (tabB (byteAt r) 64)) [.int .i64 (.sym z.toNat)])) t)
    rw [tabB_at r h64, app_eq (app _ _) t, app_eq (wx ws), app_eq (bx r), List.append_assoc, List.append_assoc, ← app_eq (bx r), ← app_eq (wx ws)]
    exact impL_app (unw_imp hw) (impL_app (unb_imp hr) (impL_cons (unZ_imp hz h0) (SV.ImpL.refl _)))
noncomputable def isTT (t : List SV) (r : R α) : R α := List.rec (motive := fun _ => R α) (.stuck 754) (fun v t _ => boolC (nilN t) (v.asBool (.stuck 754) fun b => SB.rec (motive := fun _ => R α) (fun b => boolC b r (.stuck 754)) (fun _ => .stuck 754) b) (.stuck 754)) t
theorem isTT_sat {t : List SV} {r : R α} {φ : α → Prop} (h : t = [.bool (.lit true)] → r.Sat φ) : (isTT t r).Sat φ := by
  cases t with
  | nil => trivial
  | cons v t =>
    cases t with
    | cons => trivial
    | nil =>
      cases v <;> first | trivial | skip
      rename_i b
      cases b with
      | sym => trivial
      | lit b => cases b <;> first | trivial | exact h rfl
noncomputable def mlook (l : List SV) (f : HSt → R α) : R α :=
  optC (unb (takeN l 128)) (.stuck 755) fun k => boolC (Nat.beq (lenN k) 128) (hlook (dropN l 128) fun ws X n t => isTT t (f ⟨byteAt k, ws, X, n⟩)) (.stuck 755)
theorem mlook_sat {l : List SV} {f : HSt → R α} {φ : α → Prop} (h : ∀ S : HSt, S.ws.length = 8 → SV.ImpL l (mcells S) → (f S).Sat φ) : (mlook l f).Sat φ := by
  refine optC_only fun k hk => boolC_only fun h1 => hlook_sat fun ws X n t h8 hi => isTT_sat fun ht => h ⟨byteAt k, ws, X, n⟩ h8 ?_
  have h1 := beq_spec h1
  rw [lenN_eq] at h1
  subst ht
  rw [← app_take_drop l 128]
  unfold mcells
  show SV.ImpL _ (app (bx (tabB (byteAt k) 128)) _)
  rw [tabB_at k h1]
  exact impL_app (unb_imp hk) (hi _)
theorem hcells_ren (f : Nat → Nat) (S : HSt) : SV.renL f (hcells S) = hcells S := by
  unfold hcells
  rw [renL_app, renL_app, wx_ren, bx_ren]; rfl
theorem hcells_uses (p : Nat → Bool) (S : HSt) : SV.usesL p (hcells S) = true := by
  unfold hcells
  rw [usesL_app, usesL_app, wx_uses, bx_uses]; rfl
theorem mcells_ren (f : Nat → Nat) (S : HSt) : SV.renL f (mcells S) = mcells S := by
  unfold mcells
  rw [renL_app, renL_app, bx_ren, hcells_ren]; rfl
theorem mcells_uses (p : Nat → Bool) (S : HSt) : SV.usesL p (mcells S) = true := by
  unfold mcells
  rw [usesL_app, usesL_app, bx_uses, hcells_uses]; rfl
/- A block. -/
noncomputable def macR (nm : Nat) (w : Bool) (el : TypeId) (S : HSt) : SumRes := ⟨.tuple [], [(nm, .own (.lst (mcells S)) w el)], []⟩
noncomputable def addM (H : List SO) (v : SV) (nm : Nat) (l : List SV) (w : Bool) (el : TypeId) : R SumRes := mlook l fun S =>
  boolC (isSlO v nm 136 64) (.ok (macR nm w el (withW S (cmpW (eight S.ws) (words16 S.R 0)))))
    (sliceR v (.stuck 756) fun a len => boolC (newOne a.nm) (boolC (Nat.beq nm a.nm) (.stuck 756) (lenIs len 64 (bytesE (nth H a.nm) fun X n => .need (a.off.den + 64 ≤ n) (.ok (macR nm w el (withW S (cmpW (eight S.ws) (words16 X a.off.den)))))) (.stuck 756))) (.stuck 756))
noncomputable def hashR (nm : Nat) (w : Bool) (el : TypeId) (S : HSt) : SumRes := ⟨.tuple [], [(nm, .own (.lst (hcells S)) w el)], []⟩
noncomputable def addK (H : List SO) (v : SV) (nm : Nat) (l : List SV) (w : Bool) (el : TypeId) : R SumRes := hlook l fun ws X n t => boolC (nilN t) (optC (slNm v) (.stuck 757) fun a => boolC (newOne a) (boolC (Nat.beq nm a) (.stuck 757) (optC (cellsE (nth H a)) (.stuck 757) fun lk => mlook lk fun T =>
  boolC (isSlO v a 0 64) (.ok (hashR nm w el ⟨T.K, cmpW (eight ws) (words16 T.K 0), X, n⟩)) (boolC (isSlO v a 64 64) (.ok (hashR nm w el ⟨T.K, cmpW (eight ws) (words16 T.K 64), X, n⟩)) (.stuck 757)))) (.stuck 757)) (.stuck 757)
noncomputable def addHS : Summ := fun args H base => args2 args fun p v => optC (ptrL p) (.stuck 736) fun po => shaTP H (boolC (newOne po.1) (ownC (nth H po.1) fun l w el =>
  boolC (Nat.beq po.2 128) (addM H v po.1 l w el) (boolC (Nat.beq po.2 0) (boolC (Nat.beq (lenN l) 8) (addS args H base) (addK H v po.1 l w el)) (.stuck 739))) (.stuck 739))
theorem nd6 {x y : Nat} (h : newOne x = true) (h' : newOne y = true) (hne : x ≠ y) : [0, 1, 2, 3, x, y].Nodup := by
  have := newOne_not h
  have := newOne_not h'
  simp only [List.nodup_cons, List.mem_cons, List.not_mem_nil, or_false, not_or, not_false_eq_true, List.nodup_nil, and_true]; omega
theorem addHOK : SumAt Tryz.prog globP 79 addHS := by
  intro O w0 β H w base args vs hH hG ha
  refine args2_sat fun p v hv => optC_only fun po hp => shaTP_sat fun hT => boolC_only fun hn => ownC_sat fun l wh el he => ?_
  have hn' := newOne_not hn
  rw [nth_eq] at he
  refine boolC_sat (fun h128 => ?_) fun _ => boolC_only fun h0 => boolC_sat (fun _ => addOK O w0 β H w base args vs hH hG ha) fun _ => ?_
  · rw [hv, ptrL_spec hp, beq_spec h128] at ha
    obtain ⟨x, ys, hx, hys, rfl⟩ := denL_cons.1 ha
    refine mlook_sat fun S h8 hi => boolC_sat (fun hs => ?_) fun _ => ?_
    · rw [isSlO_spec hs] at hys
      exact sum_outG cfgH1OK 40000 hH (shaIP [po.1] [.own (.lst (mcells S)) wh el] [.ptr ⟨4, .lit 128⟩, .slice ⟨4, .lit 136⟩ (.lit 64) (.lit 64)]) (shaIP_glob hG)
        (denL_cons.2 ⟨_, _, hx, hys, rfl⟩) (Ifc.fits (nd5 hn) rfl (shaIP_ents hT ⟨⟨⟨_, he, taken_imp (by rw [mcells_ren]; exact hi)⟩, mcells_uses _ _⟩, trivial⟩)) [] (by simp) (by simp)
        (add_own S wh el) all_nil fun H2 hH2 => ⟨SV.imp_of_eq rfl, rfl, ⟨⟨rfl, given_own (List.cons.inj hH2).1 (mcells_uses _ _) (by show SO.own (.lst (SV.renL _ (mcells _))) _ _ = _; rw [mcells_ren])⟩, trivial⟩, trivial⟩
    · refine sliceR_sat (fun _ => trivial) fun a len c hs => boolC_only fun hn2 => boolC_sat (fun _ => trivial) fun hne => lenIs_sat (fun hl => bytesE_sat fun X n ht => fun hle => ?_) fun _ => trivial
      rw [nth_eq] at ht
      rw [hs] at hys
      obtain ⟨y, zs, hy, hz, rfl⟩ := denL_cons.1 hys
      obtain ⟨m, hlm, hd, _, _⟩ := slice_den hy
      rw [hl] at hd hlm
      exact sum_outG cfgH1OK 40000 hH (shaIP [po.1, a.nm] [.own (.lst (mcells S)) wh el, rowF X n] [.ptr ⟨4, .lit 128⟩, .slice ⟨5, .sym a.off.den⟩ (.lit 64) (.sym m)]) (shaIP_glob hG)
        (denL_cons.2 ⟨_, _, hx, denL_cons.2 ⟨_, _, hd, hz, rfl⟩, rfl⟩) (Ifc.fits (nd6 hn hn2 (beq_ne hne)) rfl (shaIP_ents hT ⟨⟨⟨_, he, taken_imp (by rw [mcells_ren]; exact hi)⟩, mcells_uses _ _⟩, ⟨ht _, rowF_uses _ _ _⟩, trivial⟩)) [] (by simp) (by simp)
        (add_oth S X n m a.off.den wh el) (addC_all hle hlm) fun H2 hH2 => ⟨SV.imp_of_eq rfl, rfl, ⟨⟨rfl, given_own (List.cons.inj hH2).1 (mcells_uses _ _) (by show SO.own (.lst (SV.renL _ (mcells _))) _ _ = _; rw [mcells_ren])⟩, trivial⟩, trivial⟩
  · rw [hv, ptrL_spec hp, beq_spec h0] at ha
    obtain ⟨x, ys, hx, hys, rfl⟩ := denL_cons.1 ha
    refine hlook_sat fun ws X n t h8 hi => boolC_only fun ht => optC_only fun a ha' => boolC_only fun hn2 => boolC_sat (fun _ => trivial) fun hne => optC_only fun lk hk => mlook_sat fun T hT8 hiT => ?_
    have ht : t = [] := by cases t with | nil => rfl | cons => cases ht
    subst ht
    have hi : ∀ K, SV.ImpL l (hcells ⟨K, ws, X, n⟩) := fun K => by
      have := hi K
      rw [app_eq, List.append_nil] at this
      exact this
    rw [nth_eq] at hk
    refine boolC_sat (fun hs => ?_) fun _ => boolC_only fun hs => ?_
    · rw [isSlO_spec hs] at hys
      exact sum_outG cfgH1OK 40000 hH (shaIP [po.1, a] [.own (.lst (hcells ⟨T.K, ws, X, n⟩)) wh el, .row (.lst (mcells T))] [.ptr ⟨4, .lit 0⟩, .slice ⟨5, .lit 0⟩ (.lit 64) (.lit 64)]) (shaIP_glob hG)
        (denL_cons.2 ⟨_, _, hx, hys, rfl⟩) (Ifc.fits (nd6 hn hn2 (beq_ne hne)) rfl (shaIP_ents hT ⟨⟨⟨_, he, taken_imp (by rw [hcells_ren]; exact hi _)⟩, hcells_uses _ _⟩, ⟨taken_cells hk (by rw [mcells_ren]; exact hiT), mcells_uses _ _⟩, trivial⟩)) [] (by simp) (by simp)
        (add_key ⟨T.K, ws, X, n⟩ T wh el) all_nil fun H2 hH2 => ⟨SV.imp_of_eq rfl, rfl, ⟨⟨rfl, given_own (List.cons.inj hH2).1 (hcells_uses _ _) (by show SO.own (.lst (SV.renL _ (hcells _))) _ _ = _; rw [hcells_ren]; rfl)⟩, trivial⟩, trivial⟩
    · rw [isSlO_spec hs] at hys
      exact sum_outG cfgH1OK 40000 hH (shaIP [po.1, a] [.own (.lst (hcells ⟨T.K, ws, X, n⟩)) wh el, .row (.lst (mcells T))] [.ptr ⟨4, .lit 0⟩, .slice ⟨5, .lit 64⟩ (.lit 64) (.lit 64)]) (shaIP_glob hG)
        (denL_cons.2 ⟨_, _, hx, hys, rfl⟩) (Ifc.fits (nd6 hn hn2 (beq_ne hne)) rfl (shaIP_ents hT ⟨⟨⟨_, he, taken_imp (by rw [hcells_ren]; exact hi _)⟩, hcells_uses _ _⟩, ⟨taken_cells hk (by rw [mcells_ren]; exact hiT), mcells_uses _ _⟩, trivial⟩)) [] (by simp) (by simp)
        (add_key2 ⟨T.K, ws, X, n⟩ T wh el) all_nil fun H2 hH2 => ⟨SV.imp_of_eq rfl, rfl, ⟨⟨rfl, given_own (List.cons.inj hH2).1 (hcells_uses _ _) (by show SO.own (.lst (SV.renL _ (hcells _))) _ _ = _; rw [hcells_ren]; rfl)⟩, trivial⟩, trivial⟩
end Go.Proofs.YtflafdhmmcknhaaGreatDoor.Aes

