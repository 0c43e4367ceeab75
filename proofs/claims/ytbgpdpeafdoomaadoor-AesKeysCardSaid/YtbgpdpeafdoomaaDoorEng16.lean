/-
  The symbolic simulator, sixteenth part: built-ins and calls; every operation.
-/
import Derived.Test.YtbgpdpeafdoomaaDoorEng15
namespace Go.Sim
variable {α : Type}

section
variable {P : Program} {O : Nat → Prop} {w0 : World} {β : Val} {H : List SO} {w : World} {base : Nat}
variable {ev : Operand → SV} {ρ : Operand → Value} {dst : Option Tmp} {t : TypeId} {pos : String} {af : Array Edge} {g : Option (Nat × Bool)}

theorem srcCells_len (hr : HeapRel0 P O w0 β H w) {v : SV} {x : Value} (hv : v.den β = some x) {size m n : Nat} (hn : ∀ (P : Program) (w' : World), (Builtin.lenOf x).run P w' = .ok n w') (hmn : m ≤ n) {f : List SV → R α} {φ : α → Prop}
    (hf : ∀ l xs, SV.denL β l = some xs → (∀ w' : World, w'.heap = w.heap → (Builtin.firstCells size m x).run P w' = .ok xs.toArray w') → xs.length = m * size → (f l).Sat φ) : (srcCells H size v (.lit m) f).Sat φ := by
  have hlen := hn P w
  unfold srcCells
  split
  · simp only [SV.den, Option.some.injEq] at hv; subst hv
    simp only [Builtin.lenOf, Sem.run_pure, Result.ok.injEq, and_true] at hlen
    exact hf [] [] rfl (fun w' hw' => firstCells_run (w := w) w' hw' (.inl ⟨0, rfl, rfl⟩)) (by
      have : m = 0 := by omega
      rw [this]; simp)
  · rename_i a _ _ n' hm
    cases hm
    rw [den_slice] at hv
    obtain ⟨A, C, hA, hC, _, rfl⟩ := hv
    exact loadN_sat hr hA fun l xs h1 h2 h3 => hf l xs h1 (fun w' hw' => firstCells_run w' hw' (.inr (.inl ⟨A, _, _, rfl, h2, h3⟩))) h2
  · rename_i s n' hm
    cases hm
    simp only [SV.den, Option.some.injEq] at hv; subst hv
    simp only [Builtin.lenOf, Sem.run_pure, Result.ok.injEq, and_true] at hlen
    refine R.Sat.boolC (fun h1 => ?_) fun _ => trivial
    have h := Nat.eq_of_beq_eq_true h1
    rw [takeN_eq]
    refine hf _ _ (bytes_den β _) (fun w' hw' => firstCells_run (w := w) w' hw' (.inr (.inr ⟨s, rfl, rfl⟩))) ?_
    rw [h]; simp; have : s.size = s.data.size := rfl
    simp only [SStr.den] at hlen; omega
  · rename_i l n' hm
    cases hm
    simp only [SV.den, Option.some.injEq] at hv; subst hv
    simp only [Builtin.lenOf, Sem.run_pure, Result.ok.injEq, and_true] at hlen
    have hsz : (SStr.bytes l).den.size = l.length := by
      show (l.map fun i => UInt8.ofNat i.den.toNat).toArray.size = _
      simp
    refine R.Sat.boolC (fun h1 => ?_) fun _ => trivial
    have h := Nat.eq_of_beq_eq_true h1
    intro hbnd
    rw [takeN_eq, mapN_eq]
    refine hf _ _ (denL_ints β _) (fun w' hw' => firstCells_run (w := w) w' hw' (.inr (.inr ⟨(SStr.bytes l).den, rfl, ?_⟩))) ?_
    · simp only [SStr.den, bytesOf, ← List.map_take, List.map_map]
      refine List.map_congr_left fun i hi => ?_
      have := hbnd i (List.mem_of_mem_take hi)
      simp only [Function.comp, UInt8.toNat_ofNat']
      rw [Nat.mod_eq_of_lt (by omega)]
      congr 1; omega
    · rw [h]; simp; omega
  · trivial
theorem appendT_sat (hr : HeapRel0 P O w0 β H w) {tys : Array TypeId} {ty : TypeId} {s x : SV} {sv xv : Value} (hs : s.den β = some sv) (hx : x.den β = some xv) {res : Result Next}
    (hres : ∀ v w', (Builtin.append_ tys ty #[sv, xv]).run P w = .ok v w' → res = .ok (.value v) w') :
    (appendT P H base tys s x).Sat (OpSem P H β w base res) := by
  refine R.Sat.opt fun st ht => R.Sat.opt fun d hd => asSl_sat (fun elem hde => ?_) trivial
  subst hde
  refine R.Sat.opt fun i hi => R.Sat.boolC (fun hm => R.Sat.opt fun z hz => R.Sat.boolC (fun hzl => lenS_sat hx fun n hn => lenS_sat hs fun len hlen => ?_) fun _ => trivial) fun _ => trivial
  obtain ⟨i', zv, hi', hzv, hden⟩ := zeroS_spec hz
  rw [hi] at hi'; cases hi'
  have hzl' : zv.cells.size = i.size := by
    have h1 := denL_length (hden β)
    have h2 := Nat.eq_of_beq_eq_true hzl
    rw [lenN_eq] at h2; simp at h1; omega
  split
  · rename_i len n
    refine R.Sat.boolC (fun hb1 => R.Sat.boolC (fun hb2 => ?_) fun _ => trivial) fun _ => trivial
    have hb1 := blt_lt hb1
    have hb2 := blt_lt hb2
    refine srcCells_len hr hx hn (Nat.le_refl n) fun new xs hnew hfc hxl => ?_
    have S : ApSet P w tys st elem i zv xv xs n := ⟨ht, hd, hi, hzv, hzl', hm, hn P w, hfc, hxl⟩
    unfold apKnown
    split
    · simp only [SV.den, Option.some.injEq] at hs; subst hs
      have hl0 : len = 0 := lenOf_slice hlen P w
      subst hl0
      refine R.Sat.boolC (fun h0 => ?_) fun h0 => ?_
      · have hn0 : n = 0 := Nat.eq_of_beq_eq_true h0
        subst hn0
        have hxs : xs = [] := List.eq_nil_of_length_eq_zero (by rw [hxl]; simp)
        subst hxs
        exact sem_val (hres _ _ (run_append_place (ty := ty) (bs := none) (sLen := 0) (sCap := 0) (w' := w) ht hd hi hm (hn P w) (hfc w rfl) (by simp [SN.den]) rfl)) rfl
      · have hn0 : 0 < n := by
          rcases Nat.eq_zero_or_pos n with h | h
          · subst h; cases h0
          · exact h
        obtain ⟨cap, hcap, hrun⟩ := run_append_grow' (ty := ty) (bs := none) (sLen := 0) (sCap := 0) (os := []) ht hd hi hzv hm (hn P w) hfc (fun w' _ => rfl) (by simp [SN.den]; exact hn0) (by simpa [SN.den] using hb1) (by simpa [SN.den] using hb2)
        refine ap_new (c := .lst new) (vs := xs) (len := n) hi hzl' hnew hxl (by simpa [SN.den] using hcap) rfl (hres _ _ ?_)
        rw [hrun]; simp [SN.den]
    · rename_i a ln c
      rw [den_slice] at hs
      obtain ⟨A, C, hA, hC, hLC, rfl⟩ := hs
      have hl0 : len = ln.den := lenOf_slice hlen P w
      simp only [SC.den, Option.some.injEq] at hC
      subst hC
      refine apLit_sat (ty := ty) hr S hnew hA (by omega) hb1 hb2 (fun v w' h => hres v w' ?_)
      rw [← hl0]; exact h
    · rename_i a ln nm k
      rw [den_slice] at hs
      obtain ⟨A, C, hA, hC, hLC, rfl⟩ := hs
      have hl0 : len = ln.den := lenOf_slice hlen P w
      refine apRest_sat (ty := ty) hr S hnew hA hC (by omega) hb1 hb2 (fun v w' h => hres v w' ?_)
      rw [← hl0]; exact h
    · trivial
  · rename_i hnot
    refine fnOf_sat hr hx fun g hg => ?_
    obtain ⟨xs, hxl, hgd, hfc⟩ := hg n.den (fun w' => hn P w')
    unfold apFn
    split
    · simp only [SV.den, Option.some.injEq] at hs; subst hs
      have hl0 := lenOf_slice hlen P w
      rintro ⟨⟨hr1, hr2⟩, hs1, hpos⟩
      obtain ⟨cap, hcap, hrun⟩ := run_append_grow' (ty := ty) (bs := none) (sLen := 0) (sCap := 0) (os := []) (xs := xs) ht hd hi hzv hm (hn P w) (by rw [hs1]; exact hfc) (fun w' _ => rfl) (by omega) (by simpa using hr1) (by simpa using hr2)
      refine ap_new (c := .fn g n.den) (vs := xs) (len := n.den) hi hzl' ⟨hxl, hgd⟩ (by rw [hs1, hxl]; simp) (by simpa using hcap) rfl (hres _ _ ?_)
      rw [hrun]; simp
    · rename_i a ln
      rw [den_slice] at hs
      obtain ⟨A, C, hA, hC, hLC, rfl⟩ := hs
      simp only [SC.den, Option.some.injEq] at hC
      subst hC
      have hl0 := lenOf_slice hlen P w
      refine entry_sat fun e he => ?_
      split
      · rename_i wh el
        refine R.Sat.boolC (fun hel => ?_) fun _ => trivial
        obtain rfl := Nat.eq_of_beq_eq_true hel
        rintro ⟨⟨hr1, hr2⟩, hs1, hz0, hoff⟩
        have hln : ln.den = 0 := by omega
        rw [hln] at hres
        rcases Nat.eq_zero_or_pos n.den with hn0 | hpos
        · -- nothing is appended: the block stays, under its new name
          obtain ⟨ll, vs, rest, lo, hi', hbl, h0', hc, hh, hfz, hw, hcap⟩ := hr.entries _ _ he
          have hvs : vs = [] := denL_nil.1 hc
          subst hvs
          obtain ⟨l', hl', hAe⟩ := SA.den_some hA
          rw [hbl] at hl'; cases hl'
          have hAe' : A = ⟨ll.blk, 0, none⟩ := by rw [hAe, h0', hoff]
          have hxs : xs = [] := List.eq_nil_of_length_eq_zero (by rw [hxl, hn0])
          subst hxs
          have hplace := run_append_place (ty := ty) (bs := some A) (sLen := 0) (sCap := 0) (w' := w) (xs := []) ht hd hi hm (hn P w) (by rw [hs1]; exact hfc w rfl) (by omega) rfl
          refine fun hb => ⟨.value _, _, w, β.upd base ⟨ll.blk, 0, 0⟩, hres _ _ hplace, rfl, ?_, ?_, ?_⟩
          · rw [den_slice]
            exact ⟨A, 0, by rw [hAe']; simp [SA.den, Val.upd_same, SN.den], by simp [SC.den, Val.upd_same], by omega, by rw [hn0]⟩
          · refine ⟨Val.upd_le hb.hd, rfl, rfl, rfl, Nat.le_refl _, ?_, fun _ _ _ => rfl, ?_, ?_, ?_, ?_⟩
            · intro m hm'
              unfold Val.upd
              rw [if_neg]; simp at hm'; omega
            · intro m e1 e2 h1 h2; simp at h1 h2; rw [h1.2, h2.2]
            · intro m e h1; simp at h1; rw [h1.2]; trivial
            · intro j e hj
              cases j with
              | succ j => simp at hj
              | zero =>
                simp at hj; subst hj
                exact ⟨rfl, ⟨⟨ll.blk, 0, 0⟩, [], rest, lo, hi', Val.upd_same _ _ _, rfl, ⟨hn0.symm, by simp⟩, hh, hfz, by simp, by simp⟩, ⟨ll.blk, 0, 0⟩, Val.upd_same _ _ _, .inr ⟨a.nm, ll, by simp, hbl, rfl⟩⟩
            · intro j k l l' hjk hj hk; simp at hj hk; omega
          · intro m e hm'
            simp at hm'
            obtain ⟨rfl, rfl⟩ := hm'
            exact ⟨_, he, rfl⟩
        · obtain ⟨cap, hcap, hrun⟩ := run_append_grow' (ty := ty) (bs := some A) (sLen := 0) (sCap := 0) (os := []) (xs := xs) ht hd hi hzv hm (hn P w) (by rw [hs1]; exact hfc)
            (fun w' hw' => firstCells_run (w := w) w' hw' (.inr (.inl ⟨A, 0, 0, rfl, by simp, by simp⟩))) (by omega) (by simpa using hr1) (by simpa using hr2)
          refine ap_new_gone (c := .fn g n.den) (vs := xs) (len := n.den) he rfl hi hzl' ⟨hxl, hgd⟩ (by rw [hs1, hxl]; simp) (by simpa using hcap) rfl (hres _ _ ?_)
          rw [hrun]; simp
      · trivial
    · trivial
theorem copyT_sat (hr : HeapRel0 P O w0 β H w) {tys : Array TypeId} {ty : TypeId} {d x : SV} {dv xv : Value} (hdv : d.den β = some dv) (hx : x.den β = some xv) {res : Result Next}
    (hres : ∀ v w', (Builtin.copy_ tys ty #[dv, xv]).run P w = .ok v w' → res = .ok (.value v) w') :
    (copyT P H tys d x).Sat (OpSem P H β w base res) := by
  refine R.Sat.opt fun st ht => R.Sat.opt fun td hd => ?_
  have hu := run_underlying (w := w) hd
  split
  · rename_i elem
    refine R.Sat.opt fun i hi => lenS_sat hx fun n hn => lenS_sat hdv fun len hlen => ?_
    split
    · rename_i len n
      refine srcCells_len (m := Nat.min n len) hr hx hn (Nat.min_le_left _ _) fun new xs hnew hfc hxl => ?_
      have hcopy : ∀ (bs : Option Addr) (c : Nat) (w' : World), dv = .slice bs len c → (match bs with | some a => storeCells a xs | none => pure () : Sem Unit).run P w = .ok () w' →
          (Builtin.copy_ tys ty #[dv, xv]).run P w = .ok (goInt (Nat.min n len : Nat)) w' := by
        intro bs c w' hdv' hst
        subst hdv'
        have h1 := hfc w rfl
        have h2 := hn P w
        simp only [SN.den] at h2
        unfold Builtin.copy_
        simp only [ht, List.getElem?_toArray, List.getElem?_cons_zero, List.getElem?_cons_succ, Sem.run_bind, hu, Result.andThen_ok, h2, run_sizeOf hi, h1]
        cases bs with
        | none => simp at hst; subst hst; simp
        | some a => simp at hst; simp [hst]
      split
      · simp only [SV.den, Option.some.injEq] at hdv; subst hdv
        have hl0 := lenOf_slice hlen P w
        simp only [SN.den] at hl0
        subst hl0
        exact sem_val (hres _ _ (hcopy none 0 w rfl rfl)) rfl
      · rename_i a ln c
        rw [den_slice] at hdv
        obtain ⟨A, C, hA, hC, _, rfl⟩ := hdv
        have hl0 : len = ln.den := lenOf_slice hlen P w
        split
        · rename_i hm0
          have hxs : xs = [] := List.eq_nil_of_length_eq_zero (by rw [hxl, hm0]; simp)
          subst hxs
          refine sem_val (x := goInt (Nat.min n len : Nat)) (hres _ _ (hcopy (some A) C w (by rw [← hl0]) rfl)) ?_
          rw [hm0]; rfl
        · split
          · rename_i hsc
            refine entry_sat fun e he => ?_
            split
            · rename_i cl wh el
              obtain ⟨ll, vs, rest, lo, hi', hbl, h0', hc, hh, hfz, hw, hcap⟩ := hr.entries _ _ he
              obtain ⟨l', hl', rfl⟩ := SA.den_some hA
              rw [hbl] at hl'; cases hl'
              refine wrCells_sat hc hnew fun c' hc' hle => ?_
              have hrun := run_storeCells (P := P) xs (vs ++ rest) (ll.off + a.off.den) 0 w hh (denL_one hnew hsc) hfz (by rw [h0']; simp; omega)
              rw [Nat.add_zero, h0', Nat.zero_add, overC_append hle] at hrun
              refine fun hb => ⟨.value _, _, _, β, hres _ _ (hcopy _ C _ (by rw [← hl0]) (by rw [h0', Nat.zero_add]; exact hrun)), rfl, rfl, Eff.turn hbl ?_, ?_⟩
              · have hlt : ll.blk < w.heap.size := (Array.getElem?_eq_some_iff.1 hh).1
                refine ⟨ll, overC vs a.off.den xs, rest, lo, hi', hbl, h0', hc', by simp [hlt], ?_, hw, ?_⟩
                · intro j hj
                  refine hfz j ?_
                  simp only [List.length_append, overC_length hle] at hj ⊢; exact hj
                · intro j hj
                  have := hcap j hj
                  simp only [List.length_append, overC_length hle] at this ⊢; exact this
              · intro m e hm
                simp at hm
                obtain ⟨rfl, rfl⟩ := hm
                exact ⟨_, he, rfl⟩
            · trivial
          · trivial
      · trivial
    · trivial
  · trivial

theorem run_builtin_value {P : Program} {b : Builtin} {tys : Array TypeId} {ty : TypeId} {cs : Array Bool} {args : Array Value} {w w' : World} {v : Value} {s : Sem Value} (h : builtin b tys ty cs args = (do pure (.value (← s)) : Sem Next)) (hs : s.run P w = .ok v w') :
    (builtin b tys ty cs args).run P w = .ok (.value v) w' := by
  rw [h]; simp [hs]
theorem oCallB_sat (hr : HeapRel0 P O w0 β H w) {b : Builtin} {args : Array Operand} {tys : Array TypeId} (hev : ∀ x ∈ args.toList, (ev x).den β = some (ρ x)) :
    (oCallB b ⟨.builtin b, args, tys⟩ P ev H base).Sat (OpSem P H β w base ((execOp ρ ⟨dst, .call ⟨.builtin b, args, tys⟩, t, pos, af, g⟩).run P w)) := by
  have hargs := mapEv_den args.toList hev
  have hex : (execOp ρ ⟨dst, .call ⟨.builtin b, args, tys⟩, t, pos, af, g⟩).run P w = (builtin b tys t (args.map fun | .const _ => true | _ => false) (args.toList.map ρ).toArray).run P w := by
    simp only [execOp, resolve, Sem.run_bind, Sem.run_pure, Result.andThen_ok, invoke]
    congr 2
    simp [← Array.toList_map]
  rw [hex]
  generalize (args.map fun | Operand.const _ => true | _ => false) = cs
  show (builtinT P H base b tys (mapN ev args.toList)).Sat _
  generalize hA : mapN ev args.toList = as at hargs
  generalize args.toList.map ρ = vs at hargs
  unfold builtinT
  split
  · rename_i x xs
    obtain ⟨y, ys, hy, hys, rfl⟩ := denL_cons.1 hargs
    exact lenT_sat hy (ty := t) fun n hn => run_builtin_value rfl hn
  · rename_i s x
    obtain ⟨y, ys, hy, hys, rfl⟩ := denL_cons.1 hargs
    obtain ⟨z, zs, hz, hzs, rfl⟩ := denL_cons.1 hys
    rw [denL_nil] at hzs; subst hzs
    exact appendT_sat hr hy hz (ty := t) fun v w' h => run_builtin_value rfl h
  · rename_i d x
    obtain ⟨y, ys, hy, hys, rfl⟩ := denL_cons.1 hargs
    obtain ⟨z, zs, hz, hzs, rfl⟩ := denL_cons.1 hys
    rw [denL_nil] at hzs; subst hzs
    exact copyT_sat hr hy hz (ty := t) fun v w' h => run_builtin_value rfl h
  · rename_i x y
    obtain ⟨y1, ys, hy, hys, rfl⟩ := denL_cons.1 hargs
    obtain ⟨z, zs, hz, hzs, rfl⟩ := denL_cons.1 hys
    rw [denL_nil] at hzs; subst hzs
    refine (min2_sat (P := P) (w := w) hy hz).bind fun v ⟨u, hu, hrun⟩ => sem_val (run_builtin_value rfl (s := Builtin.min_ tys t #[y1, z]) ?_) hu
    simp [Builtin.min_, hrun]
  · trivial
theorem asFunc_cases (v : SV) : (∃ f xs ys, v = .func f xs ys) ∨ ∀ {γ : Type} (d : γ) (f : SFn → List SV → List SV → γ), v.asFunc d f = d := by
  cases v <;> first | exact .inl ⟨_, _, _, rfl⟩ | exact .inr fun _ _ => rfl
theorem callT_sat {f : SV} {fv : Value} {as : List SV} {vs : List Value} (hf : f.den β = some fv) (has : SV.denL β as = some vs) :
    (callT f as).Sat (OpSem P H β w base ((do let d ← Deferred.ofValue fv vs.toArray; invoke d.target d.args : Sem Next).run P w)) := by
  unfold callT
  rcases asFunc_cases f with ⟨fn, xs, ys, h⟩ | h
  · rw [h] at hf ⊢
    simp only [SV.den, Option.bind_eq_some_iff, Option.map_eq_some_iff] at hf
    obtain ⟨F, hF, x, hx, y, hy, rfl⟩ := hf
    cases fn with
    | yield nm =>
      simp only [SFn.den, Option.map_eq_some_iff] at hF
      obtain ⟨l, hl, rfl⟩ := hF
      refine ⟨l, x ++ vs, hl, app_den hx has, ?_⟩
      simp [Deferred.ofValue, invoke]
    | fn fn =>
      simp only [SFn.den, Option.some.injEq] at hF
      subst hF
      cases fn with
      | func g =>
        refine ⟨x ++ (vs ++ y), app_den hx (app_den has hy), ?_⟩
        simp [Deferred.ofValue, invoke]
      | method => trivial
      | methodOf => trivial
      | via => trivial
      | yield => trivial
  · rw [h]; trivial
theorem oCallV_sat {f : Operand} {args : Array Operand} {tys : Array TypeId} (hf : (ev f).den β = some (ρ f)) (hev : ∀ x ∈ args.toList, (ev x).den β = some (ρ x)) :
    (oCallV f ⟨.value f, args, tys⟩ P ev H base).Sat (OpSem P H β w base ((execOp ρ ⟨dst, .call ⟨.value f, args, tys⟩, t, pos, af, g⟩).run P w)) := by
  have hargs := mapEv_den args.toList hev
  have h := callT_sat (P := P) (H := H) (w := w) (base := base) hf hargs
  have e : (args.toList.map ρ).toArray = args.map ρ := by simp [← Array.toList_map]
  rw [e] at h
  exact h

/-- EVERY OPERATION -/
theorem opS_sat (hr : HeapRel0 P O w0 β H w) (o : Oper) (hev : ∀ x ∈ o.op.operands, (ev x).den β = some (ρ x)) :
    (opS P ev H base o).Sat (OpSem P H β w base ((execOp ρ o).run P w)) := by
  obtain ⟨dst, op, t, pos, af, g⟩ := o
  show (opD op P ev H base).Sat _
  cases op <;> simp only [Op.operands] at hev
  case move x => exact (oMove_sat (hev x (by simp))).1
  case assign x => exact (oMove_sat (hev x (by simp))).2
  case pick c a b => exact oPick_sat (hev c (by simp)) (hev a (by simp)) (hev b (by simp))
  case alloc e => exact oAlloc_sat (ev := ev)
  case box e x => exact oBox_sat (hev x (by simp))
  case build ty ps => exact oBuild_sat fun x hx => hev x (by simpa using hx)
  case buildSlice ty n ps => exact oBuildSlice_sat fun x hx => hev x (by simpa using hx)
  case load ty a => exact oLoad_sat hr (hev a (by simp))
  case store ty a x => exact oStore_sat hr (hev a (by simp)) (hev x (by simp))
  case nilCheck x => exact oNil_sat (hev x (by simp))
  case binOp op ty x y yt => exact oBin_sat (hev x (by simp)) (hev y (by simp))
  case unOp op ty x => exact oUn_sat (hev x (by simp))
  case convert s d x => exact oConv_sat hr (hev x (by simp))
  case sliceToArrayPointer ty x => exact oArr_sat (hev x (by simp))
  case makeInterface ty x => exact oIface_sat (hev x (by simp))
  case makeFunc fn xs ys => exact oFunc_sat (fun x hx => hev x (by simp at hx ⊢; exact .inl hx)) (fun x hx => hev x (by simp at hx ⊢; exact .inr hx))
  case makeSlice ty l c => exact oMakeSlice_sat (hev l (by simp)) (hev c (by simp))
  case slice ty x lo hi mx =>
    have ho : ∀ v : Option Operand, (∀ y, v = some y → (ev y).den β = some (ρ y)) → ODen β (v.map ev) (v.map ρ) := by
      intro v hv
      cases v with
      | none => trivial
      | some y => exact hv y rfl
    exact oSlice_sat (hev x (by simp)) (ho lo fun y hy => hev y (by subst hy; simp)) (ho hi fun y hy => hev y (by subst hy; simp)) (ho mx fun y hy => hev y (by subst hy; simp))
  case fieldAddr ty x n => exact oFieldAddr_sat (hev x (by simp))
  case field ty x n => exact oField_sat (hev x (by simp))
  case indexAddr ty x i => exact oIndexAddr_sat (hev x (by simp)) (hev i (by simp))
  case index ty x i => exact oIndex_sat (hev x (by simp)) (hev i (by simp))
  case extract x n => exact oExtract_sat (hev x (by simp))
  case call c =>
    obtain ⟨callee, args, tys⟩ := c
    simp only [Call.operands] at hev
    cases callee with
    | value f => exact oCallV_sat (hev f (by simp)) fun x hx => hev x (by simp at hx ⊢; exact .inr hx)
    | invoke r m => trivial
    | builtin b => exact oCallB_sat hr fun x hx => hev x (by simp at hx ⊢; exact hx)
  all_goals trivial

end
end Go.Sim
