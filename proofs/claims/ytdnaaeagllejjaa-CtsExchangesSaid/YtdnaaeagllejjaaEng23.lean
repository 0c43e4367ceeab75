/-
  The symbolic simulator, twenty-third part: a region that draws its order, in any order.
-/
import Derived.Test.YtdnaaeagllejjaaEng22
namespace Go.Sim
variable {α : Type}

/- The list of an order. -/
theorem go_nil {ops : Array Oper} {listed : Array Bool} (h : Region.ready .any ops listed = []) (fuel t : Nat) : Region.linearise.go .any ops fuel t listed [] = [] := by
  cases fuel with
  | zero => rfl
  | succ fuel =>
    simp only [Region.linearise.go]
    change (match (Region.ready .any ops listed)[t % (Region.ready .any ops listed).length]? with
      | some i => Region.linearise.go .any ops fuel (t / (Region.ready .any ops listed).length) (listed.setIfInBounds i true) [i]
      | none => [].reverse) = []
    rw [h]; rfl
theorem go_cons {ops : Array Oper} {listed : Array Bool} (h : Region.ready .any ops listed ≠ []) (fuel t : Nat) :
    ∃ i ∈ Region.ready .any ops listed, ∃ t', Region.linearise.go .any ops (fuel + 1) t listed [] = i :: Region.linearise.go .any ops fuel t' (listed.setIfInBounds i true) [] := by
  have hlt : t % (Region.ready .any ops listed).length < (Region.ready .any ops listed).length := Nat.mod_lt _ (List.length_pos_iff.2 h)
  refine ⟨(Region.ready .any ops listed)[t % (Region.ready .any ops listed).length], List.getElem_mem hlt, t / (Region.ready .any ops listed).length, ?_⟩
  have e : Region.linearise.go .any ops (fuel + 1) t listed [] = match (Region.ready .any ops listed)[t % (Region.ready .any ops listed).length]? with
      | some i => Region.linearise.go .any ops fuel (t / (Region.ready .any ops listed).length) (listed.setIfInBounds i true) [i]
      | none => [].reverse := by
    simp only [Region.linearise.go]; rfl
  rw [e, List.getElem?_eq_getElem hlt]
  show Region.linearise.go .any ops fuel _ _ [_] = _
  rw [linearise_go_acc]; rfl
/-- how many of the first k have not come -/
def unl (listed : Array Bool) : Nat → Nat
  | 0 => 0
  | k + 1 => unl listed k + if listed.getD k true then 0 else 1
theorem unl_set {listed : Array Bool} {i : Nat} (hi : listed.getD i true = false) : ∀ k, unl (listed.setIfInBounds i true) k + (if i < k then 1 else 0) = unl listed k := by
  have hlt : i < listed.size := by
    rcases Nat.lt_or_ge i listed.size with h | h
    · exact h
    · rw [Array.getD_eq_getD_getElem?, Array.getElem?_eq_none h] at hi; cases hi
  intro k
  induction k with
  | zero => rfl
  | succ k ih =>
    simp only [unl]
    by_cases hk : i = k
    · subst hk
      have h1 : (listed.setIfInBounds i true).getD i true = true := by simp [Array.getD_eq_getD_getElem?, hlt]
      rw [h1, hi]
      simp at ih ⊢
      omega
    · rw [getD_set_ne true hk]
      have : (if i < k + 1 then 1 else 0) = (if i < k then 1 else 0) := by
        by_cases h : i < k
        · rw [if_pos h, if_pos (by omega)]
        · rw [if_neg h, if_neg (by omega)]
      rw [this]
      omega
theorem unl_ge {listed : Array Bool} {s n : Nat} (h : ∀ j, s ≤ j → j < n → listed.getD j true = false) : ∀ k, s + k = n → k ≤ unl listed n := by
  intro k hk
  subst hk
  induction k with
  | zero => exact Nat.zero_le _
  | succ k ih =>
    have := ih fun j h1 h2 => h j h1 (by omega)
    show k + 1 ≤ unl listed (s + k) + _
    rw [show s.add k = s + k from rfl, h (s + k) (by omega) (by omega)]
    simp; omega
theorem unl_pos {listed : Array Bool} {n i : Nat} (hi : i < n) (h : listed.getD i true = false) : 1 ≤ unl listed n := by
  have := unl_set h n
  rw [if_pos hi] at this; omega

section
variable {os : Array Oper} {s : Nat}
theorem mask_lt (he : edgesAll os.toList 0 = true) : ∀ (i : Nat) (m : Nat), (masks os.toList [])[i]? = some m → ∀ j, m.testBit j = true → j < i := by
  intro i
  induction i using Nat.strongRecOn with
  | ind i ih =>
    intro m hm j hj
    obtain ⟨_, h2, h3⟩ := masks_spec os.toList []
    have hlt := (List.getElem?_eq_some_iff.1 hm).1
    rw [h2] at hlt
    simp only [List.length_nil, Nat.zero_add] at hlt h3
    have ho := h3 i _ (List.getElem?_eq_getElem hlt)
    rw [hm] at ho
    obtain ⟨e, hmem, hb, hor⟩ := mask_spec _ _ j (by rw [← Option.some.inj ho]; exact hj)
    have hon := edgesAll_spec _ 0 he i _ (List.getElem?_eq_getElem hlt) e hmem hb
    rw [Nat.zero_add] at hon
    rcases hor with rfl | ⟨m', hm', hb'⟩
    · exact hon
    · rw [List.getElem?_take, if_pos hon] at hm'
      have := ih e.on hon m' hm' j hb'
      omega
/-- what is ready has all its mask behind it -/
theorem mask_ready {listed : Array Bool} (hcl : ∀ (i m : Nat), listed.getD i false = true → (masks os.toList [])[i]? = some m → ∀ j, m.testBit j = true → listed.getD j false = true)
    {i : Nat} (hi : i ∈ Region.ready .any os listed) {m : Nat} (hm : (masks os.toList [])[i]? = some m) {j : Nat} (hj : m.testBit j = true) : listed.getD j false = true := by
  rw [mem_ready] at hi
  obtain ⟨_, o, ho, hall⟩ := hi
  obtain ⟨_, _, h3⟩ := masks_spec os.toList []
  have h4 := h3 i o (by rw [Array.getElem?_toList]; exact ho)
  simp only [List.length_nil, Nat.zero_add] at h4
  rw [hm] at h4
  obtain ⟨e, hmem, hb, hor⟩ := mask_spec _ _ j (by rw [← Option.some.inj h4]; exact hj)
  have hl := hall e (by simpa using hmem) hb
  rcases hor with rfl | ⟨m', hm', hb'⟩
  · exact hl
  · rw [List.getElem?_take] at hm'
    split at hm'
    · exact hcl e.on m' hl hm' j hb'
    · cases hm'
theorem ready_least (he : edgesAll os.toList 0 = true) {listed : Array Bool} {i : Nat} (hi : i < os.size) (hl : listed.getD i true = false) (hb : ∀ j, j < i → listed.getD j false = true) : i ∈ Region.ready .any os listed := by
  rw [mem_ready]
  refine ⟨hl, os[i], Array.getElem?_eq_getElem hi, fun e hmem hbi => hb _ ?_⟩
  have := edgesAll_spec _ 0 he i os[i] (by simp [hi]) e (by simpa using hmem) hbi
  omega
theorem getD_true_false {listed : Array Bool} {i : Nat} (hi : i < listed.size) : listed.getD i false = listed.getD i true := by
  simp [Array.getD_eq_getD_getElem?, hi]
/-- the tail comes in the text's order -/
theorem tail_order (he : edgesAll os.toList 0 = true) (ht : ∀ (i m : Nat), s ≤ i → (masks os.toList [])[i]? = some m → ∀ j, j < i → m.testBit j = true) : ∀ (k fuel t s' : Nat) (listed : Array Bool), listed.size = os.size → s ≤ s' → s' + k = os.size →
    (∀ j, j < os.size → listed.getD j true = decide (j < s')) → k ≤ fuel → Region.linearise.go .any os fuel t listed [] = List.range' s' k := by
  intro k
  induction k with
  | zero =>
    intro fuel t s' listed hsz hs hk hl _
    rw [go_nil]
    · rfl
    · apply List.eq_nil_iff_forall_not_mem.2
      intro j hj
      rw [mem_ready] at hj
      obtain ⟨h1, o, ho, _⟩ := hj
      have hlt := (Array.getElem?_eq_some_iff.1 ho).1
      rw [hl j hlt] at h1
      have := of_decide_eq_false h1; omega
  | succ k ih =>
    intro fuel t s' listed hsz hs hk hl hf
    cases fuel with
    | zero => omega
    | succ fuel =>
      have hlt : s' < os.size := by omega
      have hin : s' ∈ Region.ready .any os listed := ready_least he hlt (by rw [hl s' hlt]; simp) fun j hj => by
        rw [getD_true_false (by omega), hl j (by omega)]; simp [hj]
      obtain ⟨i, hi, t', heq⟩ := go_cons (List.ne_nil_of_mem hin) fuel t
      have his : i = s' := by
        have hi' := hi
        rw [mem_ready] at hi'
        obtain ⟨h1, o, ho, hall⟩ := hi'
        have hio := (Array.getElem?_eq_some_iff.1 ho).1
        rw [hl i hio] at h1
        have hge := of_decide_eq_false h1
        by_cases hlt' : s' < i
        · exfalso
          obtain ⟨_, _, h3⟩ := masks_spec os.toList []
          have h4 := h3 i o (by rw [Array.getElem?_toList]; exact ho)
          simp only [List.length_nil, Nat.zero_add] at h4
          obtain ⟨e, hmem, hb, hor⟩ := mask_spec _ _ s' (ht i _ (by omega) h4 s' hlt')
          have hon := edgesAll_spec _ 0 he i o (by rw [Array.getElem?_toList]; exact ho) e hmem hb
          have hlon := hall e (by simpa using hmem) hb
          rw [getD_true_false (by omega), hl e.on (by omega)] at hlon
          have hons := of_decide_eq_true hlon
          rcases hor with rfl | ⟨m', hm', hb'⟩
          · omega
          · rw [List.getElem?_take] at hm'
            split at hm'
            · have := mask_lt he e.on m' hm' s' hb'; omega
            · cases hm'
        · omega
      subst his
      rw [heq, ih fuel t' (i + 1) _ (by simp [hsz]) (by omega) (by omega) ?_ (by omega), List.range'_succ]
      intro j hj
      by_cases hji : i = j
      · subst hji
        simp [Array.getD_eq_getD_getElem?, hsz, hlt]
      · rw [getD_set_ne true hji, hl j hj]
        congr 1; simp; omega
end

section
variable {x : DCtx} {s : Nat} {T TF : List SV} {Fs : List Fct} {slots sets : List (Nat × SO)} {O : Nat → Prop} {w0 : World}
/-- the heap, of which those entries stand for something whose operations have come -/
def mslots (listed : Array Bool) (slots : List (Nat × SO)) : List SO := slots.map fun p => if listed.getD p.1 false then p.2 else .gone
/-- the first heap, with what the last operation turns, once that has come -/
noncomputable def hcur (x : DCtx) (s : Nat) (sets : List (Nat × SO)) (listed : Array Bool) : List SO := if listed.getD ((x.os.toList.take s).length - 1) false then setsH x.H sets else x.H
theorem hcur_length (x : DCtx) (s : Nat) (sets : List (Nat × SO)) (listed : Array Bool) : (hcur x s sets listed).length = x.H.length := by
  unfold hcur; split
  · exact setsH_length _ _
  · rfl
theorem hcur_nil (x : DCtx) (s : Nat) (listed : Array Bool) : hcur x s [] listed = x.H := by unfold hcur; split <;> rfl
theorem atI_in (x : DCtx) (i : Nat) (l : Bool) {k : Nat} {e : SO} (h : (x.atI i l)[k]? = some e) : e = .gone ∨ x.H[k]? = some e := by
  have hid : (mapN hideE x.H)[k]? = some e → e = .gone ∨ x.H[k]? = some e := by
    intro h
    rw [mapN_eq, List.getElem?_map] at h
    cases hx : x.H[k]? with
    | none => rw [hx] at h; cases h
    | some e0 =>
      rw [hx] at h
      have h : hideE e0 = e := Option.some.inj h
      unfold hideE at h
      cases hh : hiddenE e0 with
      | true => rw [hh] at h; exact .inl h.symm
      | false => rw [hh] at h; exact .inr (congrArg some h)
  unfold DCtx.atI at h
  cases hm : x.mL with
  | none => rw [hm] at h; exact .inr h
  | some m =>
    rw [hm] at h
    replace h : (boolC l x.H (boolC (bitN m i) x.H (mapN hideE x.H)))[k]? = some e := h
    cases l with
    | true => exact .inr h
    | false =>
      cases hb : bitN m i with
      | true => rw [hb] at h; exact .inr h
      | false => rw [hb] at h; exact hid h
structure DInv (x : DCtx) (s : Nat) (TF : List SV) (slots sets : List (Nat × SO)) (O : Nat → Prop) (w0 : World) (listed : Array Bool) (β : Val) (ts : Array Value) (w : World) : Prop where
  size : listed.size = x.os.size
  tsz : ts.size = TF.length
  tmps : ∀ t, (∀ (j : Nat) (o : Oper), (x.os.toList.take s)[j]? = some o → o.dst = some t → listed.getD j false = true) → (getT TF t).den β = some (ts.getD t undef)
  heap : HeapRel0 x.c.P O w0 β (hcur x s sets listed ++ mslots listed slots) w
  free : ∀ n, x.H.length ≤ n → (∀ (j : Nat) (e : SO), slots[n - x.H.length]? = some (j, e) → listed.getD j false = false) → β n = none
  closed : ∀ (i m : Nat), listed.getD i false = true → (masks x.os.toList [])[i]? = some m → ∀ j, m.testBit j = true → listed.getD j false = true
  tail : ∀ i, s ≤ i → listed.getD i false = false
  glob : GlobRel x.c.glob β
theorem getD_put {ts : Array Value} {ds : List Deferred} {dst : Option Tmp} {y : Value} (t : Nat) : ((Act.put ⟨ts, ds⟩ dst y).tmps).getD t undef = if dst = some t ∧ t < ts.size then y else ts.getD t undef := by
  cases dst with
  | none => simp [Act.put]
  | some d =>
    simp only [Act.put, Array.getD_eq_getD_getElem?, Array.getElem?_setIfInBounds, Option.some.injEq]
    by_cases h : d = t
    · subst h
      by_cases h2 : d < ts.size
      · simp [h2]
      · simp [h2]
    · simp [h]
theorem put_mk (ts : Array Value) (ds : List Deferred) (dst : Option Tmp) (y : Value) : Act.put ⟨ts, ds⟩ dst y = ⟨(Act.put ⟨ts, ds⟩ dst y).tmps, ds⟩ := by cases dst <;> rfl
theorem put_size (ts : Array Value) (ds : List Deferred) (dst : Option Tmp) (y : Value) : (Act.put ⟨ts, ds⟩ dst y).tmps.size = ts.size := by cases dst <;> simp [Act.put]

/-- an operation's turn -/
theorem turn_step (he : edgesAll x.os.toList 0 = true) (hh : headOK x.os (takeN x.os.toList s) (takeN x.os.toList s) (masks x.os.toList []) 0 = true) (hF : Facts x (x.os.toList.take s) (masks x.os.toList []) T 0 [] TF Fs slots sets)
    {listed : Array Bool} {β : Val} {ts : Array Value} {w : World} (hI : DInv x s TF slots sets O w0 listed β ts w) {i : Nat} (hi : i ∈ Region.ready .any x.os listed) (his : i < s) (fr : Frame) (ds : List Deferred) (rest : List Nat) (k : List Item) (cs : List Frame) :
    ∃ β' ts' w', β.le β' ∧ DInv x s TF slots sets O w0 (listed.setIfInBounds i true) β' ts' w' ∧ Steps x.c.P (lone (fr.atR ⟨ts, ds⟩ (.inRegion x.os (i :: rest) :: k)) cs w) (lone (fr.atR ⟨ts', ds⟩ (.inRegion x.os rest :: k)) cs w') := by
  have hr := mem_ready.1 hi
  obtain ⟨hun, o, ho, hall⟩ := hr
  have hio := (Array.getElem?_eq_some_iff.1 ho).1
  have hunf : listed.getD i false = false := by rw [getD_true_false (by rw [hI.size]; exact hio)]; exact hun
  have hhd : (x.os.toList.take s)[i]? = some o := by rw [List.getElem?_take, if_pos his, Array.getElem?_toList]; exact ho
  obtain ⟨f, hf⟩ : ∃ f, Fs[i]? = some f := by
    have := (List.getElem?_eq_some_iff.1 hhd).1
    rw [← hF.len] at this
    exact ⟨_, List.getElem?_eq_getElem this⟩
  obtain ⟨hslot, hval, ⟨hfs, hfn⟩, T', G, hgood, hseen, hT'l, hT'⟩ := hF.good i o f hhd hf
  rw [Nat.zero_add] at hslot hseen
  simp only [List.length_nil, Nat.add_zero, List.nil_append] at hslot hseen
  rw [takeN_eq] at hh
  obtain ⟨hread, hdst⟩ := headOK_spec _ _ _ _ _ hh i o hhd
  have hset : ∀ j, (listed.setIfInBounds i true).getD j false = if i = j then true else listed.getD j false := by
    intro j
    by_cases hij : i = j
    · subst hij; rw [if_pos rfl]; simp [Array.getD_eq_getD_getElem?, hI.size, hio]
    · rw [if_neg hij, getD_set_ne false hij]
  -- what it reads is there
  have hagree : AgreeOn β T' ts (readsOp x.os o) := by
    refine ⟨by rw [hI.tsz, hT'l, hF.lenT], fun t ht => ?_⟩
    rw [← hT' t (fun j o' hij ho' hd => ?_) β]
    · refine hI.tmps t fun j o' ho' hd => ?_
      obtain ⟨m, hm, hb⟩ := hread j o' t ho' hd ht
      exact mask_ready hI.closed hi hm hb
    · obtain ⟨m, hm, hb⟩ := hread j o' t ho' hd ht
      have := mask_lt he i m hm j hb
      omega
  have hfree : ∀ (v : SV) (N : List SO) (b : Nat) (q : List (Nat × SO)), f = .run v N b q → Free β b N := by
    intro v N b q hfe
    rcases hslot.ex with ⟨hnil, _⟩ | ⟨e, p, v', q', hfe', hp, _⟩
    · rw [hfe] at hnil
      have : N = [] := hnil
      subst this
      intro j hj; simp at hj
    · rw [hfe] at hfe'; cases hfe'
      intro j hj
      have : j = 0 := by simp at hj; exact hj
      subst this
      refine hI.free _ (by omega) fun j' e' hje => ?_
      rw [show x.H.length + p + 0 - x.H.length = p from by omega, hp] at hje
      cases hje; exact hunf
  -- what it sees is there
  have hcur_at : ∀ (k : Nat) (e : SO), (x.atI i (decide (i + 1 = (x.os.toList.take s).length)))[k]? = some e → e = .gone ∨ (hcur x s sets listed)[k]? = some e := by
    intro k e hk
    rcases hF.last with h0 | ⟨hmL, hhid⟩
    · rw [h0, hcur_nil]; exact atI_in x _ _ hk
    · cases hL : listed.getD ((x.os.toList.take s).length - 1) false with
      | false =>
        have : hcur x s sets listed = x.H := by unfold hcur; rw [hL]; rfl
        rw [this]; exact atI_in x _ _ hk
      | true =>
        have hcu : hcur x s sets listed = setsH x.H sets := by unfold hcur; rw [hL]; rfl
        rw [hcu]
        have hne : ¬ (i + 1 = (x.os.toList.take s).length) := by
          intro h
          rw [← h, Nat.add_sub_cancel] at hL
          rw [hunf] at hL; cases hL
        have hat : x.atI i (decide (i + 1 = (x.os.toList.take s).length)) = mapN hideE x.H := by
          unfold DCtx.atI
          rw [hmL, decide_eq_false hne]
          show boolC (bitN _ i) x.H (mapN hideE x.H) = _
          cases hb : bitN (((masks x.os.toList [])[(x.os.toList.take s).length - 1]?).getD 0) i with
          | false => rfl
          | true =>
            exfalso
            have hmi : (masks x.os.toList [])[(x.os.toList.take s).length - 1]? = some (((masks x.os.toList [])[(x.os.toList.take s).length - 1]?).getD 0) := by
              cases hm : (masks x.os.toList [])[(x.os.toList.take s).length - 1]? with
              | none => rw [hm] at hb; simp [bitN] at hb
              | some m => rfl
            have := hI.closed _ _ hL hmi i hb
            rw [hunf] at this; cases this
        rw [hat, mapN_eq, List.getElem?_map] at hk
        cases hx : x.H[k]? with
        | none => rw [hx] at hk; cases hk
        | some e0 =>
          rw [hx] at hk
          have hk : hideE e0 = e := Option.some.inj hk
          unfold hideE at hk
          cases hh : hiddenE e0 with
          | true => rw [hh] at hk; exact .inl hk.symm
          | false =>
            rw [hh] at hk
            have hk : e0 = e := hk
            subst hk
            right
            rw [setsH_other, hx]
            intro e' he'
            have := hhid k e' he'
            unfold hidN at this
            rw [nth_eq, hx] at this
            rw [show optC (some e0) false hiddenE = hiddenE e0 from rfl, hh] at this; cases this
  have hcl := hcur_length x s sets listed
  have hG0 : HeapRel0 x.c.P O w0 β G w := by
    refine hI.heap.less fun n e hn => ?_
    rcases hseen n e hn with h | h | ⟨hge, j, hj, hb⟩
    · exact .inr h
    · rcases hcur_at n e h with h | h
      · exact .inr h
      · left
        rw [List.getElem?_append_left (List.getElem?_eq_some_iff.1 h).1]; exact h
    · left
      rw [atI_length] at hge hj
      rw [List.getElem?_append_right (by omega), hcl]
      have hmi : (masks x.os.toList [])[i]? = some (((masks x.os.toList [])[i]?).getD 0) := by
        cases hm : (masks x.os.toList [])[i]? with
        | none => rw [hm] at hb; simp at hb
        | some m => rfl
      have hl := mask_ready hI.closed hi hmi hb
      simp only [mslots, List.getElem?_map, hj, Option.map_some]
      rw [hl]; rfl
  -- what it does
  have hstep : ∃ y w' β' b SS, f.val.den β' = some y ∧ Eff x.c.P β w b SS f.news β' w' ∧ (∀ n e, (n, e) ∈ SS → ∃ e0, G[n]? = some e0 ∧ e0.owned = true) ∧ (SS = f.sets ∨ (f.sets = [] ∧ f.news = [] ∧ ∃ nm e, SS = [(nm, e)] ∧ G[nm]? = some e ∧ e.owned = true)) ∧ (∀ e p v q, f = .run v [e] (x.H.length + p) q → b = x.H.length + p) ∧
      Steps x.c.P (lone (fr.atR ⟨ts, ds⟩ (.inRegion x.os (i :: rest) :: k)) cs w) (lone (fr.atR (Act.put ⟨ts, ds⟩ o.dst y) (.inRegion x.os rest :: k)) cs w') := by
    cases f with
    | skip =>
      have hw := hgood β ts hagree
      refine ⟨undef, w, β, 0, [], by simp [Fct.val, undefS, SV.den, SV.denL, undef], Eff.refl _ _ _ _, (by intro n e h; simp at h), .inl rfl, (by intro e p v q h; cases h), .one ?_⟩
      have := stepR_op_skip (P := x.c.P) (b := fr) (a := ⟨ts, ds⟩) (k := k) (cs := cs) (w := w) (ops := x.os) (i := i) (rest := rest) (by rw [ho]; exact hw)
      rw [ho] at this; exact this
    | run v N b q =>
      obtain ⟨hw, hrun⟩ := hgood β ts hagree
      obtain ⟨y, w', β', hv, hE, hso, hst⟩ := hrun O w0 w hG0 hI.glob (hfree v N b q rfl) (fr.atR ⟨ts, ds⟩ (.inRegion x.os (i :: rest) :: k)) cs i rest k rfl rfl ho rfl
      rw [Frame.finish_atR, ho] at hst
      exact ⟨y, w', β', b, q, hv, hE, hso, .inl rfl, (by intro e p v q h; cases h; rfl), hst⟩
    | touch v nm =>
      obtain ⟨hw, hrun⟩ := hgood β ts hagree
      obtain ⟨y, w', e, hv, he, heo, hE, hst⟩ := hrun O w0 w hG0 hI.glob (fr.atR ⟨ts, ds⟩ (.inRegion x.os (i :: rest) :: k)) cs i rest k rfl rfl ho rfl
      rw [Frame.finish_atR, ho] at hst
      exact ⟨y, w', β, 0, [(nm, e)], hv, hE, (by intro n e' hn; simp at hn; obtain ⟨rfl, rfl⟩ := hn; exact ⟨e', he, heo⟩), .inr ⟨rfl, rfl, nm, e, rfl, he, heo⟩, (by intro e p v q h; cases h), hst⟩
  obtain ⟨y, w', β', b, SS, hv, hE, hso, hSS, hbase, hst⟩ := hstep
  rw [put_mk] at hst
  refine ⟨β', _, w', hE.le, ⟨by simp [hI.size], by rw [put_size]; exact hI.tsz, ?_, ?_, ?_, ?_, ?_, hI.glob.mono hE.le⟩, hst⟩
  · -- the temporaries
    intro t ht
    rw [getD_put]
    by_cases hd : o.dst = some t
    · by_cases hlt : t < ts.size
      · rw [if_pos ⟨hd, hlt⟩, hval t hd (by rw [← hF.lenT, ← hI.tsz]; exact hlt) (fun j o' hij ho' => hdst t hd j o' hij ho')]
        exact hv
      · rw [if_neg (fun h => hlt h.2)]
        have h1 : nth TF t = none := by rw [nth_eq, List.getElem?_eq_none]; rw [← hI.tsz]; exact Nat.not_lt.1 hlt
        have h2 : ts.getD t undef = undef := by rw [Array.getD_eq_getD_getElem?, Array.getElem?_eq_none (Nat.not_lt.1 hlt)]; rfl
        rw [h2]; unfold getT; rw [h1]; simp [undefS, SV.den, SV.denL, undef]
    · rw [if_neg (fun h => hd h.1)]
      refine SV.den_mono hE.le _ (hI.tmps t fun j o' ho' hd' => ?_)
      have := ht j o' ho' hd'
      rw [hset] at this
      by_cases hij : i = j
      · subst hij; rw [hhd] at ho'; cases ho'; exact absurd hd' hd
      · rwa [if_neg hij] at this
  · -- the heap
    rcases hSS with rfl | ⟨hs0, hn0, nm, e, rfl, hge, heo⟩
    case inr =>
      -- an entry is marked
      have hcu : hcur x s sets (listed.setIfInBounds i true) = hcur x s sets listed := by
        by_cases hil : i + 1 = (x.os.toList.take s).length
        · rw [if_pos hil, hs0] at hfs
          rw [← hfs, hcur_nil, hcur_nil]
        · have hlt := (List.getElem?_eq_some_iff.1 hhd).1
          have h1 : (listed.setIfInBounds i true).getD ((x.os.toList.take s).length - 1) false = listed.getD ((x.os.toList.take s).length - 1) false := by
            rw [hset]; exact if_neg (by omega)
          unfold hcur
          rw [h1]
      have hno : ∀ e, (i, e) ∉ slots := by
        rcases hslot.ex with ⟨_, hno⟩ | ⟨e', p, v, q, hfe, _, _⟩
        · exact hno
        · rw [hfe] at hn0; cases hn0
      have h3 : mslots (listed.setIfInBounds i true) slots = mslots listed slots := by
        unfold mslots
        apply List.map_congr_left
        intro p hp
        have h1 : (listed.setIfInBounds i true).getD p.1 false = listed.getD p.1 false := by
          rw [hset]; exact if_neg fun h => hno p.2 (by rw [h]; exact hp)
        rw [h1]
      rw [hn0] at hE
      have hin : (hcur x s sets listed ++ mslots listed slots)[nm]? = some e := by
        rcases hseen nm e hge with rfl | h | ⟨hge', j, hj, hb⟩
        · cases heo
        · rcases hcur_at nm e h with rfl | h
          · cases heo
          · rw [List.getElem?_append_left (List.getElem?_eq_some_iff.1 h).1]; exact h
        · rw [atI_length] at hge' hj
          rw [List.getElem?_append_right (by omega), hcl]
          have hmi : (masks x.os.toList [])[i]? = some (((masks x.os.toList [])[i]?).getD 0) := by
            cases hm : (masks x.os.toList [])[i]? with
            | none => rw [hm] at hb; simp at hb
            | some m => rfl
          have hl := mask_ready hI.closed hi hmi hb
          simp only [mslots, List.getElem?_map, hj, Option.map_some]
          rw [hl]; rfl
      rw [hcu, h3, ← setsH_same hin]
      refine hI.heap.turn (fun n hn => ?_) hE fun n e' hn => ?_
      · rw [List.length_append, mslots, List.length_map] at hn
        refine hI.free n (by omega) fun j e hj => ?_
        have := (List.getElem?_eq_some_iff.1 hj).1
        omega
      · simp at hn
        obtain ⟨rfl, rfl⟩ := hn
        exact ⟨e', hin, heo⟩
    by_cases hse : f.sets = []
    · have hcu : hcur x s sets (listed.setIfInBounds i true) = hcur x s sets listed := by
        by_cases hil : i + 1 = (x.os.toList.take s).length
        · rw [if_pos hil, hse] at hfs
          rw [← hfs, hcur_nil, hcur_nil]
        · have hlt := (List.getElem?_eq_some_iff.1 hhd).1
          have h1 : (listed.setIfInBounds i true).getD ((x.os.toList.take s).length - 1) false = listed.getD ((x.os.toList.take s).length - 1) false := by
            rw [hset]; exact if_neg (by omega)
          unfold hcur
          rw [h1]
      rw [hcu]
      rw [hse] at hE
      refine hI.heap.lay hE fun n e hn => ?_
      rcases Nat.lt_or_ge n x.H.length with hlt | hge
      · rw [List.getElem?_append_left (by omega)] at hn
        left
        refine ⟨by rw [List.getElem?_append_left (by omega)]; exact hn, ?_⟩
        rcases hslot.ex with ⟨hnil, _⟩ | ⟨e', p, v, q, hfe, _, _⟩
        · rw [hnil]; simp; omega
        · rw [hbase e' p v q hfe]; left; omega
      · rw [List.getElem?_append_right (by omega), hcl] at hn
        simp only [mslots, List.getElem?_map, Option.map_eq_some_iff] at hn
        obtain ⟨⟨j, e0⟩, hj, hje⟩ := hn
        by_cases hij : i = j
        · subst hij
          rw [hset, if_pos rfl] at hje
          simp only [if_true] at hje
          subst hje
          right
          rcases hslot.ex with ⟨_, hno⟩ | ⟨e', p, v, q, hfe, hp, hu⟩
          · exact absurd (List.mem_of_getElem? hj) (hno e0)
          · have := hu _ _ hj
            rw [this, hp] at hj; cases hj
            exact ⟨0, by rw [hbase _ p v q hfe]; omega, by rw [hfe]; rfl⟩
        · left
          rw [List.getElem?_append_right (by omega), hcl]
          refine ⟨?_, ?_⟩
          · simp only [mslots, List.getElem?_map, hj, Option.map_some]
            rw [hset, if_neg hij] at hje
            exact congrArg some hje
          · rcases hslot.ex with ⟨hnil, _⟩ | ⟨e', p, v, q, hfe, hp, _⟩
            · rw [hnil]; simp; omega
            · have hne : n - x.H.length ≠ p := by
                intro h; rw [h, hp] at hj; cases hj; exact hij rfl
              rw [hbase e' p v q hfe, hfe]
              simp only [Fct.news, List.length_cons, List.length_nil]
              omega
    · have hil : i + 1 = (x.os.toList.take s).length := by
        by_cases h : i + 1 = (x.os.toList.take s).length
        · exact h
        · rw [if_neg h] at hfs; exact absurd hfs hse
      rw [if_pos hil] at hfs
      have hnn := hfn hse
      rw [hnn, hfs] at hE
      have hLi : (x.os.toList.take s).length - 1 = i := by omega
      have hno : ∀ e, (i, e) ∉ slots := by
        rcases hslot.ex with ⟨_, hno⟩ | ⟨e', p, v, q, hfe, _, _⟩
        · exact hno
        · rw [hfe] at hnn; cases hnn
      have h1 : hcur x s sets listed = x.H := by unfold hcur; rw [hLi, hunf]; rfl
      have h2 : hcur x s sets (listed.setIfInBounds i true) = setsH x.H sets := by unfold hcur; rw [hLi, hset, if_pos rfl]; rfl
      have h3 : mslots (listed.setIfInBounds i true) slots = mslots listed slots := by
        unfold mslots
        apply List.map_congr_left
        intro p hp
        have h1 : (listed.setIfInBounds i true).getD p.1 false = listed.getD p.1 false := by
          rw [hset]; exact if_neg fun h => hno p.2 (by rw [h]; exact hp)
        rw [h1]
      have hlt : ∀ n e, (n, e) ∈ sets → ∃ e0, x.H[n]? = some e0 ∧ e0.owned = true := by
        intro n e hn
        obtain ⟨e0, hg, ho⟩ := hso n e (by rw [hfs]; exact hn)
        have hhid : hidN x.H n = true := by
          rcases hF.last with h0 | ⟨_, hh⟩
          · rw [h0] at hn; simp at hn
          · exact hh n e hn
        have hnl : n < x.H.length := by
          rcases Nat.lt_or_ge n x.H.length with h | h
          · exact h
          · unfold hidN at hhid
            rw [nth_eq, List.getElem?_eq_none h] at hhid; cases hhid
        rcases hseen n e0 hg with rfl | h | ⟨h, _⟩
        · cases ho
        · rcases atI_in x _ _ h with rfl | h
          · cases ho
          · exact ⟨e0, h, ho⟩
        · rw [atI_length] at h; omega
      have hH := hI.heap
      rw [h1] at hH
      rw [h2, h3, ← setsH_app _ _ _ (fun n e hn => by obtain ⟨e0, h, _⟩ := hlt n e hn; exact (List.getElem?_eq_some_iff.1 h).1)]
      refine hH.turn (fun n hn => ?_) hE fun n e hn => ?_
      · rw [List.length_append, mslots, List.length_map] at hn
        refine hI.free n (by omega) fun j e hj => ?_
        have := (List.getElem?_eq_some_iff.1 hj).1
        omega
      · obtain ⟨e0, h, ho⟩ := hlt n e hn
        exact ⟨e0, by rw [List.getElem?_append_left (List.getElem?_eq_some_iff.1 h).1]; exact h, ho⟩
  · -- the free names
    intro n hge hn
    have hold : β n = none := hI.free n hge fun j e hj => by
      have := hn j e hj
      rw [hset] at this
      split at this
      · cases this
      · exact this
    rcases hslot.ex with ⟨hnil, _⟩ | ⟨e', p, v, q, hfe, hp, _⟩
    · rw [hE.dom n (by rw [hnil]; simp; omega)]; exact hold
    · rw [hE.dom n ?_]; · exact hold
      rw [hbase e' p v q hfe, hfe]
      simp only [Fct.news, List.length_cons, List.length_nil]
      by_cases hnp : n = x.H.length + p
      · exfalso
        have := hn i e' (by rw [hnp]; simpa using hp)
        rw [hset, if_pos rfl] at this; cases this
      · omega
  · intro j m hj hm l hl
    rw [hset] at hj ⊢
    split
    · rfl
    · by_cases hij : i = j
      · subst hij; exact mask_ready hI.closed hi hm hl
      · rw [if_neg hij] at hj; exact hI.closed j m hj hm l hl
  · intro j hj
    rw [hset, if_neg (by omega)]; exact hI.tail j hj

/-- ANY ORDER -/
theorem order_steps (he : edgesAll x.os.toList 0 = true) (hh : headOK x.os (takeN x.os.toList s) (takeN x.os.toList s) (masks x.os.toList []) 0 = true) (ht : tailOK (dropN (masks x.os.toList []) s) s = true) (hF : Facts x (x.os.toList.take s) (masks x.os.toList []) T 0 [] TF Fs slots sets)
    (fr : Frame) (ds : List Deferred) (k : List Item) (cs : List Frame) : ∀ (fuel t : Nat) (listed : Array Bool) (β : Val) (ts : Array Value) (w : World), DInv x s TF slots sets O w0 listed β ts w → unl listed x.os.size ≤ fuel →
    ∃ β' ts' w' listed', β.le β' ∧ DInv x s TF slots sets O w0 listed' β' ts' w' ∧ (∀ j, j < s → j < x.os.size → listed'.getD j false = true) ∧
      Steps x.c.P (lone (fr.atR ⟨ts, ds⟩ (.inRegion x.os (Region.linearise.go .any x.os fuel t listed []) :: k)) cs w) (lone (fr.atR ⟨ts', ds⟩ (.inRegion x.os (List.range' s (x.os.size - s)) :: k)) cs w') := by
  have htm : ∀ (i m : Nat), s ≤ i → (masks x.os.toList [])[i]? = some m → ∀ j, j < i → m.testBit j = true := by
    intro i m hi hm j hj
    rw [dropN_eq] at ht
    have := tailOK_spec _ _ ht (i - s) m (by rw [List.getElem?_drop, show s + (i - s) = i from by omega]; exact hm)
    rw [show s + (i - s) = i from by omega] at this
    exact allBefore_spec this hj
  intro fuel
  induction fuel with
  | zero =>
    intro t listed β ts w hI hf
    have hall : ∀ j, j < x.os.size → listed.getD j true = true := by
      intro j hj
      cases h : listed.getD j true with
      | true => rfl
      | false => have := unl_pos hj h; omega
    have hs : x.os.size ≤ s := by
      rcases Nat.lt_or_ge s x.os.size with h | h
      · have h1 := hI.tail s (Nat.le_refl _)
        rw [getD_true_false (by rw [hI.size]; exact h), hall s h] at h1; cases h1
      · exact h
    refine ⟨β, ts, w, listed, Val.le_refl β, hI, fun j _ hj => by rw [getD_true_false (by rw [hI.size]; exact hj)]; exact hall j hj, ?_⟩
    rw [show x.os.size - s = 0 from by omega]
    exact .refl _ _
  | succ fuel ih =>
    intro t listed β ts w hI hf
    by_cases hall : ∀ j, j < s → j < x.os.size → listed.getD j false = true
    · refine ⟨β, ts, w, listed, Val.le_refl β, hI, hall, ?_⟩
      rcases Nat.lt_or_ge x.os.size s with h | h
      · rw [show x.os.size - s = 0 from by omega]
        rw [go_nil]
        · exact .refl _ _
        · apply List.eq_nil_iff_forall_not_mem.2
          intro j hj
          rw [mem_ready] at hj
          obtain ⟨h1, o, ho, _⟩ := hj
          have hlt := (Array.getElem?_eq_some_iff.1 ho).1
          rw [← getD_true_false (by rw [hI.size]; exact hlt), hall j (by omega) hlt] at h1
          cases h1
      · have hdec : ∀ j, j < x.os.size → listed.getD j true = decide (j < s) := by
          intro j hj
          rw [← getD_true_false (by rw [hI.size]; exact hj)]
          by_cases hjs : j < s
          · rw [hall j hjs hj]; simp [hjs]
          · rw [hI.tail j (by omega)]; simp [hjs]
        rw [tail_order he htm (x.os.size - s) (fuel + 1) t s listed hI.size (Nat.le_refl _) (by omega) hdec ?_]
        · exact .refl _ _
        · exact Nat.le_trans (unl_ge (s := s) (n := x.os.size) (fun j h1 h2 => by rw [hdec j h2]; simp; omega) _ (by omega)) hf
    · -- the least of those that have not come
      have hex : ∃ i, i < s ∧ i < x.os.size ∧ listed.getD i true = false ∧ ∀ j, j < i → listed.getD j false = true := by
        have hgen : ∀ n, (∃ i, i < n ∧ i < s ∧ i < x.os.size ∧ listed.getD i true = false ∧ ∀ j, j < i → listed.getD j false = true) ∨ (∀ j, j < n → j < s → j < x.os.size → listed.getD j false = true) := by
          intro n
          induction n with
          | zero => exact .inr fun j hj => by omega
          | succ n ih2 =>
            rcases ih2 with ⟨i, h1, h2⟩ | h
            · exact .inl ⟨i, by omega, h2⟩
            · by_cases hn : n < s ∧ n < x.os.size ∧ listed.getD n false = false
              · refine .inl ⟨n, by omega, hn.1, hn.2.1, ?_, fun j hj => h j hj (by omega) (by omega)⟩
                rw [← getD_true_false (by rw [hI.size]; exact hn.2.1)]; exact hn.2.2
              · refine .inr fun j hj h1 h2 => ?_
                by_cases hjn : j = n
                · subst hjn
                  cases hx : listed.getD j false with
                  | true => rfl
                  | false => exact absurd ⟨h1, h2, hx⟩ hn
                · exact h j (by omega) h1 h2
        rcases hgen s with ⟨i, _, h⟩ | h
        · exact ⟨i, h⟩
        · exact absurd (fun j h1 h2 => h j h1 h1 h2) hall
      obtain ⟨i0, h1, h2, h3, h4⟩ := hex
      have hin := ready_least he h2 h3 h4
      obtain ⟨i, hi, t', heq⟩ := go_cons (List.ne_nil_of_mem hin) fuel t
      have hio : i < x.os.size := by
        obtain ⟨_, o, ho, _⟩ := mem_ready.1 hi
        exact (Array.getElem?_eq_some_iff.1 ho).1
      have his : i < s := by
        rcases Nat.lt_or_ge i s with h | h
        · exact h
        · exfalso
          obtain ⟨_, hml, _⟩ := masks_spec x.os.toList []
          have hlt : i < (masks x.os.toList []).length := by rw [hml]; simpa using hio
          have := mask_ready hI.closed hi (List.getElem?_eq_getElem hlt) (htm i _ h (List.getElem?_eq_getElem hlt) i0 (by omega))
          rw [getD_true_false (by rw [hI.size]; exact h2), h3] at this; cases this
      obtain ⟨β1, ts1, w1, hle, hI1, hst⟩ := turn_step he hh hF hI hi his fr ds (Region.linearise.go .any x.os fuel t' (listed.setIfInBounds i true) []) k cs
      have hu := unl_set (mem_ready.1 hi).1 x.os.size
      rw [if_pos hio] at hu
      obtain ⟨β2, ts2, w2, l2, hle2, hI2, hall2, hst2⟩ := ih t' (listed.setIfInBounds i true) β1 ts1 w1 hI1 (by omega)
      exact ⟨β2, ts2, w2, l2, Val.le_trans hle hle2, hI2, hall2, by rw [heq]; exact hst.trans hst2⟩

end

/- Regions whose head holds appends. -/
section
variable {os : Array Oper} {s : Nat}
/-- any order, whatever is kept -/
theorem order_steps_gen {P : Program} {Inv : Array Bool → Val → Array Value → World → Prop} (he : edgesAll os.toList 0 = true) (ht : tailOK (dropN (masks os.toList []) s) s = true)
    (fr : Frame) (ds : List Deferred) (k : List Item) (cs : List Frame)
    (hsz : ∀ {l β ts w}, Inv l β ts w → l.size = os.size) (htl : ∀ {l β ts w}, Inv l β ts w → ∀ i, s ≤ i → l.getD i false = false)
    (hcl : ∀ {l β ts w}, Inv l β ts w → ∀ (i m : Nat), l.getD i false = true → (masks os.toList [])[i]? = some m → ∀ j, m.testBit j = true → l.getD j false = true)
    (hturn : ∀ {l : Array Bool} {β ts w} {i : Nat}, Inv l β ts w → i ∈ Region.ready .any os l → i < s → ∀ rest : List Nat, ∃ β' ts' w', β.le β' ∧ Inv (l.setIfInBounds i true) β' ts' w' ∧
      Steps P (lone (fr.atR ⟨ts, ds⟩ (.inRegion os (i :: rest) :: k)) cs w) (lone (fr.atR ⟨ts', ds⟩ (.inRegion os rest :: k)) cs w')) :
    ∀ (fuel t : Nat) (listed : Array Bool) (β : Val) (ts : Array Value) (w : World), Inv listed β ts w → unl listed os.size ≤ fuel →
    ∃ β' ts' w' listed', β.le β' ∧ Inv listed' β' ts' w' ∧ (∀ j, j < s → j < os.size → listed'.getD j false = true) ∧
      Steps P (lone (fr.atR ⟨ts, ds⟩ (.inRegion os (Region.linearise.go .any os fuel t listed []) :: k)) cs w) (lone (fr.atR ⟨ts', ds⟩ (.inRegion os (List.range' s (os.size - s)) :: k)) cs w') := by
  have htm : ∀ (i m : Nat), s ≤ i → (masks os.toList [])[i]? = some m → ∀ j, j < i → m.testBit j = true := by
    intro i m hi hm j hj
    rw [dropN_eq] at ht
    have := tailOK_spec _ _ ht (i - s) m (by rw [List.getElem?_drop, show s + (i - s) = i from by omega]; exact hm)
    rw [show s + (i - s) = i from by omega] at this
    exact allBefore_spec this hj
  intro fuel
  induction fuel with
  | zero =>
    intro t listed β ts w hI hf
    have hall : ∀ j, j < os.size → listed.getD j true = true := by
      intro j hj
      cases h : listed.getD j true with
      | true => rfl
      | false => have := unl_pos hj h; omega
    have hs : os.size ≤ s := by
      rcases Nat.lt_or_ge s os.size with h | h
      · have h1 := htl hI s (Nat.le_refl _)
        rw [getD_true_false (by rw [(hsz hI)]; exact h), hall s h] at h1; cases h1
      · exact h
    refine ⟨β, ts, w, listed, Val.le_refl β, hI, fun j _ hj => by rw [getD_true_false (by rw [(hsz hI)]; exact hj)]; exact hall j hj, ?_⟩
    rw [show os.size - s = 0 from by omega]
    exact .refl _ _
  | succ fuel ih =>
    intro t listed β ts w hI hf
    by_cases hall : ∀ j, j < s → j < os.size → listed.getD j false = true
    · refine ⟨β, ts, w, listed, Val.le_refl β, hI, hall, ?_⟩
      rcases Nat.lt_or_ge os.size s with h | h
      · rw [show os.size - s = 0 from by omega]
        rw [go_nil]
        · exact .refl _ _
        · apply List.eq_nil_iff_forall_not_mem.2
          intro j hj
          rw [mem_ready] at hj
          obtain ⟨h1, o, ho, _⟩ := hj
          have hlt := (Array.getElem?_eq_some_iff.1 ho).1
          rw [← getD_true_false (by rw [(hsz hI)]; exact hlt), hall j (by omega) hlt] at h1
          cases h1
      · have hdec : ∀ j, j < os.size → listed.getD j true = decide (j < s) := by
          intro j hj
          rw [← getD_true_false (by rw [(hsz hI)]; exact hj)]
          by_cases hjs : j < s
          · rw [hall j hjs hj]; simp [hjs]
          · rw [htl hI j (by omega)]; simp [hjs]
        rw [tail_order he htm (os.size - s) (fuel + 1) t s listed (hsz hI) (Nat.le_refl _) (by omega) hdec ?_]
        · exact .refl _ _
        · exact Nat.le_trans (unl_ge (s := s) (n := os.size) (fun j h1 h2 => by rw [hdec j h2]; simp; omega) _ (by omega)) hf
    · -- the least of those that have not come
      have hex : ∃ i, i < s ∧ i < os.size ∧ listed.getD i true = false ∧ ∀ j, j < i → listed.getD j false = true := by
        have hgen : ∀ n, (∃ i, i < n ∧ i < s ∧ i < os.size ∧ listed.getD i true = false ∧ ∀ j, j < i → listed.getD j false = true) ∨ (∀ j, j < n → j < s → j < os.size → listed.getD j false = true) := by
          intro n
          induction n with
          | zero => exact .inr fun j hj => by omega
          | succ n ih2 =>
            rcases ih2 with ⟨i, h1, h2⟩ | h
            · exact .inl ⟨i, by omega, h2⟩
            · by_cases hn : n < s ∧ n < os.size ∧ listed.getD n false = false
              · refine .inl ⟨n, by omega, hn.1, hn.2.1, ?_, fun j hj => h j hj (by omega) (by omega)⟩
                rw [← getD_true_false (by rw [(hsz hI)]; exact hn.2.1)]; exact hn.2.2
              · refine .inr fun j hj h1 h2 => ?_
                by_cases hjn : j = n
                · subst hjn
                  cases hx : listed.getD j false with
                  | true => rfl
                  | false => exact absurd ⟨h1, h2, hx⟩ hn
                · exact h j (by omega) h1 h2
        rcases hgen s with ⟨i, _, h⟩ | h
        · exact ⟨i, h⟩
        · exact absurd (fun j h1 h2 => h j h1 h1 h2) hall
      obtain ⟨i0, h1, h2, h3, h4⟩ := hex
      have hin := ready_least he h2 h3 h4
      obtain ⟨i, hi, t', heq⟩ := go_cons (List.ne_nil_of_mem hin) fuel t
      have hio : i < os.size := by
        obtain ⟨_, o, ho, _⟩ := mem_ready.1 hi
        exact (Array.getElem?_eq_some_iff.1 ho).1
      have his : i < s := by
        rcases Nat.lt_or_ge i s with h | h
        · exact h
        · exfalso
          obtain ⟨_, hml, _⟩ := masks_spec os.toList []
          have hlt : i < (masks os.toList []).length := by rw [hml]; simpa using hio
          have := mask_ready (hcl hI) hi (List.getElem?_eq_getElem hlt) (htm i _ h (List.getElem?_eq_getElem hlt) i0 (by omega))
          rw [getD_true_false (by rw [(hsz hI)]; exact h2), h3] at this; cases this
      obtain ⟨β1, ts1, w1, hle, hI1, hst⟩ := hturn hI hi his (Region.linearise.go .any os fuel t' (listed.setIfInBounds i true) [])
      have hu := unl_set (mem_ready.1 hi).1 os.size
      rw [if_pos hio] at hu
      obtain ⟨β2, ts2, w2, l2, hle2, hI2, hall2, hst2⟩ := ih t' (listed.setIfInBounds i true) β1 ts1 w1 hI1 (by omega)
      exact ⟨β2, ts2, w2, l2, Val.le_trans hle hle2, hI2, hall2, by rw [heq]; exact hst.trans hst2⟩

end

theorem cmpOK_spec {P : Program} {i m : Nat} : ∀ (ops : List Oper) (ms : List Nat) (k : Nat), cmpOK P i m ops ms k = true → ∀ (j : Nat) (o : Oper), ops[j]? = some o → moves P o = true → k + j ≠ i → (k + j < i → m.testBit (k + j) = true) ∧ (i < k + j → ((ms[j]?).getD 0).testBit i = true) := by
  intro ops
  induction ops with
  | nil => intro ms k _ j o h; simp at h
  | cons a r ih =>
    intro ms k h j o ho hm hne
    obtain ⟨h1, h2⟩ := boolC_and (show boolC (boolC (moves P a) (boolC (Nat.beq k i) true (boolC (Nat.blt k i) (bitN m k) (bitN (headM ms) i))) true) (cmpOK P i m r (tailM ms) (k + 1)) false = true from h)
    cases j with
    | zero =>
      simp at ho; subst ho
      rw [hm, boolC_true, show Nat.beq k i = false from Bool.eq_false_iff.2 fun h => hne (Nat.eq_of_beq_eq_true h), boolC_false] at h1
      rw [Nat.add_zero]
      refine ⟨fun hlt => ?_, fun hlt => ?_⟩
      · rw [show Nat.blt k i = true from Nat.ble_eq_true_of_le hlt, boolC_true] at h1; exact h1
      · rw [show Nat.blt k i = false from Bool.eq_false_iff.2 fun h => by have := Nat.le_of_ble_eq_true h; omega, boolC_false] at h1
        cases ms with
        | nil => simp [headM, bitN] at h1
        | cons m0 ms => exact h1
    | succ j =>
      have := ih (tailM ms) (k + 1) h2 j o (by simpa using ho) hm (by omega)
      rw [show k + (j + 1) = k + 1 + j from by omega]
      refine ⟨this.1, fun hlt => ?_⟩
      have h3 := this.2 hlt
      cases ms with
      | nil => simp [tailM] at h3
      | cons m0 ms => simpa [tailM] using h3

section
variable {D : SV → List SO → Prop} {S : SS → Prop}

theorem chVal_ob {v : SV} {sets : List (Nat × SO)} {news : List SO} {mv : Bool} {x : CCtx} {dst : Option Tmp} {T : List SV} {H : List SO} {next : List SV → List SO → Tree} (h : (chVal v sets news mv x dst T H next).Ob D S) :
    (next (putT T dst v) (applyH H sets news)).Ob D S ∧ (mv = false → sets = [] ∧ news = []) ∧ ∀ n e, (n, e) ∈ sets → visN x.H n = false := by
  unfold chVal at h
  cases mv with
  | true =>
    rw [boolC_true] at h
    cases ha : allN (fun q => boolC (visN x.H q.1) false true) sets with
    | false => rw [ha] at h; exact h.elim
    | true =>
      rw [ha] at h
      refine ⟨h, (fun h => by cases h), fun n e hn => ?_⟩
      have := allN_mem ha _ hn
      cases hv : visN x.H n with
      | false => rfl
      | true => rw [show visN x.H (n, e).1 = visN x.H n from rfl, hv] at this; cases this
  | false =>
    rw [boolC_false] at h
    unfold chNo at h
    split at h
    · exact ⟨h, fun _ => ⟨rfl, rfl⟩, by simp⟩
    · exact h.elim
theorem chOpG_ob {x : CCtx} (hc : CfgOK x.c) {G : List SO} {mv : Bool} {o : Oper} {T : List SV} {H : List SO} {next : List SV → List SO → Tree} (h : (chOpG G mv o x T H next).Ob D S) :
    ∃ T' f, SameDen T T' ∧ OpGood x.c.P x.c.glob G x.os o T' f ∧ (next (putT T' o.dst f.val) (applyH H f.sets f.news)).Ob D S ∧ (mv = false → f.sets = [] ∧ f.news = []) ∧ (∀ n e, (n, e) ∈ f.sets → visN x.H n = false) ∧ ∀ v M b s, f = .run v M b s → b = H.length := by
  unfold chOpG at h
  rcases wantT_leaf h with ⟨T', hsd, hwant, h⟩ | ⟨hwant, h⟩
  · obtain ⟨r, hleaf, h⟩ := R.leaf_of_ob h
    have hnd : ∀ cc, o.op ≠ .defer cc := by
      intro cc hd
      rw [show opS x.c.P (evS x.c.glob T') G (lenN H) o = .stuck 342 from by unfold opS; rw [hd]; rfl] at hleaf
      exact hleaf
    rw [lenN_eq] at hleaf
    have hev : ∀ (β : Val) (ts : Array Value) (ds : List Deferred), AgreeOn β T' ts (readsOp x.os o) → GlobRel x.c.glob β → ∀ y ∈ o.op.operands, (evS x.c.glob T' y).den β = some (Act.eval ⟨ts, ds⟩ y) := by
      intro β ts ds ha hG y hy
      cases y with
      | tmp t =>
        have h1 := ha.at_ t (reads_operand hy)
        have e : evS x.c.glob T' (.tmp t) = getT T' t := by
          show optC (nth T' t) undefS (fun v => v) = _
          unfold getT; cases nth T' t <;> rfl
        rw [e]; exact h1
      | const v => exact constV_den β v
      | global g =>
        show (evGlob g x.c.glob T').den β = _
        unfold evGlob
        split
        · rename_i nm h
          obtain ⟨l, h1, h2, h3⟩ := hG g nm h
          simp [SV.den, SA.den, h1, h2, h3, SN.den, Act.eval]
        · rfl
      | func f => rfl
    cases r with
    | val v sets news =>
      obtain ⟨h1, h2, h3⟩ := chVal_ob (show (chVal v sets news mv x o.dst T' H next).Ob D S from h)
      refine ⟨T', .run v news H.length sets, hsd, ?_, h1, h2, h3, fun _ _ _ _ e => by cases e; rfl⟩
      intro β ts ha
      refine ⟨hwant β ts ha, fun O w0 w hH hG hfree f cs i rest k hm htd ho hts => ?_⟩
      subst hts
      have hsg := step_op (P := x.c.P) hm htd ho (hwant β f.tmps ha) hnd (cs := cs) (w := w)
      obtain ⟨nx, y, w', β', hrun, hnx, hv, hE, hso⟩ := R.sat_leaf (opS_sat hH o (hev β f.tmps f.defers ha hG)) hleaf hfree
      exact ⟨y, w', β', hv, hE, hso, .one (step_val hsg hrun hnx)⟩
    | enter g args =>
      replace h : (chEnter g args mv x G o.dst T' H next).Ob D S := h
      unfold chEnter at h
      split at h
      · rename_i sm hsm
        obtain ⟨r, hleaf2, h⟩ := R.leaf_of_ob h
        rw [lenN_eq] at hleaf2
        obtain ⟨v, sets, news⟩ := r
        obtain ⟨h1, h2, h3⟩ := chVal_ob h
        refine ⟨T', .run v news H.length sets, hsd, ?_, h1, h2, h3, fun _ _ _ _ e => by cases e; rfl⟩
        intro β ts ha
        refine ⟨hwant β ts ha, fun O w0 w hH hG hfree f cs i rest k hm htd ho hts => ?_⟩
        subst hts
        have hsg := step_op (P := x.c.P) hm htd ho (hwant β f.tmps ha) hnd (cs := cs) (w := w)
        obtain ⟨vs, hvs, hrun⟩ := R.sat_leaf (opS_sat hH o (hev β f.tmps f.defers ha hG)) hleaf
        obtain ⟨hso, hcall⟩ := R.sat_leaf (hc.sums g sm hsm O w0 β G w _ args vs hH hG hvs) hleaf2 hfree
        rcases hcall with ⟨⟨fn, hfn, hb⟩, hcall⟩ | ⟨v', w', β', hrun2, hv, hE⟩
        · obtain ⟨e, w', fr', ⟨v', β', rfl, hv, hE⟩, hcomes, _, hleave⟩ := hcall (f :: cs)
          exact ⟨v', w', β', hv, hE, hso, .trans (.one (step_enter (by rw [htd]; intros; simp) hsg (hrun.trans (run_callFunc hc.prog hfn hb _ _)))) (.trans hcomes (.one (step_leave_returned hleave)))⟩
        · exact ⟨v', w', β', hv, hE, hso, .one (step_val hsg (hrun.trans hrun2) rfl)⟩
      · exact h.elim
    | round nm args => exact h.elim
    | defer d => exact h.elim
    | panic v => exact h.elim
    | touch v nm =>
      refine ⟨T', .touch v nm, hsd, ?_, h, fun _ => ⟨rfl, rfl⟩, by simp [Fct.sets], fun _ _ _ _ e => by cases e⟩
      intro β ts ha
      refine ⟨hwant β ts ha, fun O w0 w hH hG f cs i rest k hm htd ho hts => ?_⟩
      subst hts
      have hsg := step_op (P := x.c.P) hm htd ho (hwant β f.tmps ha) hnd (cs := cs) (w := w)
      obtain ⟨nx, y, w', e, hrun, hnx, hv, he, heo, hE⟩ := R.sat_leaf (opS_sat (base := H.length) hH o (hev β f.tmps f.defers ha hG)) hleaf
      exact ⟨y, w', e, hv, he, heo, hE.rebase, .one (step_val hsg hrun hnx)⟩
  · exact ⟨T, .skip, .refl T, hwant, h, fun _ => ⟨rfl, rfl⟩, by simp [Fct.sets], fun _ _ _ _ e => by cases e⟩

/-- the entries that are to stay have stayed -/
def StableH (H0 H : List SO) : Prop := ∀ (n : Nat) (e : SO), H0[n]? = some e → hiddenE e = false → H[n]? = some e
theorem StableH.apply {H0 H : List SO} (h : StableH H0 H) {sets : List (Nat × SO)} {news : List SO} (hs : ∀ n e, (n, e) ∈ sets → visN H0 n = false) : StableH H0 (applyH H sets news) := by
  intro n e hn he
  have h1 := h n e hn he
  rw [applyH_eq, List.getElem?_append_left (by rw [setsH_length]; exact (List.getElem?_eq_some_iff.1 h1).1), setsH_other _ _ _ ?_]
  · exact h1
  · intro e' he'
    have := hs n e' he'
    unfold visN at this
    rw [nth_eq, hn] at this
    rw [show optC (some e) false (fun e => boolC (hiddenE e) false true) = boolC (hiddenE e) false true from rfl, he] at this
    cases this
structure CFacts (x : CCtx) (ops : List Oper) (ms : List Nat) (i0 : Nat) (T : List SV) (H : List SO) (TF : List SV) (Fs : List Fct) (hs : Nat → List SO) : Prop where
  len : Fs.length = ops.length
  lenT : TF.length = T.length
  same : ∀ t, (∀ o ∈ ops, o.dst ≠ some t) → ∀ β, (getT TF t).den β = (getT T t).den β
  zero : hs 0 = H
  stable : ∀ i, i ≤ ops.length → StableH x.H (hs i)
  good : ∀ (i : Nat) (o : Oper) (f : Fct), ops[i]? = some o → Fs[i]? = some f →
    (∀ d, o.dst = some d → d < T.length → (∀ (k : Nat) (o' : Oper), i < k → ops[k]? = some o' → o'.dst ≠ some d) → ∀ β, (getT TF d).den β = f.val.den β) ∧
    hs (i + 1) = applyH (hs i) f.sets f.news ∧ (moves x.c.P o = false → f.sets = [] ∧ f.news = []) ∧ (∀ v M b s, f = .run v M b s → b = (hs i).length) ∧
    ∃ T' G, OpGood x.c.P x.c.glob G x.os o T' f ∧ T'.length = T.length ∧ (∀ t, (∀ (k : Nat) (o' : Oper), i ≤ k → ops[k]? = some o' → o'.dst ≠ some t) → ∀ β, (getT TF t).den β = (getT T' t).den β) ∧
      ((cmpOK x.c.P (i0 + i) ((ms[i]?).getD 0) x.hd x.ms 0 = true ∧ G = hs i) ∨ (moves x.c.P o = false ∧ G = mapN hideE x.H))
theorem chP_facts {x : CCtx} (hc : CfgOK x.c) : ∀ (ops : List Oper) (ms : List Nat) (i0 : Nat) (T : List SV) (H : List SO), StableH x.H H → (chP ops x ms i0 T H).Ob D S →
    ∃ TF Fs hs, CFacts x ops ms i0 T H TF Fs hs ∧ (x.fin TF (hs ops.length)).Ob D S := by
  intro ops
  induction ops with
  | nil =>
    intro ms i0 T H hst h
    exact ⟨T, [], fun _ => H, ⟨rfl, rfl, fun _ _ _ => rfl, rfl, fun _ _ => hst, by simp⟩, h⟩
  | cons o r ih =>
    intro ms i0 T H hst h
    have hm0 : headM ms = (ms[0]?).getD 0 := by cases ms <;> rfl
    have hms : ∀ i : Nat, (tailM ms)[i]? = ms[i + 1]? := by intro i; cases ms <;> simp [tailM]
    replace h : (chOp o x i0 (headM ms) T H (chP r x (tailM ms) (i0 + 1))).Ob D S := h
    obtain ⟨T', f, G, hsd, hgood, hnx, hmv, hvis, hbase, hG⟩ : ∃ T' f G, SameDen T T' ∧ OpGood x.c.P x.c.glob G x.os o T' f ∧ (chP r x (tailM ms) (i0 + 1) (putT T' o.dst f.val) (applyH H f.sets f.news)).Ob D S ∧ (moves x.c.P o = false → f.sets = [] ∧ f.news = []) ∧
        (∀ n e, (n, e) ∈ f.sets → visN x.H n = false) ∧ (∀ v M b s, f = .run v M b s → b = H.length) ∧ ((cmpOK x.c.P i0 (headM ms) x.hd x.ms 0 = true ∧ G = H) ∨ (moves x.c.P o = false ∧ G = mapN hideE x.H)) := by
      unfold chOp at h
      cases hcm : cmpOK x.c.P i0 (headM ms) x.hd x.ms 0 with
      | true =>
        rw [hcm, boolC_true] at h
        obtain ⟨T', f, h1, h2, h3, h4, h5, h6⟩ := chOpG_ob hc h
        exact ⟨T', f, H, h1, h2, h3, h4, h5, h6, .inl ⟨rfl, rfl⟩⟩
      | false =>
        rw [hcm, boolC_false] at h
        cases hmo : moves x.c.P o with
        | true => rw [hmo] at h; exact h.elim
        | false =>
          rw [hmo, boolC_false] at h
          obtain ⟨T', f, h1, h2, h3, h4, h5, h6⟩ := chOpG_ob hc h
          exact ⟨T', f, _, h1, h2, h3, fun _ => h4 rfl, h5, h6, .inr ⟨rfl, rfl⟩⟩
    have hlen : T'.length = T.length := hsd.len
    have hlenP : (putT T' o.dst f.val).length = T.length := by rw [putT_length, hlen]
    obtain ⟨TF, Fs, hs, hF, hfin⟩ := ih _ _ _ _ (hst.apply hvis) hnx
    refine ⟨TF, f :: Fs, fun k => match k with | 0 => H | k + 1 => hs k, ⟨by simp [hF.len], hF.lenT.trans hlenP, ?_, rfl, ?_, ?_⟩, hfin⟩
    · intro t ht β
      rw [hF.same t (fun o' ho' => ht o' (List.mem_cons_of_mem _ ho')) β, getT_put_ne (ht o List.mem_cons_self), hsd.den β t]
    · intro i hi
      cases i with
      | zero => exact hst
      | succ i => exact hF.stable i (by simpa using hi)
    · intro i o' f' ho' hf'
      cases i with
      | zero =>
        simp at ho' hf'; subst ho'; subst hf'
        refine ⟨fun d hd hdl hlate β => ?_, hF.zero, hmv, hbase, T', G, hgood, hlen, fun t ht β => ?_, by rw [← hm0]; exact hG⟩
        · rw [hF.same d (fun o' ho' => ?_) β, hd, getT_put_eq (Nat.lt_of_lt_of_eq hdl hlen.symm)]
          obtain ⟨k, hk⟩ := List.mem_iff_getElem?.1 ho'
          exact hlate (k + 1) o' (by omega) (by simpa using hk)
        · rw [hF.same t (fun o' ho' => ?_) β, getT_put_ne (ht 0 o (Nat.le_refl _) rfl)]
          obtain ⟨k, hk⟩ := List.mem_iff_getElem?.1 ho'
          exact ht (k + 1) o' (by omega) (by simpa using hk)
      | succ i =>
        obtain ⟨h1, h2, h3, h4, T2, G2, h5, h6, h7, h8⟩ := hF.good i o' f' (by simpa using ho') (by simpa using hf')
        refine ⟨fun d hd hdl hlate β => h1 d hd (Nat.lt_of_lt_of_eq hdl hlenP.symm) (fun k o'' hk ho'' => hlate (k + 1) o'' (by omega) (by simpa using ho'')) β, h2, h3, h4, T2, G2, h5, h6.trans hlenP,
          fun t ht β => h7 t (fun k o'' hk ho'' => ht (k + 1) o'' (by omega) (by simpa using ho'')) β, ?_⟩
        rw [← hms, show i0 + (i + 1) = i0 + 1 + i from by omega]
        exact h8
end

section
variable {x : CCtx} {s : Nat} {T TF : List SV} {Fs : List Fct} {hs : Nat → List SO} {H0 : List SO} {O : Nat → Prop} {w0 : World}
structure CInv (x : CCtx) (s : Nat) (TF : List SV) (hs : Nat → List SO) (O : Nat → Prop) (w0 : World) (listed : Array Bool) (β : Val) (ts : Array Value) (w : World) : Prop where
  size : listed.size = x.os.size
  tsz : ts.size = TF.length
  tmps : ∀ t, (∀ (j : Nat) (o : Oper), (x.os.toList.take s)[j]? = some o → o.dst = some t → listed.getD j false = true) → (getT TF t).den β = some (ts.getD t undef)
  heap : ∃ c, c ≤ (x.os.toList.take s).length ∧ (∀ (j : Nat) (o : Oper), (x.os.toList.take s)[j]? = some o → moves x.c.P o = true → (listed.getD j false = true ↔ j < c)) ∧ HeapRel x.c.P O w0 β (hs c) w
  closed : ∀ (i m : Nat), listed.getD i false = true → (masks x.os.toList [])[i]? = some m → ∀ j, m.testBit j = true → listed.getD j false = true
  tail : ∀ i, s ≤ i → listed.getD i false = false
  glob : GlobRel x.c.glob β

theorem hs_const {ops : List Oper} {ms : List Nat} {i0 : Nat} (hF : CFacts x ops ms i0 T H0 TF Fs hs) {a : Nat} : ∀ (n : Nat), a + n ≤ ops.length → (∀ (j : Nat) (o : Oper), a ≤ j → j < a + n → ops[j]? = some o → moves x.c.P o = false) → hs a = hs (a + n) := by
  intro n
  induction n with
  | zero => intro _ _; rfl
  | succ n ih =>
    intro hl hm
    rw [ih (by omega) fun j o h1 h2 => hm j o h1 (by omega)]
    have hlt : a + n < ops.length := by omega
    obtain ⟨_, h2, h3, _⟩ := hF.good (a + n) _ _ (List.getElem?_eq_getElem hlt) (List.getElem?_eq_getElem (by rw [hF.len]; exact hlt))
    obtain ⟨h4, h5⟩ := h3 (hm (a + n) _ (by omega) (by omega) (List.getElem?_eq_getElem hlt))
    rw [show a + (n + 1) = a + n + 1 from by omega, h2, h4, h5]; rfl

/-- an operation's turn -/
theorem chain_step (he : edgesAll x.os.toList 0 = true) (hh : headOK x.os (takeN x.os.toList s) (takeN x.os.toList s) (masks x.os.toList []) 0 = true) (hF : CFacts x (x.os.toList.take s) (masks x.os.toList []) 0 T H0 TF Fs hs) (hxh : x.hd = x.os.toList.take s) (hxm : x.ms = masks x.os.toList [])
    {listed : Array Bool} {β : Val} {ts : Array Value} {w : World} (hI : CInv x s TF hs O w0 listed β ts w) {i : Nat} (hi : i ∈ Region.ready .any x.os listed) (his : i < s) (fr : Frame) (ds : List Deferred) (rest : List Nat) (k : List Item) (cs : List Frame) :
    ∃ β' ts' w', β.le β' ∧ CInv x s TF hs O w0 (listed.setIfInBounds i true) β' ts' w' ∧ Steps x.c.P (lone (fr.atR ⟨ts, ds⟩ (.inRegion x.os (i :: rest) :: k)) cs w) (lone (fr.atR ⟨ts', ds⟩ (.inRegion x.os rest :: k)) cs w') := by
  have hr := mem_ready.1 hi
  obtain ⟨hun, o, ho, hall⟩ := hr
  have hio := (Array.getElem?_eq_some_iff.1 ho).1
  have hunf : listed.getD i false = false := by rw [getD_true_false (by rw [hI.size]; exact hio)]; exact hun
  have hhd : (x.os.toList.take s)[i]? = some o := by rw [List.getElem?_take, if_pos his, Array.getElem?_toList]; exact ho
  have hilt := (List.getElem?_eq_some_iff.1 hhd).1
  obtain ⟨f, hf⟩ : ∃ f, Fs[i]? = some f := ⟨_, List.getElem?_eq_getElem (by rw [hF.len]; exact hilt)⟩
  obtain ⟨hval, hnext, hmv, hbase, T', G, hgood, hT'l, hT', hGc⟩ := hF.good i o f hhd hf
  rw [Nat.zero_add, hxh, hxm] at hGc
  rw [takeN_eq] at hh
  obtain ⟨hread, hdst⟩ := headOK_spec _ _ _ _ _ hh i o hhd
  have hset : ∀ j, (listed.setIfInBounds i true).getD j false = if i = j then true else listed.getD j false := by
    intro j
    by_cases hij : i = j
    · subst hij; rw [if_pos rfl]; simp [Array.getD_eq_getD_getElem?, hI.size, hio]
    · rw [if_neg hij, getD_set_ne false hij]
  have hmi : ∀ j, (((masks x.os.toList [])[i]?).getD 0).testBit j = true → listed.getD j false = true := by
    intro j hb
    refine mask_ready hI.closed hi (m := ((masks x.os.toList [])[i]?).getD 0) ?_ hb
    cases hm : (masks x.os.toList [])[i]? with
    | none => rw [hm] at hb; simp at hb
    | some m => rfl
  have hmj : ∀ j, (((masks x.os.toList [])[j]?).getD 0).testBit i = true → listed.getD j false = true → False := by
    intro j hb hl
    have := hI.closed j (((masks x.os.toList [])[j]?).getD 0) hl (by
      cases hm : (masks x.os.toList [])[j]? with
      | none => rw [hm] at hb; simp at hb
      | some m => rfl) i hb
    rw [hunf] at this; cases this
  -- what it reads is there
  have hagree : AgreeOn β T' ts (readsOp x.os o) := by
    refine ⟨by rw [hI.tsz, hT'l, hF.lenT], fun t ht => ?_⟩
    rw [← hT' t (fun j o' hij ho' hd => ?_) β]
    · refine hI.tmps t fun j o' ho' hd => ?_
      obtain ⟨m, hm, hb⟩ := hread j o' t ho' hd ht
      exact mask_ready hI.closed hi hm hb
    · obtain ⟨m, hm, hb⟩ := hread j o' t ho' hd ht
      have := mask_lt he i m hm j hb
      omega
  obtain ⟨c, hcl, hcm, hH⟩ := hI.heap
  have hcase : (G = hs c ∧ hs c = hs i ∧ cmpOK x.c.P i (((masks x.os.toList [])[i]?).getD 0) (x.os.toList.take s) (masks x.os.toList []) 0 = true) ∨ (moves x.c.P o = false ∧ G = mapN hideE x.H) := by
    rcases hGc with ⟨hcmp, hGi⟩ | h
    · left
      have hspec := cmpOK_spec _ _ _ hcmp
      have hci : hs c = hs i := by
        rcases Nat.le_total c i with hle | hle
        · have := hs_const hF (a := c) (i - c) (by omega) fun j o' h1 h2 ho' => by
            cases hmo : moves x.c.P o' with
            | false => rfl
            | true =>
              exfalso
              have h3 := (hspec j o' ho' hmo (by omega)).1 (by omega)
              rw [Nat.zero_add] at h3
              have := (hcm j o' ho' hmo).1 (hmi j h3)
              omega
          rw [show c + (i - c) = i from by omega] at this; exact this
        · have := hs_const hF (a := i) (c - i) (by omega) fun j o' h1 h2 ho' => by
            cases hmo : moves x.c.P o' with
            | false => rfl
            | true =>
              exfalso
              have hl := (hcm j o' ho' hmo).2 (by omega)
              by_cases hij : j = i
              · subst hij; rw [hunf] at hl; cases hl
              · have h3 := (hspec j o' ho' hmo (by omega)).2 (by omega)
                exact hmj j h3 hl
          rw [show i + (c - i) = c from by omega] at this; exact this.symm
      exact ⟨hGi.trans hci.symm, hci, hcmp⟩
    · exact .inr h
  have hvisG : ∀ (n : Nat) (e : SO), G[n]? = some e → e = SO.gone ∨ (hs c)[n]? = some e := by
    intro n e hn
    rcases hcase with ⟨rfl, _⟩ | ⟨_, rfl⟩
    · exact .inr hn
    · rw [mapN_eq, List.getElem?_map] at hn
      cases hx : x.H[n]? with
      | none => rw [hx] at hn; cases hn
      | some e0 =>
        rw [hx] at hn
        have hn : hideE e0 = e := Option.some.inj hn
        unfold hideE at hn
        cases hhe : hiddenE e0 with
        | true => rw [hhe] at hn; exact .inl hn.symm
        | false =>
          rw [hhe] at hn
          have hn : e0 = e := hn
          subst hn
          exact .inr (hF.stable c hcl n e0 hx hhe)
  have hG0 : HeapRel0 x.c.P O w0 β G w := hH.toHeapRel0.less fun n e hn => (hvisG n e hn).symm
  have hown : ∀ (n : Nat) (e : SO), G[n]? = some e → e.owned = true → (hs c)[n]? = some e := by
    intro n e hn ho
    rcases hvisG n e hn with rfl | h
    · cases ho
    · exact h
  have hb0 : f.news = [] ∧ f.sets = [] ∨ (hs c = hs i) := by
    rcases hcase with ⟨_, h, _⟩ | ⟨h, _⟩
    · exact .inr h
    · exact .inl ⟨(hmv h).2, (hmv h).1⟩
  -- what it does
  have hstep : ∃ y w' β', f.val.den β' = some y ∧ β.le β' ∧ HeapRel x.c.P O w0 β' (applyH (hs c) f.sets f.news) w' ∧
      Steps x.c.P (lone (fr.atR ⟨ts, ds⟩ (.inRegion x.os (i :: rest) :: k)) cs w) (lone (fr.atR (Act.put ⟨ts, ds⟩ o.dst y) (.inRegion x.os rest :: k)) cs w') := by
    cases f with
    | skip =>
      have hw := hgood β ts hagree
      refine ⟨undef, w, β, by simp [Fct.val, undefS, SV.den, SV.denL, undef], Val.le_refl β, hH, .one ?_⟩
      have := stepR_op_skip (P := x.c.P) (b := fr) (a := ⟨ts, ds⟩) (k := k) (cs := cs) (w := w) (ops := x.os) (i := i) (rest := rest) (by rw [ho]; exact hw)
      rw [ho] at this; exact this
    | run v N b q =>
      obtain ⟨hw, hrun⟩ := hgood β ts hagree
      have hb := hbase v N b q rfl
      have hfree : Free β b N := by
        rcases hb0 with ⟨h1, _⟩ | h
        · have h1 : N = [] := h1
          subst h1
          intro j hj; simp at hj
        · intro j _
          exact hH.bound _ (by rw [h, hb]; omega)
      obtain ⟨y, w', β', hv, hE, hso, hst⟩ := hrun O w0 w hG0 hI.glob hfree (fr.atR ⟨ts, ds⟩ (.inRegion x.os (i :: rest) :: k)) cs i rest k rfl rfl ho rfl
      rw [Frame.finish_atR, ho] at hst
      refine ⟨y, w', β', hv, hE.le, ?_, hst⟩
      have hso' : ∀ n e, (n, e) ∈ q → ∃ e0, (hs c)[n]? = some e0 ∧ e0.owned = true := fun n e hn => by
        obtain ⟨e0, h1, h2⟩ := hso n e hn
        exact ⟨e0, hown n e0 h1 h2, h2⟩
      rcases hb0 with ⟨h1, _⟩ | h
      · have h1 : N = [] := h1
        subst h1
        exact hH.apply (hE.rebase (b := (hs c).length)) hso'
      · rw [hb, ← h] at hE
        exact hH.apply hE hso'
    | touch v nm =>
      obtain ⟨hw, hrun⟩ := hgood β ts hagree
      obtain ⟨y, w', e, hv, he, heo, hE, hst⟩ := hrun O w0 w hG0 hI.glob (fr.atR ⟨ts, ds⟩ (.inRegion x.os (i :: rest) :: k)) cs i rest k rfl rfl ho rfl
      rw [Frame.finish_atR, ho] at hst
      refine ⟨y, w', β, hv, Val.le_refl β, ?_, hst⟩
      have h1 := hown nm e he heo
      have := hH.apply (hE.rebase (b := (hs c).length)) (by intro n e' hn; simp at hn; obtain ⟨rfl, rfl⟩ := hn; exact ⟨e', h1, heo⟩)
      rw [applyH_eq, List.append_nil, setsH_same h1] at this
      exact this
  obtain ⟨y, w', β', hv, hle, hH', hst⟩ := hstep
  rw [put_mk] at hst
  refine ⟨β', _, w', hle, ⟨by simp [hI.size], by rw [put_size]; exact hI.tsz, ?_, ?_, ?_, ?_, hI.glob.mono hle⟩, hst⟩
  · -- the temporaries
    intro t ht
    rw [getD_put]
    by_cases hd : o.dst = some t
    · by_cases hlt : t < ts.size
      · rw [if_pos ⟨hd, hlt⟩, hval t hd (by rw [← hF.lenT, ← hI.tsz]; exact hlt) (fun j o' hij ho' => hdst t hd j o' hij ho')]
        exact hv
      · rw [if_neg (fun h => hlt h.2)]
        have h1 : nth TF t = none := by rw [nth_eq, List.getElem?_eq_none]; rw [← hI.tsz]; exact Nat.not_lt.1 hlt
        have h2 : ts.getD t undef = undef := by rw [Array.getD_eq_getD_getElem?, Array.getElem?_eq_none (Nat.not_lt.1 hlt)]; rfl
        rw [h2]; unfold getT; rw [h1]; simp [undefS, SV.den, SV.denL, undef]
    · rw [if_neg (fun h => hd h.1)]
      refine SV.den_mono hle _ (hI.tmps t fun j o' ho' hd' => ?_)
      have := ht j o' ho' hd'
      rw [hset] at this
      by_cases hij : i = j
      · subst hij; rw [hhd] at ho'; cases ho'; exact absurd hd' hd
      · rwa [if_neg hij] at this
  · -- the heap
    cases hmo : moves x.c.P o with
    | false =>
      obtain ⟨h1, h2⟩ := hmv hmo
      rw [h1, h2] at hH'
      refine ⟨c, hcl, fun j o' ho' hm => ?_, hH'⟩
      have hij : i ≠ j := by
        intro h; subst h
        rw [hhd] at ho'; cases ho'
        rw [hmo] at hm; cases hm
      rw [hset, if_neg hij]
      exact hcm j o' ho' hm
    | true =>
      rcases hcase with ⟨_, hci, hcmp⟩ | ⟨h, _⟩
      · have hspec := cmpOK_spec _ _ _ hcmp
        refine ⟨i + 1, hilt, fun j o' ho' hm => ?_, by rw [hnext, ← hci]; exact hH'⟩
        rw [hset]
        by_cases hij : i = j
        · subst hij; simp
        · rw [if_neg hij]
          rcases Nat.lt_or_ge j i with hlt | hge
          · have h3 := (hspec j o' ho' hm (by omega)).1 (by omega)
            rw [Nat.zero_add] at h3
            exact ⟨fun _ => by omega, fun _ => hmi j h3⟩
          · have h3 := (hspec j o' ho' hm (by omega)).2 (by omega)
            exact ⟨fun hl => (hmj j h3 hl).elim, fun h => by omega⟩
      · rw [hmo] at h; cases h
  · intro j m hj hm l hl
    rw [hset] at hj ⊢
    split
    · rfl
    · by_cases hij : i = j
      · subst hij; exact mask_ready hI.closed hi hm hl
      · rw [if_neg hij] at hj; exact hI.closed j m hj hm l hl
  · intro j hj
    rw [hset, if_neg (by omega)]; exact hI.tail j hj

end

end Go.Sim
