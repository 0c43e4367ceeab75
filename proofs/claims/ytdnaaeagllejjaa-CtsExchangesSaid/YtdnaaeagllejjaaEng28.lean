/-
  The symbolic simulator, twenty-eighth part: summaries from small runs, in short words.
-/
import Derived.Test.YtdnaaeagllejjaaEng27
namespace Go.Sim
variable {α : Type}

/-- what each name is to be -/
def EntsOK (f : Nat → Nat) (p : Nat → Bool) (H : List SO) : List Nat → List SO → Prop
  | n :: ns, E :: Es => ((∃ e, H[n]? = some e ∧ Taken f E e) ∧ E.CUses p) ∧ EntsOK f p H ns Es
  | [], [] => True
  | _, _ => False
theorem EntsOK.length {f : Nat → Nat} {p : Nat → Bool} {H : List SO} : ∀ {ns : List Nat} {Es : List SO}, EntsOK f p H ns Es → Es.length = ns.length
  | [], [], _ => rfl
  | _ :: _, _ :: _, h => by simp only [List.length_cons]; rw [EntsOK.length h.2]
  | [], _ :: _, h => h.elim
  | _ :: _, [], h => h.elim
theorem EntsOK.get {f : Nat → Nat} {p : Nat → Bool} {H : List SO} : ∀ {ns : List Nat} {Es : List SO}, EntsOK f p H ns Es → ∀ (j : Nat) (E : SO), Es[j]? = some E → (∃ e, H[(nth ns j).getD 0]? = some e ∧ Taken f E e) ∧ E.CUses p
  | [], [], _, j, E, h => by simp at h
  | n :: ns, E' :: Es, h, 0, E, hE => by simp at hE; subst hE; exact h.1
  | n :: ns, E' :: Es, h, j + 1, E, hE => by
    have := EntsOK.get h.2 j E (by simpa using hE)
    rw [nth_eq] at this ⊢
    simpa using this
  | [], _ :: _, h, _, _, _ => h.elim
  | _ :: _, [], h, _, _, _ => h.elim
theorem Ifc.fits {I : Ifc} {H : List SO} (hn : I.names.Nodup) (hu : SV.usesL I.known I.args = true) (he : EntsOK I.big I.known H I.names I.ents) : I.Fits H :=
  ⟨he.length, fun _ _ _ hi hj => (List.getElem?_inj (List.getElem?_eq_some_iff.1 hi).1 hn).1 (hi.trans hj.symm), hu, fun j E hE => (he.get j E hE).1, fun j E hE => (he.get j E hE).2⟩
def SO.isOwn : SO → Bool
  | .own _ _ _ => true
  | _ => false
/-- the places of the blocks that may be written -/
def ownsOf : List SO → Nat → List Nat
  | [], _ => []
  | E :: Es, k => if E.isOwn then k :: ownsOf Es (k + 1) else ownsOf Es (k + 1)
theorem ownsOf_spec : ∀ (Es : List SO) (k j : Nat), j ∈ ownsOf Es k ↔ ∃ i c w el, j = k + i ∧ Es[i]? = some (.own c w el)
  | [], k, j => by simp [ownsOf]
  | E :: Es, k, j => by
    have ih := ownsOf_spec Es (k + 1) j
    have hstep : (∃ i c w el, j = k + 1 + i ∧ Es[i]? = some (SO.own c w el)) → ∃ i c w el, j = k + i ∧ (E :: Es)[i]? = some (SO.own c w el) := fun ⟨i, c, w, el, h, h'⟩ => ⟨i + 1, c, w, el, by omega, by simpa using h'⟩
    unfold ownsOf
    split
    · rename_i ho
      rw [List.mem_cons, ih]
      constructor
      · rintro (rfl | h)
        · cases E <;> first | (cases ho; done) | exact ⟨0, _, _, _, rfl, rfl⟩
        · exact hstep h
      · rintro ⟨i, c, w, el, h, h'⟩
        cases i with
        | zero => exact .inl h
        | succ i => exact .inr ⟨i, c, w, el, by omega, by simpa using h'⟩
    · rename_i ho
      rw [ih]
      constructor
      · exact hstep
      · rintro ⟨i, c, w, el, h, h'⟩
        cases i with
        | zero => simp at h'; subst h'; exact absurd rfl ho
        | succ i => exact ⟨i, c, w, el, by omega, by simpa using h'⟩
theorem ownsOf_nodup : ∀ (Es : List SO) (k : Nat), (ownsOf Es k).Nodup
  | [], k => by simp [ownsOf]
  | E :: Es, k => by
    unfold ownsOf
    split
    · refine List.nodup_cons.2 ⟨fun h => ?_, ownsOf_nodup Es (k + 1)⟩
      obtain ⟨i, _, _, _, h, _⟩ := (ownsOf_spec Es (k + 1) k).1 h
      omega
    · exact ownsOf_nodup Es (k + 1)
def SetsOK (big : Nat → Nat) (p : Nat → Bool) (g : Nat → Nat) (H : List SO) : List Nat → List (Nat × SO) → Prop
  | j :: js, x :: rs => (x.1 = big j ∧ Given p g H[j]? x.2) ∧ SetsOK big p g H js rs
  | [], [] => True
  | _, _ => False
def NewsOK (p : Nat → Bool) (g : Nat → Nat) (H : List SO) : List Nat → List SO → Prop
  | j :: js, e :: rs => Given p g H[j]? e ∧ NewsOK p g H js rs
  | [], [] => True
  | _, _ => False
theorem SetsOK.length {big p g H} : ∀ {js : List Nat} {rs : List (Nat × SO)}, SetsOK big p g H js rs → rs.length = js.length
  | [], [], _ => rfl
  | _ :: _, _ :: _, h => by simp only [List.length_cons]; rw [SetsOK.length h.2]
  | [], _ :: _, h => h.elim
  | _ :: _, [], h => h.elim
theorem SetsOK.get {big p g H} : ∀ {js : List Nat} {rs : List (Nat × SO)}, SetsOK big p g H js rs → ∀ (i j : Nat), js[i]? = some j → ∃ e, rs[i]? = some (big j, e) ∧ Given p g H[j]? e
  | [], [], _, i, j, h => by simp at h
  | j' :: js, x :: rs, h, 0, j, hE => by simp at hE; subst hE; exact ⟨x.2, by simp [← h.1.1], h.1.2⟩
  | j' :: js, x :: rs, h, i + 1, j, hE => by
    obtain ⟨e, a, b⟩ := SetsOK.get h.2 i j (by simpa using hE)
    exact ⟨e, by simpa using a, b⟩
  | [], _ :: _, h, _, _, _ => h.elim
  | _ :: _, [], h, _, _, _ => h.elim
theorem NewsOK.length {p g H} : ∀ {js : List Nat} {rs : List SO}, NewsOK p g H js rs → rs.length = js.length
  | [], [], _ => rfl
  | _ :: _, _ :: _, h => by simp only [List.length_cons]; rw [NewsOK.length h.2]
  | [], _ :: _, h => h.elim
  | _ :: _, [], h => h.elim
theorem NewsOK.get {p g H} : ∀ {js : List Nat} {rs : List SO}, NewsOK p g H js rs → ∀ (i j : Nat), js[i]? = some j → ∃ e, rs[i]? = some e ∧ Given p g H[j]? e
  | [], [], _, i, j, h => by simp at h
  | j' :: js, x :: rs, h, 0, j, hE => by simp at hE; subst hE; exact ⟨x, by simp, h.1⟩
  | j' :: js, x :: rs, h, i + 1, j, hE => by
    obtain ⟨e, a, b⟩ := NewsOK.get h.2 i j (by simpa using hE)
    exact ⟨e, by simpa using a, b⟩
  | [], _ :: _, h, _, _, _ => h.elim
  | _ :: _, [], h, _, _, _ => h.elim
/-- what a small run comes to -/
structure Ifc.Ends (I : Ifc) (base : Nat) (keep : List Nat) (r : SumRes) (v : SV) (H : List SO) : Prop where
  val : (v.ren (I.out base keep)).Imp r.v
  uv : v.uses (I.seen keep) = true
  sets : SetsOK I.big (I.seen keep) (I.out base keep) H (ownsOf I.ents 0) r.sets
  news : NewsOK (I.seen keep) (I.out base keep) H keep r.news
theorem Tree.Ob.mono {t : Tree} {D D' : SV → List SO → Prop} {S : SS → Prop} (h : t.Ob D S) (hd : ∀ v H, D v H → D' v H) : t.Ob D' S := by
  induction t with
  | done v H => exact hd v H h
  | stop s => exact h
  | need p t ih => exact ⟨h.1, ih h.2⟩
  | fork b t f iht ihf => exact ⟨fun hb => iht (h.1 hb), fun hb => ihf (h.2 hb)⟩
  | stuck n => exact h
  | any k ih => exact fun z => ih z (h z)
/-- A SUMMARY FROM A SMALL RUN -/
theorem sum_runG {c : Cfg} (hc : CfgOK c) (n : Nat) {O : Nat → Prop} {w0 w : World} {β : Val} {H : List SO} {base : Nat} {f : FuncId} {vs : List Value} (hH : HeapRel0 c.P O w0 β H w)
    (I : Ifc) (hgl : ∀ g j, c.glob g = some j → I.known j = true ∧ ∃ l, β (I.big j) = some l ∧ l.blk = g ∧ l.off = 0) (ha : SV.denL β (SV.renL I.big I.args) = some vs) (hI : I.Fits H) {r : SumRes} (keep : List Nat) (hk : ∀ j ∈ keep, I.names.length ≤ j) (hkn : keep.Nodup)
    (hob : (callSim c n f I.args I.ents).Ob (I.Ends base keep r) fun _ => False) : SumSem c.P H β w base f vs r := by
  refine sum_small hc (n := n) hH I hgl ha hI (ownsOf I.ents 0) keep (fun j c w el h => (ownsOf_spec _ _ _).2 ⟨j, c, w, el, by omega, h⟩) (fun j hj => ?_) hk hkn (ownsOf_nodup _ _) ?_
  · obtain ⟨i, c, w, el, h, h'⟩ := (ownsOf_spec _ _ _).1 hj
    exact ⟨c, w, el, by rw [h, Nat.zero_add]; exact h'⟩
  · refine hob.mono fun v H' h => ⟨h.val, h.uv, h.sets.length, h.sets.get, h.news.length, h.news.get⟩
/-- the same, where no package-level variable is read -/
theorem sum_run {c : Cfg} (hc : CfgOK c) (hgl : c.glob = fun _ => none) (n : Nat) {O : Nat → Prop} {w0 w : World} {β : Val} {H : List SO} {base : Nat} {f : FuncId} {vs : List Value} (hH : HeapRel0 c.P O w0 β H w)
    (I : Ifc) (ha : SV.denL β (SV.renL I.big I.args) = some vs) (hI : I.Fits H) {r : SumRes} (keep : List Nat) (hk : ∀ j ∈ keep, I.names.length ≤ j) (hkn : keep.Nodup)
    (hob : (callSim c n f I.args I.ents).Ob (I.Ends base keep r) fun _ => False) : SumSem c.P H β w base f vs r :=
  sum_runG hc n hH I (fun g j h => by rw [hgl] at h; cases h) ha hI keep hk hkn hob
theorem given_own {p : Nat → Bool} {g : Nat → Nat} {E : Option SO} {c : Cells} {w : Bool} {el : TypeId} {e : SO} (hE : E = some (.own c w el)) (hu : c.Uses p) (he : (SO.own c w el).ren g = e) : Given p g E e :=
  ⟨c, w, el, _, hE, hu, .refl _, he.symm⟩
theorem given_imp {p : Nat → Bool} {g : Nat → Nat} {E : Option SO} {c c' : Cells} {w : Bool} {el : TypeId} (hE : E = some (.own c w el)) (hu : c.Uses p) (hc : (c.ren g).Imp c') : Given p g E (.own c' w el) :=
  ⟨c, w, el, c', hE, hu, hc, rfl⟩
theorem taken_own {f : Nat → Nat} {c : Cells} {w : Bool} {el : TypeId} {e : SO} (h : e = (SO.own c w el).ren f) : Taken f (.own c w el) e := ⟨_, h, .refl _⟩
/-- what is read alone: a row, or a block of one's own, whole or its front -/
theorem taken_row {f : Nat → Nat} {c c0 : Cells} {e : SO} (h : e = .row c0 ∨ ∃ w el, e = .own c0 w el) (hi : c0.Front (c.ren f)) : Taken f (.row c) e := ⟨c0, h, hi⟩

end Go.Sim
