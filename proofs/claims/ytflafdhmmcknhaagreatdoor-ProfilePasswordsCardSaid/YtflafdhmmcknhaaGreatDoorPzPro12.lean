/-
  The profiles: the key stream.
-/
import Derived.Test.YtflafdhmmcknhaaGreatDoorPp10
namespace Go.Proofs.YtflafdhmmcknhaaGreatDoor.Aes
open Go.Sim
open Go.Proofs
variable {α : Type}

set_option maxRecDepth 1000000
noncomputable def cfgSt (F : HashF) : Cfg := cfgG globP (sumsOf [(65, hmS F), (17, joinS), (52, numS)])
theorem cfgStOK : CfgOK (cfgSt shaF) := sumsG_ok (allS hmOK (allS (joinOK _) (allS (pnumOK _) (by simp))))
noncomputable def stT (F : HashF) (k c t : Sl) (n : Nat) : Tree := callSim (cfgSt F) 40000 57 [k.val 4, c.val 5, t.valN 6 n] (shaHP [k.row, c.row, t.row])
/-- a byte of the key stream -/
noncomputable def strB (F : HashF) (k c : Sl) (i : Nat) : BitVec 8 := byteAt (macB F k.F k.n (two c (slL (num4 ((i / 32 : Nat) + 1)))) (c.n + 4)) (i % 32)
noncomputable def strF (F : HashF) (k c t : Sl) : Nat → BitVec 8 := fun i => t.X (t.o + i) ^^^ strB F k c i
noncomputable def stC (k c t : Sl) (n : Nat) : List Prop := IsB (byteF t.X) :: okL (t.len n) :: Nat.rec (motive := fun _ => Nat → List Prop) (fun _ => []) (fun _ ih j => IsB (byteF k.X) :: IsB (byteF c.X) :: (okK k ∧ okL c ∧ okL (slL (num4 ((j : Nat) + 1)))) :: ih (Nat.succ j)) ((n + 31) / 32) 0
noncomputable def stE (F : HashF) (k c t : Sl) (n : Nat) : SO := .own (.lst (bx (tabB (strF F k c t) n))) false 5
noncomputable def stO (F : HashF) (k c t : Sl) (n : Nat) : List Prop × Option (SV × List (Option SO)) := (stC k c t n, some (deV 8 n, [some (stE F k c t n)]))
theorem st_5 (F : HashF) (k c t : Sl) (m m2 m3 : Nat) : outO [8] (stT F (k.pl m) (c.pl m2) (t.pl m3) 5) [] = stO F k c t 5 := by kernel_rfl
theorem stC_all {k c t : Sl} {n : Nat} (h1 : okK k) (h2 : okL c) (h3 : okL (t.len n)) : ∀ p ∈ stC k c t n, p := by
  have key : ∀ q j, ∀ p ∈ (Nat.rec (motive := fun _ => Nat → List Prop) (fun _ => []) (fun _ ih j => IsB (byteF k.X) :: IsB (byteF c.X) :: (okK k ∧ okL c ∧ okL (slL (num4 ((j : Nat) + 1)))) :: ih (Nat.succ j)) q j : List Prop), p := by
    intro q
    induction q with
    | zero => intro j p hp; cases hp
    | succ q ih => intro j; exact all_cons (byteF_isB _) (all_cons (byteF_isB _) (all_cons ⟨h1, h2, slL_ok (n := 4) rfl (by omega)⟩ (ih (j + 1))))
  exact all_cons (byteF_isB _) (all_cons h3 (key _ 0))
noncomputable def stS (F : HashF) : Summ := fun args H base => args3 args fun kv cv tv => shaTP H (partL H kv fun k kn => partL H cv fun c cn => partN H tv fun t tn n => boolC (distN [kn, cn, tn]) (.need (okK k ∧ okL c ∧ okL (t.len n)) (boolC (Nat.beq n 5) (.ok ⟨deV base 5, [], [stE F k c t 5]⟩) (.stuck 793))) (.stuck 793))
theorem Sl.valN_den {t : Sl} {nm n : Nat} {γ : Val} {x : Value} (h : (t.valN nm n).den γ = some x) : ∃ m, ((t.pl m).valN nm n).den γ = some x := by
  obtain ⟨m, _, _, hd, _⟩ := slice_den (show (SV.slice ⟨nm, .sym t.o⟩ (.lit n) (boolC t.b (.rest nm t.k) (.sym t.k))).den γ = some x from h)
  exact ⟨m, hd⟩
theorem stOK : SumAt Tryz.prog globP 57 (stS shaF) := by
  intro O w0 β H w base args vs hH hG ha
  refine args3_sat fun kv cv tv hv => shaTP_sat fun hT => partL_sat fun k kn hn ht hk => partL_sat fun c cn hn2 ht2 hk2 => partN_sat fun t tn n hn3 ht3 hk3 htn => boolC_only fun hd => fun ⟨h1, h2, h3⟩ => boolC_only fun h5 => ?_
  have h5 := beq_spec h5
  subst h5
  rw [hv] at ha
  obtain ⟨x, ys, hx, hys, rfl⟩ := denL_cons.1 ha
  obtain ⟨y, zs, hy, hzs, rfl⟩ := denL_cons.1 hys
  obtain ⟨q, qs, hq, hqs, rfl⟩ := denL_cons.1 hzs
  obtain ⟨m, _, hx'⟩ := Sl.val_den (hk _ _ hx)
  obtain ⟨m2, _, hy'⟩ := Sl.val_den (hk2 _ _ hy)
  obtain ⟨m3, hq'⟩ := Sl.valN_den (hk3 _ _ hq)
  refine sum_outOG cfgStOK 40000 hH (shaIP [kn, cn, tn] [k.row, c.row, t.row] [(k.pl m).val 4, (c.pl m2).val 5, (t.pl m3).valN 6 5]) (shaIP_glob hG) ?_ (Ifc.fits (nd4 hd (by simp only [List.mem_cons, List.not_mem_nil, or_false]; rintro x (rfl | rfl | rfl) <;> assumption)) ?_ (shaIP_ents hT ⟨⟨ht _, k.row_uses _⟩, ⟨ht2 _, c.row_uses _⟩, ⟨ht3 _, t.row_uses _⟩, trivial⟩)) [8] (by simp [shaIP]) (by simp) (st_5 shaF k c t m m2 m3) (stC_all h1 h2 h3) fun H2 hH2 => endsD rfl rfl (List.cons.inj hH2).1 rfl
  · show SV.denL β [((k.pl m).val 4).ren _, ((c.pl m2).val 5).ren _, ((t.pl m3).valN 6 5).ren _] = _
    rw [Sl.val_ren, Sl.val_ren, Sl.valN_ren]
    exact denL_cons.2 ⟨_, _, hx', denL_cons.2 ⟨_, _, hy', denL_cons.2 ⟨_, _, hq', hqs, rfl⟩, rfl⟩, rfl⟩
  · show (((k.pl m).val 4).uses _ && (((c.pl m2).val 5).uses _ && (((t.pl m3).valN 6 5).uses _ && true))) = true
    rw [Sl.val_uses _ _ _ rfl, Sl.val_uses _ _ _ rfl, Sl.valN_uses _ _ _ _ rfl]; rfl
end Go.Proofs.YtflafdhmmcknhaaGreatDoor.Aes

