/-
  The profiles: the keyed hash of which a tag is the beginning.
-/
import Derived.Test.YtflafdhmmcknhaaGreatDoorPzPro9
namespace Go.Proofs.YtflafdhmmcknhaaGreatDoor.Aes
open Go.Sim
open Go.Proofs
variable {α : Type}

set_option maxRecDepth 1000000
noncomputable def cfgMk (F : HashF) : Cfg := cfgG globP (sumsOf [(65, hmS F)])
theorem cfgMkOK : CfgOK (cfgMk shaF) := sumsG_ok (allS hmOK (by simp))
noncomputable def mkT (f : FuncId) (F : HashF) (k c : Sl) : Tree := callSim (cfgMk F) 4000 f [k.val 4, c.val 5] (shaHP [k.row, c.row])
noncomputable def z16 : Sl := slL (repN 0#8 16)
noncomputable def okK (k : Sl) : Prop := k.o + k.n ≤ k.N ∧ k.n ≤ 4096
noncomputable def mkV (nm : Nat) : SV := .slice ⟨nm, .lit 0⟩ (.lit 32) (.lit 32)
noncomputable def mkE (L : List (BitVec 8)) : SO := .own (.lst (b32L L)) true 69
/-- the keyed hash in profile 1, in profile 2 -/
noncomputable def tagB (F : HashF) (k c : Sl) : List (BitVec 8) := macB F k.F k.n (two z16 c) (16 + c.n)
noncomputable def tagS (F : HashF) (k c : Sl) : List (BitVec 8) := macB F k.F k.n c.F c.n
theorem mk_run1 (F : HashF) (k c : Sl) (m m2 : Nat) : outO [8] (mkT 31 F (k.pl m) (c.pl m2)) [] = ([IsB (byteF k.X), IsB (byteF c.X), (okK k ∧ okL z16 ∧ okL c)], some (mkV 8, [some (mkE (tagB F k c))])) := by kernel_rfl
theorem mk_run2 (F : HashF) (k c : Sl) (m m2 : Nat) : outO [7] (mkT 34 F (k.pl m) (c.pl m2)) [] = ([IsB (byteF k.X), IsB (byteF c.X), (okK k ∧ okL c)], some (mkV 7, [some (mkE (tagS F k c))])) := by kernel_rfl
noncomputable def mkS (G : Sl → Sl → List (BitVec 8)) : Summ := fun args H base => args2 args fun kv cv => shaTP H (partL H kv fun k kn => partL H cv fun c cn => boolC (distN [kn, cn]) (.need (okK k ∧ okL c) (.ok ⟨mkV base, [], [mkE (G k c)]⟩)) (.stuck 792))
theorem endsM {I : Ifc} {base j : Nat} {L : List (BitVec 8)} {H : List SO} (hj : I.known j = false) (ho : ownsOf I.ents 0 = []) (hE : H[j]? = some (mkE L)) : I.Ends base [j] ⟨mkV base, [], [mkE L]⟩ (mkV j) H := by
  have ho' : I.out base [j] j = base := by
    unfold Ifc.out
    rw [hj]
    show base + idxN j [j] = base
    rw [show idxN j [j] = boolC (Nat.beq j j) 0 _ from rfl, Nat.beq_refl]; rfl
  have hs : I.seen [j] j = true := by
    unfold Ifc.seen
    rw [hj]
    exact (memN_iff (n := j) (l := [j])).2 List.mem_cons_self
  refine ⟨?_, ?_, by rw [ho]; trivial, ⟨given_own hE (bx_uses _ _) (by show SO.own (.lst (SV.renL _ (bx _))) _ _ = _; rw [bx_ren]; rfl), trivial⟩⟩
  · show (SV.slice ⟨I.out base [j] j, .lit 0⟩ (.lit 32) (.lit 32)).Imp _
    rw [ho']; exact .refl _
  · show (I.seen [j] j && true) = true
    rw [hs]; rfl
theorem mkOK {f : FuncId} {j : Nat} {G : Sl → Sl → List (BitVec 8)} {cs : Sl → Sl → List Prop} (hj : 6 ≤ j) (hrun : ∀ k c m m2, outO [j] (mkT f shaF (k.pl m) (c.pl m2)) [] = (cs k c, some (mkV j, [some (mkE (G k c))]))) (hc : ∀ k c, okK k → okL c → ∀ p ∈ cs k c, p) : SumAt Tryz.prog globP f (mkS G) := by
  intro O w0 β H w base args vs hH hG ha
  refine args2_sat fun kv cv hv => shaTP_sat fun hT => partL_sat fun k kn hn ht hk => partL_sat fun c cn hn2 ht2 hk2 => boolC_only fun hd => fun ⟨h1, h2⟩ => ?_
  rw [hv] at ha
  obtain ⟨x, ys, hx, hys, rfl⟩ := denL_cons.1 ha
  obtain ⟨y, zs, hy, hzs, rfl⟩ := denL_cons.1 hys
  obtain ⟨m, _, hx'⟩ := Sl.val_den (hk _ _ hx)
  obtain ⟨m2, _, hy'⟩ := Sl.val_den (hk2 _ _ hy)
  have hkn : (shaIP [kn, cn] [k.row, c.row] [(k.pl m).val 4, (c.pl m2).val 5]).known j = false := by
    cases hb : (shaIP [kn, cn] [k.row, c.row] [(k.pl m).val 4, (c.pl m2).val 5]).known j with
    | false => rfl
    | true =>
      have := (Ifc.known_iff _ j).1 hb
      simp [shaIP] at this
      omega
  refine sum_outOG cfgMkOK 4000 hH (shaIP [kn, cn] [k.row, c.row] [(k.pl m).val 4, (c.pl m2).val 5]) (shaIP_glob hG) ?_ (Ifc.fits (nd4 hd (by simp only [List.mem_cons, List.not_mem_nil, or_false]; rintro x (rfl | rfl) <;> assumption)) ?_ (shaIP_ents hT ⟨⟨ht _, k.row_uses _⟩, ⟨ht2 _, c.row_uses _⟩, trivial⟩)) [j] (by simp [shaIP]; omega) (by simp) (hrun k c m m2) (hc k c h1 h2) fun H2 hH2 => endsM hkn rfl (List.cons.inj hH2).1
  · show SV.denL β [((k.pl m).val 4).ren _, ((c.pl m2).val 5).ren _] = _
    rw [Sl.val_ren, Sl.val_ren]
    exact denL_cons.2 ⟨_, _, hx', denL_cons.2 ⟨_, _, hy', hzs, rfl⟩, rfl⟩
  · show (((k.pl m).val 4).uses _ && (((c.pl m2).val 5).uses _ && true)) = true
    rw [Sl.val_uses _ _ _ rfl, Sl.val_uses _ _ _ rfl]; rfl
theorem mk1OK : SumAt Tryz.prog globP 31 (mkS (tagB shaF)) := mkOK (by omega) (mk_run1 shaF) fun k c h1 h2 => all_cons (byteF_isB _) (all_cons (byteF_isB _) (all_cons ⟨h1, slL_ok (n := 16) rfl (by omega), h2⟩ all_nil))
theorem mk2OK : SumAt Tryz.prog globP 34 (mkS (tagS shaF)) := mkOK (by omega) (mk_run2 shaF) fun k c h1 h2 => all_cons (byteF_isB _) (all_cons (byteF_isB _) (all_cons ⟨h1, h2⟩ all_nil))
end Go.Proofs.YtflafdhmmcknhaaGreatDoor.Aes

