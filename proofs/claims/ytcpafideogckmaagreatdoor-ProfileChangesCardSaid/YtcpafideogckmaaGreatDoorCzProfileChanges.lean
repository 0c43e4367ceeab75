/-
  ProfileChanges: for every key, usage, confounder, plaintext, place, number and version the law returns true: Open of a changed string is the reference's; the four tables are tied to the program's text, no other conditions.
-/
import Derived.Test.YtcpafideogckmaaGreatDoorRows
import Derived.WalkKit
import Derived.ProofKit
import Derived.OpenShut
import Derived.Below
import Derived.ChangeOld
import Derived.LaidMore
import Derived.Stop.Joined
import Derived.Lib.LaidTab
import Derived.SevenTiedAt
import Derived.Test.YtcpafideogckmaaGreatDoorCards
import Derived.Test.YtcpafideogckmaaGreatDoorTie
import Derived.Test.YtcpafideogckmaaGreatDoorPc11
import Derived.Test.YtcpafideogckmaaGreatDoorPc19
import Derived.ShutString
namespace Go.Proofs.YtcpafideogckmaaGreatDoor.profileChanges
open Go.ChangeShapes Go.WideShapes Go.ChangeAt Go.RowKit
open Go.ChangeMaps (open_string shut_string)
set_option linter.unusedVariables false
theorem own:ownKnob Tryz.prog.godebug=none:=by kernel_rfl
theorem door_met (os:Os) (args:Array Value):laidMetH Tryz.prog [("watchword/watchwordref04.constants",Rows.laid_watchword_watchwordref04_constants),("watchword/watchwordref06.substitutes",Rows.laid_watchword_watchwordref06_substitutes),("watchword/sha.start",Rows.laid_watchword_sha_start),("watchword/sha.constants",Rows.laid_watchword_sha_constants)] ((World.doorLaid Tryz.prog 80 os).forCall (fun _ _=>0) ⟨#[],args,[]⟩).memory :=
 laidMetH_of_parts3 (fuel:=8) (laidMet_of_run' 8 (by kernel_rfl) (by kernel_rfl)) (by kernel_rfl) (by kernel_rfl)
theorem laidOut:laidOutB Tryz.prog=true:=by kernel_rfl
def j5m (k:IntKind) (w:World) (a:Option Addr) (len cap:Nat) (zs:List Int):Prop :=
 (a=none/\len=0/\cap=0/\zs=[]) \/
 ∃ x,a=some x/\len<=cap/\cap<=maxLen/\zs.length=cap/\(∀ i,i<zs.length->w.cell? (x.add i)=some (.int k (zs.getD i 0)))/\∀ n∈zs,(Lit.int k n).wf=true
theorem walk (p0 q0:Int) (a0:Option Addr) (len0 cap0:Nat) (X0:Nat->BitVec 8) (a1:Int) (a2:Option Addr) (len2 cap2:Nat) (X2:Nat->BitVec 8) (a3:Option Addr) (len3 cap3:Nat) (X3:Nat->BitVec 8) (a4:Int) (a5:Int) (a6:Int) (w:World) (w0:Go.Sim.ByteRow w a0 len0 cap0 X0) (w1:(Lit.int .i64 a1).wf=true) (w2:Go.Sim.ByteRow w a2 len2 cap2 X2) (w3:Go.Sim.ByteRow w a3 len3 cap3 X3) (w4:(Lit.int .u16 a4).wf=true) (w5:(Lit.int .u8 a5).wf=true) (w6:(Lit.int .u8 a6).wf=true) (hL0:laidMetH Tryz.prog [("watchword/watchwordref04.constants",Rows.laid_watchword_watchwordref04_constants),("watchword/watchwordref06.substitutes",Rows.laid_watchword_watchwordref06_substitutes),("watchword/sha.start",Rows.laid_watchword_sha_start),("watchword/sha.constants",Rows.laid_watchword_sha_constants)] w) :
  Calls Tryz.prog 3 #[.agg #[.int .i64 p0,.int .i64 q0,.slice a0 len0 cap0],.int .i64 a1,.slice a2 len2 cap2,.slice a3 len3 cap3,.int .u16 a4,.int .u8 a5,.int .u8 a6] w fun e w'=>e=.returned (.bool true)/\Below w.heap.size w w':=by
 obtain ⟨β,hH,hG⟩:=Aes.q_start hL0
 have h8:∀ z:Int,(Lit.int .u8 z).wf=true->z=((BitVec.ofInt 8 z).toNat:Int):=by
  intro z hw
  simp only [Lit.wf,Bool.and_eq_true,decide_eq_true_eq] at hw
  have h1:(0:Int)<=z:=hw.1
  have h2:z<=255:=hw.2
  rw [BitVec.toNat_ofInt]
  omega
 have hw:=w4
 simp only [Lit.wf,Bool.and_eq_true,decide_eq_true_eq] at hw
 have h41:(0:Int)<=a4:=hw.1
 have h42:a4<=65535:=hw.2
 rw [h8 a5 w5,h8 a6 w6]
 exact Aes.ch_law hH hG p0 q0 w0 a1 w2 w3 a4 h41 h42 _ _
set_option maxRecDepth 100000 in
theorem lifted (os:Os) (started:os.Started) (H:Type) (enc:TypeId × Value->H) :
  ReturnsInHanded {} Tryz.checked os 3 .any (fun w args=>(Rows.profileChangesSpec.pre enc Tryz.prog Tryz.f3 [] false w args/\laidMetH Tryz.prog [("watchword/watchwordref04.constants",Rows.laid_watchword_watchwordref04_constants),("watchword/watchwordref06.substitutes",Rows.laid_watchword_watchwordref06_substitutes),("watchword/sha.start",Rows.laid_watchword_sha_start),("watchword/sha.constants",Rows.laid_watchword_sha_constants)] w)/\sizedMet enc Tryz.prog Tryz.f3 (OpenSpec.ofChange Rows.profileChangesSpec) false w args)
   (Rows.profileChangesSpec.post enc Tryz.prog Tryz.f3 false true false false):=by
 refine returnsInHanded_of_change_and (C:=Tryz.checked) (X:=fun w _=>laidMetH Tryz.prog [("watchword/watchwordref04.constants",Rows.laid_watchword_watchwordref04_constants),("watchword/watchwordref06.substitutes",Rows.laid_watchword_watchwordref06_substitutes),("watchword/sha.start",Rows.laid_watchword_sha_start),("watchword/sha.constants",Rows.laid_watchword_sha_constants)] w) (fun _ _ _ hh h=>h.of_heap hh) own started (by kernel_rfl) Tryz.func3
  (ChangeSpec.witness_shaped (enc:=enc) (C:=Tryz.checked) (os:=os) (X:=fun w _=>laidMetH Tryz.prog [("watchword/watchwordref04.constants",Rows.laid_watchword_watchwordref04_constants),("watchword/watchwordref06.substitutes",Rows.laid_watchword_watchwordref06_substitutes),("watchword/sha.start",Rows.laid_watchword_sha_start),("watchword/sha.constants",Rows.laid_watchword_sha_constants)] w) false (World.doorLaid Tryz.prog 80 os) #[.agg #[.int .i64 0,.int .i64 0,.slice none 0 0],.int .i64 0,.slice none 0 0,.slice none 0 0,.int .u16 0,.int .u8 0,.int .u8 0] 8 rfl (World.shaped_of_RefB (by kernel_rfl) (by kernel_rfl)) (by kernel_rfl) (by kernel_rfl) (by kernel_rfl) (door_met os _)) ?_
 intro W base args ds gs before hval0 hW _ _ hL _
 have hval:∀ (j:Nat) t v,Tryz.f3.params[j]? = some t->args[j]? = some v->Value.okWide Tryz.prog W .any base t v:=hval0
 have hW':=hW
 obtain ⟨p,q,hA0,hV,rfl,hfz,hnd⟩:=hW
 have hA:DataW.TrodAll enc Tryz.prog W 0 (fun _=>true) true Tryz.f3.params.toList args.toList ds p:=hA0
 rw [Tryz.params3] at hA hval
 obtain ⟨v0,vs0,d0,ds0,p0,q0,hargs,rfl,rfl,h0,r0⟩:=trodAll_cons hA
 obtain ⟨v1,vs1,d1,ds1,p1,q1,rfl,rfl,rfl,h1,r1⟩:=trodAll_cons r0
 obtain ⟨v2,vs2,d2,ds2,p2,q2,rfl,rfl,rfl,h2,r2⟩:=trodAll_cons r1
 obtain ⟨v3,vs3,d3,ds3,p3,q3,rfl,rfl,rfl,h3,r3⟩:=trodAll_cons r2
 obtain ⟨v4,vs4,d4,ds4,p4,q4,rfl,rfl,rfl,h4,r4⟩:=trodAll_cons r3
 obtain ⟨v5,vs5,d5,ds5,p5,q5,rfl,rfl,rfl,h5,r5⟩:=trodAll_cons r4
 obtain ⟨v6,vs6,d6,ds6,p6,q6,rfl,rfl,rfl,h6,r6⟩:=trodAll_cons r5
 obtain ⟨rfl,rfl,rfl⟩:=trodAll_nil r6
 obtain rfl:args = #[v0,v1,v2,v3,v4,v5,v6]:=by cases args; simp_all
 obtain ⟨rfl,rfl⟩:=trodVars_none hV
 have k0:=h0
 have lt0:∀ x∈p0,x.block<W.heap.size:=by obtain ⟨m,hm⟩:=k0; exact DataW.trod_lt m _ _ _ hm
 obtain ⟨pp0,qq0,a0,len0,cap0,X0,rfl,w0⟩:=Aes.open_key Tryz.underlying24 ⟨rfl,rfl⟩ ⟨rfl,rfl⟩ ⟨rfl,rfl⟩ Tryz.underlying3 Tryz.underlying22 Tryz.underlying5 (by kernel_rfl) (by kernel_rfl) (by kernel_rfl) (by kernel_rfl) (by kernel_rfl) (hval 0 24 v0 rfl rfl) h0
 obtain ⟨a1,rfl,rfl,rfl,w1⟩:=open_int Tryz.underlying3 (hval 1 3 v1 rfl rfl) h1
 obtain ⟨a2,len2,cap2,rfl⟩:=okWide_slice Tryz.underlying22 (hval 2 22 v2 rfl rfl)
 have sp2:∀ x,a2=some x->x.spot=none:=Go.Sim.spot_of Tryz.underlying22 (hval 2 22 _ rfl rfl)
 have k2:=h2
 have lt2:∀ x∈p2,x.block<W.heap.size:=by obtain ⟨m,hm⟩:=k2; exact DataW.trod_lt m _ _ _ hm
 obtain ⟨z2,y2⟩:∃ zs,j5m .u8 W a2 len2 cap2 zs:=by
  obtain ⟨fuel,hf⟩:=h2
  rcases open_ints Tryz.underlying22 Tryz.underlying5 (by kernel_rfl) hf with ⟨hcs,_⟩ | ⟨x,l,c,zs,hcs,_,hl,hm,hz,_,hcell,hwz⟩
  . simp [Value.cells] at hcs
    obtain ⟨rfl,rfl,rfl⟩:=hcs
    exact ⟨[],.inl ⟨rfl,rfl,rfl,rfl⟩⟩
  . simp [Value.cells] at hcs
    obtain ⟨rfl,rfl,rfl⟩:=hcs
    exact ⟨zs,.inr ⟨_,rfl,hl,hm,by simpa using hz,hcell,hwz⟩⟩
 have w2:=Go.Sim.byteRow_of y2 sp2
 obtain ⟨a3,len3,cap3,rfl⟩:=okWide_slice Tryz.underlying22 (hval 3 22 v3 rfl rfl)
 have sp3:∀ x,a3=some x->x.spot=none:=Go.Sim.spot_of Tryz.underlying22 (hval 3 22 _ rfl rfl)
 have k3:=h3
 have lt3:∀ x∈p3,x.block<W.heap.size:=by obtain ⟨m,hm⟩:=k3; exact DataW.trod_lt m _ _ _ hm
 obtain ⟨z3,y3⟩:∃ zs,j5m .u8 W a3 len3 cap3 zs:=by
  obtain ⟨fuel,hf⟩:=h3
  rcases open_ints Tryz.underlying22 Tryz.underlying5 (by kernel_rfl) hf with ⟨hcs,_⟩ | ⟨x,l,c,zs,hcs,_,hl,hm,hz,_,hcell,hwz⟩
  . simp [Value.cells] at hcs
    obtain ⟨rfl,rfl,rfl⟩:=hcs
    exact ⟨[],.inl ⟨rfl,rfl,rfl,rfl⟩⟩
  . simp [Value.cells] at hcs
    obtain ⟨rfl,rfl,rfl⟩:=hcs
    exact ⟨zs,.inr ⟨_,rfl,hl,hm,by simpa using hz,hcell,hwz⟩⟩
 have w3:=Go.Sim.byteRow_of y3 sp3
 obtain ⟨a4,rfl,rfl,rfl,w4⟩:=open_int Tryz.underlying25 (hval 4 25 v4 rfl rfl) h4
 obtain ⟨a5,rfl,rfl,rfl,w5⟩:=open_int Tryz.underlying5 (hval 5 5 v5 rfl rfl) h5
 obtain ⟨a6,rfl,rfl,rfl,w6⟩:=open_int Tryz.underlying5 (hval 6 5 v6 rfl rfl) h6
 clear hA0 hval0
 refine (walk pp0 qq0 a0 len0 cap0 X0 a1 a2 len2 cap2 _ a3 len3 cap3 _ a4 a5 a6 W w0 w1 w2 w3 w4 w5 w6 hL).mono fun e W' ⟨he,bel⟩ => ?_
 subst he
 exact ⟨_,rfl,_,_,_,[],_,[],hW',trodAll_mk1 (shut_bool Tryz.underlying4 _),(trodAll_cons_mk (Below.trod laidOut (by kernel_rfl) (of_decide_eq_true (by kernel_rfl)) k0 bel lt0) (trodAll_cons_mk (shut_int Tryz.underlying3 w1) (trodAll_cons_mk (Below.trod laidOut (by kernel_rfl) (of_decide_eq_true (by kernel_rfl)) k2 bel lt2) (trodAll_cons_mk (Below.trod laidOut (by kernel_rfl) (of_decide_eq_true (by kernel_rfl)) k3 bel lt3) (trodAll_cons_mk (shut_int Tryz.underlying25 w4) (trodAll_cons_mk (shut_int Tryz.underlying5 w5) (trodAll_cons_mk (shut_int Tryz.underlying5 w6) trodAll_mk0))))))),rfl,bel.frame _,fun h=>by cases h⟩
theorem over:Rows.profileChangesRow.holds Tryz.pinned (OpenSpec.ofChange Rows.profileChangesSpec) :=
 OpenClaim.holds_of_wide 3 Tryz.f3 rfl rfl rfl rfl rfl rfl rfl ⟨rfl,rfl,rfl,rfl,rfl⟩ rfl rfl rfl rfl rfl (by kernel_rfl) Tryz.func3 (by kernel_rfl)
  (of_decide_eq_true (by kernel_rfl)) (by unfold Func.isWrapper; first | (rw [if_pos (by decide +kernel)]; kernel_rfl) | (rw [if_neg (by decide +kernel)]; exact ⟨rfl,rfl⟩))
  (fun os started H enc _=>lifted os started H enc)
theorem row_holds:Rows.ProfileChangesSaid:=over
theorem proved:Rows.ProfileChangesCardSaid :=
 Claim7.holds_tied_plain_at .later [] [.data,.data,.data,.data] true (true, "cbba9283b803ca628be13e864cac8677b46d9b2c284bce153a691964b172ec66") false
  row_holds (fun _ h=>by cases h) (by kernel_rfl) (fun _ h=>by cases h) profileChanges_row_tie rfl ⟨rfl,rfl⟩ (by kernel_rfl) rfl
  (fun f fn hf hfn=>by
   obtain rfl:f=3:=Option.some.inj ((show Tryz.prog.funcNamed Rows.profileChangesRow.func=some 3 by kernel_rfl).symm.trans hf) |>.symm
   obtain rfl:fn=Tryz.f3:=(Option.some.inj (Tryz.func3.symm.trans hfn)).symm
   exact ⟨by kernel_rfl,fun j t ht=>by
    rw [Tryz.params3] at ht
    have hm:t∈[24,3,22,22,25,5,5]:=by simpa using Array.mem_of_getElem? ht
    have hall:([24,3,22,22,25,5,5].all fun u => !Tryz.prog.wantsStandIn u)=true:=by kernel_rfl
    exact (show Tryz.prog.wantsStandIn t=false by simpa using List.all_eq_true.1 hall t hm)⟩)
  (by kernel_rfl)
#print axioms proved
end Go.Proofs.YtcpafideogckmaaGreatDoor.profileChanges
