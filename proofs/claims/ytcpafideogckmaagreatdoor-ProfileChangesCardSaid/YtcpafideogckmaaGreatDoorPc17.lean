/-
  The reference's keyed hash: the summary of the key block, for keys of 16 or 32 bytes.
-/
import Derived.Test.YtcpafideogckmaaGreatDoorCzRmc1
namespace Go.Proofs.YtcpafideogckmaaGreatDoor.Aes
noncomputable section
open Go.Sim
open Go.Proofs
variable {α:Type}
set_option maxRecDepth 1000000
def rbS:Summ:=fun args H base=>qdd args fun kv xv=>optC (unb1 xv) (.stuck 860) fun x=>shaT H (qoi H kv fun k kn n=>boolC (boolC (Nat.beq n 16) true (Nat.beq n 32)) (.need (k.o+n<=k.N) (.ok ⟨rbV base,[],[rbE (rbL k n x)]⟩)) (.stuck 860))
theorem jzu {I:Ifc} {base j:Nat} {L:List (BitVec 8)} {H:List SO} (hj:I.known j=false) (ho:q6b I.ents 0=[]) (hE:H[j]? = some (rbE L)):I.Ends base [j] ⟨rbV base,[],[rbE L]⟩ (rbV j) H:=by
 have ho':I.out base [j] j=base:=by
  unfold Ifc.out
  rw [hj]
  show base+idxN j [j]=base
  rw [show idxN j [j]=boolC (Nat.beq j j) 0 _ from rfl,Nat.beq_refl]; rfl
 have hs:I.seen [j] j=true:=by
  unfold Ifc.seen
  rw [hj]
  exact (memN_iff (n:=j) (l:=[j])).2 List.mem_cons_self
 refine ⟨?_,?_,by rw [ho]; trivial,⟨qbc hE (qfd _ _) (by show SO.own (.lst (SV.renL _ (bx _))) _ _=_; rw [q9d]; rfl),trivial⟩⟩
 . show (SV.slice ⟨I.out base [j] j,.lit 0⟩ (.lit 64) (.lit 64)).Imp _
   rw [ho']; exact .refl _
 . show (I.seen [j] j && true)=true
   rw [hs]; rfl
theorem rbOK:SumAt Tryz.prog qud 55 rbS:=by
 intro O w0 β H w base args vs hH hG ha
 refine qnb fun kv xv hv=>qja fun x hx=>qzg fun hT=>q6e fun k kn n hn ht hi hkn=>qfa fun h12=>fun hle => ?_
 rw [hv] at ha
 obtain ⟨xk,ys,hxk,hys,rfl⟩:=denL_cons.1 ha
 obtain ⟨m,hks⟩:=Sl.valN_den (hi _ _ hxk)
 have ha':SV.denL β [(k.pl m).valN kn n,.int .u8 (.b8 x)]=some (xk::ys):=denL_cons.2 ⟨_,_,hks,qoa (qtg hx) q9b _ _ hys,rfl⟩
 have key:∀ {n:Nat},((k.pl m).valN kn n).den β=some xk->SV.denL β [(k.pl m).valN kn n,.int .u8 (.b8 x)]=some (xk::ys)->k.o+n<=k.N->outO [5] (rbN shaF (k.pl m) n x) []=(qrp (fun i=>k.o+i<k.N) n,some (rbV 5,[some (rbE (rbL k n x))]))->q4a Tryz.prog H β w base 55 (xk::ys) ⟨rbV base,[],[rbE (rbL k n x)]⟩:=by
  intro n _ ha' hle hr
  refine qka joq 8000 hH (shaI [kn] [k.row] [(k.pl m).valN 4 n,.int .u8 (.b8 x)]) (qae hG) ?_ (Ifc.fits (nd5 hn) ?_ (q5e hT ⟨⟨ht _,k.row_uses _⟩,trivial⟩)) [5] (by simp [shaI]) (by simp) hr (qtr fun i h=>by omega) fun H2 hH2=>jzu rfl rfl (List.cons.inj hH2).1
  . show SV.denL β [((k.pl m).valN 4 n).ren _,.int .u8 (.b8 x)]=_
    rw [Sl.valN_ren]; exact ha'
  . show (((k.pl m).valN 4 n).uses _ && (true && true))=true
    rw [Sl.valN_uses _ _ _ _ rfl]; rfl
 cases h:Nat.beq n 16 with
 | true =>
   have h:=qpa h
   subst h
   exact key hks ha' hle (rb_16 shaF k x m)
 | false =>
   rw [h] at h12
   have h:=qpa h12
   subst h
   exact key hks ha' hle (rb_32 shaF k x m)
def jom (F:HashF):Cfg:=cfgG qud (qbb [(54,qes F),(55,rbS)])
theorem qh6:CfgOK (jom shaF):=qwb (allS qu3 (allS rbOK (by simp)))
def rhT (F:HashF) (k:Sl) (n:Nat) (b:SV) (r:List SO):Tree:=qca (jom F) 8000 36 [k.valN 4 n,b] (shaH (k.row::r))
end
end Go.Proofs.YtcpafideogckmaaGreatDoor.Aes
