/-
  ReplayLoops: the law's runs.
-/
import Derived.Test.YthkgcljngalafaaDoorPq16
namespace Go.Proofs.YthkgcljngalafaaDoor.Aes
noncomputable section
open Go.Sim
open Go.Proofs
variable {α:Type}
set_option maxRecDepth 1000000
def rlLo (f:HashF):List (FuncId × Summ):=app (rlPl f) [(18,enSm),(13,ueSm)]
def q3d (f:HashF):Cfg:=cfgG qhc (qdc (rlLo f))
def loT (f:HashF) (sk lm:Int) (V:Nat->Value) (N n k:Nat) (many:Int) (st:Option (Nat × Nat)):Tree:=qea ((q3d f).at st) 20000 6 [.int .i64 (.sym sk),.int .i64 (.sym lm),slP 4 n k,.int .i64 (.sym many)] (shaH [.row (.raw V N)])
def loF (f:HashF) (sk lm:Int) (V:Nat->Value) (N n k:Nat) (many:Int) (i:Nat):List SP:=qod (q8c (loT f sk lm V N n k many (some (1,3))) [false,true,true]).frames [[(2,slP 4 n k),(7,.ptr ⟨5,.lit 0⟩),(8,.ptr ⟨6,.lit 0⟩),(9,.ptr ⟨7,.lit 0⟩),(11,.ptr ⟨9,.lit 0⟩),(13,.bool (.lit true)),(14,.int .i64 (.sym (i:Int)))]]
def loC (f:HashF) (sk lm:Int) (V:Nat->Value) (N n k:Nat) (many:Int) (mn:Bool) (es:List MapEntry) (c:Nat) (cl fe:Int) (l:List Mk) (i:Nat):Cut:=⟨loF f sk lm V N n k many i,app (mapN HP.ent (shaH [.row (.raw V N),.own (.lst [.int .i64 (.sym many)]) true 3,.own (.lst [.bool (.lit false)]) true 4,chO 8 sk lm cl fe,.obj (.amap kMk uMk es c),rfB sk lm cl fe (boolC mn .nilSlice (rfL 10 l.length))])) (boolC mn [] [.ent (rfR (rowM l) l.length)])⟩
def lo1 (f:HashF) (sk lm:Int) (V:Nat->Value) (N n k:Nat) (many:Int) (mn:Bool) (es:List MapEntry) (c:Nat) (cl fe:Int) (l:List Mk) (i:Nat) (J:Junk) (st:Option (Nat × Nat)):Tree:=sim1 ((q3d f).at st) 20000 ((loC f sk lm V N n k many mn es c cl fe l i).fill J)
def loS (f:HashF) (sk lm:Int) (V:Nat->Value) (N n k:Nat) (many:Int) (l:List Mk):SS:=q8c (lo1 f sk lm V N n k many false [] 0 0 0 l 0 ⟨fun _ _=>undef,fun _ _=>undef⟩ (some (2,0))) [false,false,true]
def loE (f:HashF) (sk lm:Int) (V:Nat->Value) (N n k:Nat) (many:Int) (l:List Mk) (j:Nat):HP:=.ent ((nth (loS f sk lm V N n k many l).heap j).getD .gone)
def loTm:List (Nat × SV):=[(7,.ptr ⟨5,.lit 0⟩),(8,.ptr ⟨6,.lit 0⟩),(11,.ptr ⟨9,.lit 0⟩),(15,.func (.fn (.func 39)) [] [.ptr ⟨11,.lit 0⟩]),(16,.ptr ⟨13,.lit 0⟩),(17,.ptr ⟨14,.lit 0⟩)]
def cI (j:Int):SO:=.own (.lst [.int .i64 (.sym j)]) true 3
def loB (f:HashF) (sk lm:Int) (V:Nat->Value) (N n k:Nat) (many cl fe:Int) (l:List Mk) (tn:Int) (U:Nat->Value) (m j:Nat):Cut:=⟨qod (loS f sk lm V N n k many l).frames [[(0,.func (.yield 16) [] []),(5,.slice ⟨12,.lit 0⟩ (.sym m) (.sym m)),(6,.int .i64 (.sym m)),(7,.int .i64 (.sym j))],loTm],
 app (mapN HP.ent (shaH [.gone,.own (.lst [.int .i64 (.sym many)]) true 3,.own (.lst [.bool (.lit false)]) true 4,.gone,.gone,rfB sk lm cl fe (rfL 10 l.length),rfR (rowM l) l.length,.own (.lst [.slice ⟨12,.lit 0⟩ (.sym m) (.sym m)]) true 77,soR U m,.own (.lst [.int .i64 (.lit tn)]) true 3,cI j]))
  [loE f sk lm V N n k many l 15,q8x (nth (loS f sk lm V N n k many l).heap 16) loTm]⟩
def lo2 (f:HashF) (sk lm:Int) (V:Nat->Value) (N n k:Nat) (many cl fe:Int) (l:List Mk) (tn:Int) (U:Nat->Value) (m j:Nat) (J:Junk) (st:Option (Nat × Nat)):Tree:=sim1 ((q3d f).at st) 20000 ((loB f sk lm V N n k many cl fe l tn U m j).fill J)
def jnk:Junk:=⟨fun _ _=>undef,fun _ _=>undef⟩
def loZ (f:HashF) (sk lm many:Int):Tree:=qea (q3d f) 20000 6 [.int .i64 (.sym sk),.int .i64 (.sym lm),.nilSlice,.int .i64 (.sym many)] (shaH [])
def loS2 (f:HashF) (sk lm:Int) (V:Nat->Value) (N n k:Nat) (many:Int) (l:List Mk):SS:=q8c (lo2 f sk lm V N n k many 0 0 l 0 (fun _=>undef) 0 0 jnk (some (2,0))) [false]
def loE2 (f:HashF) (sk lm:Int) (V:Nat->Value) (N n k:Nat) (many:Int) (l:List Mk) (j:Nat):HP:=.ent ((nth (loS2 f sk lm V N n k many l).heap j).getD .gone)
def loTn:List (Nat × SV):=[(7,.ptr ⟨5,.lit 0⟩),(8,.ptr ⟨6,.lit 0⟩),(11,.ptr ⟨9,.lit 0⟩),(15,.func (.fn (.func 39)) [] [.ptr ⟨11,.lit 0⟩]),(16,.ptr ⟨17,.lit 0⟩),(17,.ptr ⟨18,.lit 0⟩)]
def loD (f:HashF) (sk lm:Int) (V:Nat->Value) (N n k:Nat) (many cl fe:Int) (l:List Mk) (U:Nat->Value) (m j:Nat):Cut:=⟨qod (loS2 f sk lm V N n k many l).frames [[(0,.func (.yield 20) [] []),(5,.slice ⟨12,.lit 0⟩ (.sym m) (.sym m)),(6,.int .i64 (.sym m)),(7,.int .i64 (.sym j))],loTn],
 app (mapN HP.ent (shaH [.gone,.own (.lst [.int .i64 (.sym many)]) true 3,.own (.lst [.bool (.lit false)]) true 4,.gone,.gone,rfB sk lm cl fe (rfL 10 l.length),rfR (rowM l) l.length,.own (.lst [.slice ⟨12,.lit 0⟩ (.sym m) (.sym m)]) true 77,soR U m,.gone,.gone]))
  [loE2 f sk lm V N n k many l 15,.ent .gone,.ent (.own (.lst [.int .i64 (.lit 1)]) true 3),.ent (cI j),loE2 f sk lm V N n k many l 19,q8x (nth (loS2 f sk lm V N n k many l).heap 20) loTn]⟩
def lo3 (f:HashF) (sk lm:Int) (V:Nat->Value) (N n k:Nat) (many cl fe:Int) (l:List Mk) (U:Nat->Value) (m j:Nat) (J:Junk) (st:Option (Nat × Nat)):Tree:=sim1 ((q3d f).at st) 20000 ((loD f sk lm V N n k many cl fe l U m j).fill J)
theorem qyv:CfgOK (q3d shaG):=qzd (by
 intro y hy
 rcases List.mem_cons.1 hy with rfl | hy
 . exact doOK
 rcases List.mem_cons.1 hy with rfl | hy
 . exact agOK _
 rcases List.mem_cons.1 hy with rfl | hy
 . exact exOK
 rcases List.mem_cons.1 hy with rfl | hy
 . exact nwOK _
 rcases List.mem_cons.1 hy with rfl | hy
 . exact rnwOK _
 rcases List.mem_cons.1 hy with rfl | hy
 . exact enOK _
 . obtain rfl:=List.mem_singleton.1 hy
   exact ueOK _)
section
variable (f:HashF) (sk lm:Int) (V:Nat->Value) (N n k:Nat) (many:Int) (es:List MapEntry) (c:Nat) (cl fe:Int) (l:List Mk) (i:Nat) (J:Junk) (z:Nat->Nat->Nat)
def lpD:ChD:=doC es c sk lm cl fe 7 8
def tru:Option (SV × List (Option SO)):=some (.bool (.lit true),[])
theorem joi:outO [] (loT f sk lm V N n k many none) [true]=([decide ((n:Int) > 20)=true],tru):=by kernel_rfl
theorem lo_e:outO [] (loT f sk lm V N n k many none) [false,false,false]=([decide ((n:Int) > 20)=false,cB (nwP sk lm)=false,cB (nwP sk lm)=false],tru):=by kernel_rfl
theorem lo_z1:outO [] (loZ f sk lm many) [true,true,true,false,false]=([cB (nwP sk lm)=true,cB (nwP sk lm)=true,(doC [] 0 sk lm 0 (-1) 6 7).w,(doC [] 0 sk lm 0 (-1) 6 7).w,cB (vTm 1099511627776)=true,decide ((0:Int)<0)=false,decide ((0:Int)<0)=false],tru):=by kernel_rfl
theorem lo_z0:outO [] (loZ f sk lm many) [false,false]=([cB (nwP sk lm)=false,cB (nwP sk lm)=false],tru):=by kernel_rfl
theorem lo_i:outL [] (loC f sk lm V N n k many true [] 0 0 (-1) [] 0) (nmN [5,6,7,8,9]) (loT f sk lm V N n k many (some (1,3))) [false,true,true] z=([decide ((n:Int) > 20)=false,cB (nwP sk lm)=true,cB (nwP sk lm)=true],
 some (.inr (qib [(0,14,.int .i64 (.lit 0))] [] (qra (nmN [5,6,7,8,9]) 10 (loC f sk lm V N n k many true [] 0 0 (-1) [] 0))))):=by kernel_rfl
theorem j4l (mn:Bool):(((loC f sk lm V N n k many mn es c cl fe l i).frames[0]?).bind fun p=>p.tmps[14]?)=some (some (.int .i64 (.sym (i:Int)))):=by cases mn <;> kernel_rfl
def loXc:List Prop:=[decide ((i:Int)<(n:Int))=false,decide ((i:Int)<(n:Int))=false,(lpD sk lm es c cl fe).w,(lpD sk lm es c cl fe).w,cB (vTm 1099511627776)=true]
theorem jpi:outL [] (loC f sk lm V N n k many true es c cl fe l i) (nmN [5,6,7,8,9]) (lo1 f sk lm V N n k many true es c cl fe l i J none) [false,false,true,false,false] z=(app (loXc sk lm n es c cl fe i) [decide ((0:Int)<(es.length:Int))=false,decide ((0:Int)<(es.length:Int))=false],some (.inl (.bool (.lit true),[]))):=by kernel_rfl
theorem lo_s:outL [] (loB f sk lm V N n k many cl fe l 0 (rowM (lsM es)) es.length 0) (nmN [5,6,7,8,9,10,11,12,13,14,15,16]) (lo1 f sk lm V N n k many false es c cl fe l i J (some (2,0))) [false,false,true] z=(loXc sk lm n es c cl fe i,
 some (.inr (qib [(0,7,.int .i64 (.lit 0))] [(14,.ent (.own (.lst [.int .i64 (.lit 0)]) true 3))] (qra (nmN [5,6,7,8,9,10,11,12,13,14,15,16]) 17 (loB f sk lm V N n k many cl fe l 0 (rowM (lsM es)) es.length 0))))):=by kernel_rfl
theorem lo_An:mapN (fun o=>outL [] (loC f sk lm V N n k many true es c cl fe l i) (nmN [5,6,7,8,9]) (lo1 f sk lm V N n k many true es c cl fe l i J (some (1,3))) (true::app (dirQ 14 o) [true,false]) z) (qka 15 0) =
 mapN (fun o=>(plX V N n i z o [agW (lpD sk lm es c cl fe) (doRN sk lm cl fe),in06 V i true,plV V i false,nxI i],seP (nmN [5,6,7,8,9]) 10 (loC f sk lm V N n k many true es c cl fe l (i+1)))) (qka 15 0):=by kernel_rfl
theorem lo_Bn:mapN (fun o=>outL [] (loC f sk lm V N n k many true es c cl fe l i) (nmN [5,6,7,8,9]) (lo1 f sk lm V N n k many true es c cl fe l i J (some (1,3))) (true::app (dirQ 14 o) [true,true,true]) z) (qka 15 0) =
 mapN (fun o=>(plX V N n i z o [agW (lpD sk lm es c cl fe) (doRN sk lm cl fe),in06 V i true,plV V i true,plE f sk lm V es c cl fe i true,nxI i],seP (nmN [5,6,7,8,9]) 10 (loC f sk lm V N n k many true (plM f sk lm V es c cl fe i) (plK f sk lm V es c cl fe i) (clk (aN V i) cl) (plFe sk lm V es c cl fe i) l (i+1)))) (qka 15 0):=by kernel_rfl
theorem lo_Cn:mapN (fun o=>outL [] (loC f sk lm V N n k many false es c cl fe l i) (nmN [5,6,7,8,9,10]) (lo1 f sk lm V N n k many true es c cl fe l i J (some (1,3))) (true::app (dirQ 14 o) [true,true,false]) z) (qka 15 0) =
 mapN (fun o=>(plX V N n i z o [agW (lpD sk lm es c cl fe) (doRN sk lm cl fe),in06 V i true,plV V i true,plE f sk lm V es c cl fe i false,nxI i],seP (nmN [5,6,7,8,9,10]) 11 (loC f sk lm V N n k many false (plM f sk lm V es c cl fe i) (plK f sk lm V es c cl fe i) (clk (aN V i) cl) (plFe sk lm V es c cl fe i) (plL f sk lm V es c cl fe i) (i+1)))) (qka 15 0):=by kernel_rfl
theorem lo_Ln:mapN (fun o=>outL [] (loC f sk lm V N n k many true es c cl fe l i) (nmN [5,6,10,11,9]) (lo1 f sk lm V N n k many true es c cl fe l i J (some (1,3))) (true::app (dirQ 14 o) [false,true]) z) (qka 15 0) =
 mapN (fun o=>(plX V N n i z o [agW (lpD sk lm es c cl fe) (doRN sk lm cl fe),in06 V i false,cB (aW V i=7)=true,nxI i],seP (nmN [5,6,10,11,9]) 12 (loC f sk lm V N n k many true (plEs sk lm es c cl fe) (plEc sk lm es c cl fe) cl fe l (i+1)))) (qka 15 0):=by kernel_rfl
theorem lo_Dn:mapN (fun o=>outL [] (loC f sk lm V N n k many true es c cl fe l i) (nmN [5,6,10,11,9]) (lo1 f sk lm V N n k many true es c cl fe l i J (some (1,3))) (true::app (dirQ 14 o) [false,false]) z) (qka 15 0) =
 mapN (fun o=>(plX V N n i z o [agW (lpD sk lm es c cl fe) (doRN sk lm cl fe),in06 V i false,cB (aW V i=7)=false,nxI i],seP (nmN [5,6,10,11,9]) 12 (loC f sk lm V N n k many true es c cl fe l (i+1)))) (qka 15 0):=by kernel_rfl
theorem lo_Ar:mapN (fun o=>outL [] (loC f sk lm V N n k many false es c cl fe l i) (nmN [5,6,7,8,9,10]) (lo1 f sk lm V N n k many false es c cl fe l i J (some (1,3))) (true::app (dirQ 14 o) [true,false]) z) (qka 15 0) =
 mapN (fun o=>(plX V N n i z o [agW (lpD sk lm es c cl fe) (doRL sk lm fe cl 10 l),in06 V i true,plV V i false,nxI i],seP (nmN [5,6,7,8,9,10]) 11 (loC f sk lm V N n k many false es c cl fe l (i+1)))) (qka 15 0):=by kernel_rfl
theorem lo_Br:mapN (fun o=>outL [] (loC f sk lm V N n k many true es c cl fe l i) (nmN [5,6,7,8,9]) (lo1 f sk lm V N n k many false es c cl fe l i J (some (1,3))) (true::app (dirQ 14 o) [true,true,true]) z) (qka 15 0) =
 mapN (fun o=>(plX V N n i z o [agW (lpD sk lm es c cl fe) (doRL sk lm fe cl 10 l),in06 V i true,plV V i true,plE f sk lm V es c cl fe i true,nxI i],seP (nmN [5,6,7,8,9]) 11 (loC f sk lm V N n k many true (plM f sk lm V es c cl fe i) (plK f sk lm V es c cl fe i) (clk (aN V i) cl) (plFe sk lm V es c cl fe i) l (i+1)))) (qka 15 0):=by kernel_rfl
theorem lo_Cr:mapN (fun o=>outL [] (loC f sk lm V N n k many false es c cl fe l i) (nmN [5,6,7,8,9,11]) (lo1 f sk lm V N n k many false es c cl fe l i J (some (1,3))) (true::app (dirQ 14 o) [true,true,false]) z) (qka 15 0) =
 mapN (fun o=>(plX V N n i z o [agW (lpD sk lm es c cl fe) (doRL sk lm fe cl 10 l),in06 V i true,plV V i true,plE f sk lm V es c cl fe i false,nxI i],seP (nmN [5,6,7,8,9,11]) 12 (loC f sk lm V N n k many false (plM f sk lm V es c cl fe i) (plK f sk lm V es c cl fe i) (clk (aN V i) cl) (plFe sk lm V es c cl fe i) (plL f sk lm V es c cl fe i) (i+1)))) (qka 15 0):=by kernel_rfl
theorem lo_Lr:mapN (fun o=>outL [] (loC f sk lm V N n k many false es c cl fe l i) (nmN [5,6,11,12,9,10]) (lo1 f sk lm V N n k many false es c cl fe l i J (some (1,3))) (true::app (dirQ 14 o) [false,true]) z) (qka 15 0) =
 mapN (fun o=>(plX V N n i z o [agW (lpD sk lm es c cl fe) (doRL sk lm fe cl 10 l),in06 V i false,cB (aW V i=7)=true,nxI i],seP (nmN [5,6,11,12,9,10]) 13 (loC f sk lm V N n k many false (plEs sk lm es c cl fe) (plEc sk lm es c cl fe) cl fe l (i+1)))) (qka 15 0):=by kernel_rfl
theorem lo_Dr:mapN (fun o=>outL [] (loC f sk lm V N n k many false es c cl fe l i) (nmN [5,6,11,12,9,10]) (lo1 f sk lm V N n k many false es c cl fe l i J (some (1,3))) (true::app (dirQ 14 o) [false,false]) z) (qka 15 0) =
 mapN (fun o=>(plX V N n i z o [agW (lpD sk lm es c cl fe) (doRL sk lm fe cl 10 l),in06 V i false,cB (aW V i=7)=false,nxI i],seP (nmN [5,6,11,12,9,10]) 13 (loC f sk lm V N n k many false es c cl fe l (i+1)))) (qka 15 0):=by kernel_rfl
theorem lo_n (names:List Nat) (h:names=nmN [5,6,7,8,9]\/names=nmN [5,6,10,11,9]) (es':List MapEntry) (c':Nat) (cl' fe':Int) (l':List Mk) (i':Nat):boolC (qza 5 names (loC f sk lm V N n k many true es' c' cl' fe' l' i') (loC f sk lm V N n k many true es c cl fe l i)) (allN qxa (loC f sk lm V N n k many true es c cl fe l i).heap) false=true:=by
 rcases h with rfl | rfl <;> kernel_rfl
theorem lo_r (names:List Nat) (h:names=nmN [5,6,7,8,9,10]\/names=nmN [5,6,7,8,9,11]\/names=nmN [5,6,11,12,9,10]) (es':List MapEntry) (c':Nat) (cl' fe':Int) (l':List Mk) (i':Nat):boolC (qza 5 names (loC f sk lm V N n k many false es' c' cl' fe' l' i') (loC f sk lm V N n k many false es c cl fe l i)) (allN qxa (loC f sk lm V N n k many false es c cl fe l i).heap) false=true:=by
 rcases h with rfl | rfl | rfl <;> kernel_rfl
end
section
variable (f:HashF) (sk lm:Int) (V:Nat->Value) (N n k:Nat) (many cl fe:Int) (l:List Mk) (U:Nat->Value) (m j:Nat) (J:Junk) (z:Nat->Nat->Nat)
def loQ (q:List Prop):List Prop:=(decide ((j:Int)<(m:Int))=true)::ixP j m::(0+j * 33+33<=m * 33)::fitM U (0+j * 33)::(decide ((j:Int)>=(l.length:Int))=false)::ixP j l.length::(0+j * 33+0<l.length * 33)::fitK (.i .i64) (rowM l (0+j * 33+0)) ::
 ((vNum (U (0+j * 33+0)) != vNum (rowM l (0+j * 33+0)))=false)::ixP j l.length::(0+j * 33+1+32<=l.length * 33)::fitD (rowM l) (0+j * 33+1)::((!eqD U (0+j * 33) (rowM l) (0+j * 33+1))=false)::nxI j::q
def jya (b:Bool):Prop:=decide (((j+1:Nat):Int)>=many)=b
def nmB:List Nat:=nmN [5,6,7,8,9,10,11,12,13,14,15,16]
def nmD1:List Nat:=nmN [5,6,7,8,9,10,11,12,13,14,15,16,17,18,19,20]
def nmD2:List Nat:=nmN [5,6,7,8,9,10,11,12,13,14,15,16,19,20,21,22]
def modD:List (Nat × HP):=[(18,.ent (.own (.lst [.int .i64 (.lit 0)]) true 3))]
theorem jqi:outL [] (loB f sk lm V N n k many cl fe l 0 U m j) nmB (lo2 f sk lm V N n k many cl fe l 0 U m j J (some (2,0))) [true,false,false,false,false] z=(loQ l U m j [jya many j false,nxI j],some (.inr (qra nmB 19 (loB f sk lm V N n k many cl fe l 0 U m (j+1))))):=by kernel_rfl
theorem j5l:outL [] (loD f sk lm V N n k many cl fe l U m 0) nmD2 (lo2 f sk lm V N n k many cl fe l 0 U m j J (some (2,0))) [true,false,false,false,true] z=(loQ l U m j [jya many j true],some (.inr (qib [(0,7,.int .i64 (.lit 0))] modD (qra nmD2 23 (loD f sk lm V N n k many cl fe l U m 0))))):=by kernel_rfl
theorem j6l:outL [] (loD f sk lm V N n k many cl fe l U m 0) nmD1 (lo2 f sk lm V N n k many cl fe l 0 U m j J (some (2,0))) [false] z=([decide ((j:Int)<(m:Int))=false],some (.inr (qib [(0,7,.int .i64 (.lit 0))] modD (qra nmD1 21 (loD f sk lm V N n k many cl fe l U m 0))))):=by kernel_rfl
theorem jwd:outL [] (loD f sk lm V N n k many cl fe l U m j) nmD1 (lo3 f sk lm V N n k many cl fe l U m j J (some (2,0))) [true,false,false,false] z=(loQ l U m j [nxI j],some (.inr (qra nmD1 23 (loD f sk lm V N n k many cl fe l U m (j+1))))):=by kernel_rfl
theorem jri:outL [] (loD f sk lm V N n k many cl fe l U m j) nmD1 (lo3 f sk lm V N n k many cl fe l U m j J none) [false,false] z=([decide ((j:Int)<(m:Int))=false,((j:Int) != (l.length:Int))=false],some (.inl (.bool (.lit true),[]))):=by kernel_rfl
theorem j7l:(((loB f sk lm V N n k many cl fe l 0 U m j).frames[0]?).bind fun p=>p.tmps[7]?)=some (some (.int .i64 (.sym (j:Int)))):=by kernel_rfl
theorem jsi:(((loD f sk lm V N n k many cl fe l U m j).frames[0]?).bind fun p=>p.tmps[7]?)=some (some (.int .i64 (.sym (j:Int)))):=by kernel_rfl
theorem lb_n (r:Nat):boolC (qza 5 nmB (loB f sk lm V N n k many cl fe l 0 U m r) (loB f sk lm V N n k many cl fe l 0 U m j)) (allN qxa (loB f sk lm V N n k many cl fe l 0 U m j).heap) false=true:=by kernel_rfl
theorem qb7 (names:List Nat) (h:names=nmD1\/names=nmD2) (r:Nat):boolC (qza 5 names (loD f sk lm V N n k many cl fe l U m r) (loD f sk lm V N n k many cl fe l U m j)) (allN qxa (loD f sk lm V N n k many cl fe l U m j).heap) false=true:=by rcases h with rfl | rfl <;> kernel_rfl
end
end
end Go.Proofs.YthkgcljngalafaaDoor.Aes
