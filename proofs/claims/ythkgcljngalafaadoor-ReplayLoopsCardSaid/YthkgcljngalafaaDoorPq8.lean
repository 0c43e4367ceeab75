/-
  Texts behind one another: the symbolic simulator and what it is told of the program.
-/
import Derived.Test.YthkgcljngalafaaDoorPq7
import Derived.Test.YthkgcljngalafaaDoorPq6
namespace Go.Proofs.YthkgcljngalafaaDoor.Aes
noncomputable section
open Go.Sim
open Go.Proofs
variable {α:Type}
set_option maxRecDepth 1000000
def cfgEi:Cfg:=q8f (qdc [(47,eiSm)])
theorem qk3:CfgOK cfgEi:=qgd (all1 eiOK)
def riB (X:Nat->BitVec 8) (k:Nat):SO:=.own (.fn (q1a X) k) false 5
def n64 (x:Int):BitVec 64:=BitVec.ofInt 64 x
def riX1 (X:Nat->BitVec 8) (k:Nat) (x:Int):Nat->BitVec 8:=catB (fun j=>X (0+j)) k fun j=>be8 (n64 x) (0+j)
def riX2 (X:Nat->BitVec 8) (k:Nat) (W:Nat->Value) (o:Nat):Nat->BitVec 8:=catB (fun j=>riX1 X k (vNum (W (o+0))) (0+j)) (k+8) fun j=>BitVec.ofInt 8 (vNum (W (o+1+0+j)))
section
variable (W:Nat->Value) (n:Nat) (sk lm cl fe:Int) (X:Nat->BitVec 8) (i k:Nat) (J:Junk) (z:Nat->Nat->Nat)
def riT (st:Option (Nat × Nat)):Tree:=qea (cfgEi.at st) 20000 32 [rfA sk lm cl fe (rfL 0 n)] [rfW W n]
def riN:Tree:=qea cfgEi 20000 32 [rfA sk lm cl fe .nilSlice] []
def riF:List SP:=qod (q8c (riT W n sk lm cl fe (some (1,0))) []).frames [[(1,.ptr ⟨1,.lit 0⟩),(2,.nilSlice),(3,.slice ⟨2,.lit 0⟩ (.sym k) (.rest 2 0)),(4,.int .i64 (.sym i))]]
def riC:Cut:=⟨riF W n sk lm cl fe i k,[.ent (rfW W n),.ent (rfB sk lm cl fe (rfL 0 n)),.ent (riB X k)]⟩
def ri1 (st:Option (Nat × Nat)):Tree:=sim1 (cfgEi.at st) 20000 ((riC W n sk lm cl fe X i k).fill J)
def posI (x:Int):Prop:=0<=x/\x<9223372036854775808
def riP (m:Int):List Prop:=[posI sk,posI lm,8<=8,8<=8,posI cl,qqa (fe+1),posI (fe+1),8<=8,8<=8,posI m,8<=8]
def eiC (x:Int):List SV:=mapN (fun j=>.int .u8 (.b8 (be8 (n64 x) j))) (qka 8 0)
def riH (m:Int):List SV:=app (app (app (eiC sk) (eiC lm)) (app (eiC cl) (eiC (fe+1)))) (eiC m)
def rn3:List Nat:=[0,1,10]
def rn5:List Nat:=[0,1,5]
theorem jlk:outL [9] (riC W n sk lm cl fe X i k) n3 (riN sk lm cl fe) [] z=([posI sk,posI lm,8<=8,8<=8,posI cl,qqa (fe+1),posI (fe+1),8<=8,8<=8,posI 0,8<=8],some (.inl (.slice ⟨9,.lit 0⟩ (.lit 40) (.rest 9 0),[some (.own (.lst (riH sk lm cl fe 0)) false 5)]))):=by kernel_rfl
theorem jdh:outL [] (riC W n sk lm cl fe X 0 40) rn3 (riT W n sk lm cl fe (some (1,0))) [] z=(riP sk lm cl fe (n:Int),some (.inr (qib [(0,4,.int .i64 (.lit 0)),(0,3,.slice ⟨10,.lit 0⟩ (.lit 40) (.rest 10 0))] [(2,.ent (.own (.lst (riH sk lm cl fe (n:Int))) false 5))] (qra rn3 11 (riC W n sk lm cl fe X 0 40))))):=by kernel_rfl
def riQ (o:Nat):List Prop:=[decide ((i:Int)<(n:Int))=true,ixP i n,o+0<n * 33,fitK (.i .i64) (W (o+0)),posI (vNum (W (o+0))),8<=8/\IsB (q1a (be8 (n64 (vNum (W (o+0)))))),0+k<=k/\IsB (q1a X),((k+8) * 1<140737488355328/\k+8<140737488355328)/\1=1,ixP i n,o+1+0+32<=n * 33/\∀ j,j<32->fitK (.i .u8) (W (o+1+0+j)),0+(k+8)<=k+8/\IsB (q1a (riX1 X k (vNum (W (o+0))))),((k+8+32) * 1<140737488355328/\k+8+32<140737488355328)/\1=1,nxI i]
theorem jeh:outL [] (riC W n sk lm cl fe X i k) rn5 (ri1 W n sk lm cl fe X i k J (some (1,0))) [true] z=(riQ W n X i k (0+i * 33),some (.inr (qra rn5 6 (riC W n sk lm cl fe (riX2 X k W (0+i * 33)) (i+1) (k+8+32))))):=by kernel_rfl
theorem jmk:outL [2] (riC W n sk lm cl fe X i k) n3 (ri1 W n sk lm cl fe X i k J none) [false] z=([decide ((i:Int)<(n:Int))=false],some (.inl (.slice ⟨2,.lit 0⟩ (.sym k) (.rest 2 0),[some (riB X k)]))):=by kernel_rfl
theorem jfh:(((riC W n sk lm cl fe X i k).frames[0]?).bind fun p=>p.tmps[3]?)=some (some (.slice ⟨2,.lit 0⟩ (.sym k) (.rest 2 0))):=by kernel_rfl
theorem jgh:(((riC W n sk lm cl fe X i k).frames[0]?).bind fun p=>p.tmps[4]?)=some (some (.int .i64 (.sym (i:Int)))):=by kernel_rfl
theorem ri_n3 (Y:Nat->BitVec 8) (r s:Nat):boolC (qza 1 rn3 (riC W n sk lm cl fe Y r s) (riC W n sk lm cl fe X i k)) (allN qxa (riC W n sk lm cl fe X i k).heap) false=true:=by kernel_rfl
theorem ri_n5 (Y:Nat->BitVec 8) (r s:Nat):boolC (qza 1 rn5 (riC W n sk lm cl fe Y r s) (riC W n sk lm cl fe X i k)) (allN qxa (riC W n sk lm cl fe X i k).heap) false=true:=by kernel_rfl
end
end
noncomputable section
open Go.Sim
open Go.Proofs
variable {α:Type}
set_option maxRecDepth 1000000
def riNs (sk lm cl fe:Int) (l:List Mk):List Int:=[sk,lm,cl,fe+1,(l.length:Int)]
def riX (sk lm cl fe:Int) (l:List Mk):Nat->BitVec 8:=imgB (riNs sk lm cl fe l) l
theorem jok (sk lm cl fe m:Int):riH sk lm cl fe m=(List.range 40).map fun t=>SV.int .u8 (.b8 (be8 (n64 ([sk,lm,cl,fe+1,m].getD (t / 8) 0)) (t % 8))):=by kernel_rfl
theorem jhh (sk lm cl fe m:Int) (g:Nat->Nat):(Cells.lst (riH sk lm cl fe m)).ren g=.lst (riH sk lm cl fe m):=by kernel_rfl
theorem jwc (sk lm cl fe m:Int) (p:Nat->Bool):SV.usesL p (riH sk lm cl fe m)=true:=by kernel_rfl
theorem bytes_den (γ:Val) (f:Nat->BitVec 8):∀ l:List Nat,SV.denL γ (l.map fun i=>SV.int .u8 (.b8 (f i)))=some (l.map fun i=>vB (f i))
 | []=>rfl
 | _::l=>denL_cons.2 ⟨_,_,rfl,bytes_den γ f l,rfl⟩
theorem q39 {f X:Nat->BitVec 8} {n:Nat} (h:∀ t,t<n->f t=X t):(Cells.lst ((List.range n).map fun i=>SV.int .u8 (.b8 (f i)))).Imp (.fn (q1a X) n):=by
 intro γ ws hw
 have hw:SV.denL γ ((List.range n).map fun i=>SV.int .u8 (.b8 (f i)))=some ws:=hw
 rw [bytes_den] at hw
 have hw:=Option.some.inj hw
 subst hw
 refine ⟨by rw [List.length_map,List.length_range],fun i x hx => ?_⟩
 rw [List.getElem?_map,Option.map_eq_some_iff] at hx
 obtain ⟨j,hj,rfl⟩:=hx
 obtain ⟨hlt,rfl⟩:i<n/\i=j:=by
  obtain ⟨h,he⟩:=List.getElem?_eq_some_iff.1 hj
  rw [List.length_range] at h
  rw [List.getElem_range] at he
  exact ⟨h,he⟩
 rw [h i hlt]; rfl
theorem jih {f X:Nat->BitVec 8} {n:Nat} (h:∀ t,t<n->f t=X t):(Cells.fn (q1a f) n).Imp (.fn (q1a X) n):=by
 intro γ ws ⟨h1,h2⟩
 refine ⟨h1,fun i x hx => ?_⟩
 have hi:i<n:=by
  have:=(List.getElem?_eq_some_iff.1 hx).1
  omega
 have:=h2 i x hx
 show (SV.int .u8 (.b8 (X i))).den γ=some x
 rw [← h i hi]; exact this
theorem ql3 (sk lm cl fe:Int) (l:List Mk):(Cells.lst (riH sk lm cl fe (l.length:Int))).Imp (.fn (q1a (riX sk lm cl fe l)) 40):=by
 rw [jok]
 refine q39 fun t ht => ?_
 unfold riX imgB
 rw [if_pos ht]; rfl
section
variable (l:List Mk) (sk lm cl fe:Int)
def riK (a:Nat × (Nat->BitVec 8)):Cut:=riC (rowM l) l.length sk lm cl fe a.2 a.1 (40+40 * a.1)
def riOK (a:Nat × (Nat->BitVec 8)):Prop:=a.1<=l.length/\∀ t,t<40+40 * a.1->a.2 t=riX sk lm cl fe l t
variable {l sk lm cl fe}
theorem qn6 (X:Nat->BitVec 8):IsB (q1a X):=fun _=>⟨_,rfl⟩
theorem q49 (h:LsW l sk lm cl fe):posI sk/\posI lm/\posI cl/\qqa (fe+1)/\posI (fe+1)/\posI (l.length:Int):=by
 have h1:=h.hsk
 have h2:=h.hlm
 have h3:=h.hcl
 have h4:=h.hfe
 have h5:=h.sz
 unfold vTm at h3
 unfold posI
 exact ⟨⟨by omega,by omega⟩,⟨by omega,by omega⟩,⟨by omega,by omega⟩,⟨by omega,by omega⟩,⟨by omega,by omega⟩,⟨by omega,by omega⟩⟩
theorem jjh (h:LsW l sk lm cl fe):Runs cfgEi 32 [rfA sk lm cl fe (rfL 0 l.length)] [rfW (rowM l) l.length] fun v H=>(∃ X,v=.slice ⟨2,.lit 0⟩ (.sym (40+40 * l.length)) (.rest 2 0)/\H[2]? = some (riB X (40+40 * l.length))/\∀ t,t<40+40 * l.length->X t=riX sk lm cl fe l t):=by
 obtain ⟨p1,p2,p3,p4,p5,p6⟩:=q49 h
 have hz:l.length<=65536:=by have:=h.sz; have:=h.hlm; omega
 refine qbd qk3 (riK l sk lm cl fe) (riOK l sk lm cl fe) (fun a=>l.length - a.1) (fun g nm hg=>by cases hg) ?_ fun a ha J => ?_
 . refine qhd (ms:=[(0,4,.int .i64 (.lit 0)),(0,3,.slice ⟨10,.lit 0⟩ (.lit 40) (.rest 10 0))]) (es:=[(2,.ent (.own (.lst (riH sk lm cl fe (l.length:Int))) false 5))]) (ds:=[]) (names:=rn3) (N:=11) (M:=riC (rowM l) l.length sk lm cl fe (riX sk lm cl fe l) 0 40) (some (1,0)) 20000 (0,riX sk lm cl fe l) ⟨Nat.zero_le _,fun t _=>rfl⟩ (fun z=>jdh (rowM l) l.length sk lm cl fe (riX sk lm cl fe l) z) (ri_n3 (rowM l) l.length sk lm cl fe _ 0 40 _ 0 40) (fun q hq p v hp hv => ?_) (fun e he E0 hE0 => ?_)
    (all_cons p1 (all_cons p2 (all_cons (Nat.le_refl 8) (all_cons (Nat.le_refl 8) (all_cons p3 (all_cons p4 (all_cons p5 (all_cons (Nat.le_refl 8) (all_cons (Nat.le_refl 8) (all_cons p6 (all_cons (Nat.le_refl 8) qaa)))))))))))
   . rcases List.mem_cons.1 hq with rfl | hq
     . exact q4c (jgh (rowM l) l.length sk lm cl fe _ 0 40) hp hv (qna rfl)
     . obtain rfl:=List.mem_singleton.1 hq
       exact q4c (jfh (rowM l) l.length sk lm cl fe _ 0 40) hp hv fun _ _ h=>h
   . obtain rfl:=List.mem_singleton.1 he
     cases hE0
     exact ⟨_,rfl,ql3 sk lm cl fe l⟩
 obtain ⟨i,X⟩:=a
 obtain ⟨hi,hX⟩:i<=l.length/\∀ t,t<40+40 * i->X t=riX sk lm cl fe l t:=ha
 show q6b cfgEi _ _ _ _ ((riC (rowM l) l.length sk lm cl fe X i (40+40 * i)).fill J)
 by_cases c:i<l.length
 . have ht:=h.tm l[i] (List.getElem_mem c)
   unfold vTm at ht
   obtain ⟨g1,g2⟩:=qud c
   have e0:rowM l (0+i * 33+0)=.int .i64 l[i].1:=by rw [Nat.zero_add,Nat.add_zero]; exact g1
   have ej:∀ j,j<32->rowM l (0+i * 33+1+0+j)=vB (l[i].2.at j):=fun j hj=>by
    rw [show 0+i * 33+1+0+j=i * 33+(j+1) by omega]; exact g2 j hj
   have hb:∀ {r s:Nat},((r+s) * 1<140737488355328/\r+s<140737488355328)/\1=1↔r+s<140737488355328:=fun {r s}=>⟨fun h=>h.1.2,fun h=>⟨⟨by omega,h⟩,rfl⟩⟩
   refine q7b (ds:=[true]) (names:=rn5) (N:=6) (M:=riC (rowM l) l.length sk lm cl fe X i (40+40 * i)) (some (1,0)) 20000 (i+1,riX2 X (40+40 * i) (rowM l) (0+i * 33)) ⟨⟨c,?_⟩,by show l.length - (i+1)<l.length - i; omega⟩ (fun z=>jeh (rowM l) l.length sk lm cl fe X i (40+40 * i) J z) (ri_n5 (rowM l) l.length sk lm cl fe _ (i+1) _ X i (40+40 * i))
    (all_cons (decide_eq_true (by omega)) (all_cons ⟨by omega,by omega⟩ (all_cons (by omega) (all_cons (by rw [e0]; exact fun _=>rfl) (all_cons (by rw [e0]; exact ⟨ht.1,by show l[i].1<_; omega⟩) (all_cons ⟨Nat.le_refl 8,qn6 _⟩ (all_cons ⟨by omega,qn6 _⟩ (all_cons (hb.2 (by omega)) (all_cons ⟨by omega,by omega⟩ (all_cons ⟨by omega,fun j hj=>by rw [ej j hj]; exact qcy _⟩ (all_cons ⟨by omega,qn6 _⟩ (all_cons (hb.2 (by omega)) (all_cons ⟨by omega,by omega⟩ qaa)))))))))))))
   intro t ht'
   show riX2 X (40+40 * i) (rowM l) (0+i * 33) t=_
   unfold riX2 catB
   by_cases c1:t<40+40 * i+8
   . rw [if_pos c1]
     show (if 0+t<40+40 * i then X (0+(0+t)) else be8 (n64 (vNum (rowM l (0+i * 33+0)))) (0+(0+t - (40+40 * i))))=_
     rw [show 0+t=t by omega]
     by_cases c2:t<40+40 * i
     . rw [if_pos c2,Nat.zero_add]; exact hX t c2
     . rw [if_neg c2,e0,Nat.zero_add]
       have:=qiv (riNs sk lm cl fe l) c (show t - (40+40 * i)<8 by omega)
       rw [show 40+40 * i+(t - (40+40 * i))=t by omega] at this
       exact this.symm
   . rw [if_neg c1]
     have ht':t<40+40 * (i+1):=ht'
     show BitVec.ofInt 8 (vNum (rowM l (0+i * 33+1+0+(t - (40+40 * i+8)))))=_
     rw [ej _ (by omega)]
     have:=qjv (riNs sk lm cl fe l) c (show t - (40+40 * i+8)<32 by omega)
     rw [show 40+40 * i+(8+(t - (40+40 * i+8)))=t by omega] at this
     rw [show vNum (vB (l[i].2.at (t - (40+40 * i+8))))=((l[i].2.at (t - (40+40 * i+8))).toNat:Int) from rfl,qwe]
     exact this.symm
 . have hie:i=l.length:=by omega
   subst hie
   exact qec (js:=[2]) (names:=n3) (M:=riC (rowM l) l.length sk lm cl fe X l.length (40+40 * l.length)) none 20000 (fun z=>jmk (rowM l) l.length sk lm cl fe X l.length (40+40 * l.length) J z) (all_cons (decide_eq_false (by omega)) qaa) fun H hH=>⟨X,rfl,(List.cons.inj (show [H[2]?]=[some (riB X (40+40 * l.length))] from hH)).1,hX⟩
end
def RfD.bN (d:RfD):Nat:=40+40 * d.l.length
def RfD.x (d:RfD):Nat->BitVec 8:=riX d.sk.den d.lm.den d.cl.den d.fe.den d.l
def riSm:Summ:=fun args H base=>q1d args fun v=>rfV H v fun d=>.need d.w (.ok ⟨.slice ⟨base,.lit 0⟩ (.sym d.bN) (.rest base 0),[],[.own (.fn (q1a d.x) d.bN) false 5]⟩)
theorem q81 {sk lm cl fe:Int} (h:LsW [] sk lm cl fe):Runs cfgEi 32 [rfA sk lm cl fe .nilSlice] [] fun v H=>v=.slice ⟨9,.lit 0⟩ (.lit 40) (.rest 9 0)/\H[9]? = some (.own (.lst (riH sk lm cl fe 0)) false 5):=by
 obtain ⟨p1,p2,p3,p4,p5,p6⟩:=q49 h
 refine qbd qk3 (fun _:Unit=>riC (rowM []) 0 sk lm cl fe (fun _=>0#8) 0 0) (fun _=>False) (fun _=>0) (fun g nm hg=>by cases hg) ?_ fun a ha J=>ha.elim
 exact qww none 20000 (fun z=>jlk (rowM []) 0 sk lm cl fe (fun _=>0#8) 0 0 z) (all_cons p1 (all_cons p2 (all_cons (Nat.le_refl 8) (all_cons (Nat.le_refl 8) (all_cons p3 (all_cons p4 (all_cons p5 (all_cons (Nat.le_refl 8) (all_cons (Nat.le_refl 8) (all_cons p6 (all_cons (Nat.le_refl 8) qaa))))))))))) fun H hH=>⟨rfl,(List.cons.inj hH).1⟩
theorem riOKs:qdb Tryd.prog 32 riSm:=by
 intro glob O w0 β H w base args vs hH hG ha
 refine q5b fun v hv=>q3j fun d hd => ?_
 rw [hv] at ha
 intro hw
 cases hn:d.nil with
 | true =>
   obtain ⟨hi,hl⟩:=q7l hd hn
   have hls:LsW [] d.sk.den d.lm.den d.cl.den d.fe.den:=hl▸hw.ls
   have hx:d.x=riX d.sk.den d.lm.den d.cl.den d.fe.den []:=by unfold RfD.x; rw [hl]
   have hb:d.bN=40:=by unfold RfD.bN; rw [hl]; rfl
   refine qid (c:=cfgEi) hH ⟨[],[],[d.a .nilSlice]⟩ (by intro g j hg; cases hg) (qba hi qwa _ _ ha) (Ifc.fitsQ (by simp) rfl trivial) [9] (by simp) (by simp) (qlb (q81 hls) fun v H2 ⟨h1,h2⟩ => ?_)
   subst h1
   refine ⟨?_,?_,trivial,⟨.inl ⟨_,_,_,_,h2,jwc _ _ _ _ _ _,?_,rfl⟩,trivial⟩⟩
   . show SV.Imp (.slice ⟨Ifc.out _ base [9] 9,.lit 0⟩ (.lit 40) (.rest (Ifc.out _ base [9] 9) 0)) _
     rw [out1 (by show 0<=9; omega)]
     exact q7c (by rw [hb]; rfl)
   . show (Ifc.seen _ [9] 9 && (true && Ifc.seen _ [9] 9))=true
     rw [q2t]; rfl
   . rw [jhh,hx,hb]
     exact ql3 d.sk.den d.lm.den d.cl.den d.fe.den []
 | false =>
   rw [hd.val] at ha
   refine qid (c:=cfgEi) hH (rfI d []) (by intro g j hg; cases hg) (qba (qo0 hd hn) qwa _ _ ha) (q0r hd hw hn rfl) [2] (by simp [rfI]) (by simp) (qlb (jjh hw.ls) fun v H2 ⟨X,h1,h2,h3⟩ => ?_)
   subst h1
   refine ⟨?_,?_,trivial,⟨.inl ⟨_,_,_,_,h2,fun _=>rfl,jih h3,rfl⟩,trivial⟩⟩
   . show SV.Imp (.slice ⟨(rfI d []).out base [2] 2,.lit 0⟩ (.sym (40+40 * d.l.length)) (.rest ((rfI d []).out base [2] 2) 0)) _
     rw [out1 (by show 1<=2; omega)]
     exact .refl _
   . show ((rfI d []).seen [2] 2 && (true && (rfI d []).seen [2] 2))=true
     rw [q2t]; rfl
end
noncomputable section
open Go.Sim
open Go.Proofs
variable {α:Type}
set_option maxRecDepth 1000000
section
variable (es:List MapEntry) (c:Nat) (sk lm cl fe:Int)
def lnT:Tree:=qea cfgP0 20000 23 [.ptr ⟨0,.lit 0⟩] [chRw 1 sk lm cl fe,.obj (.amap kMk uMk es c)]
def ckT:Tree:=qea cfgP0 20000 14 [.ptr ⟨0,.lit 0⟩] [chRw 1 sk lm cl fe,.obj (.amap kMk uMk es c)]
theorem jpk:outO [1] (lnT es c sk lm cl fe) [false]=([lm0 lm],some (.int .i64 (.sym (es.length:Int)),[some (.obj (.amap kMk uMk es c))])):=by kernel_rfl
theorem jqk:outO [1] (ckT es c sk lm cl fe) [false]=([lm0 lm],some (.int .i64 (.sym cl),[some (.obj (.amap kMk uMk es c))])):=by kernel_rfl
end
def lnSm:Summ:=fun args H _=>q1d args fun p=>chRd H p fun d=>.need d.w (.ok ⟨.int .i64 (.sym (d.es.length:Int)),[],[]⟩)
def ckSm:Summ:=fun args H _=>q1d args fun p=>chRd H p fun d=>.need d.w (.ok ⟨.int .i64 (.sym d.cl.den),[],[]⟩)
theorem lnOK:qdb Tryd.prog 23 lnSm:=by
 intro glob O w0 β H w base args vs hH hG ha
 refine q5b fun p hv=>qci fun d hd => ?_
 rw [hv,hd.ptr] at ha
 intro hw
 refine qrg (k':=kMk) (v':=uMk) hH hd.map ?_
 exact qyb cfgP0OK 20000 hH (chJ d []) (by intro g j hg; cases hg) ha (qug hd rfl) [] (by simp) (by simp) (qya (jpk d.es d.c d.sk.den d.lm.den d.cl.den d.fe.den) (all_cons hw.lm0 qaa) fun H2 hH2=>⟨.refl _,rfl,qvg (List.cons.inj hH2).1,trivial⟩)
theorem ckOK:qdb Tryd.prog 14 ckSm:=by
 intro glob O w0 β H w base args vs hH hG ha
 refine q5b fun p hv=>qci fun d hd => ?_
 rw [hv,hd.ptr] at ha
 intro hw
 refine qrg (k':=kMk) (v':=uMk) hH hd.map ?_
 exact qyb cfgP0OK 20000 hH (chJ d []) (by intro g j hg; cases hg) ha (qug hd rfl) [] (by simp) (by simp) (qya (jqk d.es d.c d.sk.den d.lm.den d.cl.den d.fe.den) (all_cons hw.lm0 qaa) fun H2 hH2=>⟨.refl _,rfl,qvg (List.cons.inj hH2).1,trivial⟩)
end
noncomputable section
open Go.Sim
open Go.Proofs
variable {α:Type}
set_option maxRecDepth 1000000
def rlA:List (FuncId × Summ):=[(18,enSm),(11,imSm),(32,riSm),(23,lnSm),(14,ckSm)]
def cfgAg:Cfg:=q8f (qdc rlA)
theorem qm3:CfgOK cfgAg:=qgd (by
 intro y hy
 rcases List.mem_cons.1 hy with rfl | hy
 . exact enOK
 rcases List.mem_cons.1 hy with rfl | hy
 . exact j8e
 rcases List.mem_cons.1 hy with rfl | hy
 . exact riOKs
 rcases List.mem_cons.1 hy with rfl | hy
 . exact lnOK
 . obtain rfl:=List.mem_singleton.1 hy
   exact ckOK)
section
variable (es:List MapEntry) (c:Nat) (sk lm cl fe:Int) (W:Nat->Value) (n:Nat)
def agN (st:Option (Nat × Nat)):Tree:=qea (cfgAg.at st) 20000 10 [.ptr ⟨0,.lit 0⟩,rfA sk lm cl fe .nilSlice] [chRw 1 sk lm cl fe,.obj (.amap kMk uMk es c)]
def agT (st:Option (Nat × Nat)):Tree:=qea (cfgAg.at st) 20000 10 [.ptr ⟨0,.lit 0⟩,rfA sk lm cl fe (rfL 2 n)] [chRw 1 sk lm cl fe,.obj (.amap kMk uMk es c),rfW W n]
variable (U:Nat->Value) (m i:Nat) (J:Junk) (z:Nat->Nat->Nat)
def agS:SS:=q8c (agT es c sk lm cl fe W n (some (2,0))) [false,false,false]
def agE (j:Nat):HP:=.ent ((nth (agS es c sk lm cl fe W n).heap j).getD .gone)
def kInt:SO:=.own (.lst [.int .i64 (.sym (i:Int))]) true 3
def agC:Cut:=⟨qod (agS es c sk lm cl fe W n).frames [[(0,.func (.yield 11) [] []),(5,.slice ⟨6,.lit 0⟩ (.sym m) (.sym m)),(6,.int .i64 (.sym m)),(7,.int .i64 (.sym i))],[(3,.ptr ⟨3,.lit 0⟩),(4,.ptr ⟨4,.lit 0⟩),(6,.ptr ⟨9,.lit 0⟩)]],
 [.ent (chRw 1 sk lm cl fe),.ent (.obj (.amap kMk uMk es c)),.ent (rfW W n),.ent (rfB sk lm cl fe (rfL 2 n)),agE es c sk lm cl fe W n 4,agE es c sk lm cl fe W n 5,.ent (soR U m),.ent .gone,.ent .gone,.ent (kInt i),agE es c sk lm cl fe W n 10,q8x (nth (agS es c sk lm cl fe W n).heap 11) [(3,.ptr ⟨3,.lit 0⟩),(4,.ptr ⟨4,.lit 0⟩),(6,.ptr ⟨9,.lit 0⟩)]]⟩
def ag1 (st:Option (Nat × Nat)):Tree:=sim1 (cfgAg.at st) 20000 ((agC es c sk lm cl fe W n U m i).fill J)
end
end
noncomputable section
open Go.Sim
open Go.Proofs
variable {α:Type}
set_option maxRecDepth 1000000
def fitD (W:Nat->Value) (o:Nat):Prop:=qhp (mapN (fun j=>SV.val (W (o+j))) (qka 32 0)) (repN (.i .u8) 32)
def eqD (U:Nat->Value) (o:Nat) (W:Nat->Value) (o':Nat):Bool:=(optC (quc (repN .i 32) (mapN (fun j=>.int .u8 (.b8 (BitVec.ofInt 8 (vNum (U (o+(j+1))))))) (qka 32 0)) (mapN (fun j=>.int .u8 (.b8 (BitVec.ofInt 8 (vNum (W (o'+j)))))) (qka 32 0))) (SB.lit false) fun b=>b).den
section
variable (es:List MapEntry) (c:Nat) (sk lm cl fe:Int) (W U:Nat->Value) (n m i:Nat) (J:Junk) (z:Nat->Nat->Nat)
def n12:List Nat:=[0,1,2,3,4,5,6,7,8,9,10,11]
def agQ:List Prop:=[decide ((i:Int)<(m:Int))=true,ixP i m,0+i * 33+33<=m * 33,fitM U (0+i * 33),decide ((i:Int)>=(n:Int))=false,ixP i n,0+i * 33+0<n * 33,fitK (.i .i64) (W (0+i * 33+0)),(vNum (U (0+i * 33+0)) != vNum (W (0+i * 33+0)))=false,ixP i n,0+i * 33+1+32<=n * 33,fitD W (0+i * 33+1),(!eqD U (0+i * 33) W (0+i * 33+1))=false,nxI i,nxI i]
theorem jkh:outL [] (agC es c sk lm cl fe W n U m i) n12 (ag1 es c sk lm cl fe W n U m i J (some (2,0))) [true,false,false,false] z=(agQ W U n m i,some (.inr (qra n12 14 (agC es c sk lm cl fe W n U m (i+1))))):=by kernel_rfl
theorem jrk:outL [1] (agC es c sk lm cl fe W n U m i) n12 (ag1 es c sk lm cl fe W n U m i J none) [false] z=([decide ((i:Int)<(m:Int))=false],some (.inl (.bool (.sym (decide ((i:Int)=(n:Int)))),[some (.obj (.amap kMk uMk es c))]))):=by kernel_rfl
theorem ag_n (r:Nat):boolC (qza 3 n12 (agC es c sk lm cl fe W n U m r) (agC es c sk lm cl fe W n U m i)) (allN qxa (agC es c sk lm cl fe W n U m i).heap) false=true:=by kernel_rfl
end
end
noncomputable section
open Go.Sim
open Go.Proofs
variable {α:Type}
set_option maxRecDepth 1000000
section
variable (es:List MapEntry) (c:Nat) (sk lm cl fe:Int) (W:Nat->Value) (n:Nat) (z:Nat->Nat->Nat)
def agDC:ChD:=⟨0,1,.sym sk,.sym lm,.sym cl,.sym fe,es,c⟩
def agDR:RfD:=⟨.sym sk,.sym lm,.sym cl,.sym fe,2,W,n * 33,.sym n,false⟩
def agDN:RfD:=⟨.sym sk,.sym lm,.sym cl,.sym fe,0,fun _=>undef,0,.lit 0,true⟩
def strP (X:Nat->BitVec 8) (k:Nat):Prop:=0+k<=k/\∀ i,i<k->qj7 (q1a X i)
def agP (D:RfD) (m:Int):List Prop:=[(agDC es c sk lm cl fe).w,(agDC es c sk lm cl fe).w,((es.length:Int) != m)=false,(agDC es c sk lm cl fe).w,(cl != cl)=false,(agDC es c sk lm cl fe).w,strP (agDC es c sk lm cl fe).x (agDC es c sk lm cl fe).n,D.w,strP D.x D.bN,
 (!decide (qtj (q1a (agDC es c sk lm cl fe).x) 0 (agDC es c sk lm cl fe).n=qtj (q1a D.x) 0 D.bN))=false]
theorem jlh:outL [] (agC es c sk lm cl fe W n (rowM (lsM es)) es.length 0) n12 (agT es c sk lm cl fe W n (some (2,0))) [false,false,false] z=(agP es c sk lm cl fe (agDR sk lm cl fe W n) (n:Int),some (.inr (qib [(0,7,.int .i64 (.lit 0))] [(9,.ent (.own (.lst [.int .i64 (.lit 0)]) true 3))] (qra n12 12 (agC es c sk lm cl fe W n (rowM (lsM es)) es.length 0))))):=by kernel_rfl
theorem jsk:outL [1] (agC es c sk lm cl fe W n (rowM (lsM es)) es.length 0) n12 (agN es c sk lm cl fe none) [false,false,false,false] z=(app (agP es c sk lm cl fe (agDN sk lm cl fe) 0) [decide ((0:Int)<(es.length:Int))=false],some (.inl (.bool (.lit true),[some (.obj (.amap kMk uMk es c))]))):=by kernel_rfl
theorem jmh (U:Nat->Value) (m i:Nat):(((agC es c sk lm cl fe W n U m i).frames[0]?).bind fun p=>p.tmps[7]?)=some (some (.int .i64 (.sym (i:Int)))):=by kernel_rfl
end
end
noncomputable section
open Go.Sim
open Go.Proofs
variable {α:Type}
set_option maxRecDepth 1000000
theorem qu0 {l:List Mk} {j:Nat} (hj:j<l.length):fitD (rowM l) (0+j * 33+1):=by
 obtain ⟨h1,h2⟩:=qud hj
 unfold fitD
 have e:mapN (fun i=>SV.val (rowM l (0+j * 33+1+i))) (qka 32 0)=((List.range 32).map fun i=>rowM l (0+j * 33+1+i)).map SV.val:=by
  rw [qma,q5a,← List.range_eq_range',List.map_map]; rfl
 rw [e]
 refine qbp fun i x k hx hk => ?_
 rw [List.getElem?_map,Option.map_eq_some_iff] at hx
 obtain ⟨i',hi',rfl⟩:=hx
 obtain ⟨hi,rfl⟩:i<32/\i=i':=by
  obtain ⟨h,he⟩:=List.getElem?_eq_some_iff.1 hi'
  simp at h he
  exact ⟨h,he⟩
 rw [q9c] at hk
 have hk:k=.i .u8:=(List.eq_of_mem_replicate (List.mem_of_getElem? hk))
 rw [hk,show 0+j * 33+1+i=j * 33+(i+1) by omega,h2 i hi]
 exact qcy _
theorem qn3 {l:List Mk} {j:Nat} (_hj:j<l.length):eqD (rowM l) (0+j * 33) (rowM l) (0+j * 33+1)=true:=by
 obtain ⟨s,h1,h2⟩:=q1r (fun t=>BitVec.ofInt 8 (vNum (rowM l (0+j * 33+(t+1))))) (fun t=>BitVec.ofInt 8 (vNum (rowM l (0+j * 33+1+t)))) (List.range 32)
 unfold eqD
 rw [qma,qma,q5a,← List.range_eq_range',q9c]
 rw [List.length_range] at h1
 rw [h1,q9t,h2]
 intro t _
 show BitVec.ofInt 8 (vNum (rowM l (0+j * 33+(t+1))))=BitVec.ofInt 8 (vNum (rowM l (0+j * 33+1+t)))
 rw [show 0+j * 33+(t+1)=0+j * 33+1+t by omega]
section
variable {es:List MapEntry} {c:Nat} {sk lm cl fe:Int}
def agD (es:List MapEntry) (c:Nat) (v:SV) (H:List SO):Prop:=∃ b,v=.bool b/\b.den=true/\H[1]? = some (.obj (.amap kMk uMk es c))
theorem qo3 (h:ChW es c sk lm cl fe) {D:RfD} (hD:D.w) (hx:D.x=(agDC es c sk lm cl fe).x) (hb:D.bN=(agDC es c sk lm cl fe).n) {m:Int} (hm:(es.length:Int)=m):∀ p∈agP es c sk lm cl fe D m,p:=by
 have hs:∀ X k,strP X k:=fun X k=>⟨by omega,fun i _=>trivial⟩
 refine all_cons h (all_cons h (all_cons (by simp [hm]) (all_cons h (all_cons (by simp) (all_cons h (all_cons (hs _ _) (all_cons hD (all_cons (hs _ _) (all_cons ?_ qaa)))))))))
 rw [hx,hb]; simp
theorem jnh (h:ChW es c sk lm cl fe):Runs cfgAg 10 [.ptr ⟨0,.lit 0⟩,rfA sk lm cl fe (rfL 2 (lsM es).length)] [chRw 1 sk lm cl fe,.obj (.amap kMk uMk es c),rfW (rowM (lsM es)) (lsM es).length] (agD es c):=by
 have hl:=h.len
 have hz:es.length<=65536:=by have:=h.sz; have:=h.hlm; omega
 have hw:(agDR sk lm cl fe (rowM (lsM es)) (lsM es).length).w:=⟨fun _=>⟨Nat.le_refl _,(que (lsM es)).1⟩,by show LsW (mkL (rowM (lsM es)) (lsM es).length) _ _ _ _; rw [(que (lsM es)).2]; exact h.ls⟩
 have hDl:(agDR sk lm cl fe (rowM (lsM es)) (lsM es).length).l=lsM es:=(que (lsM es)).2
 refine qbd qm3 (fun i=>agC es c sk lm cl fe (rowM (lsM es)) (lsM es).length (rowM (lsM es)) es.length i) (fun i=>i<=es.length) (fun i=>es.length - i) (fun g nm hg=>by cases hg) ?_ fun i hi J => ?_
 . refine qhd (ms:=[(0,7,.int .i64 (.lit 0))]) (es:=[(9,.ent (.own (.lst [.int .i64 (.lit 0)]) true 3))]) (ds:=[false,false,false]) (names:=n12) (N:=12) (M:=agC es c sk lm cl fe (rowM (lsM es)) (lsM es).length (rowM (lsM es)) es.length 0) (some (2,0)) 20000 0 (Nat.zero_le _) (fun z=>jlh es c sk lm cl fe (rowM (lsM es)) (lsM es).length z) (ag_n es c sk lm cl fe (rowM (lsM es)) (rowM (lsM es)) (lsM es).length es.length 0 0) (fun q hq p v hp hv => ?_) (fun e he E0 hE0 => ?_) (qo3 h hw ?_ ?_ (by rw [hl]))
   . obtain rfl:=List.mem_singleton.1 hq
     exact q4c (jmh es c sk lm cl fe (rowM (lsM es)) (lsM es).length (rowM (lsM es)) es.length 0) hp hv (qna rfl)
   . obtain rfl:=List.mem_singleton.1 he
     cases hE0
     exact ⟨_,rfl,fun γ vs hv=>hv⟩
   . unfold RfD.x riX riNs
     rw [hDl,← hl]; rfl
   . unfold RfD.bN
     rw [hDl,← hl]; rfl
 show q6b cfgAg _ _ _ _ ((agC es c sk lm cl fe (rowM (lsM es)) (lsM es).length (rowM (lsM es)) es.length i).fill J)
 by_cases hc:i<es.length
 . have hil:i<(lsM es).length:=by omega
   have e0:rowM (lsM es) (0+i * 33+0)=.int .i64 (lsM es)[i].1:=by rw [Nat.zero_add,Nat.add_zero]; exact (qud hil).1
   exact q7b (ds:=[true,false,false,false]) (names:=n12) (N:=14) (M:=agC es c sk lm cl fe (rowM (lsM es)) (lsM es).length (rowM (lsM es)) es.length i) (some (2,0)) 20000 (i+1) ⟨hc,by show es.length - (i+1)<es.length - i; omega⟩ (fun z=>jkh es c sk lm cl fe (rowM (lsM es)) (rowM (lsM es)) (lsM es).length es.length i J z) (ag_n es c sk lm cl fe (rowM (lsM es)) (rowM (lsM es)) (lsM es).length es.length (i+1) i)
    (all_cons (decide_eq_true (by omega)) (all_cons ⟨by omega,by omega⟩ (all_cons (by omega) (all_cons (qdi hil) (all_cons (decide_eq_false (by omega)) (all_cons ⟨by omega,by omega⟩ (all_cons (by omega) (all_cons (by rw [e0]; exact fun _=>rfl) (all_cons (by simp) (all_cons ⟨by omega,by omega⟩ (all_cons (by omega) (all_cons (qu0 hil) (all_cons (by rw [qn3 hil]; rfl) (all_cons ⟨by omega,by omega⟩ (all_cons ⟨by omega,by omega⟩ qaa)))))))))))))))
 . refine qec (js:=[1]) (names:=n12) (M:=agC es c sk lm cl fe (rowM (lsM es)) (lsM es).length (rowM (lsM es)) es.length i) none 20000 (fun z=>jrk es c sk lm cl fe (rowM (lsM es)) (rowM (lsM es)) (lsM es).length es.length i J z) (all_cons (decide_eq_false (by omega)) qaa) fun H hH=>⟨_,rfl,?_,(List.cons.inj hH).1⟩
   show decide ((i:Int)=((lsM es).length:Int))=true
   exact decide_eq_true (by omega)
end
theorem q91 {es:List MapEntry} {c:Nat} {sk lm cl fe:Int} (h:ChW es c sk lm cl fe) (hl:lsM es=[]):Runs cfgAg 10 [.ptr ⟨0,.lit 0⟩,rfA sk lm cl fe .nilSlice] [chRw 1 sk lm cl fe,.obj (.amap kMk uMk es c)] (agD es c):=by
 have hlen:es.length=0:=by rw [h.len,hl]; rfl
 have hw:(agDN sk lm cl fe).w:=⟨fun h=>(by cases h),by show LsW [] sk lm cl fe; have:=h.ls; rwa [hl] at this⟩
 refine qbd qm3 (fun _:Unit=>agC es c sk lm cl fe (rowM (lsM es)) 0 (rowM (lsM es)) es.length 0) (fun _=>False) (fun _=>0) (fun g nm hg=>by cases hg) ?_ fun a ha J=>ha.elim
 refine qww none 20000 (fun z=>jsk es c sk lm cl fe (rowM (lsM es)) 0 z) (qtd (qo3 h hw ?_ ?_ (by rw [hlen]; rfl)) (all_cons (decide_eq_false (by omega)) qaa)) fun H hH=>⟨_,rfl,rfl,(List.cons.inj hH).1⟩
 . show imgB [sk,lm,cl,fe+1,((0:Nat):Int)] []=imgB [sk,lm,cl,fe+1,(es.length:Int)] (lsM es)
   rw [hlen,hl]
 . show 40+40 * 0=40+40 * es.length
   rw [hlen]
def qau (d:ChD) (D:RfD):Prop:=lsM d.es=D.l/\D.sk.den=d.sk.den/\D.lm.den=d.lm.den/\D.cl.den=d.cl.den/\D.fe.den=d.fe.den
def agSm:Summ:=fun args H _=>qkd args fun p v=>chRd H p fun d=>rfV H v fun D=>.need (d.w/\D.w/\qau d D) (.ok ⟨.bool (.lit true),[],[]⟩)
theorem agOK:qdb Tryd.prog 10 agSm:=by
 intro glob O w0 β H w base args vs hH hG ha
 refine qrb fun p v hv=>qci fun d hd=>q3j fun D hD => ?_
 rintro ⟨hw,hW,e1,e2,e3,e4,e5⟩
 rw [hv,hd.ptr] at ha
 have hb:∀ {v:SV} {H2:List SO},agD d.es d.c v H2->∀ (g:Nat->Nat) (p:Nat->Bool),(v.ren g).Imp (.bool (.lit true))/\v.uses p=true:=fun {v H2} ⟨b,h1,h2,_⟩ g p=>by
  subst h1
  refine ⟨fun γ x hx => ?_,rfl⟩
  have hx:some (Value.bool b.den)=some x:=hx
  rw [h2] at hx
  exact hx
 refine qrg (k':=kMk) (v':=uMk) hH hd.map ?_
 cases hn:D.nil with
 | true =>
   obtain ⟨hi,hl⟩:=q7l hD hn
   have hi:v.Imp (rfA d.sk.den d.lm.den d.cl.den d.fe.den .nilSlice):=by rw [← e2,← e3,← e4,← e5]; exact hi
   exact qid (c:=cfgAg) hH (chJ d [rfA d.sk.den d.lm.den d.cl.den d.fe.den .nilSlice]) (by intro g j hg; cases hg) (qba (.refl _) (qba hi qwa) _ _ ha) (qug hd rfl) [] (by simp) (by simp) (qlb (q91 hw (e1.trans hl)) fun v H2 h=>⟨(hb h _ fun _=>true).1,(hb h id _).2,qvg (let ⟨_,_,_,h3⟩:=h; h3),trivial⟩)
 | false =>
   obtain ⟨er,her,hor⟩:=hD.row hn
   obtain ⟨ec,hec,hoc⟩:=hd.cell
   obtain ⟨r1,r2⟩:=hW.row hn
   have hne1:D.nm≠d.nm:=fun e=>by
    rw [e,hec] at her
    cases her
    rcases hor with rfl | ⟨_,_,rfl⟩ <;> rcases hoc with h | ⟨_,_,h⟩ <;> cases h
   have hne2:D.nm≠d.mm:=fun e=>by
    rw [e,hd.map] at her
    cases her
    rcases hor with h | ⟨_,_,h⟩ <;> cases h
   have hlen:(lsM d.es).length=D.n.den:=by rw [e1]; exact RfD.len
   let I:Ifc:=⟨[d.nm,d.mm,D.nm],[chRw 1 d.sk.den d.lm.den d.cl.den d.fe.den,.obj (.amap kMk uMk d.es d.c),rfW (rowM (lsM d.es)) (lsM d.es).length],[.ptr ⟨0,.lit 0⟩,rfA d.sk.den d.lm.den d.cl.den d.fe.den (rfL 2 (lsM d.es).length)]⟩
   have hF:I.FitsQ H:=by
    refine Ifc.fitsQ (by show [d.nm,d.mm,D.nm].Nodup; simp; exact ⟨⟨hd.ne,fun e=>hne1 e.symm⟩,fun e=>hne2 e.symm⟩) rfl ⟨⟨⟨_,hec,_,hoc,fun γ us hu=>⟨us.length,?_⟩⟩,rfl⟩,⟨⟨_,hd.map,_,rfl,fun _ _ h=>h⟩,rfl⟩,⟨⟨_,her,_,hor,fun γ us ⟨g1,g2⟩=>⟨(lsM d.es).length * 33,?_,fun i x hx => ?_⟩⟩,trivial⟩,trivial⟩
    . rw [List.take_length]
      have:SV.renL I.big (chC 1 d.sk.den d.lm.den d.cl.den d.fe.den)=chC d.mm d.sk.den d.lm.den d.cl.den d.fe.den:=rfl
      show SV.denL γ (SV.renL _ _)=some us
      rw [this]
      exact qba (qna rfl) (qba (qna rfl) (qba (qna rfl) (qba (qna rfl) (qba (.refl _) qwa)))) _ _ hu
    . rw [List.length_take]; omega
    . have hi:i<(lsM d.es).length * 33:=by
       have:=(List.getElem?_eq_some_iff.1 hx).1
       rw [List.length_take] at this; omega
      rw [List.getElem?_take,if_pos hi] at hx
      rw [g2 i x hx,e1]
      exact q1j r2 i (by omega)
   have hv2:v.Imp ((rfA d.sk.den d.lm.den d.cl.den d.fe.den (rfL 2 (lsM d.es).length)).ren I.big):=by
    have e:(rfA d.sk.den d.lm.den d.cl.den d.fe.den (rfL 2 (lsM d.es).length)).ren I.big=rfA d.sk.den d.lm.den d.cl.den d.fe.den (.slice ⟨D.nm,.lit 0⟩ (.sym (lsM d.es).length) (.rest D.nm 0)):=rfl
    rw [e,hD.val,← e2,← e3,← e4,← e5]
    refine q7t ?_
    unfold RfD.L
    rw [hn]
    exact q7c hlen.symm
   exact qid (c:=cfgAg) hH I (by intro g j hg; cases hg) (qba (.refl _) (qba hv2 qwa) _ _ ha) hF [] (by simp) (by simp) (qlb (jnh hw) fun v H2 h=>⟨(hb h _ fun _=>true).1,(hb h id _).2,⟨⟨rfl,.inr ⟨_,_,(let ⟨_,_,_,h3⟩:=h; h3),rfl,fun _ _ h=>h,rfl⟩⟩,trivial⟩,trivial⟩)
end
noncomputable section
open Go.Sim
open Go.Proofs
variable {α:Type}
def qoj:Nat->Option Nat:=fun g=>boolC (Nat.beq g 0) (some 0) (boolC (Nat.beq g 2) (some 1) none)
def startL:List Nat:=[0x6a09e667,0xbb67ae85,0x3c6ef372,0xa54ff53a,0x510e527f,0x9b05688c,0x1f83d9ab,0x5be0cd19]
def constL:List Nat:=[
 0x428a2f98,0x71374491,0xb5c0fbcf,0xe9b5dba5,0x3956c25b,0x59f111f1,0x923f82a4,0xab1c5ed5,
 0xd807aa98,0x12835b01,0x243185be,0x550c7dc3,0x72be5d74,0x80deb1fe,0x9bdc06a7,0xc19bf174,
 0xe49b69c1,0xefbe4786,0x0fc19dc6,0x240ca1cc,0x2de92c6f,0x4a7484aa,0x5cb0a9dc,0x76f988da,
 0x983e5152,0xa831c66d,0xb00327c8,0xbf597fc7,0xc6e00bf3,0xd5a79147,0x06ca6351,0x14292967,
 0x27b70a85,0x2e1b2138,0x4d2c6dfc,0x53380d13,0x650a7354,0x766a0abb,0x81c2c92e,0x92722c85,
 0xa2bfe8a1,0xa81a664b,0xc24b8b70,0xc76c51a3,0xd192e819,0xd6990624,0xf40e3585,0x106aa070,
 0x19a4c116,0x1e376c08,0x2748774c,0x34b0bcb5,0x391c0cb3,0x4ed8aa4a,0x5b9cca4f,0x682e6ff3,
 0x748f82ee,0x78a5636f,0x84c87814,0x8cc70208,0x90befffa,0xa4506ceb,0xbef9a3f7,0xc67178f2]
abbrev W32:=BitVec 32
def wd (n:Nat):W32:=BitVec.ofNat 32 n
def wi (n:Nat):W32:=BitVec.ofInt 32 (Int.ofNat n)
def wx (l:List W32):List SV:=mapN (fun x=>.int .u32 (.b32 x)) l
def kx (k:IntKind) (l:List Nat):List SV:=mapN (fun n=>.int k (.lit (Int.ofNat n))) l
def q3c:List W32:=mapN wi startL
def constV':List W32:=mapN wi constL
def qvh:SO:=.row (.lst (kx .u32 startL))
def qwh:SO:=.row (.lst (kx .u32 constL))
def anyR:SO:=.row (.lst [])
def qey (l:List SO):List SO:=qvh::qwh::anyR::anyR::l
theorem q1w {f:Nat->Nat} {e:Option SO} (h:qbv e=true):∃ e',e=some e'/\Taken f anyR e':=by
 cases e with
 | none=>cases h
 | some e =>
   have hf:∀ c:Cells,c.Front ((Cells.lst []).ren f):=fun c β vs _=>⟨0,by rw [List.take_zero]; rfl⟩
   cases e with
   | own c w el=>exact ⟨_,rfl,q3i (.inr ⟨_,_,rfl⟩) (hf c)⟩
   | row c=>exact ⟨_,rfl,q3i (.inl rfl) (hf c)⟩
   | loop=>cases h
   | deferred=>cases h
   | gone=>cases h
   | obj=>cases h
theorem qbu (k:IntKind) (f:Nat->Nat):∀ xs,SV.renL f (kx k xs)=kx k xs
 | []=>rfl
 | x::xs=>by show _::SV.renL f (kx k xs)=_; rw [qbu k f xs]; rfl
theorem q5d (k:IntKind) (p:Nat->Bool):∀ xs,SV.usesL p (kx k xs)=true
 | []=>rfl
 | x::xs=>by show (true && SV.usesL p (kx k xs))=true; rw [q5d k p xs]; rfl
theorem qcu (f:Nat->Nat):∀ xs,SV.renL f (wx xs)=wx xs
 | []=>rfl
 | x::xs=>by show _::SV.renL f (wx xs)=_; rw [qcu f xs]; rfl
theorem qnv (p:Nat->Bool):∀ xs,SV.usesL p (wx xs)=true
 | []=>rfl
 | x::xs=>by show (true && SV.usesL p (wx xs))=true; rw [qnv p xs]; rfl
def litK (k:IntKind) (v:SV):Option Nat:=v.asInt none fun k' n=>boolC (eqK k' k) (n.asLit none fun n=>intC n some fun _=>none) none
theorem q59 {k:IntKind} {v:SV} {n:Nat} (h:litK k v=some n):v=.int k (.lit (.ofNat n)):=by
 unfold litK at h
 rcases qbc v with ⟨k',m,rfl⟩ | hv
 . obtain ⟨hk,h⟩:=q4b (show boolC (eqK k' k) (m.asLit none fun n=>intC n some fun _=>none) none=some n from h)
   rw [qxf hk]
   cases m with
   | lit m=>cases m with
     | ofNat m=>cases h; rfl
     | negSucc m=>cases h
   | sym=>cases h
   | b8=>cases h
   | b32=>cases h
   | b64=>cases h
 . rw [hv] at h; cases h
def isK (k:IntKind) (L:List Nat):List SV->Bool :=
 List.rec (motive:=fun _=>List SV->Bool) (fun l=>nilN l) (fun t _ ih l=>List.rec (motive:=fun _=>Bool) false (fun v r _=>optC (litK k v) false fun x=>boolC (Nat.beq x t) (ih r) false) l) L
theorem qv0 {k:IntKind}:∀ {L:List Nat} {l:List SV},isK k L l=true->l=kx k L
 | [],[],_=>rfl
 | [],_::_,h=>by cases h
 | t::L,[],h=>by cases h
 | t::L,v::l,h=>by
   have h:(optC (litK k v) false fun x=>boolC (Nat.beq x t) (isK k L l) false)=true:=h
   cases hx:litK k v with
   | none=>rw [hx] at h; cases h
   | some x =>
     rw [hx] at h
     have h:boolC (Nat.beq x t) (isK k L l) false=true:=h
     cases he:Nat.beq x t with
     | false=>rw [he] at h; cases h
     | true =>
       rw [he] at h
       rw [q59 hx,q8b he,qv0 (L:=L) (l:=l) h]; rfl
def rowK (k:IntKind) (L:List Nat) (e:Option SO):Bool:=optC (qse e) false fun l=>isK k L l
theorem q8i {k:IntKind} {L:List Nat} {e:Option SO} (h:rowK k L e=true) (g:Nat->Nat):∃ e',e=some e'/\Taken g (.row (.lst (kx k L))) e':=by
 unfold rowK at h
 cases hc:qse e with
 | none=>rw [hc] at h; cases h
 | some l =>
   rw [hc] at h
   rw [qv0 h] at hc
   exact qil hc (by rw [qbu]; exact .refl _)
def qfy (v:SV) (nm n:Nat):Bool:=v.asSlice false fun a l c=>boolC (Nat.beq a.nm nm) (a.off.asLit false fun o=>boolC (Nat.beq o 0) (l.asLit false fun m=>boolC (Nat.beq m n) (SC.rec (motive:=fun _=>Bool) (fun k=>Nat.beq k n) (fun _=>false) (fun _ _=>false) c) false) false) false
theorem asSlice_cases (v:SV):(∃ a l c,v=.slice a l c)\/∀ {γ:Type} (d:γ) (f:SA->SN->SC->γ),v.asSlice d f=d:=by
 cases v <;> first | exact .inl ⟨_,_,_,rfl⟩ | exact .inr fun _ _=>rfl
theorem qon {b c:Bool} (h:boolC b c false=true):b=true/\c=true:=by cases b <;> first | exact ⟨rfl,h⟩ | cases h
theorem qo6 {v:SV} {nm n:Nat} (h:qfy v nm n=true):v=.slice ⟨nm,.lit 0⟩ (.lit n) (.lit n):=by
 unfold qfy at h
 rcases asSlice_cases v with ⟨⟨q,o⟩,l,c,rfl⟩ | hv
 . obtain ⟨h1,h⟩:=qon h
   cases o <;> first | (cases h; done) | skip
   obtain ⟨h2,h⟩:=qon h
   cases l <;> first | (cases h; done) | skip
   obtain ⟨h3,h⟩:=qon h
   cases c <;> first | (cases h; done) | skip
   have h1:=q8b h1
   have h2:=q8b h2
   have h3:=q8b h3
   have h4:=q8b h
   subst h1 h2 h3 h4; rfl
 . rw [hv] at h; cases h
def qp6 (H:List SO) (r:R α):R α:=boolC (rowK .u32 startL (nth H 0)) (boolC (rowK .u32 constL (nth H 1)) (boolC (qbv (nth H 2)) (boolC (qbv (nth H 3)) r (.stuck 730)) (.stuck 731)) (.stuck 732)) (.stuck 733)
structure ShaTP (H:List SO):Prop where
 s0:∀ g,∃ e',H[0]? = some e'/\Taken g qvh e'
 s1:∀ g,∃ e',H[1]? = some e'/\Taken g qwh e'
 s2:∀ g,∃ e',H[2]? = some e'/\Taken g anyR e'
 s3:∀ g,∃ e',H[3]? = some e'/\Taken g anyR e'
theorem q2w {H:List SO} {r:R α} {φ:α->Prop} (h:ShaTP H->r.Sat φ):(qp6 H r).Sat φ:=by
 refine qva fun h0=>qva fun h1=>qva fun h2=>qva fun h3=>h ⟨fun g => ?_,fun g => ?_,fun g => ?_,fun g => ?_⟩
 . rw [← qfa]; exact q8i h0 g
 . rw [← qfa]; exact q8i h1 g
 . rw [← qfa]; exact q1w h2
 . rw [← qfa]; exact q1w h3
def qbg (names:List Nat) (ents:List SO) (args:List SV):Ifc:=⟨0::1::2::3::names,qey ents,args⟩
theorem qpn {H:List SO} (hT:ShaTP H) {names:List Nat} {ents:List SO} {args:List SV} (h:EntsOK (qbg names ents args).big (qbg names ents args).known H names ents):EntsOK (qbg names ents args).big (qbg names ents args).known H (qbg names ents args).names (qbg names ents args).ents :=
 ⟨⟨hT.s0 _,q5d _ _ _⟩,⟨hT.s1 _,q5d _ _ _⟩,⟨hT.s2 _,rfl⟩,⟨hT.s3 _,rfl⟩,h⟩
theorem qqn {β:Val} {names:List Nat} {ents:List SO} {args:List SV} (hG:GlobRel qoj β):∀ g j,qoj g=some j->(qbg names ents args).known j=true/\∃ l,β ((qbg names ents args).big j)=some l/\l.blk=g/\l.off=0:=by
 intro g j hg
 have hj:j=0\/j=1:=by
  rcases q2c (show boolC (Nat.beq g 0) (some 0) _=some j from hg) with ⟨_,h⟩ | h
  . cases h; exact .inl rfl
  obtain ⟨_,h⟩:=q4b h
  cases h; exact .inr rfl
 rcases hj with rfl | rfl
 . exact ⟨rfl,hG g 0 hg⟩
 . exact ⟨rfl,hG g 1 hg⟩
def rrt (x:W32) (n:Nat):W32:=x <<< (32 - n) ||| x >>> n
def tur2 (x:W32) (a b:Nat):W32:=BitVec.ofInt 32 0 ^^^ rrt x a ^^^ rrt x b
def tur3 (x:W32) (a b c:Nat):W32:=BitVec.ofInt 32 0 ^^^ rrt x a ^^^ rrt x b ^^^ rrt x c
def un32 (v:SV):Option W32:=v.asInt none fun k n=>boolC (eqK k .u32) (SI.rec (motive:=fun _=>Option W32) (fun _=>none) (fun _=>none) (fun _=>none) (fun x=>some x) (fun _=>none) n) none
theorem q4k {v:SV} {x:W32} (h:un32 v=some x):v=.int .u32 (.b32 x):=by
 unfold un32 at h
 rcases qbc v with ⟨k,n,rfl⟩ | hv
 . obtain ⟨hk,h⟩:=q4b (show boolC (eqK k .u32) (SI.rec (motive:=fun _=>Option W32) (fun _=>none) (fun _=>none) (fun _=>none) (fun x=>some x) (fun _=>none) n) none=some x from h)
   rw [qxf hk]
   cases n <;> first | (cases h; rfl) | cases h
 . rw [hv] at h; cases h
def unL (l:List SV):Option (List Nat):=List.rec (motive:=fun _=>Option (List Nat)) (some []) (fun v _ ih=>optC (litI v) none fun x=>optC ih none fun xs=>some (x::xs)) l
def ix (l:List Nat):List SV:=mapN (fun n=>.int .i64 (.lit (Int.ofNat n))) l
theorem qw0:∀ {l:List SV} {xs:List Nat},unL l=some xs->l=ix xs
 | [],xs,h=>by cases h; rfl
 | v::l,xs,h=>by
   obtain ⟨x,hx,h⟩:=qwf (show (optC (litI v) none fun x=>optC (unL l) none fun xs=>some (x::xs))=some xs from h)
   obtain ⟨ys,hy,h⟩:=qwf h
   cases h
   rw [qpw hx,qw0 hy]; rfl
def q7p (a:List Nat):List Nat->Bool:=List.rec (motive:=fun _=>List Nat->Bool) (fun b=>nilN b) (fun x _ ih b=>List.rec (motive:=fun _=>Bool) false (fun y r _=>boolC (Nat.beq x y) (ih r) false) b) a
theorem qxh:∀ {a b:List Nat},q7p a b=true->a=b
 | [],[],_=>rfl
 | [],_::_,h=>by cases h
 | x::a,[],h=>by cases h
 | x::a,y::b,h=>by
   have h:boolC (Nat.beq x y) (q7p a b) false=true:=h
   cases hx:Nat.beq x y with
   | false=>rw [hx] at h; cases h
   | true =>
     rw [hx] at h
     rw [q8b hx,qxh h]
theorem q3q (x:W32) (a b:Nat) (h:(a=17/\b=19)\/(a=7/\b=18)):outP [] (qea cfg0 2000 65 [.int .u32 (.b32 x),.slice ⟨0,.lit 0⟩ (.lit 2) (.lit 2)] [.row (.lst (ix [a,b]))])=([],some (.int .u32 (.b32 (tur2 x a b)),[])):=by
 rcases h with ⟨rfl,rfl⟩ | ⟨rfl,rfl⟩ <;> kernel_rfl
theorem q4q (x:W32) (a b c:Nat) (h:(a=6/\b=11/\c=25)\/(a=2/\b=13/\c=22)):outP [] (qea cfg0 2000 65 [.int .u32 (.b32 x),.slice ⟨0,.lit 0⟩ (.lit 3) (.lit 3)] [.row (.lst (ix [a,b,c]))])=([],some (.int .u32 (.b32 (tur3 x a b c)),[])):=by
 rcases h with ⟨rfl,rfl,rfl⟩ | ⟨rfl,rfl,rfl⟩ <;> kernel_rfl
def w32R (x:W32):R SumRes:=.ok ⟨.int .u32 (.b32 x),[],[]⟩
def isSl (v:SV) (n:Nat) (f:Nat->R α):R α:=v.asSlice (.stuck 720) fun a l c=>a.off.asLit (.stuck 720) fun o=>boolC (Nat.beq o 0) (l.asLit (.stuck 720) fun m=>boolC (Nat.beq m n) (SC.rec (motive:=fun _=>R α) (fun k=>boolC (Nat.beq k n) (f a.nm) (.stuck 720)) (fun _=>.stuck 720) (fun _ _=>.stuck 720) c) (.stuck 720)) (.stuck 720)
theorem qx0 {v:SV} {n:Nat} {f:Nat->R α} {φ:α->Prop} (h:∀ nm,v=.slice ⟨nm,.lit 0⟩ (.lit n) (.lit n)->(f nm).Sat φ):(isSl v n f).Sat φ:=by
 unfold isSl
 rcases asSlice_cases v with ⟨⟨nm,o⟩,l,c,rfl⟩ | hv
 . cases o with
   | lit o =>
     refine qva fun ho => ?_
     cases l with
     | lit m =>
       refine qva fun hm => ?_
       cases c with
       | lit k =>
         refine qva fun hk=>h nm ?_
         rw [q8b ho,q8b hm,q8b hk]
       | sym=>trivial
       | rest=>trivial
     | sym=>trivial
     | byt=>trivial
   | sym=>trivial
   | byt=>trivial
 . rw [hv]; trivial
def turS:Summ:=fun args H _=>qkd args fun v sl=>optC (un32 v) (.stuck 721) fun x =>
 sl.asSlice (.stuck 722) fun _ l _=>l.asLit (.stuck 722) fun n=>boolC (Nat.beq n 2)
  (isSl sl 2 fun nm=>optC (qse (nth H nm)) (.stuck 723) fun cs=>optC (unL cs) (.stuck 723) fun ns=>boolC (q7p ns [17,19]) (w32R (tur2 x 17 19)) (boolC (q7p ns [7,18]) (w32R (tur2 x 7 18)) (.stuck 723)))
  (isSl sl 3 fun nm=>optC (qse (nth H nm)) (.stuck 723) fun cs=>optC (unL cs) (.stuck 723) fun ns=>boolC (q7p ns [6,11,25]) (w32R (tur3 x 6 11 25)) (boolC (q7p ns [2,13,22]) (w32R (tur3 x 2 13 22)) (.stuck 723)))
theorem q69 (f:Nat->Nat):∀ xs,SV.renL f (ix xs)=ix xs
 | []=>rfl
 | x::xs=>by show _::SV.renL f (ix xs)=_; rw [q69 f xs]; rfl
theorem qp3 (p:Nat->Bool):∀ xs,SV.usesL p (ix xs)=true
 | []=>rfl
 | x::xs=>by show (true && SV.usesL p (ix xs))=true; rw [qp3 p xs]; rfl
theorem turOK:qdb Tryd.prog 65 turS:=by
 intro glob O w0 β H w base args vs hH hG ha
 refine qrb fun v sl hv=>qda fun x hx => ?_
 have key:∀ (nm n:Nat) (cs:List SV) (ns:List Nat) (y:W32),sl=.slice ⟨nm,.lit 0⟩ (.lit n) (.lit n)->qse (nth H nm)=some cs->unL cs=some ns ->
   outP [] (qea cfg0 2000 65 [.int .u32 (.b32 x),.slice ⟨0,.lit 0⟩ (.lit n) (.lit n)] [.row (.lst (ix ns))])=([],some (.int .u32 (.b32 y),[]))->(w32R y).Sat (SumSem Tryd.prog H β w base 65 vs):=by
  intro nm n cs ns y hs hc hn hrun
  rw [hv,q4k hx,hs] at ha
  rw [qfa] at hc
  have ht:∀ g,∃ e',H[nm]? = some e'/\Taken g (.row (.lst (ix ns))) e':=fun g=>qil hc (by rw [q69,qw0 hn]; exact .refl _)
  exact q1p qkk rfl 2000 hH ⟨[nm],[.row (.lst (ix ns))],[.int .u32 (.b32 x),.slice ⟨0,.lit 0⟩ (.lit n) (.lit n)]⟩ ha
   (Ifc.fits (by simp) rfl ⟨⟨ht _,qp3 _ _⟩,trivial⟩) [] (by simp) (by simp) hrun qaa fun _ _=>qvt rfl rfl rfl
 rcases asSlice_cases sl with ⟨a,l,c,hsl⟩ | hno
 . rw [hsl]
   show R.Sat (l.asLit _ _) _
   refine SN.asLit_sat (fun n _ => ?_) fun _=>trivial
   rw [← hsl]
   refine qvf (fun _=>qx0 fun nm hs=>qda fun cs hcs=>qda fun ns hns => ?_) fun _=>qx0 fun nm hs=>qda fun cs hcs=>qda fun ns hns => ?_
   . refine qvf (fun h1 => ?_) fun _=>qva fun h1 => ?_
     . have:=qxh h1; subst this
       exact key nm 2 cs _ _ hs hcs hns (q3q x 17 19 (.inl ⟨rfl,rfl⟩))
     . have:=qxh h1; subst this
       exact key nm 2 cs _ _ hs hcs hns (q3q x 7 18 (.inr ⟨rfl,rfl⟩))
   . refine qvf (fun h1 => ?_) fun _=>qva fun h1 => ?_
     . have:=qxh h1; subst this
       exact key nm 3 cs _ _ hs hcs hns (q4q x 6 11 25 (.inl ⟨rfl,rfl,rfl⟩))
     . have:=qxh h1; subst this
       exact key nm 3 cs _ _ hs hcs hns (q4q x 2 13 22 (.inr ⟨rfl,rfl,rfl⟩))
 . rw [hno]; trivial
def qcp (F:W32->W32->W32->W32):Summ:=fun args _ _=>q0p args fun a b c=>optC (un32 a) (.stuck 724) fun x=>optC (un32 b) (.stuck 724) fun y=>optC (un32 c) (.stuck 724) fun z=>w32R (F x y z)
theorem qq3 {f:FuncId} {F:W32->W32->W32->W32} (hrun:∀ x y z:W32,outP [] (qea cfg0 200 f [.int .u32 (.b32 x),.int .u32 (.b32 y),.int .u32 (.b32 z)] [])=([],some (.int .u32 (.b32 (F x y z)),[]))):qdb Tryd.prog f (qcp F):=by
 intro glob O w0 β H w base args vs hH hG ha
 refine q4i fun a b c hv=>qda fun x hx=>qda fun y hy=>qda fun z hz => ?_
 rw [hv,q4k hx,q4k hy,q4k hz] at ha
 exact q1p qkk rfl 200 hH ⟨[],[],[.int .u32 (.b32 x),.int .u32 (.b32 y),.int .u32 (.b32 z)]⟩ ha (qut rfl) [] (by simp) (by simp) (hrun x y z) qaa fun _ _=>qvt rfl rfl rfl
def qcg (x y z:W32):W32:=x &&& y ^^^ ((BitVec.ofInt 32 4294967295 ^^^ x) &&& z)
def majW (x y z:W32):W32:=x &&& y ^^^ x &&& z ^^^ y &&& z
theorem jxc:qdb Tryd.prog 66 (qcp qcg):=qq3 fun x y z=>by kernel_rfl
theorem majOK:qdb Tryd.prog 67 (qcp majW):=qq3 fun x y z=>by kernel_rfl
def jgf:Cfg:=cfgG qoj (qdc [(65,turS),(66,qcp qcg),(67,qcp majW)])
theorem allS {glob:Nat->Option Nat} {x:FuncId × Summ} {l:List (FuncId × Summ)} (h:SumAt Tryd.prog glob x.1 x.2) (h':∀ y∈l,SumAt Tryd.prog glob y.1 y.2):∀ y∈x::l,SumAt Tryd.prog glob y.1 y.2:=by
 intro y hy
 rcases List.mem_cons.1 hy with rfl | hy
 . exact h
 . exact h' y hy
theorem joh:CfgOK jgf:=qzd (allS (turOK _) (allS (jxc _) (allS (majOK _) (by simp))))
end
end Go.Proofs.YthkgcljngalafaaDoor.Aes
