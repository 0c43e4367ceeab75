/-
  zcS behind one another: the symbolic simulator and what it is told of the program.
-/
import Derived.Test.YtbhlngmhgplepaaDoorPh1
import Derived.Laws.Sem
import Derived.Laws.Entries
import Derived.Laws.Strings
import Derived.Laws.IdiomStrings
import Derived.Laws.BytesString
import Derived.Laws.StructEq
import Derived.ChangeKeysEq
import Derived.MapKept
namespace Go.Sim
noncomputable section
variable {α:Type}
theorem qda (l:List α) (n:Nat):nth l n=l[n]? := by
 induction l generalizing n with
 | nil=>rfl
 | cons a t ih=>cases n with
   | zero=>rfl
   | succ n=>exact ih n
theorem quc (l:List α) (n:Nat) (v:α):zbv l n v=l.set n v:=by
 induction l generalizing n with
 | nil=>rfl
 | cons a t ih=>cases n with
   | zero=>rfl
   | succ n=>exact congrArg (a :: ·) (ih n)
theorem q7a (l r:List α):app l r=l++r:=by
 induction l with
 | nil=>rfl
 | cons a t ih=>exact congrArg (a :: ·) ih
theorem qsc (l:List α) (n:Nat):qta l n=l.take n:=by
 induction l generalizing n with
 | nil=>simp [qta]
 | cons a t ih=>cases n with
   | zero=>rfl
   | succ n=>exact congrArg (a :: ·) (ih n)
theorem qad (l:List α) (n:Nat):qnb l n=l.drop n:=by
 induction l generalizing n with
 | nil=>simp [qnb]
 | cons a t ih=>cases n with
   | zero=>rfl
   | succ n=>exact ih n
theorem qxa {β:Type} (f:α->β) (l:List α):zas f l=l.map f:=by
 induction l with
 | nil=>rfl
 | cons a t ih=>exact congrArg (f a :: ·) ih
theorem qha (l:List α):zay l=l.length:=by
 induction l with
 | nil=>rfl
 | cons a t ih=>exact congrArg Nat.succ ih
theorem qp1 (a:α) (n:Nat):zba a n=List.replicate n a:=by
 induction n with
 | zero=>rfl
 | succ n ih=>exact congrArg (a :: ·) ih
theorem qpd (n k:Nat):qqa n k=List.range' k n:=by
 induction n generalizing k with
 | zero=>rfl
 | succ n ih=>exact congrArg (k :: ·) (ih (k+1))
theorem q43 (l v:List α):qoj l 0 v=v.take l.length++l.drop v.length:=by
 induction l generalizing v with
 | nil=>simp [qoj]
 | cons a t ih=>cases v with
   | nil=>rfl
   | cons x v=>exact congrArg (x :: ·) (ih v)
theorem qax (l:List α) (i:Nat) (v:List α) (h:i+v.length<=l.length):qoj l i v=l.take i++v++l.drop (i+v.length):=by
 induction l generalizing i with
 | nil=>simp at h; obtain ⟨rfl,rfl⟩:=h; simp [qoj]
 | cons a t ih=>cases i with
   | zero=>rw [q43,List.take_of_length_le (by simpa using h)]; simp
   | succ i =>
     have:=ih i (by simp at h; omega)
     show a::qoj t i v=_;rw [this,show i+1+v.length=i+v.length+1 from by omega]; rfl
theorem qxe (f:α->Bool) (l:List α) (h:zaO f l=true):∀ x∈l,f x=true:=by
 induction l with
 | nil=>simp
 | cons a t ih =>
   have h':zab (f a) (zaO f t) false=true:=h;cases hf:f a with
   | true=>rw [hf] at h'; intro x hx; cases hx with
     | head=>exact hf
     | tail _ hx=>exact ih h' x hx
   | false=>rw [hf] at h'; cases h'
def Val.le (β β':Val):Prop:=∀ n l,β n=some l->β' n=some l
theorem Val.le_refl (β:Val):β.le β:=fun _ _ h=>h
theorem Val.le_trans {a b c:Val} (h:a.le b) (k:b.le c):a.le c:=fun n l e=>k n l (h n l e)
theorem SA.zav {β β':Val} (hl:β.le β') {a:SA} {x:Addr} (h:a.den β=some x):a.den β'=some x:=by
 unfold SA.den at *;cases hb:β a.nm with
 | none=>simp [hb] at h
 | some l=>rw [hb] at h; rw [hl _ _ hb]; exact h
theorem SC.zav {β β':Val} (hl:β.le β') {a:SC} {x:Nat} (h:a.den β=some x):a.den β'=some x:=by
 cases a with
 | lit n=>exact h
 | sym n=>exact h
 | rest nm k =>
   simp only [SC.den] at *;cases hb:β nm with
   | none=>simp [hb] at h
   | some l=>rw [hb] at h; rw [hl _ _ hb]; exact h
theorem SFn.zav {β β':Val} (hl:β.le β') {a:SFn} {x:Fn} (h:a.den β=some x):a.den β'=some x:=by
 cases a with
 | fn n=>exact h
 | yield nm =>
   simp only [SFn.den] at *;cases hb:β nm with
   | none=>simp [hb] at h
   | some l=>rw [hb] at h; rw [hl _ _ hb]; exact h
theorem qth {x:Addr} {l c:Nat} {v:Value}:qzm x l c=some v↔l<=c/\.slice (some x) l c=v:=by
 unfold qzm;split
 . rename_i h; simp [h]
 . rename_i h; simp [h]
theorem zaf {β:Val} {a:SA} {l:SN} {c:SC} {v:Value}:(SV.slice a l c).den β=some v↔∃ A C,a.den β=some A/\c.den β=some C/\l.den<=C/\.slice (some A) l.den C=v:=by
 simp only [SV.den,Option.bind_eq_some_iff,qth];constructor
 . rintro ⟨A,hA,C,hC,hle,rfl⟩; exact ⟨A,C,hA,hC,hle,rfl⟩
 . rintro ⟨A,C,hA,hC,hle,rfl⟩; exact ⟨A,hA,C,hC,hle,rfl⟩
theorem q3i {x:Addr} {n l c:Nat} {v:Value}:qx2 x n l c=some v↔l<=c/\.slice (some (if c=0 then x else x.add n)) l c=v:=by
 unfold qx2;split
 . rename_i h; simp [h]
 . rename_i h; simp [h]
theorem q1c {β:Val} {a:SA} {n l:SN} {c:SC} {v:Value}:(SV.tail a n l c).den β=some v↔∃ A C,a.den β=some A/\c.den β=some C/\l.den<=C/\.slice (some (if C=0 then A else A.add n.den)) l.den C=v:=by
 simp only [SV.den,Option.bind_eq_some_iff,q3i];constructor
 . rintro ⟨A,hA,C,hC,hle,rfl⟩; exact ⟨A,C,hA,hC,hle,rfl⟩
 . rintro ⟨A,C,hA,hC,hle,rfl⟩; exact ⟨A,hA,C,hC,hle,rfl⟩
mutual
theorem SV.zav {β β':Val} (hl:β.le β'):(v:SV)->{x:Value}->v.den β=some x->v.den β'=some x
 | .int _ _,_,h=>h
 | .bool _,_,h=>h
 | .str _,_,h=>h
 | .ptr a,x,h=>by
   simp only [SV.den,Option.map_eq_some_iff] at *;obtain ⟨y,hy,rfl⟩:=h;exact ⟨y,SA.zav hl hy,rfl⟩
 | .nilPtr,_,h=>h
 | .slice a n c,x,h=>by
   rw [zaf] at *;obtain ⟨y,z,hy,hz,hle,rfl⟩:=h;exact ⟨y,z,SA.zav hl hy,SC.zav hl hz,hle,rfl⟩
 | .zad,_,h=>h
 | .map nm,x,h=>by
   simp only [SV.den,Option.map_eq_some_iff] at *;obtain ⟨y,hy,rfl⟩:=h;exact ⟨y,hl _ _ hy,rfl⟩
 | .zau,_,h=>h
 | .func f xs ys,x,h=>by
   simp only [SV.den,Option.bind_eq_some_iff,Option.map_eq_some_iff] at *;obtain ⟨g,hg,az,has,bs,hbs,rfl⟩:=h;exact ⟨g,SFn.zav hl hg,az,SV.zan hl xs has,bs,SV.zan hl ys hbs,rfl⟩
 | .nilFunc,_,h=>h
 | .iface t v,x,h=>by
   simp only [SV.den,Option.map_eq_some_iff] at *;obtain ⟨y,hy,rfl⟩:=h;exact ⟨y,SV.zav hl v hy,rfl⟩
 | .nilIface,_,h=>h
 | .agg l,x,h=>by
   simp only [SV.den,Option.map_eq_some_iff] at *;obtain ⟨y,hy,rfl⟩:=h;exact ⟨y,SV.zan hl l hy,rfl⟩
 | .tuple l,x,h=>by
   simp only [SV.den,Option.map_eq_some_iff] at *;obtain ⟨y,hy,rfl⟩:=h;exact ⟨y,SV.zan hl l hy,rfl⟩
 | .val _,_,h=>h
 | .tail a n l c,x,h=>by
   rw [q1c] at *;obtain ⟨y,z,hy,hz,hle,rfl⟩:=h;exact ⟨y,z,SA.zav hl hy,SC.zav hl hz,hle,rfl⟩
theorem SV.zan {β β':Val} (hl:β.le β'):(l:List SV)->{x:List Value}->SV.zal β l=some x->SV.zal β' l=some x
 | [],_,h=>h
 | v::l,x,h=>by
   simp only [SV.zal,Option.bind_eq_some_iff,Option.map_eq_some_iff] at *;obtain ⟨y,hy,z,hz,rfl⟩:=h;exact ⟨y,SV.zav hl v hy,z,SV.zan hl l hz,rfl⟩
end
theorem zaN {β:Val} {xs:List Value}:SV.zal β []=some xs↔xs=[]:=by simp [SV.zal,eq_comm]
theorem zae {β:Val} {v:SV} {l:List SV} {xs:List Value}:SV.zal β (v::l)=some xs↔∃ y ys,v.den β=some y/\SV.zal β l=some ys/\xs=y::ys:=by
 simp only [SV.zal,Option.bind_eq_some_iff,Option.map_eq_some_iff];constructor
 . rintro ⟨y,hy,ys,hys,rfl⟩; exact ⟨y,ys,hy,hys,rfl⟩
 . rintro ⟨y,ys,hy,hys,rfl⟩; exact ⟨y,hy,ys,hys,rfl⟩
theorem qra {β:Val} {l:List SV} {xs:List Value} (h:SV.zal β l=some xs):xs.length=l.length:=by
 induction l generalizing xs with
 | nil=>rw [zaN] at h; subst h; rfl
 | cons v l ih=>obtain ⟨y,ys,_,hl,rfl⟩:=zae.1 h; simp [ih hl]
theorem qlc {β:Val} {l:List SV} {xs:List Value} (h:SV.zal β l=some xs) {n:Nat} {v:SV} (hv:l[n]? = some v):∃ x,xs[n]? = some x/\v.den β=some x:=by
 induction l generalizing xs n with
 | nil=>simp at hv
 | cons a l ih =>
   obtain ⟨y,ys,hy,hl,rfl⟩:=zae.1 h;cases n with
   | zero=>simp at hv; subst hv; exact ⟨y,rfl,hy⟩
   | succ n=>simp at hv; obtain ⟨x,hx,hd⟩:=ih hl hv; exact ⟨x,by simpa using hx,hd⟩
theorem q4i {β:Val} {l:List SV} {xs:List Value} (h:SV.zal β l=some xs) {n:Nat} {v:SV} {x:Value} (hv:v.den β=some x):SV.zal β (l.set n v)=some (xs.set n x):=by
 induction l generalizing xs n with
 | nil=>rw [zaN] at h; subst h; rfl
 | cons a l ih =>
   obtain ⟨y,ys,hy,hl,rfl⟩:=zae.1 h;cases n with
   | zero=>exact zae.2 ⟨x,ys,hv,hl,rfl⟩
   | succ n=>exact zae.2 ⟨y,ys.set n x,hy,ih hl,rfl⟩
theorem qqd {β:Val} {l r:List SV} {xs ys:List Value} (h:SV.zal β l=some xs) (k:SV.zal β r=some ys):SV.zal β (l++r)=some (xs++ys):=by
 induction l generalizing xs with
 | nil=>rw [zaN] at h; subst h; exact k
 | cons a l ih =>
   obtain ⟨y,zs,hy,hl,rfl⟩:=zae.1 h;exact zae.2 ⟨y,zs++ys,hy,ih hl,rfl⟩
theorem q3f {β:Val} {l:List SV} {xs:List Value} (h:SV.zal β l=some xs) (n:Nat):SV.zal β (l.take n)=some (xs.take n):=by
 induction l generalizing xs n with
 | nil=>rw [zaN] at h; subst h; simp [SV.zal]
 | cons a l ih =>
   obtain ⟨y,zs,hy,hl,rfl⟩:=zae.1 h;cases n with
   | zero=>simp [SV.zal]
   | succ n=>exact zae.2 ⟨y,_,hy,ih hl n,rfl⟩
theorem quh {β:Val} {l:List SV} {xs:List Value} (h:SV.zal β l=some xs) (n:Nat):SV.zal β (l.drop n)=some (xs.drop n):=by
 induction l generalizing xs n with
 | nil=>rw [zaN] at h; subst h; simp [SV.zal]
 | cons a l ih =>
   obtain ⟨y,zs,hy,hl,rfl⟩:=zae.1 h;cases n with
   | zero=>exact h
   | succ n=>exact ih hl n
theorem q4f {β:Val} {l:List SV} {xs:List Value} (hn:xs.length=l.length) (h:∀ (i:Nat) (v:SV),l[i]? = some v->∃ x,xs[i]? = some x/\v.den β=some x):SV.zal β l=some xs:=by
 induction l generalizing xs with
 | nil=>simp at hn; subst hn; rfl
 | cons a l ih =>
   cases xs with
   | nil=>simp at hn
   | cons y ys =>
     obtain ⟨x,hx,hd⟩:=h 0 a rfl;simp at hx; subst hx;exact zae.2 ⟨y,ys,hd,ih (by simpa using hn) (fun i v hv=>h (i+1) v hv),rfl⟩
theorem qzs {β:Val} {v:SV} {x:Value} (h:v.den β=some x) (n:Nat):SV.zal β (List.replicate n v)=some (List.replicate n x):=by
 induction n with
 | zero=>rfl
 | succ n ih=>exact zae.2 ⟨x,_,h,ih,rfl⟩
def zaj (β:Val):Cells->List Value->Prop
 | .lst l,vs=>SV.zal β l=some vs
 | .fn f n,vs=>vs.length=n/\∀ i x,vs[i]? = some x->(f i).den β=some x
 | .raw V n,vs=>vs.length=n/\∀ (i:Nat) (x:Value),vs[i]? = some x->x=V i
theorem zaj.mono {β β':Val} (hl:β.le β') {c:Cells} {vs:List Value} (h:zaj β c vs):zaj β' c vs:=by
 cases c with
 | lst l=>exact SV.zan hl l h
 | fn f n=>exact ⟨h.1,fun i x hx=>SV.zav hl _ (h.2 i x hx)⟩
 | raw V n=>exact h
def SD.den (β:Val):SD->Option Deferred
 | .coll nm=>(β nm).map fun l=>{ target:=.collected l.blk,args := #[] }
 | .call f xs ys=>(f.den β).bind fun f=>(SV.zal β xs).bind fun xs=>(SV.zal β ys).map fun ys=>{ target:=.fn f ys.toArray,args:=xs.toArray }
def SD.zal (β:Val):List SD->Option (List Deferred)
 | []=>some []
 | d::r=>(d.den β).bind fun d=>(SD.zal β r).map fun r=>d::r
theorem SD.zav {β β':Val} (hl:β.le β') {d:SD} {x:Deferred} (h:d.den β=some x):d.den β'=some x:=by
 cases d with
 | coll nm =>
   simp only [SD.den,Option.map_eq_some_iff] at *;obtain ⟨y,hy,rfl⟩:=h;exact ⟨y,hl _ _ hy,rfl⟩
 | call f xs ys =>
   simp only [SD.den,Option.bind_eq_some_iff,Option.map_eq_some_iff] at *;obtain ⟨g,hg,az,has,bs,hbs,rfl⟩:=h;exact ⟨g,SFn.zav hl hg,az,SV.zan hl xs has,bs,SV.zan hl ys hbs,rfl⟩
theorem SD.zan {β β':Val} (hl:β.le β') {l:List SD} {x:List Deferred} (h:SD.zal β l=some x):SD.zal β' l=some x:=by
 induction l generalizing x with
 | nil=>exact h
 | cons d l ih =>
   simp only [SD.zal,Option.bind_eq_some_iff,Option.map_eq_some_iff] at *;obtain ⟨y,hy,z,hz,rfl⟩:=h;exact ⟨y,SD.zav hl hy,z,ih hz,rfl⟩
def SD.zkm (β:Val):Option (List SD)->Option (Option (List Deferred))
 | none=>some none
 | some l=>(SD.zal β l).map some
def qma (β:Val):List (SV × SV × Nat)->Option (List MapEntry)
 | []=>some []
 | e::r=>(e.1.den β).bind fun k=>(e.2.1.den β).bind fun v=>(qma β r).map fun r=>{ key:=k,val:=v,born:=e.2.2 }::r
def zaW.den (β:Val):zaW->Option Obj
 | .map es clock=>(qma β es).map fun vs=>.map vs.toArray clock
 | .iter none since seen last=>some (.mapIter none since seen.toArray last)
 | .iter (some m) since seen last=>(β m).map fun l=>.mapIter (some l.blk) since seen.toArray last
 | .str s pos=>some (.stringIter s.den pos)
 | .zaU ks vs es clock=>@ite _ (∀ e∈es,ks.fit e.key/\vs.fit e.val) (Classical.propDecidable _) (some (.map es.toArray clock)) none
theorem zaW.za2 {β:Val} {ks vs:MSh} {es:List MapEntry} {c:Nat} {x:Obj}:(zaW.zaU ks vs es c).den β=some x↔(∀ e∈es,ks.fit e.key/\vs.fit e.val)/\x=.map es.toArray c:=by
 show @ite _ (∀ e∈es,ks.fit e.key/\vs.fit e.val) (Classical.propDecidable _) (some (.map es.toArray c)) none=some x↔_;by_cases h:∀ e∈es,ks.fit e.key/\vs.fit e.val
 . rw [if_pos h];exact ⟨fun h'=>⟨h,(Option.some.inj h').symm⟩,fun h'=>by rw [h'.2]⟩
 . rw [if_neg h];exact ⟨fun h'=>(by cases h'),fun h'=>absurd h'.1 h⟩
theorem qan {β β':Val} (hl:β.le β'):∀ {es:List (SV × SV × Nat)} {vs:List MapEntry},qma β es=some vs->qma β' es=some vs
 | [],_,h=>h
 | e::r,vs,h=>by
   simp only [qma,Option.bind_eq_some_iff,Option.map_eq_some_iff] at *;obtain ⟨k,hk,v,hv,rs,hr,rfl⟩:=h;exact ⟨k,SV.zav hl _ hk,v,SV.zav hl _ hv,rs,qan hl hr,rfl⟩
theorem zaW.zav {β β':Val} (hl:β.le β') {o:zaW} {x:Obj} (h:o.den β=some x):o.den β'=some x:=by
 cases o with
 | map es clock =>
   simp only [zaW.den,Option.map_eq_some_iff] at *;obtain ⟨vs,hv,rfl⟩:=h;exact ⟨vs,qan hl hv,rfl⟩
 | iter m since seen last =>
   cases m with
   | none=>exact h
   | some m =>
     simp only [zaW.den,Option.map_eq_some_iff] at *;obtain ⟨l,hm,rfl⟩:=h;exact ⟨l,hl _ _ hm,rfl⟩
 | str s pos=>exact h
 | zaU=>exact h
def zfG (lo hi n:Nat):Prop:=lo=hi\/n<=lo
theorem zfG.at {lo hi n:Nat} (h:zfG lo hi n):∀ i,i<n->¬ (lo<=i/\i<hi):=by
 intro i hi';rcases h with h | h <;> omega
@[simp] theorem zgG (n:Nat):zfG 0 0 n:=.inl rfl
def qbx (P:Program) (w:World) (m:Mem) (b n cap:Nat) (el:TypeId):Prop :=
 ∃ (vs rest:List Value) (lo hi:Nat),w.heap[b]? = some (.cells (vs++rest).toArray el (lo,hi))/\vs.length=n/\zfG lo hi (vs++rest).length/\(∀ i,P.info? el=some i->cap * i.size<=(vs++rest).length)/\∀ i x,vs[i]? = some x->m.cell ⟨b,i,none⟩=some x
def jse (P:Program) (w:World) (m:Mem):Prop:=(∀ a x,m.cell a=some x->w.cell? a=some x)/\∀ b n cap el,m.own b=some (n,cap,el)->qbx P w m b n cap el
def zaz (P:Program) (β:Val) (w:World) (n:Nat):SO->Prop
 | .own c whole elem=>∃ l vs rest lo hi,β n=some l/\l.off=0/\zaj β c vs/\w.heap[l.blk]? = some (.cells (vs++rest).toArray elem (lo,hi)) /\
   zfG lo hi (vs++rest).length/\(whole=true->rest=[])/\(∀ i,P.info? elem=some i->l.cap * i.size<=(vs++rest).length)
 | .row _=>False
 | .loop s p f T ps a b d=>∃ l ld Ts,β n=some l/\β d=some ld/\SV.zal β T=some Ts /\
   w.heap[l.blk]? = some (.loop { state:=s,pending:=p,fn:=f,tmps:=Ts.toArray,params:=ps,assign:=a,body:=b,defers:=ld.blk })
 | .deferred ds=>∃ l ds',β n=some l/\SD.zkm β ds=some ds'/\w.heap[l.blk]? = some (.deferred ds')
 | .gone=>True
 | .obj o=>∃ l x,β n=some l/\l.off=0/\o.den β=some x/\w.heap[l.blk]? = some x
 | .mem m=>β n=none/\jse P w m
def SO.owned:SO->Bool
 | .row _=>false
 | .gone=>false
 | _=>true
def j6i (O:Nat->Prop) (w0:World) (β:Val) (n:Nat) (c:Cells):Prop :=
 ∃ l vs,β n=some l/\zaj β c vs/\∀ i x,vs[i]? = some x->l.blk<w0.heap.size/\¬ O l.blk/\w0.cell? ⟨l.blk,l.off+i,none⟩=some x
def zbu (P:Program) (O:Nat->Prop) (w0:World) (β:Val) (w:World) (n:Nat) (e:SO):Prop :=
 match e with
 | .row c=>j6i O w0 β n c
 | .mem _=>β n=none
 | e=>zaz P β w n e
theorem zbu.zfL {P:Program} {O:Nat->Prop} {w0:World} {β:Val} {w:World} {n:Nat} {e:SO} (h:zbu P O w0 β w n e) (ho:e.owned=true) (hm:∀ m,e≠.mem m:=by first | assumption | (intro m hm; cases hm)):zaz P β w n e:=by
 cases e with
 | row c=>cases ho
 | mem m=>exact absurd rfl (hm m)
 | own=>exact h
 | loop=>exact h
 | deferred=>exact h
 | gone=>exact h
 | obj=>exact h
structure Keep (O:Nat->Prop) (w w':World):Prop where
 os:w'.os=w.os
 tape:w'.tape=w.tape
 output:w'.output=w.output
 drawn:w.drawn<=w'.drawn
 size:w.heap.size<=w'.heap.size
 block:∀ k,k<w.heap.size->¬ O k->w'.heap[k]? = w.heap[k]?
def zbo (β:Val) (H:List SO) (b:Nat):Prop:=∀ k e l,H[k]? = some e->e.owned=true->β k=some l->l.blk≠b
structure zbp (P:Program) (O:Nat->Prop) (w0:World) (β:Val) (H:List SO) (w:World) (m:Mem):Prop where
 told:∀ a x,m.cell a=some x->w.cell? a=some x/\zbo β H a.block
 own:∀ b n cap el,m.own b=some (n,cap,el)->(w0.heap.size<=b\/O b)/\zbo β H b/\qbx P w m b n cap el
 old:∀ b,m.old b->b<w0.heap.size/\¬ O b
theorem qgr {w w':World} {a:Addr} (h:w'.heap[a.block]? = w.heap[a.block]?):w'.cell? a=w.cell? a:=by
 unfold World.cell?;rw [h]
theorem qq1 {w:World} {a:Addr} {x:Value} (h:w.cell? a=some x):a.block<w.heap.size:=by
 unfold World.cell? at h;by_cases hb:a.block<w.heap.size
 . exact hb
 . have hn:w.heap[a.block]? = none:=Array.getElem?_eq_none (by omega)
   simp only [hn] at h;cases h
def Mem.Has (m:Mem) (b:Nat):Prop:=(∃ a x,m.cell a=some x/\a.block=b)\/∃ p,m.own b=some p
theorem zbp.next {P:Program} {O:Nat->Prop} {w0:World} {β β':Val} {H H':List SO} {w w':World} {m:Mem} (h:zbp P O w0 β H w m)
  (hw:∀ b,m.Has b->b<w.heap.size->zbo β H b->w'.heap[b]? = w.heap[b]? /\ zbo β' H' b):zbp P O w0 β' H' w' m:=by
 refine ⟨fun a x hx => ?_,fun b n cap el hb => ?_,h.old⟩
 . obtain ⟨h1,h2⟩:=h.told a x hx;obtain ⟨h3,h4⟩:=hw a.block (.inl ⟨a,x,hx,rfl⟩) (qq1 h1) h2;exact ⟨(qgr h3).trans h1,h4⟩
 . obtain ⟨h1,h2,vs,rest,lo,hi,h3,h4⟩:=h.own b n cap el hb;obtain ⟨h5,h6⟩:=hw b (.inr ⟨_,hb⟩) (Array.getElem?_eq_some_iff.1 h3).1 h2;exact ⟨h1,h6,vs,rest,lo,hi,h5.trans h3,h4⟩
theorem zbp.names {P:Program} {O:Nat->Prop} {w0:World} {β β':Val} {H H':List SO} {w:World} {m:Mem} (h:zbp P O w0 β H w m)
  (hw:∀ b,m.Has b->zbo β H b->zbo β' H' b):zbp P O w0 β' H' w m:=h.next fun b hb _ hn=>⟨rfl,hw b hb hn⟩
structure Mem.le (m m0:Mem):Prop where
 cell:∀ a x,m.cell a=some x->m0.cell a=some x
 own:∀ b p,m.own b=some p->m0.own b=some p/\∀ i,m.cell ⟨b,i,none⟩=m0.cell ⟨b,i,none⟩
 old:∀ b,m.old b->m0.old b
theorem Mem.le_refl (m:Mem):m.le m:=⟨fun _ _ h=>h,fun _ _ h=>⟨h,fun _=>rfl⟩,fun _ h=>h⟩
theorem zbp.less {P:Program} {O:Nat->Prop} {w0:World} {β:Val} {H:List SO} {w:World} {m m0:Mem} (h:zbp P O w0 β H w m0) (hm:m.le m0):zbp P O w0 β H w m:=by
 refine ⟨fun a x hx=>h.told a x (hm.cell a x hx),fun b n cap el hb => ?_,fun b hb=>h.old b (hm.old b hb)⟩;obtain ⟨h1,h2⟩:=hm.own b _ hb;obtain ⟨h3,h4,vs,rest,lo,hi,h5,h6,h7,h8,h9⟩:=h.own b n cap el h1;exact ⟨h3,h4,vs,rest,lo,hi,h5,h6,h7,h8,fun i x hx=>(h2 i).trans (h9 i x hx)⟩
structure HeapRel0 (P:Program) (O:Nat->Prop) (w0:World) (β:Val) (H:List SO) (w:World):Prop where
 entries:∀ n e,H[n]? = some e->zbu P O w0 β w n e
 sep:∀ n m e e' l l',H[n]? = some e->H[m]? = some e'->e.owned=true->e'.owned=true->n≠m->β n=some l->β m=some l'->l.blk≠l'.blk
 fresh:∀ n e l,H[n]? = some e->e.owned=true->β n=some l->w0.heap.size<=l.blk\/O l.blk
 keep:Keep O w0 w
 zcG:∀ (n:Nat) (m:Mem),H[n]? = some (SO.mem m)->zbp P O w0 β H w m
 zbC:∀ (n k:Nat) (m m':Mem),H[n]? = some (SO.mem m)->H[k]? = some (SO.mem m')->n=k
structure zac (P:Program) (O:Nat->Prop) (w0:World) (β:Val) (H:List SO) (w:World):Prop extends HeapRel0 P O w0 β H w where
 bound:∀ n,H.length<=n->β n=none
theorem zaz.lt {P:Program} {β:Val} {w:World} {n:Nat} {e:SO} {l:Loc} (h:zaz P β w n e) (ho:e.owned=true) (hl:β n=some l):l.blk<w.heap.size:=by
 cases e with
 | own c wh el =>
   obtain ⟨l',vs,rest,lo,hi,hb,_,_,hh,_⟩:=h;rw [hl] at hb; cases hb;exact (Array.getElem?_eq_some_iff.1 hh).1
 | row c=>cases ho
 | mem m=>have h:=h.1; rw [hl] at h; cases h
 | loop =>
   obtain ⟨l',ld,Ts,hb,_,_,hh⟩:=h;rw [hl] at hb; cases hb;exact (Array.getElem?_eq_some_iff.1 hh).1
 | deferred ds =>
   obtain ⟨l',ds',hb,_,hh⟩:=h;rw [hl] at hb; cases hb;exact (Array.getElem?_eq_some_iff.1 hh).1
 | gone=>cases ho
 | obj o =>
   obtain ⟨l',x,hb,_,_,hh⟩:=h;rw [hl] at hb; cases hb;exact (Array.getElem?_eq_some_iff.1 hh).1
theorem zaz.kept {P:Program} {β β':Val} {w w':World} {n:Nat} {e:SO} (h:zaz P β w n e) (hle:β.le β')
  (hb:e.owned=true->∀ l,β n=some l->w'.heap[l.blk]? = w.heap[l.blk]?) (hm:∀ m,e≠.mem m:=by intro m hm; cases hm):zaz P β' w' n e:=by
 cases e with
 | own c wh el =>
   obtain ⟨l,vs,rest,lo,hi,hl,h0,hc,hh,hfz,hw,hcap⟩:=h;exact ⟨l,vs,rest,lo,hi,hle _ _ hl,h0,hc.mono hle,(hb rfl l hl).trans hh,hfz,hw,hcap⟩
 | row c=>exact h
 | mem m=>exact absurd rfl (hm m)
 | loop =>
   obtain ⟨l,ld,Ts,hl,hd,hT,hh⟩:=h;exact ⟨l,ld,Ts,hle _ _ hl,hle _ _ hd,SV.zan hle _ hT,(hb rfl l hl).trans hh⟩
 | deferred ds =>
   obtain ⟨l,ds',hl,hd,hh⟩:=h;refine ⟨l,ds',hle _ _ hl,?_,(hb rfl l hl).trans hh⟩;cases ds with
   | none=>exact hd
   | some x =>
     simp only [SD.zkm,Option.map_eq_some_iff] at *;obtain ⟨y,hy,rfl⟩:=hd;exact ⟨y,SD.zan hle hy,rfl⟩
 | gone=>trivial
 | obj o =>
   obtain ⟨l,x,hl,h0,hd,hh⟩:=h;exact ⟨l,x,hle _ _ hl,h0,zaW.zav hle hd,(hb rfl l hl).trans hh⟩
theorem zbu.lt {P:Program} {O:Nat->Prop} {w0:World} {β:Val} {w:World} {n:Nat} {e:SO} {l:Loc} (h:zbu P O w0 β w n e) (ho:e.owned=true) (hl:β n=some l):l.blk<w.heap.size:=by
 cases e with
 | mem m=>have h:β n=none:=h; rw [hl] at h; cases h
 | row c=>cases ho
 | own c wh el=>exact zaz.lt (P:=P) (e:=.own c wh el) h ho hl
 | loop s p f T ps a b d=>exact zaz.lt (P:=P) (e:=.loop s p f T ps a b d) h ho hl
 | deferred ds=>exact zaz.lt (P:=P) (e:=.deferred ds) h ho hl
 | gone=>cases ho
 | obj o=>exact zaz.lt (P:=P) (e:=.obj o) h ho hl
structure zgd (m m':Mem):Prop where
 own:m'.own=m.own
 old:m'.old=m.old
 dom:∀ a x,m'.cell a=some x->(∃ y,m.cell a=some y)\/∃ p,m.own a.block=some p
def zdE (e0 e:SO):Prop:=∀ m',e=.mem m'->∃ m,e0=.mem m/\zgd m m'
def qhh (H:List SO) (n:Nat) (e:SO):Prop:=∃ e0,H[n]? = some e0/\e0.owned=true/\zdE e0 e
theorem zdE.not {e0 e:SO} (h:∀ m,e≠.mem m:=by intro m hm; cases hm):zdE e0 e:=fun m' he=>absurd he (h m')
theorem zdE.refl (e:SO):zdE e e:=fun m' he=>⟨m',he,rfl,rfl,fun _ x h=>.inl ⟨x,h⟩⟩
def zef (sets:List (Nat × SO)) (b:Nat):Prop:=∀ n m,(n,SO.mem m)∈sets->m.own b=none
theorem zef.nil (b:Nat):zef [] b:=fun _ _ h=>by cases h
structure Eff (P:Program) (β:Val) (w:World) (base:Nat) (sets:List (Nat × SO)) (news:List SO) (β':Val) (w':World):Prop where
 le:β.le β'
 os:w'.os=w.os
 tape:w'.tape=w.tape
 output:w'.output=w.output
 drawn:w.drawn<=w'.drawn
 size:w.heap.size<=w'.heap.size
 dom:∀ n,(n<base\/base+news.length<=n)->β' n=β n
 frame:∀ b,b<w.heap.size->(∀ n e l,(n,e)∈sets->β n=some l->l.blk≠b)->zef sets b->w'.heap[b]? = w.heap[b]?
 one:∀ n e e',(n,e)∈sets->(n,e')∈sets->e=e'
 turned:∀ n e,(n,e)∈sets->zaz P β' w' n e
 made:∀ i e,news[i]? = some e->e.owned=true/\zaz P β' w' (base+i) e /\
  ∃ l,β' (base+i)=some l/\(w.heap.size<=l.blk\/∃ n l',(n,SO.gone)∈sets/\β n=some l'/\l'.blk=l.blk)
 apart:∀ i j l l',i≠j->i<news.length->j<news.length->β' (base+i)=some l->β' (base+j)=some l'->l.blk≠l'.blk
theorem q8e (H:List SO) (a:Nat × SO) (r:List (Nat × SO)):qbc H (a::r)=qbc (H.set a.1 a.2) r:=by
 show qbc (zbv H a.1 a.2) r=_;rw [quc]
theorem q2d (sets:List (Nat × SO)):∀ H:List SO,(qbc H sets).length=H.length:=by
 induction sets with
 | nil=>intro H; rfl
 | cons a r ih=>intro H; rw [q8e,ih]; simp
theorem qmf (sets:List (Nat × SO)):∀ (H:List SO) (n:Nat),(∀ e,(n,e) ∉ sets)->(qbc H sets)[n]? = H[n]? := by
 induction sets with
 | nil=>intro H n _; rfl
 | cons a r ih =>
   intro H n h;rw [q8e,ih _ _ (fun e he=>h e (List.mem_cons_of_mem _ he)),List.getElem?_set_ne];intro e; exact h a.2 (by rw [← e]; exact List.mem_cons_self)
theorem qo9 (sets:List (Nat × SO)):∀ (H:List SO) (n:Nat) (e:SO),(qbc H sets)[n]? = some e->H[n]? = some e/\(∀ e,(n,e) ∉ sets)\/(n,e)∈sets:=by
 induction sets with
 | nil=>intro H n e h; exact .inl ⟨h,by simp⟩
 | cons a r ih =>
   intro H n e h;rw [q8e] at h;rcases ih _ n e h with ⟨h',hn⟩ | h'
   . by_cases ha:a.1=n
     . subst ha;right;have:e=a.2:=by
        rw [List.getElem?_set] at h';simp at h'; exact h'.2.symm
       rw [this]; exact List.mem_cons_self
     . left;rw [List.getElem?_set_ne ha] at h';refine ⟨h',fun e' he' => ?_⟩;cases he' with
       | head=>exact ha rfl
       | tail _ hm=>exact hn e' hm
   . exact .inr (List.mem_cons_of_mem _ h')
theorem qoc (H:List SO) (sets:List (Nat × SO)) (news:List SO):q3b H sets news=qbc H sets++news:=by
 cases news with
 | nil=>simp; rfl
 | cons x r=>exact q7a _ _
theorem qei {H:List SO} {n:Nat} {e:SO} (h:H[n]? = some e):qbc H [(n,e)]=H:=by
 rw [q8e];show H.set n e=H;obtain ⟨hn,rfl⟩:=List.getElem?_eq_some_iff.1 h;exact List.set_getElem_self hn
theorem Eff.zcf {P:Program} {β β':Val} {w w':World} {base b:Nat} {sets:List (Nat × SO)} (hE:Eff P β w base sets [] β' w'):Eff P β w b sets [] β' w' :=
 ⟨hE.le,hE.os,hE.tape,hE.output,hE.drawn,hE.size,fun n _=>hE.dom n (by simp; omega),hE.frame,hE.one,hE.turned,(by intro i e h; simp at h),(by intro i j l l' _ h; simp at h)⟩
theorem zac.apply {P:Program} {O:Nat->Prop} {w0:World} {β:Val} {H:List SO} {w:World} (h:zac P O w0 β H w)
  {sets:List (Nat × SO)} {news:List SO} {β':Val} {w':World} (hE:Eff P β w H.length sets news β' w')
  (hs:∀ n e,(n,e)∈sets->qhh H n e):zac P O w0 β' (q3b H sets news) w':=by
 rw [qoc];have hlen:(qbc H sets).length=H.length:=q2d _ _;have hold:∀ n,n<H.length->β' n=β n:=fun n hn=>hE.dom n (.inl hn);have hlt:∀ n e l,H[n]? = some e->e.owned=true->β n=some l->l.blk<w.heap.size:=by
  intro n e l he ho hl;exact (h.entries n e he).lt ho hl
 have hspare:∀ n e l,H[n]? = some e->e.owned=true->β n=some l->zef sets l.blk:=by
  intro n e l he ho hl n' m' hm;obtain ⟨e0,h0,_,hf⟩:=hs n' _ hm;obtain ⟨m,rfl,hst⟩:=hf m' rfl;cases hx:m'.own l.blk with
  | none=>rfl
  | some p =>
    rw [hst.own] at hx;obtain ⟨k,cp,el⟩:=p;exact absurd rfl (((h.zcG n' m h0).own _ _ _ _ hx).2.1 n e l he ho hl)
 have hcase:∀ n e,(qbc H sets++news)[n]? = some e->(n<H.length/\H[n]? = some e/\∀ e,(n,e) ∉ sets)\/(n<H.length/\(n,e)∈sets)\/(∃ i,n=H.length+i/\news[i]? = some e):=by
  intro n e he;rcases Nat.lt_or_ge n H.length with hn | hn
  . rw [List.getElem?_append_left (by omega)] at he
    rcases qo9 _ _ _ _ he with ⟨a,b⟩ | a
    . exact .inl ⟨hn,a,b⟩
    . exact .inr (.inl ⟨hn,a⟩)
  . rw [List.getElem?_append_right (by omega),hlen] at he
    exact .inr (.inr ⟨n - H.length,by omega,he⟩)
 have zaX:∀ n e l,n<H.length->((H[n]? = some e/\∀ e,(n,e) ∉ sets)\/(n,e)∈sets)->e.owned=true->β' n=some l->∃ e0,H[n]? = some e0/\e0.owned=true/\β n=some l:=by
  intro n e l hn hc ho hl;rw [hold n hn] at hl;rcases hc with ⟨a,_⟩ | a
  . exact ⟨e,a,ho,hl⟩
  . obtain ⟨e0,h0,h1,_⟩:=hs n e a; exact ⟨e0,h0,h1,hl⟩
 have hno':∀ b,b<w.heap.size->zbo β H b->zbo β' (qbc H sets++news) b:=fun b hb hno k e l hk hw hl=>by
  rcases hcase k e hk with ⟨hk',ho',hns'⟩ | ⟨hk',hin'⟩ | ⟨i,rfl,hi⟩
  . obtain ⟨e0,h0,h1,h2⟩:=zaX k e l hk' (.inl ⟨ho',hns'⟩) hw hl;exact hno k e0 l h0 h1 h2
  . obtain ⟨e0,h0,h1,h2⟩:=zaX k e l hk' (.inr hin') hw hl;exact hno k e0 l h0 h1 h2
  . obtain ⟨_,_,l2,hl2,hor⟩:=hE.made i e hi;rw [hl] at hl2; cases hl2;rcases hor with hge | ⟨j,lk,hj,hlk,hbk⟩
    . omega
    . obtain ⟨e1,h3,h4,_⟩:=hs j .gone hj;have:=hno j e1 lk h3 h4 hlk;omega
 have hnew:∀ i m,news[i]? ≠ some (SO.mem m):=fun i m hi=>by
  obtain ⟨_,h1,l,h2,_⟩:=hE.made i _ hi;have h1:β' (H.length+i)=none:=h1.1;rw [h2] at h1; cases h1
 refine ⟨⟨?_,?_,?_,?_,?_,?_⟩,?_⟩
 . intro n e he;rcases hcase n e he with ⟨hn,ho,hns⟩ | ⟨hn,hin⟩ | ⟨i,rfl,hi⟩
   . have h0:=h.entries n e ho;cases e with
     | row c =>
       obtain ⟨l,vs,hl,hc,hx⟩:=h0;exact ⟨l,vs,hE.le _ _ hl,hc.mono hE.le,hx⟩
     | own c wh el =>
       refine zaz.kept (P:=P) (e:=.own c wh el) h0 hE.le fun hw l hl=>hE.frame _ (hlt n _ l ho hw hl) (fun m e' l' hm hl' => ?_) (hspare n _ l ho hw hl);obtain ⟨e0,h1,h2,_⟩:=hs m e' hm;exact h.sep m n e0 _ l' l h1 ho h2 hw (fun hmn=>hns e' (hmn▸hm)) hl' hl
     | loop s p f T ps a b d =>
       refine zaz.kept (P:=P) (e:=.loop s p f T ps a b d) h0 hE.le fun hw l hl=>hE.frame _ (hlt n _ l ho hw hl) (fun m e' l' hm hl' => ?_) (hspare n _ l ho hw hl);obtain ⟨e0,h1,h2,_⟩:=hs m e' hm;exact h.sep m n e0 _ l' l h1 ho h2 hw (fun hmn=>hns e' (hmn▸hm)) hl' hl
     | deferred ds =>
       refine zaz.kept (P:=P) (e:=.deferred ds) h0 hE.le fun hw l hl=>hE.frame _ (hlt n _ l ho hw hl) (fun m e' l' hm hl' => ?_) (hspare n _ l ho hw hl);obtain ⟨e0,h1,h2,_⟩:=hs m e' hm;exact h.sep m n e0 _ l' l h1 ho h2 hw (fun hmn=>hns e' (hmn▸hm)) hl' hl
     | gone=>trivial
     | mem m=>exact (hold n hn).trans h0
     | obj o =>
       refine zaz.kept (P:=P) (e:=.obj o) h0 hE.le fun hw l hl=>hE.frame _ (hlt n _ l ho hw hl) (fun m e' l' hm hl' => ?_) (hspare n _ l ho hw hl);obtain ⟨e0,h1,h2,_⟩:=hs m e' hm;exact h.sep m n e0 _ l' l h1 ho h2 hw (fun hmn=>hns e' (hmn▸hm)) hl' hl
   . have:=hE.turned n e hin;cases e <;> first | exact this | exact this.1 | exact this.elim
   . obtain ⟨hw,hr,_⟩:=hE.made i e hi;cases e <;> first | exact hr | exact hr.1 | (cases hw; done)
 . have hsep:∀ n m e e' l l',n<H.length->((H[n]? = some e/\∀ e,(n,e) ∉ sets)\/(n,e)∈sets)->e.owned=true->β' n=some l->(∃ i,m=H.length+i/\news[i]? = some e')->β' m=some l'->l.blk≠l'.blk:=by
    intro n m e e' l l' hn hc ho hl ⟨i,hm,hi⟩ hl' heq;subst hm;obtain ⟨e0,h0,h1,h2⟩:=zaX n e l hn hc ho hl;obtain ⟨_,_,l2,hl2,hor⟩:=hE.made i e' hi;rw [hl'] at hl2; cases hl2;rcases hor with hge | ⟨k,lk,hk,hlk,hbk⟩
    . have:=hlt n e0 l h0 h1 h2; omega
    . obtain ⟨e1,h3,h4,_⟩:=hs k .gone hk;by_cases hkn:k=n
      . subst hkn;rcases hc with ⟨_,hno⟩ | hin
        . exact hno _ hk
        . have:=hE.one _ _ _ hin hk;subst this; cases ho
      . exact h.sep k n e1 e0 lk l h3 h0 h4 h1 hkn hlk h2 (hbk.trans heq.symm)
   intro n m e e' l l' he he' hw hw' hnm hl hl';have hN:∀ n e,(qbc H sets++news)[n]? = some e->(n<H.length/\((H[n]? = some e/\∀ e,(n,e) ∉ sets)\/(n,e)∈sets))\/(∃ i,n=H.length+i/\news[i]? = some e):=by
    intro n e he;rcases hcase n e he with ⟨a,b,c⟩ | ⟨a,b⟩ | c
    . exact .inl ⟨a,.inl ⟨b,c⟩⟩
    . exact .inl ⟨a,.inr b⟩
    . exact .inr c
   rcases hN n e he with ⟨hn,hc⟩ | hn
   . rcases hN m e' he' with ⟨hm,hc'⟩ | hm
     . obtain ⟨e0,h0,h1,h2⟩:=zaX n e l hn hc hw hl;obtain ⟨e1,h3,h4,h5⟩:=zaX m e' l' hm hc' hw' hl';exact h.sep n m e0 e1 l l' h0 h3 h1 h4 hnm h2 h5
     . exact hsep n m e e' l l' hn hc hw hl hm hl'
   . rcases hN m e' he' with ⟨hm,hc'⟩ | hm
     . exact (hsep m n e' e l' l hm hc' hw' hl' hn hl).symm
     . obtain ⟨i,rfl,hi⟩:=hn;obtain ⟨j,rfl,hj⟩:=hm;exact hE.apart i j l l' (by omega) (List.getElem?_eq_some_iff.1 hi).1 (List.getElem?_eq_some_iff.1 hj).1 hl hl'
 . intro n e l he hw hl;rcases hcase n e he with ⟨hn,ho,hns⟩ | ⟨hn,hin⟩ | ⟨i,rfl,hi⟩
   . obtain ⟨e0,h0,h1,h2⟩:=zaX n e l hn (.inl ⟨ho,hns⟩) hw hl;exact h.fresh n e0 l h0 h1 h2
   . obtain ⟨e0,h0,h1,h2⟩:=zaX n e l hn (.inr hin) hw hl;exact h.fresh n e0 l h0 h1 h2
   . obtain ⟨_,_,l2,hl2,hor⟩:=hE.made i e hi;rw [hl] at hl2; cases hl2;rcases hor with hge | ⟨k,lk,hk,hlk,hbk⟩
     . left; have:=h.keep.size; omega
     . obtain ⟨e1,h3,h4,_⟩:=hs k .gone hk;have:=h.fresh k e1 lk h3 h4 hlk
       rwa [hbk] at this
 . refine ⟨hE.os.trans h.keep.os,hE.tape.trans h.keep.tape,hE.output.trans h.keep.output,Nat.le_trans h.keep.drawn hE.drawn,Nat.le_trans h.keep.size hE.size,fun k hk hO => ?_⟩;rw [hE.frame k (Nat.lt_of_lt_of_le hk h.keep.size) ?_ ?_,h.keep.block k hk hO]
   . intro n e l hn hl hb;obtain ⟨e0,h0,h1,_⟩:=hs n e hn;rcases h.fresh n e0 l h0 h1 hl with h2 | h2
     . omega
     . exact hO (hb▸h2)
   . intro n m' hm;obtain ⟨e0,h0,_,hf⟩:=hs n _ hm;obtain ⟨m,rfl,hst⟩:=hf m' rfl;cases hx:m'.own k with
     | none=>rfl
     | some p =>
       rw [hst.own] at hx;obtain ⟨k1,cp,el⟩:=p;rcases ((h.zcG n m h0).own _ _ _ _ hx).1 with h2 | h2
       . omega
       . exact absurd h2 hO
 . intro n m he;rcases hcase n _ he with ⟨hn,ho,hns⟩ | ⟨hn,hin⟩ | ⟨i,rfl,hi⟩
   . have hm:=h.zcG n m ho;refine hm.next fun b _ hb hno=>⟨hE.frame b hb (fun n e l hn hl => ?_) fun n' m' hm' => ?_,hno' b hb hno⟩
     . obtain ⟨e0,h0,h1,_⟩:=hs n e hn;exact hno n e0 l h0 h1 hl
     . obtain ⟨e0,h0,_,hf⟩:=hs n' _ hm';obtain ⟨m0,rfl,_⟩:=hf m' rfl;rw [h.zbC n' n m0 m h0 ho] at hm';exact absurd hm' (hns _)
   . obtain ⟨e0,h0,_,hf⟩:=hs n _ hin;obtain ⟨m0,rfl,hst⟩:=hf m rfl;have hm:=h.zcG n m0 h0;obtain ⟨_,ht1,ht2⟩:=hE.turned n _ hin;refine ⟨fun a x hx=>⟨ht1 a x hx,?_⟩,fun b k cp el hb => ?_,fun b hb=>hm.old b (hst.old▸hb)⟩
     . rcases hst.dom a x hx with ⟨y,hy⟩ | ⟨⟨k,cp,el⟩,hp⟩
       . exact hno' _ (qq1 (hm.told a y hy).1) (hm.told a y hy).2
       . obtain ⟨_,h2,_,_,_,_,h3,_⟩:=hm.own _ _ _ _ hp;exact hno' _ (Array.getElem?_eq_some_iff.1 h3).1 h2
     . have hb0:m0.own b=some (k,cp,el):=by rw [← hst.own]; exact hb
       obtain ⟨h1,h2,_,_,_,_,h3,_⟩:=hm.own _ _ _ _ hb0;exact ⟨h1,hno' _ (Array.getElem?_eq_some_iff.1 h3).1 h2,ht2 b k cp el hb⟩
   . exact absurd hi (hnew i m)
 . intro n k m m' hn hk;have old:∀ (n:Nat) (m:Mem),(qbc H sets++news)[n]? = some (SO.mem m)->∃ m0,H[n]? = some (SO.mem m0):=fun n m hn=>by
    rcases hcase n _ hn with ⟨_,ho,_⟩ | ⟨_,hin⟩ | ⟨i,rfl,hi⟩
    . exact ⟨m,ho⟩
    . obtain ⟨e0,h0,_,hf⟩:=hs n _ hin;obtain ⟨m0,rfl,_⟩:=hf m rfl;exact ⟨m0,h0⟩
    . exact absurd hi (hnew i m)
   obtain ⟨m1,h1⟩:=old n m hn;obtain ⟨m2,h2⟩:=old k m' hk;exact h.zbC n k m1 m2 h1 h2
 . intro n hn;rw [List.length_append,hlen] at hn;rw [hE.dom n (.inr hn)];exact h.bound n (by omega)
end
noncomputable section
variable {α β:Type}
def R.Sat (r:R α) (φ:α->Prop):Prop :=
 match r with
 | .ok a=>φ a
 | .need p r=>p->r.Sat φ
 | .fork b t f=>(b=true->t.Sat φ)/\(b=false->f.Sat φ)
 | .stuck _=>True
 | .any k=>∃ z,(k z).Sat φ
theorem R.Sat.mono {r:R α} {φ ψ:α->Prop} (h:r.Sat φ) (hi:∀ a,φ a->ψ a):r.Sat ψ:=by
 induction r with
 | ok a=>exact hi a h
 | need p r ih=>exact fun hp=>ih (h hp)
 | fork b t f iht ihf=>exact ⟨fun hb=>iht (h.1 hb),fun hb=>ihf (h.2 hb)⟩
 | stuck n=>trivial
 | any k ih=>obtain ⟨z,h⟩:=h; exact ⟨z,ih z h⟩
theorem R.Sat.bind {r:R α} {f:α->R β} {φ:α->Prop} {ψ:β->Prop} (h:r.Sat φ) (hf:∀ a,φ a->(f a).Sat ψ):(r.bind f).Sat ψ:=by
 induction r with
 | ok a=>exact hf a h
 | need p r ih=>exact fun hp=>ih (h hp)
 | fork b t f iht ihf=>exact ⟨fun hb=>iht (h.1 hb),fun hb=>ihf (h.2 hb)⟩
 | stuck n=>trivial
 | any k ih=>obtain ⟨z,h⟩:=h; exact ⟨z,ih z h⟩
theorem R.Sat.opt {n:Nat} {o:Option α} {f:α->R β} {ψ:β->Prop} (h:∀ a,o=some a->(f a).Sat ψ):(R.opt n o f).Sat ψ:=by
 cases o with
 | none=>trivial
 | some a=>exact h a rfl
@[simp] theorem zak (t f:α):zab true t f=t:=rfl
@[simp] theorem zam (t f:α):zab false t f=f:=rfl
@[simp] theorem zeI (d:β) (f:α->β):zah none d f=d:=rfl
@[simp] theorem zao (a:α) (d:β) (f:α->β):zah (some a) d f=f a:=rfl
theorem R.Sat.zab {b:Bool} {t f:R α} {φ:α->Prop} (ht:b=true->t.Sat φ) (hf:b=false->f.Sat φ):(zab b t f).Sat φ:=by
 cases b with
 | true=>exact ht rfl
 | false=>exact hf rfl
theorem jte (k:IntKind) (m:Nat) (h:m<=zgR k):k.wrap (m:Int)=(m:Int):=by
 cases k <;> simp only [zgR,IntKind.wrap,IntKind.bits,IntKind.signed] at * <;> simp <;> omega
theorem qsl (k:IntKind) (n:Int):qpj k n=k.wrap n:=by
 cases n with
 | negSucc m=>rfl
 | ofNat m =>
   show (Bool.rec (motive:=fun _=>Int) (k.wrap (.ofNat m)) (.ofNat m) (Nat.ble m (zgR k)):Int)=_;cases h:Nat.ble m (zgR k) with
   | false=>rfl
   | true=>exact (jte k m (Nat.le_of_ble_eq_true h)).symm
theorem q5i {a b:IntKind} (h:eqK a b=true):a=b:=by
 have:=Nat.eq_of_beq_eq_true h;cases a <;> cases b <;> first | rfl | (exact absurd this (by decide))
theorem qqk (x y:Int):eqI x y=(x == y):=by
 cases x <;> cases y <;> simp only [eqI,zdp]
 . rw [Bool.eq_iff_iff]; simp [Int.ofNat_inj]
 . rfl
 . rfl
 . rw [Bool.eq_iff_iff]; simp
theorem j7i (x y:Int):ltI x y=decide (x<y):=by
 cases x <;> cases y <;> simp only [ltI,zdp]
 . rw [Bool.eq_iff_iff]; simp [Nat.blt]; omega
 . rw [Bool.eq_iff_iff]; simp; omega
 . rw [Bool.eq_iff_iff]; simp; omega
 . rw [Bool.eq_iff_iff]; simp [Nat.blt]; omega
theorem jue (x y:Int):addI x y=x+y:=by
 cases x <;> cases y <;> rfl
theorem qqi (m:Int):IntKind.u8.wrap m=((BitVec.ofInt 8 m).toNat:Int):=by
 simp [IntKind.wrap,IntKind.bits,IntKind.signed,BitVec.toNat_ofInt]; omega
theorem qzg (m:Int):IntKind.u32.wrap m=((BitVec.ofInt 32 m).toNat:Int):=by
 simp [IntKind.wrap,IntKind.bits,IntKind.signed,BitVec.toNat_ofInt]; omega
theorem q0g (m:Int):IntKind.u64.wrap m=((BitVec.ofInt 64 m).toNat:Int):=by
 simp [IntKind.wrap,IntKind.bits,IntKind.signed,BitVec.toNat_ofInt]; omega
theorem wrap_i64 {m:Int} (h:qna m):IntKind.i64.wrap m=m:=by
 unfold qna at h;simp [IntKind.wrap,IntKind.bits,IntKind.signed]; omega
theorem qwc {w:Nat} (x:BitVec w):BitVec.ofInt w (x.toNat:Int)=x:=by
 apply BitVec.eq_of_toNat_eq;rw [BitVec.toNat_ofInt];have:=x.isLt;rw [← Int.natCast_emod,Int.toNat_natCast,Nat.mod_eq_of_lt this]
theorem qr1 {x:SI} {a:BitVec 8} (h:i8 x=some a):BitVec.ofInt 8 x.den=a:=by
 cases x <;> simp [i8] at h <;> subst h <;> first | rfl | exact qwc _
theorem qcx {x:SI} {a:BitVec 32} (h:i32 x=some a):BitVec.ofInt 32 x.den=a:=by
 cases x <;> simp [i32] at h <;> subst h <;> first | rfl | exact qwc _
theorem qdx {x:SI} {a:BitVec 64} (h:i64 x=some a):BitVec.ofInt 64 x.den=a:=by
 cases x <;> simp [i64] at h <;> subst h <;> first | rfl | exact qwc _
def arM (op:BinOp) (k:IntKind) (x y:Int):Option Int :=
 match op with
 | .add=>some (k.wrap (x+y))
 | .sub=>some (k.wrap (x - y))
 | .mul=>some (k.wrap (x * y))
 | .and | .or | .xor | .andNot=>some (qqe op k x y)
 | _=>none
theorem qst (op:BinOp) (k:IntKind) (x y:Int):qrq op k x y=arM op k x y:=by
 cases op <;> simp [qrq,arM,jec,jfc,jgc,jhc,arOr,jic,qlw,que,qsl,jue] <;> rfl
theorem qtl (w:Nat) (a b:Int):BitVec.ofInt w (a - b)=BitVec.ofInt w a - BitVec.ofInt w b:=by
 rw [Int.sub_eq_add_neg,BitVec.ofInt_add,BitVec.ofInt_neg,BitVec.sub_eq_add_neg]
theorem jve {op:BinOp} {x y:Int} {a b z:BitVec 8} (ha:BitVec.ofInt 8 x=a) (hb:BitVec.ofInt 8 y=b) (h:zfl op 8 a b=some z):arM op .u8 x y=some (z.toNat:Int):=by
 cases op <;> simp only [zfl,qnv,qov,qpv,qpq,zhh,qqq,qdl,qzd,Option.some.injEq,reduceCtorEq] at h <;> subst h <;> subst ha <;> subst hb <;>
  simp only [arM,qqe,qqi,IntKind.bits,qwc,BitVec.ofInt_add,BitVec.ofInt_mul,qtl] <;> rfl
theorem qp9 {op:BinOp} {x y:Int} {a b z:BitVec 32} (ha:BitVec.ofInt 32 x=a) (hb:BitVec.ofInt 32 y=b) (h:zfl op 32 a b=some z):arM op .u32 x y=some (z.toNat:Int):=by
 cases op <;> simp only [zfl,qnv,qov,qpv,qpq,zhh,qqq,qdl,qzd,Option.some.injEq,reduceCtorEq] at h <;> subst h <;> subst ha <;> subst hb <;>
  simp only [arM,qqe,qzg,IntKind.bits,qwc,BitVec.ofInt_add,BitVec.ofInt_mul,qtl] <;> rfl
theorem qq9 {op:BinOp} {x y:Int} {a b z:BitVec 64} (ha:BitVec.ofInt 64 x=a) (hb:BitVec.ofInt 64 y=b) (h:zfl op 64 a b=some z):arM op .u64 x y=some (z.toNat:Int):=by
 cases op <;> simp only [zfl,qnv,qov,qpv,qpq,zhh,qqq,qdl,qzd,Option.some.injEq,reduceCtorEq] at h <;> subst h <;> subst ha <;> subst hb <;>
  simp only [arM,qqe,q0g,IntKind.bits,qwc,BitVec.ofInt_add,BitVec.ofInt_mul,qtl] <;> rfl
theorem q6c (op:BinOp) (k:IntKind) (x y:SI):(qrf op k x y).Sat fun z=>arM op k x.den y.den=some z.den:=by
 refine R.Sat.opt fun n hn => ?_
 rw [qst] at hn; exact hn
theorem jwe (op:BinOp) (x y:SI):(ar8 op x y).Sat fun z=>arM op .u8 x.den y.den=some z.den:=by
 unfold ar8;cases hx:i8 x with
 | none=>exact q6c op .u8 x y
 | some a =>
   show (zkH a op x y).Sat _;unfold zkH;cases hy:i8 y with
   | none=>exact q6c op .u8 x y
   | some b=>exact R.Sat.opt fun n hn=>jve (qr1 hx) (qr1 hy) hn
theorem qr9 (op:BinOp) (x y:SI):(zkJ op x y).Sat fun z=>arM op .u32 x.den y.den=some z.den:=by
 unfold zkJ;cases hx:i32 x with
 | none=>exact q6c op .u32 x y
 | some a =>
   show (qy2 a op x y).Sat _;unfold qy2;cases hy:i32 y with
   | none=>exact q6c op .u32 x y
   | some b=>exact R.Sat.opt fun n hn=>qp9 (qcx hx) (qcx hy) hn
theorem qs9 (op:BinOp) (x y:SI):(zkI op x y).Sat fun z=>arM op .u64 x.den y.den=some z.den:=by
 unfold zkI;cases hx:i64 x with
 | none=>exact q6c op .u64 x y
 | some a =>
   show (qz2 a op x y).Sat _;unfold qz2;cases hy:i64 y with
   | none=>exact q6c op .u64 x y
   | some b=>exact R.Sat.opt fun n hn=>qq9 (qdx hx) (qdx hy) hn
theorem qul (op:BinOp) (x y:SI):(qjk op x y).Sat fun z=>arM op .i64 x.den y.den=some z.den:=by
 unfold qjk;cases hp:qmw op x.den y.den with
 | none=>exact q6c op .i64 x y
 | some n =>
   intro hin;show arM op .i64 x.den y.den=some n;cases op <;> simp only [qmw,jjc,jkc,qbd,Option.some.injEq,reduceCtorEq] at hp <;> subst hp <;> simp only [arM,wrap_i64 hin]
theorem q9e (a:BitVec 32):BitVec.ofInt 64 (a.toNat:Int)=a.setWidth 64:=by
 apply BitVec.eq_of_toNat_eq;rw [BitVec.toNat_ofInt,BitVec.toNat_setWidth];have:=a.isLt;omega
theorem qex (a:BitVec 32):IntKind.i64.wrap (a.toNat:Int)=(a.toNat:Int):=wrap_i64 ⟨by omega,by have:=a.isLt; omega⟩
theorem q53 {op:BinOp} {a b z:BitVec 32} (h:qqv op a b=some z):arM op .i64 (a.toNat:Int) (b.toNat:Int)=some (z.toNat:Int):=by
 have hw:∀ x:BitVec 32,(x.setWidth 64).toNat=x.toNat:=fun x=>by
  rw [BitVec.toNat_setWidth]; have:=x.isLt; omega
 cases op <;> first | (cases h; done) | skip
 . cases h;show some (IntKind.i64.wrap ((BitVec.ofInt 64 (a.toNat:Int) &&& BitVec.ofInt 64 (b.toNat:Int)).toNat:Int))=_;rw [q9e,q9e,BitVec.toNat_and,hw,hw,← BitVec.toNat_and,qex]
 . cases h;show some (IntKind.i64.wrap ((BitVec.ofInt 64 (a.toNat:Int) ||| BitVec.ofInt 64 (b.toNat:Int)).toNat:Int))=_;rw [q9e,q9e,BitVec.toNat_or,hw,hw,← BitVec.toNat_or,qex]
 . cases h;show some (IntKind.i64.wrap ((BitVec.ofInt 64 (a.toNat:Int) ^^^ BitVec.ofInt 64 (b.toNat:Int)).toNat:Int))=_;rw [q9e,q9e,BitVec.toNat_xor,hw,hw,← BitVec.toNat_xor,qex]
theorem qz6 (op:BinOp) (x y:SI):(q12 op x y).Sat fun z=>arM op .i64 x.den y.den=some z.den:=by
 unfold q12;cases x <;> first | exact qul op _ _ | skip
 rename_i a;cases y <;> first | exact qul op _ _ | skip
 rename_i b;show R.Sat (Option.rec (motive:=fun _=>R SI) (qjk op (.b32 a) (.b32 b)) (fun z=>.ok (.b32 z)) (qqv op a b)) _;cases hb:qqv op a b with
 | none=>exact qul op _ _
 | some z=>exact q53 hb
theorem qs1 (k:IntKind) (op:BinOp) (x y:SI):(arK k op x y).Sat fun z=>arM op k x.den y.den=some z.den:=by
 cases k
 . exact q6c op _ x y
 . exact q6c op _ x y
 . exact q6c op _ x y
 . exact qz6 op x y
 . exact jwe op x y
 . exact q6c op _ x y
 . exact qr9 op x y
 . exact qs9 op x y
theorem qng (op:BinOp) (k:IntKind) (x y:SI):(qkk op k x y).Sat fun z=>arM op k x.den y.den=some z.den:=by
 cases x with
 | lit a=>cases y with
   | lit b =>
     refine R.Sat.opt fun n hn => ?_
     rw [qst] at hn; exact hn
   | _=>exact qs1 k op _ _
 | _=>exact qs1 k op _ _
def dvM (op:BinOp) (k:IntKind) (x y:Int):Int :=
 match op with
 | .quo=>k.wrap (x.tdiv y)
 | _=>x.tmod y
theorem qvh (op:BinOp) (k:IntKind) (x y:SI):(qel op k x y).Sat fun z=>dvM op k x.den y.den=z.den:=by
 cases op <;> rfl
theorem q06 (op:BinOp) (k:IntKind) (x:SI):(q22 op k x 4294967296).Sat fun z=>dvM op k x.den 4294967296=z.den:=by
 unfold q22;split
 . intro h0;show x.den.tmod 4294967296=((BitVec.ofInt 32 x.den).toNat:Int);rw [BitVec.toNat_ofInt,Int.tmod_eq_emod_of_nonneg h0];have:=Int.emod_nonneg x.den (show (4294967296:Int)≠0 by decide)
   show _=((x.den % ((4294967296:Nat):Int)).toNat:Int);omega
 . exact qvh _ k x (.lit 4294967296)
theorem qt9 (op:BinOp) (k:IntKind) (x:SI):(ziP op k x 256).Sat fun z=>dvM op k x.den 256=z.den:=by
 unfold ziP;split
 . cases x <;> first | exact qvh _ k _ (.lit 256) | skip
   rename_i a;show (a.toNat:Int).tmod 256=((a.setWidth 8).toNat:Int);rw [BitVec.toNat_setWidth,Int.tmod_eq_emod_of_nonneg (by omega)]
   omega
 . exact qvh _ k x (.lit 256)
theorem jxe (b:Int) (op:BinOp) (k:IntKind) (x:SI):(dvW b x op k).Sat fun z=>dvM op k x.den b=z.den:=by
 unfold dvW;refine R.Sat.zab (fun h => ?_) fun _=>R.Sat.zab (fun h => ?_) fun _=>qvh op k x (.lit b)
 . rw [qqk] at h;have:b=4294967296:=by simpa using h
   subst this;exact q06 op k x
 . rw [qqk] at h;have:b=256:=by simpa using h
   subst this;exact qt9 op k x
theorem qu9 (op:BinOp) (k:IntKind) (x y:SI):(divS op k x y).Sat fun z=>y.den≠0/\dvM op k x.den y.den=z.den:=by
 have hs:∀ y:SI,(R.need (y.den≠0) (qel op k x y)).Sat fun z=>y.den≠0/\dvM op k x.den y.den=z.den:=fun y h0=>(qvh op k x y).mono fun _ h=>⟨h0,h⟩;cases y with
 | lit b =>
   refine R.Sat.zab (fun _=>trivial) (fun h0 => ?_);have hb:b≠0:=by
    rw [qqk] at h0; simpa using h0
   cases x with
   | lit a =>
     show (dvLL a b op k).Sat _;cases op <;> first | exact ⟨hb,rfl⟩ | (exact ⟨hb,(qsl k _).symm⟩)
   | _=>exact (jxe b op k _).mono fun _ h=>⟨hb,h⟩
 | _=>exact hs _
def shM (op:BinOp) (k:IntKind) (x y:Int):Int :=
 match op with
 | .shl=>k.wrap (x * 2 ^ (min y.toNat k.bits))
 | _=>x.fdiv (2 ^ (min y.toNat k.bits))
theorem qfx (k:IntKind):q32 k=k.bits:=by cases k <;> rfl
theorem qgx {w:Nat} (a:BitVec w) (n:Nat):BitVec.ofInt w ((a.toNat:Int) * 2 ^ n)=a <<< n:=by
 rw [BitVec.ofInt_mul,qwc];apply BitVec.eq_of_toNat_eq;rw [BitVec.toNat_mul,BitVec.toNat_shiftLeft,BitVec.toNat_ofInt,Nat.shiftLeft_eq];have:((2 ^ n:Int) % (2 ^ w:Nat)).toNat=2 ^ n % 2 ^ w:=by
  rw [show (2 ^ n:Int)=((2 ^ n:Nat):Int) from by simp,← Int.natCast_emod,Int.toNat_natCast]
 rw [this,Nat.mul_mod_mod]
theorem qhx {w:Nat} (a:BitVec w) (n:Nat):Int.fdiv (a.toNat:Int) (2 ^ n)=((a >>> n).toNat:Int):=by
 rw [Int.fdiv_eq_ediv_of_nonneg _ (Int.pow_nonneg (by decide)),BitVec.toNat_ushiftRight,Nat.shiftRight_eq_div_pow]
 simp
theorem jye (x:SI) (n:Nat) (k:IntKind) (op:BinOp) (hop:op=.shl\/op=.shr):(shX x n k op).Sat fun z=>(match op with
  | .shl=>k.wrap (x.den * 2 ^ n)
  | _=>x.den.fdiv (2 ^ n))=z.den:=by
 have hp:Int.ofNat (2 ^ n)=2 ^ n:=by simp
 rcases hop with rfl | rfl
 . cases x with
   | lit a=>show k.wrap (a * 2 ^ n)=qpj k (a * Int.ofNat (2 ^ n)); rw [qsl,hp]
   | sym a=>rfl
   | b8 a=>cases k <;> first | trivial | (show IntKind.u8.wrap _=_; rw [qqi]; simp only [SI.den]; rw [qgx])
   | b32 a=>cases k <;> first | trivial | (show IntKind.u32.wrap _=_; rw [qzg]; simp only [SI.den]; rw [qgx]) | rfl
   | b64 a=>cases k <;> first | trivial | (show IntKind.u64.wrap _=_; rw [q0g]; simp only [SI.den]; rw [qgx])
 . cases x with
   | lit a=>show a.fdiv (2 ^ n)=a.fdiv (Int.ofNat (2 ^ n)); rw [hp]
   | sym a=>rfl
   | b8 a=>cases k <;> first | trivial | exact qhx a n
   | b32 a=>cases k <;> first | trivial | exact qhx a n
   | b64 a=>cases k <;> first | trivial | exact qhx a n
theorem q63 (op:BinOp) (k:IntKind) (x y:SI) (hop:op=.shl\/op=.shr):(q95 op k x y).Sat fun z=>0<=y.den/\shM op k x.den y.den=z.den:=by
 have hs:∀ y:SI,(q85 op k x y).Sat fun z=>0<=y.den/\shM op k x.den y.den=z.den:=by
  intro y h0;rcases hop with rfl | rfl <;> exact ⟨h0,rfl⟩
 cases y with
 | lit b=>cases b with
   | negSucc n=>trivial
   | ofNat n =>
     have key:∀ m,min n k.bits=m->(shX x m k op).Sat fun z=>0<=(SI.lit (.ofNat n)).den/\shM op k x.den (SI.lit (.ofNat n)).den=z.den:=by
      intro m hm;refine (jye x m k op hop).mono fun z hz=>⟨Int.natCast_nonneg n,?_⟩;subst hm;rcases hop with rfl | rfl <;> exact hz
     refine R.Sat.zab (fun h=>key n ?_) (fun h=>key _ ?_)
     . rw [qfx] at h;exact Nat.min_eq_left (Nat.le_of_ble_eq_true h)
     . rw [qfx] at *;refine Nat.min_eq_right ?_
       rcases Nat.lt_or_ge k.bits n with h' | h'
       . omega
       . rw [Nat.ble_eq_true_of_le h'] at h; cases h
 | _=>exact hs _
theorem cmpL_eq (op:BinOp) (x y:Int):cmpL op x y=zd2 op x y:=by
 cases op <;> simp only [cmpL,zd2,jlc,jmc,jnc,joc,jpc,jqc,qee,qqk,j7i]
 . rfl
 . congr 1; rw [Bool.eq_iff_iff]; simp
 . congr 1; rw [Bool.eq_iff_iff]; simp
theorem qv9 (op:BinOp) (x y:SI):(zf6 op x y).Sat fun b=>zd2 op x.den y.den=some b.den:=by
 have hs:∀ x y:SI,(q42 op x y).Sat fun b=>zd2 op x.den y.den=some b.den:=fun x y=>R.Sat.opt fun b hb=>hb;cases x with
 | lit a=>cases y with
   | lit b=>exact R.Sat.opt fun c hc=>by rw [cmpL_eq] at hc; exact hc
   | _=>exact hs _ _
 | _=>exact hs _ _
theorem setW {w v:Nat} (a:BitVec w):BitVec.ofInt v (a.toNat:Int)=a.setWidth v:=by
 apply BitVec.eq_of_toNat_eq;rw [BitVec.toNat_ofInt,BitVec.toNat_setWidth,← Int.natCast_emod,Int.toNat_natCast]
theorem q16 (k:IntKind) (x:SI):(jrc k x).den=k.wrap x.den:=by
 cases x with
 | lit n=>exact qsl k n
 | sym n =>
   cases k <;> first
    | rfl
    | exact (qqi n).symm
    | exact (qzg n).symm
    | exact (q0g n).symm
 | b8 a =>
   have:=a.isLt;cases k <;> first
    | rfl
    | (show (a.toNat:Int)=IntKind.u8.wrap (a.toNat:Int); rw [qqi,qwc])
    | (show ((a.setWidth 32).toNat:Int)=IntKind.u32.wrap (a.toNat:Int); rw [qzg,setW])
    | (show ((a.setWidth 64).toNat:Int)=IntKind.u64.wrap (a.toNat:Int); rw [q0g,setW])
    | (show (a.toNat:Int)=IntKind.i64.wrap (a.toNat:Int); rw [wrap_i64 ⟨by omega,by omega⟩])
 | b32 a =>
   have:=a.isLt;cases k <;> first
    | rfl
    | (show ((a.setWidth 8).toNat:Int)=IntKind.u8.wrap (a.toNat:Int); rw [qqi,setW])
    | (show (a.toNat:Int)=IntKind.u32.wrap (a.toNat:Int); rw [qzg,qwc])
    | (show ((a.setWidth 64).toNat:Int)=IntKind.u64.wrap (a.toNat:Int); rw [q0g,setW])
    | (show (a.toNat:Int)=IntKind.i64.wrap (a.toNat:Int); rw [wrap_i64 ⟨by omega,by omega⟩])
 | b64 a =>
   cases k <;> first
    | rfl
    | (show ((a.setWidth 8).toNat:Int)=IntKind.u8.wrap (a.toNat:Int); rw [qqi,setW])
    | (show ((a.setWidth 32).toNat:Int)=IntKind.u32.wrap (a.toNat:Int); rw [qzg,setW])
    | (show (a.toNat:Int)=IntKind.u64.wrap (a.toNat:Int); rw [q0g,qwc])
theorem qri (x:SI):x.toN.den=x.den.toNat:=by
 cases x with
 | lit n=>cases n <;> rfl
 | b8 x=>show 0+x.toNat=(x.toNat:Int).toNat; omega
 | _=>rfl
theorem q0o (x:SN):x.toI.den=(x.den:Int):=by cases x <;> rfl
theorem SN.zaZ (x y:SN):(x.add y).den=x.den+y.den:=by
 cases x <;> cases y <;> first
  | rfl
  | (rename_i a o x; show a+o+x.toNat=a+(o+x.toNat); omega)
  | (rename_i o x b; show o+b+x.toNat=o+x.toNat+b; omega)
theorem SN.zbj (x y:SN):(x.sub y).den=x.den - y.den:=by cases x <;> cases y <;> rfl
theorem SN.zbK (x:SN) (b:Nat):(x.mul b).den=x.den * b:=by
 cases x with
 | byt o a =>
   show (Sim.zab (Nat.beq b 1) (SN.byt o a) (.sym ((o+a.toNat) * b))).den=(o+a.toNat) * b;cases h:Nat.beq b 1 with
   | false=>rfl
   | true=>rw [Nat.eq_of_beq_eq_true h,Nat.mul_one]; rfl
 | _=>rfl
theorem q6i {i:SI} {n:SN} {k:SN->R α} {φ:α->Prop} (h:∀ j:SN,0<=i.den->i.den<(n.den:Int)->j.den=i.den.toNat->(k j).Sat φ):(zes i n k).Sat φ:=by
 have hs:∀ i':SI,i'=i->(qyi i' n k).Sat φ:=by
  rintro i' rfl ⟨h0,h1⟩;exact h _ h0 h1 (qri _)
 cases i with
 | lit a=>cases a with
   | negSucc a=>trivial
   | ofNat a =>
     show (qa6 a n k).Sat φ;cases n with
     | lit n =>
       refine R.Sat.zab (fun hb => ?_) (fun _=>trivial);have hlt:a<n:=Nat.le_of_ble_eq_true hb;exact h (.lit a) (Int.natCast_nonneg a) (by simp [SI.den,SN.den]; exact hlt) rfl
     | sym n=>exact fun hlt=>h (.lit a) (Int.natCast_nonneg a) (by simp [SI.den,SN.den]; exact hlt) rfl
     | byt o x=>exact fun hlt=>h (.lit a) (Int.natCast_nonneg a) (by simp only [SI.den,SN.den]; have:a<o+x.toNat:=hlt; show (a:Int)<_; omega) rfl
 | b8 x =>
   show (qss x n k).Sat φ;unfold qss;cases n with
   | lit m =>
     refine R.Sat.zab (fun hb => ?_) (fun _=>hs _ rfl);have hb:256<=m:=Nat.le_of_ble_eq_true hb;have hx:=x.isLt;exact h (.byt 0 x) (by simp only [SI.den]; omega) (by simp only [SI.den,SN.den]; omega) (by simp only [SI.den,SN.den]; omega)
   | sym m=>exact hs _ rfl
   | byt o y=>exact hs _ rfl
 | _=>exact hs _ rfl
theorem qw9 {i:SI} {n:SN} {k:SN->R α} {φ:α->Prop} (h:∀ j:SN,0<=i.den->i.den<=(n.den:Int)->j.den=i.den.toNat->(k j).Sat φ):(bndS i n k).Sat φ:=by
 have hs:∀ i':SI,i'=i->(qb6 i' n k).Sat φ:=by
  rintro i' rfl ⟨h0,h1⟩;exact h _ h0 h1 (qri _)
 cases i with
 | lit a=>cases a with
   | negSucc a=>trivial
   | ofNat a =>
     show (qc6 a n k).Sat φ;cases n with
     | lit n =>
       refine R.Sat.zab (fun hb => ?_) (fun _=>trivial);have hlt:a<=n:=Nat.le_of_ble_eq_true hb;exact h (.lit a) (Int.natCast_nonneg a) (by simp [SI.den,SN.den]; exact hlt) rfl
     | sym n=>exact fun hlt=>h (.lit a) (Int.natCast_nonneg a) (by simp [SI.den,SN.den]; exact hlt) rfl
     | byt o x=>exact fun hlt=>h (.lit a) (Int.natCast_nonneg a) (by simp only [SI.den,SN.den]; have:a<=o+x.toNat:=hlt; show (a:Int)<=_; omega) rfl
 | _=>exact hs _ rfl
theorem SN.zaT {x:SN} {d:R α} {f:Nat->R α} {φ:α->Prop} (h:∀ n,x=.lit n->(f n).Sat φ) (hd:(∀ n,x≠.lit n)->d.Sat φ):(x.za6 d f).Sat φ:=by
 cases x with
 | lit n=>exact h n rfl
 | sym n=>exact hd (by intro _ e; cases e)
 | byt o y=>exact hd (by intro _ e; cases e)
end
noncomputable section
variable {α:Type}
def q1g:Next->Option Value
 | .value v=>some v
 | .skip=>some undef
 | _=>none
def Free (β:Val) (base:Nat) (news:List SO):Prop:=∀ i,i<news.length->β (base+i)=none
theorem Free.hd {β:Val} {base:Nat} {e:SO} {r:List SO} (h:Free β base (e::r)):β base=none:=h 0 (Nat.zero_lt_succ _)
def qea (P:Program) (H:List SO) (β:Val) (w:World) (base:Nat) (res:Result Next):zai->Prop
 | .val v sets news=>Free β base news->∃ nx v' w' β',res=.ok nx w'/\q1g nx=some v'/\v.den β'=some v'/\Eff P β w base sets news β' w'/\∀ n e,(n,e)∈sets->qhh H n e
 | .enter f args=>∃ vs,SV.zal β args=some vs/\res=(callFunc f vs.toArray).run P w
 | .touch v nm=>∃ nx v' w' e,res=.ok nx w'/\q1g nx=some v'/\v.den β=some v'/\H[nm]? = some e/\e.owned=true/\Eff P β w base [(nm,e)] [] β w'
 | .round nm args=>∃ l vs,β nm=some l/\SV.zal β args=some vs/\res=(Instr.yield l.blk vs.toArray).run P w
 | .defer d=>∃ x,d.den β=some x/\res=.ok (.defer x) w
 | .panic v=>∃ x,v.den β=some x/\res=.halt (.panic x) w
theorem Eff.none {P:Program} {β:Val} {w w':World} {base:Nat} (hh:w'.heap=w.heap) (ho:w'.os=w.os) (ht:w'.tape=w.tape) (hu:w'.output=w.output) (hdr:w.drawn<=w'.drawn:=by first | exact Nat.le_refl _ | exact Nat.le_succ _ | exact Nat.le_succ_of_le (Nat.le_succ _)):Eff P β w base [] [] β w' where
 le:=Val.le_refl β
 os:=ho
 tape:=ht
 output:=hu
 drawn:=hdr
 size:=by rw [hh]; exact Nat.le_refl _
 dom:=fun _ _=>rfl
 frame:=fun b _ _ _=>by rw [hh]
 one:=by simp
 turned:=by simp
 made:=by simp
 apart:=by simp
theorem Eff.refl (P:Program) (β:Val) (w:World) (base:Nat):Eff P β w base [] [] β w:=Eff.none rfl rfl rfl rfl
def Val.upd (β:Val) (n:Nat) (l:Loc):Val:=fun m=>if m=n then some l else β m
theorem Val.zbh {β:Val} {n:Nat} {l:Loc} (h:β n=Option.none):β.le (β.upd n l):=by
 intro m x hm;unfold Val.upd;split
 . rename_i e; rw [e,h] at hm; cases hm
 . exact hm
theorem Val.upd_same (β:Val) (n:Nat) (l:Loc):β.upd n l n=some l:=by simp [Val.upd]
theorem Eff.alloc {P:Program} {β:Val} {w w':World} {base:Nat} {c:Cells} {whole:Bool} {elem:TypeId} {vs rest:List Value} {lo hi cap:Nat} (hb:β base=Option.none)
  (hh:w'.heap=w.heap.push (.cells (vs++rest).toArray elem (lo,hi))) (ho:w'.os=w.os) (ht:w'.tape=w.tape) (hu:w'.output=w.output)
  (hc:zaj β c vs) (hfz:zfG lo hi (vs++rest).length) (hw:whole=true->rest=[]) (hcap:∀ i,P.info? elem=some i->cap * i.size<=(vs++rest).length) (hdr:w.drawn<=w'.drawn:=by first | exact Nat.le_refl _ | exact Nat.le_succ _ | exact Nat.le_succ_of_le (Nat.le_succ _)) :
  Eff P β w base [] [.own c whole elem] (β.upd base ⟨w.heap.size,0,cap⟩) w' where
 le:=Val.zbh hb
 os:=ho
 tape:=ht
 output:=hu
 drawn:=hdr
 size:=by rw [hh]; simp
 dom:=fun n hn=>by
  unfold Val.upd;rw [if_neg]; simp at hn; omega
 frame:=fun b hb _ _=>by rw [hh,Array.getElem?_push,if_neg (by omega)]
 one:=by simp
 turned:=by simp
 made:=fun i e he=>by
  cases i with
  | zero =>
    simp at he; subst he;refine ⟨rfl,⟨⟨w.heap.size,0,cap⟩,vs,rest,lo,hi,Val.upd_same _ _ _,rfl,hc.mono (Val.zbh hb),?_,hfz,hw,hcap⟩,_,Val.upd_same _ _ _,.inl (Nat.le_refl _)⟩;rw [hh]; simp
  | succ i=>simp at he
 apart:=fun i j l l' hij hi hj=>by simp at hi hj; omega
theorem Eff.turn {P:Program} {β:Val} {w:World} {base n:Nat} {l:Loc} {o:Obj} {e:SO} (hl:β n=some l)
  (hr:zaz P β { w with heap:=w.heap.setIfInBounds l.blk o } n e):Eff P β w base [(n,e)] [] β { w with heap:=w.heap.setIfInBounds l.blk o } where
 le:=Val.le_refl β
 os:=rfl
 tape:=rfl
 output:=rfl
 drawn:=Nat.le_refl _
 size:=by simp
 dom:=fun _ _=>rfl
 frame:=fun b _ hn _=>by
  have:=hn n e l (by simp) hl
  simp [this]
 one:=fun m a b ha hb=>by simp at ha hb; rw [ha.2,hb.2]
 turned:=fun m a ha=>by simp at ha; rw [ha.1,ha.2]; exact hr
 made:=by simp
 apart:=by simp
theorem q6p {β:Val} {v:SV} {x y:Value} (h:zcX v=some x) (hv:v.den β=some y):y=x:=by
 cases v <;> first | (cases h; done) | (cases h; exact (Option.some.inj hv).symm)
theorem qwh {β:Val}:∀ {l:List SV} {xs ys:List Value},qnc l=some xs->SV.zal β l=some ys->ys=xs
 | [],xs,ys,h,hv=>by
   cases h;exact zaN.1 hv
 | v::l,xs,ys,h,hv=>by
   have h:(zah (zcX v) none fun x=>zah (qnc l) none fun xs=>some (x::xs))=some xs:=h;obtain ⟨y,zs,hy,hzs,rfl⟩:=zae.1 hv;cases h1:zcX v with
   | none=>rw [h1] at h; cases h
   | some x =>
     rw [h1] at h;have h:(zah (qnc l) none fun xs=>some (x::xs))=some xs:=h;cases h2:qnc l with
     | none=>rw [h2] at h; cases h
     | some us =>
       rw [h2] at h; cases h;rw [q6p h1 hy,qwh h2 hzs]
theorem q0s {v:SV} {x:Value} (h:zcX v=some x) (β:Val):v.den β=some x:=by
 cases v <;> first | (cases h; done) | (cases h; rfl)
theorem qix:∀ {l:List SV} {xs:List Value},qnc l=some xs->∀ β,SV.zal β l=some xs
 | [],xs,h,β=>by cases h; rfl
 | v::l,xs,h,β=>by
   have h:(zah (zcX v) none fun x=>zah (qnc l) none fun xs=>some (x::xs))=some xs:=h;cases h1:zcX v with
   | none=>rw [h1] at h; cases h
   | some x =>
     rw [h1] at h;have h:(zah (qnc l) none fun xs=>some (x::xs))=some xs:=h;cases h2:qnc l with
     | none=>rw [h2] at h; cases h
     | some us =>
       rw [h2] at h; cases h;exact zae.2 ⟨_,_,q0s h1 β,qix h2 β,rfl⟩
theorem qtt {β:Val}:∀ {l:List SV} {ks:List SK} {xs:List Value},SV.zal β l=some xs->q52 l ks->SV.zal β (jsc l ks)=some xs
 | [],_,_,h,_=>h
 | v::l,[],xs,h,_=>h
 | v::l,k::ks,xs,h,hf0=>by
   obtain ⟨y,ys,hy,hys,rfl⟩:=zae.1 h;have hf:v.zc3 True (fun x=>zdb k x)/\q52 l ks:=hf0;clear hf0 h;refine zae.2 ⟨y,ys,?_,qtt hys hf.2,rfl⟩;have h1:=hf.1;cases v
   case val x =>
    have hx:y=x:=(Option.some.inj hy).symm;subst hx;exact h1 β
   all_goals exact hy
theorem qut {P:Program} {t:TypeId} {β:Val} {l:List SV} {xs:List Value} (h:SV.zal β l=some xs) {f:List SV->R α} {φ:α->Prop} (hf:∀ l',SV.zal β l'=some xs->(f l').Sat φ):(qrv P t l f).Sat φ:=by
 unfold qrv;cases skT P 8 t with
 | none=>exact hf l h
 | some ks=>exact fun hk=>hf _ (qtt h hk)
theorem qvt {P:Program} {t:TypeId} {β:Val} {v:SV} {x:Value} (h:v.den β=some x) {f:SV->R α} {φ:α->Prop} (hf:∀ v',v'.den β=some x->(f v').Sat φ):(qsv P t v f).Sat φ:=by
 unfold qsv;cases v
 case val y =>
  have hy:x=y:=(Option.some.inj h).symm;subst hy;show R.Sat (zah (P.underlying t) (f (.val x)) fun d=>q62 (skD d) x f) φ;cases P.underlying t with
  | none=>exact hf _ h
  | some d =>
    show R.Sat (q62 (skD d) x f) φ;cases skD d with
    | i k=>exact fun hk=>hf _ (hk β)
    | b=>exact fun hk=>hf _ (hk β)
    | s=>exact fun hk=>hf _ (hk β)
    | v=>exact hf _ h
 all_goals exact hf _ h
theorem jze {x:Value} (h:zdb (.i .u8) x):x=.int .u8 ((BitVec.ofInt 8 (zfK x)).toNat:Int):=(Option.some.inj (h fun _=>none)).symm
theorem qt1 {xs:List Value} {i:Nat} (h:i<xs.length):xs[i]? = some (atV xs i):=by
 unfold atV;rw [List.getElem?_eq_getElem h]; rfl
theorem q9a (b o i:Nat):(Addr.mk b o none).add i=⟨b,o+i,none⟩:=by
 unfold Addr.add;split
 . rename_i h; subst h; rfl
 . rfl
theorem cell?_of {w:World} {b o:Nat} {c:Array Value} {e:TypeId} {fz:Nat × Nat} (h:w.heap[b]? = some (.cells c e fz)):w.cell? ⟨b,o,none⟩=c[o]? := by
 simp [World.cell?,h]
theorem cell?_same {w w':World} {b o:Nat} (h:w'.heap[b]? = w.heap[b]?):w'.cell? ⟨b,o,none⟩=w.cell? ⟨b,o,none⟩:=by
 simp [World.cell?,h]
def SO.cells? : SO->Option Cells
 | .own c _ _=>some c
 | .row c=>some c
 | _=>none
theorem q1b {P:Program} {O:Nat->Prop} {w0:World} {β:Val} {H:List SO} {w:World} (h:HeapRel0 P O w0 β H w) {n:Nat} {e:SO} {c:Cells} (he:H[n]? = some e) (hc:e.cells? = some c) :
  ∃ l vs,β n=some l/\zaj β c vs/\∀ (i:Nat) (x:Value),vs[i]? = some x->w.cell? ⟨l.blk,l.off+i,none⟩=some x:=by
 have h0:=h.entries n e he;cases e with
 | own c' wh el =>
   simp [SO.cells?] at hc; subst hc;obtain ⟨l,vs,rest,lo,hi,hl,h0',hcr,hh,_⟩:=h0;refine ⟨l,vs,hl,hcr,fun i x hx => ?_⟩;rw [cell?_of hh,h0',Nat.zero_add];simp [List.getElem?_append_left (List.getElem?_eq_some_iff.1 hx).1,hx]
 | row c' =>
   simp [SO.cells?] at hc; subst hc;obtain ⟨l,vs,hl,hcr,hh⟩:=h0;refine ⟨l,vs,hl,hcr,fun i x hx => ?_⟩;obtain ⟨h1,h2,h3⟩:=hh i x hx;rw [cell?_same (h.keep.block _ h1 h2)]; exact h3
 | loop=>simp [SO.cells?] at hc
 | deferred=>simp [SO.cells?] at hc
 | gone=>simp [SO.cells?] at hc
 | mem=>simp [SO.cells?] at hc
 | obj=>simp [SO.cells?] at hc
theorem qc0 {β:Val} {c:Cells} {vs:List Value} (hc:zaj β c vs) {i:SN} {k:Nat} {f:List SV->R α} {φ:α->Prop}
  (hf:∀ l xs,SV.zal β l=some xs->xs.length=k->(∀ (j:Nat) (x:Value),xs[j]? = some x->vs[i.den+j]? = some x)->(f l).Sat φ):(qlo c i k f).Sat φ:=by
 cases c with
 | lst l =>
   refine SN.zaT (fun n hn => ?_) (fun _=>trivial);subst hn;refine R.Sat.zab (fun hb => ?_) (fun _=>trivial);have hle:n+k<=l.length:=by rw [← qha]; exact Nat.le_of_ble_eq_true hb
   rw [qsc,qad];have hlen:=qra hc;refine hf _ _ (q3f (quh hc n) k) (by simp; omega) (fun j x hx => ?_)
   rw [List.getElem?_take] at hx;split at hx
   . rw [List.getElem?_drop] at hx; exact hx
   . cases hx
 | fn g n =>
   intro hle;obtain ⟨hlen,hg⟩:=hc;rw [qxa,qpd];refine hf _ ((vs.drop i.den).take k) (q4f (by simp; omega) ?_) (by simp; omega) (fun j x hx => ?_)
   . intro j v hv;simp only [List.getElem?_map,Option.map_eq_some_iff] at hv;obtain ⟨a,ha,rfl⟩:=hv;have hj:j<k:=by
      have:=(List.getElem?_eq_some_iff.1 ha).1;simpa using this
     rw [List.getElem?_range' hj] at ha;simp at ha; subst ha;have hlt:i.den+j<vs.length:=by omega
     refine ⟨vs[i.den+j],?_,?_⟩
     . rw [List.getElem?_take,if_pos hj,List.getElem?_drop,List.getElem?_eq_getElem hlt]
     . exact hg (i.den+j) _ (List.getElem?_eq_getElem hlt)
   . rw [List.getElem?_take] at hx;split at hx
     . rw [List.getElem?_drop] at hx; exact hx
     . cases hx
 | raw V n =>
   intro hle;obtain ⟨hlen,hg⟩:=hc;rw [qxa,qpd];refine hf _ ((vs.drop i.den).take k) (q4f (by simp; omega) ?_) (by simp; omega) (fun j x hx => ?_)
   . intro j v hv;simp only [List.getElem?_map,Option.map_eq_some_iff] at hv;obtain ⟨a,ha,rfl⟩:=hv;have hj:j<k:=by
      have:=(List.getElem?_eq_some_iff.1 ha).1;simpa using this
     rw [List.getElem?_range' hj] at ha;simp at ha; subst ha;have hlt:i.den+j<vs.length:=by omega
     refine ⟨vs[i.den+j],?_,?_⟩
     . rw [List.getElem?_take,if_pos hj,List.getElem?_drop,List.getElem?_eq_getElem hlt]
     . show some (V (i.den+j))=_;rw [← hg (i.den+j) _ (List.getElem?_eq_getElem hlt)]
   . rw [List.getElem?_take] at hx;split at hx
     . rw [List.getElem?_drop] at hx; exact hx
     . cases hx
theorem q7p {n:SI} {x:BitVec 8} (h:si8 n=some x):n.den=(x.toNat:Int):=by
 cases n with
 | lit n =>
   have h:lit8 n=some x:=h;cases n with
   | ofNat m =>
     have h:zab (Nat.blt m 256) (some (BitVec.ofNat 8 m)) none=some x:=h;cases hm:Nat.blt m 256 with
     | false=>rw [hm] at h; cases h
     | true =>
       rw [hm] at h;have hm:m<256:=Nat.le_of_ble_eq_true hm;cases h;show (m:Int)=_;rw [BitVec.toNat_ofNat,Nat.mod_eq_of_lt (by omega)]
   | negSucc m=>cases h
 | b8 y=>cases h; rfl
 | sym=>cases h
 | b32=>cases h
 | b64=>cases h
theorem q7i {β:Val} {v:SV} {x:BitVec 8} {y:Value} (h:zcJ v=some x) (hv:v.den β=some y):y=.int .u8 (x.toNat:Int):=by
 cases v <;> first | (cases h; done) | skip
 rename_i k n;have h:zab (eqK k .u8) (si8 n) none=some x:=h;cases hk:eqK k .u8 with
 | false=>rw [hk] at h; cases h
 | true =>
   rw [hk] at h;have:=q5i hk;subst this;cases hv;rw [q7p h]
theorem q5f {β:Val}:∀ {l:List SV} {xs:List (BitVec 8)} {vs:List Value},unb l=some xs->SV.zal β l=some vs->vs.length=xs.length/\∀ i,i<xs.length->vs[i]? = some (.int .u8 ((qgd xs i).toNat:Int))
 | [],xs,vs,h,hv=>by
   cases h;rw [zaN] at hv; subst hv;exact ⟨rfl,fun i hi=>by simp at hi⟩
 | v::l,xs,vs,h,hv=>by
   have h:(zah (zcJ v) none fun x=>zah (unb l) none fun xs=>some (x::xs))=some xs:=h;obtain ⟨y,ys,hy,hys,rfl⟩:=zae.1 hv;cases h1:zcJ v with
   | none=>rw [h1] at h; cases h
   | some x =>
     rw [h1] at h;have h:(zah (unb l) none fun xs=>some (x::xs))=some xs:=h;cases h2:unb l with
     | none=>rw [h2] at h; cases h
     | some us =>
       rw [h2] at h; cases h;obtain ⟨h3,h4⟩:=q5f h2 hys;refine ⟨by simp [h3],fun i hi => ?_⟩
       cases i with
       | zero=>rw [q7i h1 hy]; rfl
       | succ i =>
         have:=h4 i (by simpa using hi)
         exact this
theorem qvl {o n:Nat}:∀ (l:List SV) (k:Nat),qgg o n (noB l k)->∀ (i:Nat) (v:SV),l[i]? = some v->o<=k+i->k+i<o+n->∃ x,zcJ v=some x
 | [],_,_,i,v,h,_,_=>by simp at h
 | a::l,k,hJ,i,v,h,h1,h2=>by
   have hJ:qgg o n (zah (zcJ a) (k::noB l (k+1)) fun _=>noB l (k+1)):=hJ;cases ha:zcJ a with
   | none =>
     rw [ha] at hJ;obtain ⟨h3,h4⟩:(k<o\/o+n<=k)/\qgg o n (noB l (k+1)):=hJ;cases i with
     | zero=>omega
     | succ i=>exact qvl l (k+1) h4 i v (by simpa using h) (by omega) (by omega)
   | some x =>
     rw [ha] at hJ;have hJ:qgg o n (noB l (k+1)):=hJ;cases i with
     | zero=>simp at h; subst h; exact ⟨x,ha⟩
     | succ i=>exact qvl l (k+1) hJ i v (by simpa using h) (by omega) (by omega)
theorem qwl {o n:Nat} {Y:Nat->BitVec 8}:∀ (l:List SV) (k i:Nat),(ze9 o n Y l k)[i]? = (l[i]?).map fun v=>zah (zcJ v) v fun x=>.int .u8 (.b8 (if o<=k+i/\k+i<o+n then Y (k+i - o) else x))
 | [],_,_=>by simp [ze9]
 | a::l,k,i=>by
   show (zah (zcJ a) a _::ze9 o n Y l (k+1))[i]? = _;cases i with
   | zero=>simp
   | succ i=>rw [List.getElem?_cons_succ,qwl l (k+1) i,List.getElem?_cons_succ,show k+1+i=k+(i+1) from by omega]
theorem q73 {β:Val} {l:List SV} {vs:List Value} (hc:SV.zal β l=some vs) {off n:Nat} (h1:off+n<=l.length) (h2:qgg off n (noB l 0)):∀ j,j<n->vs[off+j]? = some (.int .u8 ((qtv l (off+j)).toNat:Int)):=by
 intro j hj;have hlt:off+j<l.length:=by omega
 obtain ⟨x,hx⟩:=qvl l 0 h2 (off+j) _ (List.getElem?_eq_getElem hlt) (by omega) (by omega)
 obtain ⟨y,hy,hd⟩:=qlc hc (List.getElem?_eq_getElem hlt);rw [hy,q7i hx hd];unfold qtv;rw [qda,List.getElem?_eq_getElem hlt,zao,hx,zao]
theorem qxh {β:Val} {c:Cells} {vs:List Value} (hc:zaj β c vs) {off n:Nat} {f:(Nat->BitVec 8)->R α} {φ:α->Prop}
  (hf:∀ X:Nat->BitVec 8,off+n<=vs.length->(∀ j,j<n->vs[off+j]? = some (.int .u8 ((X j).toNat:Int)))->(f X).Sat φ):(qqj c off n f).Sat φ:=by
 cases c with
 | lst l =>
   show R.Sat (zah (unb l) (R.need (off+n<=zay l/\qgg off n (noB l 0)) (f fun i=>qtv l (off+i))) fun xs=>R.need (off+n<=zay xs) (f fun i=>qgd xs (off+i))) φ;cases hx:unb l with
   | none =>
     rintro ⟨h1,h2⟩;rw [qha] at h1;have hl:=qra (show SV.zal β l=some vs from hc)
     exact hf _ (by omega) (q73 hc h1 h2)
   | some xs =>
     intro hn;rw [qha] at hn;obtain ⟨h1,h2⟩:=q5f hx hc;exact hf _ (by omega) fun j hj=>h2 _ (by omega)
 | fn g m =>
   rintro ⟨hn,hB⟩;obtain ⟨h1,h2⟩:=hc;refine hf _ (by omega) fun j hj => ?_
   have hlt:off+j<vs.length:=by omega
   obtain ⟨x,hx⟩:=hB (off+j);have:=h2 (off+j) _ (List.getElem?_eq_getElem hlt);rw [hx] at this;show vs[off+j]? = some (.int .u8 ((q0m (g (off+j))).toNat:Int));rw [hx,List.getElem?_eq_getElem hlt,← this]; rfl
 | raw V m =>
   rintro ⟨hn,hB⟩;obtain ⟨h1,h2⟩:=hc;refine hf _ (by omega) fun j hj => ?_
   have hlt:off+j<vs.length:=by omega
   have h3:=h2 (off+j) _ (List.getElem?_eq_getElem hlt);rw [List.getElem?_eq_getElem hlt,h3];exact congrArg some (jze (hB j hj))
theorem qbn {β:Val} {c:Cells} {vs:List Value} (hc:zaj β c vs) {off n:Nat} {f:(Nat->Value)->R α} {φ:α->Prop}
  (hf:∀ X:Nat->Value,off+n<=vs.length->(∀ j,j<n->vs[off+j]? = some (X j))->(f X).Sat φ):(qno c off n f).Sat φ:=by
 cases c with
 | lst l =>
   show R.Sat (zah (qnc l) (R.stuck 901) fun xs=>R.need (off+n<=zay xs) (f fun i=>atV xs (off+i))) φ;cases hx:qnc l with
   | none=>trivial
   | some xs =>
     intro hn;rw [qha] at hn;obtain rfl:=qwh hx hc;exact hf _ hn fun j hj=>qt1 (by omega)
 | fn g m =>
   rintro ⟨hn,hB⟩;obtain ⟨h1,h2⟩:=hc;refine hf _ (by omega) fun j hj => ?_
   have hlt:off+j<vs.length:=by omega
   obtain ⟨x,hx⟩:=hB j hj;rw [hx,List.getElem?_eq_getElem hlt,q6p hx (h2 (off+j) _ (List.getElem?_eq_getElem hlt))];rfl
 | raw V m =>
   intro hn;obtain ⟨h1,h2⟩:=hc;refine hf _ (by omega) fun j hj => ?_
   have hlt:off+j<vs.length:=by omega
   rw [List.getElem?_eq_getElem hlt,h2 (off+j) _ (List.getElem?_eq_getElem hlt)]
theorem q83 {β:Val} {c:Cells} {vs:List Value} (hc:zaj β c vs) {i:SN} {f:SV->R α} {φ:α->Prop}
  (hf:∀ v x,v.den β=some x->vs[i.den]? = some x->(f v).Sat φ):(qsq c i f).Sat φ:=by
 cases c with
 | lst l =>
   cases i with
   | lit n =>
     refine R.Sat.opt fun v hv => ?_
     rw [qda] at hv;obtain ⟨x,hx,hd⟩:=qlc hc hv;exact hf v x hd hx
   | sym n =>
     show R.Sat (zah (unb l) (R.stuck 203) fun xs=>R.need (n<zay xs) (f (.int .u8 (.b8 (qgd xs n))))) φ;cases hx:unb l with
     | none=>trivial
     | some xs =>
       intro hn;rw [qha] at hn;exact hf _ _ rfl ((q5f hx hc).2 n hn)
   | byt o y =>
     show R.Sat (zah (unb l) (R.stuck 203) fun xs=>zab (Nat.ble (o+256) (zay xs)) (f (.int .u8 (.b8 (qgd xs (o+y.toNat))))) (R.need (o+y.toNat<zay xs) (f (.int .u8 (.b8 (qgd xs (o+y.toNat))))))) φ;cases hx:unb l with
     | none=>trivial
     | some xs =>
       have key:o+y.toNat<zay xs->(f (.int .u8 (.b8 (qgd xs (o+y.toNat))))).Sat φ:=fun hn=>by
        rw [qha] at hn;exact hf _ _ rfl ((q5f hx hc).2 _ hn)
       refine R.Sat.zab (fun hb=>key ?_) fun _=>key;have hb:o+256<=zay xs:=Nat.le_of_ble_eq_true hb;have:=y.isLt;omega
 | fn g n =>
   obtain ⟨hlen,hg⟩:=hc;have key:∀ j,i.den=j->j<n->(f (g j)).Sat φ:=by
    intro j hj hlt;have hlt':j<vs.length:=by omega
    exact hf _ _ (hg j _ (List.getElem?_eq_getElem hlt')) (by rw [hj]; exact List.getElem?_eq_getElem hlt')
   cases i with
   | lit j=>exact fun hlt=>key j rfl hlt
   | sym j=>exact fun hlt=>key j rfl hlt
   | byt o x=>exact fun hlt=>key _ rfl hlt
 | raw V n =>
   obtain ⟨hlen,hg⟩:=hc;intro hlt;have hlt':i.den<vs.length:=by omega
   have hx:=hg i.den _ (List.getElem?_eq_getElem hlt');exact hf _ vs[i.den] (by rw [hx]; rfl) (List.getElem?_eq_getElem hlt')
theorem SA.zaB {β:Val} {a:SA} {A:Addr} (h:a.den β=some A):∃ l,β a.nm=some l/\A=⟨l.blk,l.off+a.off.den,none⟩:=by
 unfold SA.den at h;cases hb:β a.nm with
 | none=>rw [hb] at h; cases h
 | some l=>rw [hb] at h; cases h; exact ⟨l,rfl,rfl⟩
theorem SA.za7 {β:Val} {a:SA} {A:Addr} (h:a.den β=some A) (n:SN):(a.plus n).den β=some (A.add n.den):=by
 obtain ⟨l,hl,rfl⟩:=SA.zaB h;simp [SA.plus,SA.den,hl,SN.zaZ,q9a,Nat.add_assoc]
theorem qkb {H:List SO} {a:SA} {f:SO->R α} {φ:α->Prop} (h:∀ e,H[a.nm]? = some e->(f e).Sat φ):(entry H a f).Sat φ:=by
 refine R.Sat.opt fun e he => ?_
 rw [qda] at he; exact h e he
section
variable {P:Program} {O:Nat->Prop} {w0:World} {β:Val} {H:List SO} {w:World} (hr:HeapRel0 P O w0 β H w)
include hr
theorem qyh {a:SA} {A:Addr} (ha:a.den β=some A) {k:Nat} {f:List SV->R α} {φ:α->Prop}
  (hf:∀ l xs,SV.zal β l=some xs->xs.length=k->(∀ (j:Nat) (x:Value),xs[j]? = some x->w.cell? (A.add j)=some x)->(f l).Sat φ):(qoo H a k f).Sat φ:=by
 refine qkb fun e he => ?_
 have key:∀ c,e.cells? = some c->(qlo c a.off k f).Sat φ:=by
  intro c hc;obtain ⟨l,vs,hl,hcr,hcell⟩:=q1b hr he hc;obtain ⟨l',hl',rfl⟩:=SA.zaB ha;rw [hl] at hl'; cases hl';refine qc0 hcr fun ll xs h1 h2 h3=>hf ll xs h1 h2 fun j x hx => ?_
  rw [q9a,Nat.add_assoc];exact hcell _ _ (h3 j x hx)
 cases e with
 | own c wh el=>exact key c rfl
 | row c=>exact key c rfl
 | loop=>trivial
 | deferred=>trivial
 | gone=>trivial
 | mem=>trivial
 | obj=>trivial
theorem qwt {a:SA} {A:Addr} (ha:a.den β=some A) {f:SV->R α} {φ:α->Prop}
  (hf:∀ v x,v.den β=some x->w.cell? A=some x->(f v).Sat φ):(q82 H a f).Sat φ:=by
 refine qkb fun e he => ?_
 have key:∀ c,e.cells? = some c->(qsq c a.off f).Sat φ:=by
  intro c hc;obtain ⟨l,vs,hl,hcr,hcell⟩:=q1b hr he hc;obtain ⟨l',hl',rfl⟩:=SA.zaB ha;rw [hl] at hl'; cases hl';exact q83 hcr fun v x h1 h2=>hf v x h1 (hcell _ _ h2)
 cases e with
 | own c wh el=>exact key c rfl
 | row c=>exact key c rfl
 | loop=>trivial
 | deferred=>trivial
 | gone=>trivial
 | mem=>trivial
 | obj=>trivial
end
theorem qhp (P:Program) (w:World) (A:Addr):∀ (xs:List Value) (i:Nat) (acc:Array Value),
  (∀ (j:Nat) (x:Value),xs[j]? = some x->w.cell? (A.add (i+j))=some x)->(loadCellsFrom A i xs.length acc).run P w=.ok (acc++xs.toArray) w:=by
 intro xs;induction xs with
 | nil=>intro i acc _; simp [loadCellsFrom]
 | cons x xs ih =>
   intro i acc h;have h0:=h 0 x rfl;simp only [List.length_cons,loadCellsFrom,Sem.run_bind,run_load];rw [show A.add i=A.add (i+0) from rfl,h0]
   simp only [Result.andThen_ok];rw [ih (i+1) (acc.push x) (fun j y hy=>by rw [show i+1+j=i+(j+1) from by omega]; exact h (j+1) y hy)]
   simp
theorem qhe {P:Program} {w:World} {A:Addr} {xs:List Value} {k:Nat} (hk:xs.length=k) (h:∀ (j:Nat) (x:Value),xs[j]? = some x->w.cell? (A.add j)=some x) :
  (loadCells A k).run P w=.ok xs.toArray w:=by
 subst hk;unfold loadCells;rw [qhp P w A xs 0 #[] (fun j x hx=>by rw [Nat.zero_add]; exact h j x hx)]
 simp
theorem qba {P:Program} {w:World} {t:TypeId} {d:TypeDesc} (h:P.underlying t=some d):(underlying t).run P w=.ok d w:=by
 simp [underlying,h]
theorem q3d {P:Program} {w:World} {t:TypeId} {i:TypeInfo} (h:P.info? t=some i):(typeInfo t).run P w=.ok i w:=by
 simp [typeInfo,h]
theorem qya {P:Program} {w:World} {t:TypeId} {i:TypeInfo} (h:P.info? t=some i):(sizeOf t).run P w=.ok i.size w:=by
 simp [sizeOf,q3d h]
theorem qxj {P:Program} {w:World} {t:TypeId} {d:TypeDesc} (h:P.underlying t=some d):(isAgg t).run P w=.ok (qcc d) w:=by
 cases d <;> simp [isAgg,qba h,qcc]
theorem qld:∀ {H:List SO} {m:Mem},qci H=some m->∃ n:Nat,H[n]? = some (SO.mem m)
 | [],_,h=>by cases h
 | e::H,m,h=>by
   have h:zgQ e (qci H)=some m:=h;cases e with
   | mem m'=>cases h; exact ⟨0,rfl⟩
   | own=>obtain ⟨n,hn⟩:=qld (H:=H) h; exact ⟨n+1,hn⟩
   | row=>obtain ⟨n,hn⟩:=qld (H:=H) h; exact ⟨n+1,hn⟩
   | loop=>obtain ⟨n,hn⟩:=qld (H:=H) h; exact ⟨n+1,hn⟩
   | deferred=>obtain ⟨n,hn⟩:=qld (H:=H) h; exact ⟨n+1,hn⟩
   | gone=>obtain ⟨n,hn⟩:=qld (H:=H) h; exact ⟨n+1,hn⟩
   | obj=>obtain ⟨n,hn⟩:=qld (H:=H) h; exact ⟨n+1,hn⟩
theorem qxt (β:Val) (g:Nat->Value):∀ l:List Nat,SV.zal β (l.map fun j=>SV.val (g j))=some (l.map g)
 | []=>rfl
 | j::l=>by
   show ((SV.val (g j)).den β).bind _=_;simp [SV.den,qxt β g l]
section
variable {P:Program} {O:Nat->Prop} {w0:World} {β:Val} {H:List SO} {w:World} (hr:HeapRel0 P O w0 β H w)
include hr
theorem qyt {t:TypeId} {a:SA} {A:Addr} (ha:a.den β=some A) {f:SV->R α} {φ:α->Prop}
  (hf:∀ v x,v.den β=some x->(loadVar t A).run P w=.ok x w->(f v).Sat φ):(q92 P H t a f).Sat φ:=by
 refine R.Sat.opt fun d hd => ?_
 have hagg:=qxj (w:=w) hd;refine R.Sat.zab (fun _ => ?_) fun _ => ?_
 . refine R.Sat.zab (fun hb => ?_) (fun hb => ?_)
   . refine R.Sat.opt fun i hi=>qyh hr ha fun l xs h1 h2 h3=>qut h1 fun l' h1'=>hf _ (.agg xs.toArray) (by simp [SV.den,h1']) ?_
     simp [loadVar,hagg,hb,qya hi,qhe h2 h3]
   . refine qwt hr ha fun v x h1 h2=>qvt h1 fun v' h1'=>hf _ x h1' ?_
     simp [loadVar,hagg,hb,h2]
 . refine R.Sat.zab (fun hb => ?_) (fun hb => ?_)
   . refine R.Sat.opt fun i hi=>qyh hr ha fun l xs h1 h2 h3=>hf _ (.agg xs.toArray) (by simp [SV.den,h1]) ?_
     simp [loadVar,hagg,hb,qya hi,qhe h2 h3]
   . refine qwt hr ha fun v x h1 h2=>hf _ x h1 ?_
     simp [loadVar,hagg,hb,h2]
theorem q26 {t:TypeId} {x:Value} {f:SV->R α} {φ:α->Prop}
  (hf:∀ A v y,x=.pointer (some A)->v.den β=some y->(loadVar t A).run P w=.ok y w->(f v).Sat φ):(qd3 P H t x f).Sat φ:=by
 unfold qd3;cases hm:qci H with
 | none=>trivial
 | some m =>
   obtain ⟨n,hn⟩:=qld hm;have hmem:=hr.zcG n m hn;refine R.Sat.opt fun d hd => ?_
   have hagg:=qxj (w:=w) hd;intro hx;have hx:x=.pointer (some (zaV x)):=hx;refine R.Sat.zab (fun hb => ?_) (fun hb => ?_)
   . refine R.Sat.opt fun i hi => ?_
     intro hall;have e1:SV.zal β (zas (fun j=>SV.val (zcY m (zaV x) j)) (qqa i.size 0))=some ((qqa i.size 0).map (zcY m (zaV x))):=by
      rw [qxa]; exact qxt β _ _
     have hcells:∀ (j:Nat) (y:Value),((qqa i.size 0).map (zcY m (zaV x)))[j]? = some y->w.cell? ((zaV x).add j)=some y:=fun j y hy=>by
      rw [qpd,List.getElem?_map] at hy;by_cases hj:j<i.size
      . rw [List.getElem?_range' hj] at hy;simp at hy;have hs:=hall j hj;cases hc:m.cell ((zaV x).add j) with
        | none=>rw [hc] at hs; cases hs
        | some z =>
          unfold zcY at hy;rw [hc] at hy;have hy:z=y:=hy;subst hy;exact (hmem.told _ _ hc).1
      . rw [List.getElem?_eq_none (by simp; omega)] at hy
        cases hy
     refine qut e1 fun l' h1'=>hf _ _ (.agg ((qqa i.size 0).map (zcY m (zaV x))).toArray) hx (by simp [SV.den,h1']) ?_
     simp [loadVar,hagg,hb,qya hi,qhe (k:=i.size) (by rw [qpd]; simp) hcells]
   . intro hs;refine qvt (x:=(m.cell (zaV x)).getD undef) (by simp [SV.den]) fun v' h1'=>hf _ _ _ hx h1' ?_
     cases hc:m.cell (zaV x) with
     | none=>rw [hc] at hs; cases hs
     | some z =>
       have:=(hmem.told _ _ hc).1;simp [loadVar,hagg,hb,this]
end
theorem qwb {β:Val} {v:SV} {x:Value} (hs:qrh v=true) (hv:v.den β=some x):x.oneCell'=true:=by
 cases v <;> simp only [SV.den,Option.map_eq_some_iff,Option.bind_eq_some_iff,Option.some.injEq] at hv
 case int=>subst hv; rfl
 case bool=>subst hv; rfl
 case str=>subst hv; rfl
 case ptr=>obtain ⟨_,_,rfl⟩:=hv; rfl
 case nilPtr=>subst hv; rfl
 case slice=>obtain ⟨_,_,_,_,h⟩:=hv; rw [qth] at h; obtain ⟨_,rfl⟩:=h; rfl
 case zad=>subst hv; rfl
 case map=>obtain ⟨_,_,rfl⟩:=hv; rfl
 case zau=>subst hv; rfl
 case func=>obtain ⟨_,_,_,_,_,_,rfl⟩:=hv; rfl
 case nilFunc=>subst hv; rfl
 case iface=>obtain ⟨_,_,rfl⟩:=hv; rfl
 case nilIface=>subst hv; rfl
 case agg=>cases hs
 case tuple=>cases hs
 case val=>cases hs
 case tail =>
  obtain ⟨_,_,_,_,h⟩:=hv; rw [q3i] at h; obtain ⟨_,rfl⟩:=h; rfl
theorem q8p {β:Val} {l:List SV} {xs:List Value} (h:SV.zal β l=some xs) (hs:zaO qrh l=true):∀ x∈xs,x.oneCell'=true:=by
 intro x hx;obtain ⟨i,hi⟩:=List.getElem?_of_mem hx;have hlt:=(List.getElem?_eq_some_iff.1 hi).1;rw [qra h] at hlt;obtain ⟨y,hy,hd⟩:=qlc h (List.getElem?_eq_getElem hlt);rw [hi] at hy; cases hy;exact qwb (qxe _ _ hs _ (List.getElem_mem hlt)) hd
def qib (c:List Value) (i:Nat) (v:List Value):List Value:=c.take i++v++c.drop (i+v.length)
theorem q4a {c:List Value} {i:Nat} {v:List Value} (h:i+v.length<=c.length):(qib c i v).length=c.length:=by
 simp [qib]; omega
theorem qzt (c:List Value) (i:Nat):qib c i []=c:=by simp [qib]
theorem qhr {c:List Value} {i:Nat} {x:Value} {v:List Value} (h:i+(x::v).length<=c.length):qib (c.set i x) (i+1) v=qib c i (x::v):=by
 simp only [qib,List.length_cons] at *;rw [List.set_eq_take_append_cons_drop,if_pos (by omega)]
 have hl:(c.take i).length=i:=by simp; omega
 have e1:(c.take i++x::c.drop (i+1)).take (i+1)=c.take i++[x]:=by
  rw [List.take_append,hl,List.take_of_length_le (by omega)]
  simp
 have e2:(c.take i++x::c.drop (i+1)).drop (i+1+v.length)=c.drop (i+(v.length+1)):=by
  rw [List.drop_append,hl,List.drop_of_length_le (by omega),show i+1+v.length - i=v.length+1 from by omega]
  simp [List.drop_drop];congr 1; omega
 rw [e1,e2]; simp
theorem q5b {P:Program} {b:Nat} {e:TypeId} {lo hi:Nat}:∀ (v c:List Value) (o i:Nat) (w:World),w.heap[b]? = some (.cells c.toArray e (lo,hi))->(∀ x∈v,x.oneCell'=true) ->
  (∀ j,j<c.length->¬ (lo<=j/\j<hi))->o+i+v.length<=c.length ->
  (storeCells ⟨b,o,none⟩ v i).run P w=.ok () { w with heap:=w.heap.setIfInBounds b (.cells (qib c (o+i) v).toArray e (lo,hi)) }:=by
 intro v;induction v with
 | nil =>
   intro c o i w hb _ _ _;have:w.heap.setIfInBounds b (.cells c.toArray e (lo,hi))=w.heap:=by
    apply Array.ext_getElem?;intro j;rw [Array.getElem?_setIfInBounds];split
    . rename_i h; subst h;have hlt:=(Array.getElem?_eq_some_iff.1 hb).1;rw [if_pos hlt,hb]
    . rfl
   rw [qzt,this]; rfl
 | cons x v ih =>
   intro c o i w hb h1 hfz hle;simp only [List.length_cons] at hle;have hlt:b<w.heap.size:=(Array.getElem?_eq_some_iff.1 hb).1;have hcell:w.cell? (Addr.add ⟨b,o,none⟩ i)=some (c[o+i]'(by omega)):=by
    rw [q9a,cell?_of hb]; simp
   have hfr:w.frozen? (Addr.add ⟨b,o,none⟩ i)=false:=by
    rw [q9a];have:=hfz (o+i) (by omega)
    simp only [World.frozen?,hb];simp; omega
   have hset:w.setCell (Addr.add ⟨b,o,none⟩ i) x={ w with heap:=w.heap.setIfInBounds b (.cells (c.set (o+i) x).toArray e (lo,hi)) }:=by
    rw [q9a];simp only [World.setCell];congr 1;apply Array.ext_getElem?;intro j;rw [Array.getElem?_modify,Array.getElem?_setIfInBounds];split
    . rename_i h; subst h;simp only [hb,Option.map_some];simp
    . rfl
   have hst:(storeCells ⟨b,o,none⟩ (x::v) i).run P w=(storeCells ⟨b,o,none⟩ v (i+1)).run P (w.setCell (Addr.add ⟨b,o,none⟩ i) x):=by
    simp only [storeCells,Sem.run_bind];have:(store (Addr.add ⟨b,o,none⟩ i) x).run P w=.ok () (w.setCell (Addr.add ⟨b,o,none⟩ i) x):=by
     have ho:=h1 x (by simp)
     cases x <;> first | (cases ho; done) | simp [store,Sem.run,hcell,hfr]
    rw [this]; rfl
   rw [hst,hset];have hb':({ w with heap:=w.heap.setIfInBounds b (.cells (c.set (o+i) x).toArray e (lo,hi)) }:World).heap[b]? = some (.cells (c.set (o+i) x).toArray e (lo,hi)):=by
    simp [hlt]
   rw [ih (c.set (o+i) x) o (i+1) _ hb' (fun y hy=>h1 y (List.mem_cons_of_mem _ hy)) (fun j hj=>hfz j (by simpa using hj)) (by simp; omega)]
   rw [show o+(i+1)=o+i+1 from by omega,qhr (by simp; omega)]
   simp
theorem qye {a b:List Value} {i:Nat} {v:List Value} (h:i+v.length<=a.length):qib (a++b) i v=qib a i v++b:=by
 simp only [qib];rw [List.take_append_of_le_length (by omega),List.drop_append_of_le_length (by omega)]
 simp
theorem qir {β:Val}:∀ ys:List (BitVec 8),SV.zal β (zas (fun x=>SV.int .u8 (.b8 x)) ys)=some (ys.map fun x=>Value.int .u8 (x.toNat:Int))
 | []=>rfl
 | _::ys=>zae.2 ⟨_,_,rfl,qir ys,rfl⟩
theorem qjx (o n:Nat) (Y:Nat->BitVec 8):∀ (xs:List (BitVec 8)) (k i:Nat),(zgm o n Y xs k)[i]? = (xs[i]?).map fun x=>if o<=k+i/\k+i<o+n then Y (k+i - o) else x
 | [],k,i=>by simp [zgm]
 | x::xs,k,0=>by
   show ((if o<=k/\k<o+n then Y (k - o) else x)::zgm o n Y xs (k+1))[0]? = _
   simp
 | x::xs,k,i+1=>by
   show ((if o<=k/\k<o+n then Y (k - o) else x)::zgm o n Y xs (k+1))[i+1]? = _
   rw [List.getElem?_cons_succ,qjx o n Y xs (k+1) i,List.getElem?_cons_succ,show k+1+i=k+(i+1) from by omega]
theorem q8d {vs xs:List Value} {o:Nat} (h:o+xs.length<=vs.length) (i:Nat):(qib vs o xs)[i]? = if o<=i/\i<o+xs.length then xs[i - o]? else vs[i]? := by
 unfold qib;rw [List.append_assoc,List.getElem?_append,List.getElem?_append,List.length_take,Nat.min_eq_left (by omega),List.getElem?_take,List.getElem?_drop]
 by_cases h1:i<o
 . rw [if_pos h1,if_pos h1,if_neg (by omega)]
 . rw [if_neg h1];by_cases h2:i<o+xs.length
   . rw [if_pos (by omega),if_pos (by omega)]
   . rw [if_neg (by omega),if_neg (by omega),show o+xs.length+(i - o - xs.length)=i from by omega]
theorem qkx {β:Val} {c:Cells} {vs:List Value} (hc:zaj β c vs) {o n:Nat} {Y:Nat->BitVec 8} {xs:List Value} (hl:xs.length=n) (hY:∀ j,j<n->xs[j]? = some (.int .u8 ((Y j).toNat:Int))) {f:Cells->R α} {φ:α->Prop}
  (hf:∀ c',zaj β c' (qib vs o xs)->o+xs.length<=vs.length->(f c').Sat φ):(zhv c o n Y f).Sat φ:=by
 cases c with
 | lst l =>
   show R.Sat (zah (unb l) (R.need (o+n<=zay l/\qgg o n (noB l 0)) (f (.lst (ze9 o n Y l 0)))) fun us=>R.need (o+n<=zay us) (f (.lst (zas (fun x=>.int .u8 (.b8 x)) (zgm o n Y us 0))))) φ;cases hx:unb l with
   | none =>
     rintro ⟨h1,h2⟩;rw [qha] at h1;have hcl:SV.zal β l=some vs:=hc;have hlen:=qra hcl;refine hf _ ?_ (by omega)
     show SV.zal β (ze9 o n Y l 0)=some _;refine q4f ?_ fun i v hv => ?_
     . rw [q4a (by omega),hlen]
       apply Nat.le_antisymm
       . rcases Nat.lt_or_ge (ze9 o n Y l 0).length l.length with h | h
         . have:=qwl (o:=o) (n:=n) (Y:=Y) l 0 (ze9 o n Y l 0).length;rw [List.getElem?_eq_none (Nat.le_refl _),List.getElem?_eq_getElem h] at this;cases this
         . exact h
       . rcases Nat.lt_or_ge l.length (ze9 o n Y l 0).length with h | h
         . have:=qwl (o:=o) (n:=n) (Y:=Y) l 0 l.length;rw [List.getElem?_eq_none (Nat.le_refl l.length),List.getElem?_eq_getElem h] at this;cases this
         . exact h
     . rw [qwl,Nat.zero_add] at hv;cases hli:l[i]? with
       | none=>rw [hli] at hv; cases hv
       | some u =>
         rw [hli] at hv;have hv:zah (zcJ u) u (fun x=>.int .u8 (.b8 (if o<=i/\i<o+n then Y (i - o) else x)))=v:=Option.some.inj hv
         obtain ⟨y,hy,hd⟩:=qlc hcl hli;rw [q8d (by omega),hl]
         by_cases hin:o<=i/\i<o+n
         . obtain ⟨x,hx⟩:=qvl l 0 h2 i u hli (by omega) (by omega)
           rw [hx,zao,if_pos hin] at hv;subst hv;exact ⟨.int .u8 ((Y (i - o)).toNat:Int),by rw [if_pos hin,hY (i - o) (by omega)],rfl⟩
         . rw [if_neg hin];refine ⟨y,hy,?_⟩;cases hu:zcJ u with
           | none=>rw [hu] at hv; rw [← hv]; exact hd
           | some x =>
             rw [hu,zao,if_neg hin] at hv;rw [← hv,q7i hu hd];rfl
   | some us =>
     intro hn;rw [qha] at hn;obtain ⟨h1,h2⟩:=q5f hx hc;refine hf _ ?_ (by omega)
     show SV.zal β _=some _;rw [qir];congr 1;apply List.ext_getElem?;intro i;rw [List.getElem?_map,qjx,q8d (by omega),Nat.zero_add,hl]
     by_cases hi:i<us.length
     . rw [List.getElem?_eq_getElem hi];by_cases hin:o<=i/\i<o+n
       . rw [if_pos hin,hY (i - o) (by omega)]
         simp [hin]
       . rw [if_neg hin,h2 i hi];simp only [Option.map_some,if_neg hin,qgd,List.getElem?_eq_getElem hi,Option.getD_some]
     . rw [List.getElem?_eq_none (by omega),if_neg (by omega),List.getElem?_eq_none (by omega)]; rfl
 | fn g m =>
   rintro ⟨hn,hB⟩;obtain ⟨h1,h2⟩:=hc;refine hf _ ⟨by rw [q4a (by omega)]; exact h1,fun i y hy => ?_⟩ (by omega)
   rw [q8d (by omega),hl] at hy
   by_cases hin:o<=i/\i<o+n
   . rw [if_pos hin,hY (i - o) (by omega)] at hy
     show some (Value.int .u8 (((if o<=i/\i<o+n then Y (i - o) else q0m (g i)).toNat:Nat):Int))=_
     rw [if_pos hin]; exact hy
   . rw [if_neg hin] at hy;obtain ⟨x,hx⟩:=hB i;have:=h2 i y hy;rw [hx] at this;show some (Value.int .u8 (((if o<=i/\i<o+n then Y (i - o) else q0m (g i)).toNat:Nat):Int))=_
     rw [if_neg hin,hx]; exact this
 | raw V m =>
   intro hn;obtain ⟨h1,h2⟩:=hc;refine hf _ ⟨by rw [q4a (by omega)]; exact h1,fun i y hy => ?_⟩ (by omega)
   rw [q8d (by omega),hl] at hy
   unfold qch;by_cases hin:o<=i/\i<o+n
   . rw [if_pos hin,hY (i - o) (by omega)] at hy
     rw [if_pos hin]; exact (Option.some.inj hy).symm
   . rw [if_neg hin] at hy;rw [if_neg hin]; exact h2 i y hy
theorem qlx {β:Val} {c:Cells} {vs:List Value} (hc:zaj β c vs) {o n:Nat} {Y:Nat->Value} {xs:List Value} (hl:xs.length=n) (hY:∀ j,j<n->xs[j]? = some (Y j)) {f:Cells->R α} {φ:α->Prop}
  (hf:∀ c',zaj β c' (qib vs o xs)->o+xs.length<=vs.length->(f c').Sat φ):(putR c o n Y f).Sat φ:=by
 have key:∀ (V:Nat->Value) (m:Nat),vs.length=m->(∀ (i:Nat) (x:Value),vs[i]? = some x->x=V i)->o+n<=m->(f (.raw (qch V o n Y) m)).Sat φ:=by
  intro V m h1 h2 hn;refine hf _ ⟨by rw [q4a (by omega)]; exact h1,fun i y hy => ?_⟩ (by omega)
  rw [q8d (by omega),hl] at hy
  unfold qch;by_cases hin:o<=i/\i<o+n
  . rw [if_pos hin,hY (i - o) (by omega)] at hy
    rw [if_pos hin]; exact (Option.some.inj hy).symm
  . rw [if_neg hin] at hy;rw [if_neg hin]; exact h2 i y hy
 cases c with
 | lst l =>
   show R.Sat (zah (qnc l) (R.stuck 903) fun xs=>R.need (o+n<=zay xs) (f (.raw (qch (atV xs) o n Y) (zay xs)))) φ;cases hx:qnc l with
   | none=>trivial
   | some us =>
     intro hn;obtain rfl:=qwh hx hc;refine key _ _ (qha _).symm (fun i x hi => ?_) hn;unfold atV;rw [hi]; rfl
 | fn g m =>
   rintro ⟨hn,hB⟩;refine key _ _ hc.1 (fun i x hi => ?_) hn;have him:i<m:=by rw [← hc.1]; exact (List.getElem?_eq_some_iff.1 hi).1
   obtain ⟨y,hy⟩:=hB i him;rw [hy,q6p hy (hc.2 i x hi)];rfl
 | raw V m=>exact fun hn=>key V m hc.1 hc.2 hn
theorem q8j {β:Val} {c:Cells} {vs:List Value} (hc:zaj β c vs) {i:SN} {v:List SV} {xs:List Value} (hv:SV.zal β v=some xs) {f:Cells->R α} {φ:α->Prop}
  (hf:∀ c',zaj β c' (qib vs i.den xs)->i.den+xs.length<=vs.length->(f c').Sat φ):(qmo c i v f).Sat φ:=by
 have hvl:=qra hv;cases c with
 | lst l =>
   refine SN.zaT (fun n hn => ?_) (fun _ => ?hsym)
   case hsym =>
    cases v with
    | nil=>trivial
    | cons x r =>
      cases r with
      | cons=>trivial
      | nil =>
        show R.Sat (zah (zcJ x) (R.stuck 205) fun b=>zhv (.lst l) i.den 1 (fun _=>b) f) φ;cases hb:zcJ x with
        | none=>trivial
        | some b =>
          obtain ⟨y,ys,hy,hys,rfl⟩:=zae.1 hv;rw [zaN] at hys; subst hys;have hyb:=q7i hb hy;exact qkx (n:=1) (xs:=[y]) hc rfl (fun j hj=>by rw [show j=0 from by omega,hyb]; rfl) hf
   subst hn;refine R.Sat.zab (fun hb => ?_) (fun _=>trivial);have hle:n+v.length<=l.length:=by
    have:=Nat.le_of_ble_eq_true hb;rw [qha,qha] at this; exact this
   have hlen:=qra hc;refine hf _ ?_ (by simp only [SN.den]; omega)
   rw [qax _ _ _ hle];simp only [zaj,qib,SN.den,hvl];exact qqd (qqd (q3f hc n) hv) (quh hc _)
 | fn g n =>
   obtain ⟨hlen,hg⟩:=hc;have key:∀ g':Nat->SV,(∀ j,g' j=if i.den<=j/\j<i.den+v.length then (v[j - i.den]?).getD (g j) else g j)->i.den+v.length<=n->(f (.fn g' n)).Sat φ:=by
    intro g' hg' hle;refine hf _ ⟨?_,fun j x hx => ?_⟩ (by omega)
    . rw [q4a (by omega)]; exact hlen
    . rw [hg' j];simp only [qib,List.append_assoc,List.getElem?_append,List.length_take,List.getElem?_take,List.getElem?_drop] at hx;have hmin:min i.den vs.length=i.den:=by omega
      rw [hmin] at hx;by_cases h1:j<i.den
      . rw [if_pos h1,if_pos h1] at hx;rw [if_neg (by omega)]
        exact hg j x hx
      . rw [if_neg h1] at hx;by_cases h2:j<i.den+v.length
        . rw [if_pos (by omega)] at hx
          rw [if_pos ⟨by omega,h2⟩]
          have hjv:j - i.den<v.length:=by omega
          obtain ⟨y,hy,hd⟩:=qlc hv (List.getElem?_eq_getElem hjv);rw [hx] at hy; cases hy;rw [List.getElem?_eq_getElem hjv]; exact hd
        . rw [if_neg (by omega)] at hx
          rw [if_neg (by omega)]
          refine hg j x ?_
          rw [← hx]; congr 1; omega
   show (zh1 g n i v f).Sat φ;unfold zh1;split
   . rename_i x;intro hlt;refine key _ (fun j => ?_) (by simp; omega)
     by_cases h:j=i.den
     . subst h; simp
     . rw [if_neg h,if_neg (by simp; omega)]
   . intro hle;rw [qha] at hle;refine key _ (fun j => ?_) hle;by_cases h:i.den<=j
     . rw [if_pos h,qda];by_cases h2:j<i.den+v.length
       . rw [if_pos ⟨h,h2⟩]
       . rw [if_neg (by omega),List.getElem?_eq_none (by omega)]; rfl
     . rw [if_neg h,if_neg (by omega)]
 | raw V n =>
   show R.Sat (zah (qnc v) (R.stuck 900) fun xs=>R.need (i.den+zay xs<=n) (f (.raw (qch V i.den (zay xs) (atV xs)) n))) φ;cases hx:qnc v with
   | none=>trivial
   | some us =>
     intro hn;obtain rfl:=qwh hx hv;exact qlx (c:=.raw V n) (n:=zay xs) hc (qha _).symm (fun j hj=>qt1 (by rw [qha] at hj; exact hj)) hf hn
end
noncomputable section
variable {α:Type}
theorem qjr (β:Val) (v:Value):(qik v).den β=some v:=by
 unfold qik;split <;> first | rfl | simp [SV.den,SI.den,SB.den,za8.den]
theorem qcn (β:Val) (l:List Value):SV.zal β (zas qik l)=some l:=by
 induction l with
 | nil=>rfl
 | cons v l ih=>exact zae.2 ⟨v,l,qjr β v,ih,rfl⟩
theorem qog (β:Val) (v:Value):(qoq v).den β=some v:=by
 unfold qoq;split
 . simp [SV.den,qcn]
 . rfl
 . rfl
 . exact qjr β v
theorem q9d {P:Program} {t:TypeId} {l:List SV} (h:qbi P t=some l):∃ i v,P.info? t=some i/\i.zero=some v/\∀ β,SV.zal β l=some v.cells.toList:=by
 simp only [qbi,Option.map_eq_some_iff,Option.bind_eq_some_iff] at h;obtain ⟨v,⟨i,hi,hv⟩,rfl⟩:=h;exact ⟨i,v,hi,hv,fun β=>qcn β _⟩
theorem qzc {P:Program} {w:World} {t:TypeId} {i:TypeInfo} {v:Value} (h:P.info? t=some i) (hv:i.zero=some v):(zeroValue t).run P w=.ok v w:=by
 simp [zeroValue,q3d h,hv]
def qkr (v:SV):Prop:=∀ x,v=.val x->x.oneCell'=true
theorem qih {α:Type} {l:List SV} {r:R α} {φ:α->Prop} (h:(∀ v∈l,qkr v)->r.Sat φ):(qmi l r).Sat φ:=by
 induction l with
 | nil=>exact h (by simp)
 | cons v l ih =>
   have key:qkr v->(qmi l r).Sat φ:=fun hv=>ih fun hl=>h fun u hu=>by
    rcases List.mem_cons.1 hu with rfl | hu
    . exact hv
    . exact hl u hu
   cases v with
   | val x=>exact fun hx=>key fun y hy=>by cases hy; exact hx
   | _=>exact key fun y hy=>by cases hy
theorem q36 {x:Value} (h:x.oneCell'=true):x.cells.toList=[x]:=by
 cases x <;> first | rfl | (cases h; done)
theorem qxl {β:Val} {v:SV} {x:Value} (h:v.den β=some x) (ho:qkr v):SV.zal β (qfg v)=some x.cells.toList:=by
 cases v
 case agg l =>
  simp only [SV.den,Option.map_eq_some_iff] at h; obtain ⟨l,hl,rfl⟩:=h; exact hl
 case val v =>
  simp only [SV.den,Option.some.injEq] at h; subst h;rw [q36 (ho _ rfl)]; rfl
 all_goals
  refine zae.2 ⟨x,[],h,rfl,?_⟩;simp only [SV.den,Option.map_eq_some_iff,Option.bind_eq_some_iff,Option.some.injEq] at h
 case int=>subst h; rfl
 case bool=>subst h; rfl
 case str=>subst h; rfl
 case ptr=>obtain ⟨_,_,rfl⟩:=h; rfl
 case nilPtr=>subst h; rfl
 case slice=>obtain ⟨_,_,_,_,h⟩:=h; rw [qth] at h; obtain ⟨_,rfl⟩:=h; rfl
 case zad=>subst h; rfl
 case tail=>obtain ⟨_,_,_,_,h⟩:=h; rw [q3i] at h; obtain ⟨_,rfl⟩:=h; rfl
 case map=>obtain ⟨_,_,rfl⟩:=h; rfl
 case zau=>subst h; rfl
 case func=>obtain ⟨_,_,_,_,_,_,rfl⟩:=h; rfl
 case nilFunc=>subst h; rfl
 case iface=>obtain ⟨_,_,rfl⟩:=h; rfl
 case nilIface=>subst h; rfl
 case tuple=>obtain ⟨_,_,rfl⟩:=h; rfl
theorem qd0 (v:List Value):∀ (k off:Nat) (c:Array Value),off+k+v.length<=c.size ->
  ((v.zipIdx k).foldl (fun (cs:Array Value) (x:Value × Nat)=>cs.setIfInBounds (off+x.2) x.1) c).toList=qib c.toList (off+k) v:=by
 induction v with
 | nil=>intro k off c _; simp [qzt]
 | cons x v ih =>
   intro k off c h;simp only [List.length_cons] at h;rw [List.zipIdx_cons,List.foldl_cons,ih (k+1) off _ (by simp; omega)]
   rw [Array.toList_setIfInBounds,show off+(k+1)=off+k+1 from by omega,qhr (by simp; omega)]
theorem qdn {β:Val} (place:Nat->Option (Nat × Nat)):∀ (parts:List (Nat × SV)) (parts':List (Nat × Value)) (cells:List SV) (cs:List Value) (r:List SV),
  SV.zal β (parts.map (·.2))=some (parts'.map (·.2))->parts.map (·.1)=parts'.map (·.1)->SV.zal β cells=some cs->qfl place cells parts=some r->(∀ v∈parts.map (·.2),qkr v) ->
  ∃ rs,Instr.fill place cs.toArray parts'=some rs.toArray/\SV.zal β r=some rs/\rs.length=cs.length:=by
 intro parts;induction parts with
 | nil =>
   intro parts' cells cs r h1 h2 h3 h4 ho;cases parts' with
   | cons=>simp at h2
   | nil=>simp [qfl] at h4; subst h4; exact ⟨cs,rfl,h3,rfl⟩
 | cons p parts ih =>
   intro parts' cells cs r h1 h2 h3 h4 ho;cases parts' with
   | nil=>simp at h2
   | cons p' parts' =>
     obtain ⟨i,v⟩:=p;obtain ⟨i',v'⟩:=p';simp only [List.map_cons,List.cons.injEq] at h2;obtain ⟨rfl,h2⟩:=h2;obtain ⟨y,ys,hy,hys,he⟩:=zae.1 h1;simp only [List.map_cons,List.cons.injEq] at he;obtain ⟨rfl,rfl⟩:=he;simp only [qfl] at h4;simp only [Instr.fill];cases hp:place i with
     | none=>rw [hp] at h4; cases h4
     | some os =>
       obtain ⟨off,size⟩:=os;rw [hp] at h4;simp only at h4 ⊢;have hcv:=qxl hy (ho v (by simp))
       have hl1:zay (qfg v)=v'.cells.size:=by rw [qha]; have:=qra hcv; simpa using this.symm
       have hl2:zay cells=cs.length:=by rw [qha]; exact (qra h3).symm
       rw [hl1,hl2] at h4;by_cases hcond:v'.cells.size≠size\/off+v'.cells.size > cs.length
       . rw [if_pos hcond] at h4; cases h4
       . rw [if_neg hcond] at h4;have hle:off+v'.cells.size<=cs.length:=by
          rcases Nat.lt_or_ge cs.length (off+v'.cells.size) with h | h
          . exact absurd (.inr h) hcond
          . exact h
         have hb:(decide (v'.cells.size≠size) || decide (off+v'.cells.size > cs.toArray.size))=false:=by
          simp only [not_or] at hcond;rw [Bool.or_eq_false_iff];exact ⟨decide_eq_false hcond.1,decide_eq_false (by simpa using hcond.2)⟩
         have hov:SV.zal β (qoj cells off (qfg v))=some (qib cs off v'.cells.toList):=by
          have e1:(qfg v).length=v'.cells.size:=by rw [← qha]; exact hl1
          have e2:cells.length=cs.length:=by rw [← qha]; exact hl2
          rw [qax _ _ _ (by omega)]
          unfold qib;rw [e1,Array.length_toList];exact qqd (qqd (q3f h3 off) hcv) (quh h3 _)
         have hz:=qd0 v'.cells.toList 0 off cs.toArray (by simpa using hle)
         obtain ⟨rs,hrs,hd,hn⟩:=ih parts' _ _ r hys h2 hov h4 (fun u hu=>ho u (by simp at hu ⊢; exact .inr hu))
         refine ⟨rs,?_,hd,by rw [hn,q4a (by simpa using hle)]⟩
         rw [if_neg (by rw [hb]; decide)]
         rw [← hrs];congr 1;have:(v'.cells.zipIdx.foldl (fun cs (x:Value × Nat)=>cs.setIfInBounds (off+x.2) x.1) cs.toArray)=(qib cs off v'.cells.toList).toArray:=by
          rw [← Array.foldl_toList,Array.toList_zipIdx];apply Array.ext';simpa using hz
         exact this
theorem qmx {P:Program} {w:World}:∀ (l:List Field) (r:List (Nat × Nat)),qlk P l=some r ->
  (l.mapM (m:=Sem) fun f=>do pure (f.offset,← sizeOf f.type)).run P w=.ok r w:=by
 intro l;induction l with
 | nil=>intro r h; simp [qlk] at h; subst h; simp
 | cons f l ih =>
   intro r h;simp only [qlk,Option.bind_eq_some_iff,Option.map_eq_some_iff] at h;obtain ⟨i,hi,r',hr,rfl⟩:=h;rw [List.mapM_cons];simp only [Sem.run_bind,qya hi,Result.andThen_ok,Sem.run_pure,ih r' hr]
theorem qlr {β:Val} {ev:Operand->SV} {ρ:Operand->Value} (ps:List (Nat × Operand)) (h:∀ x∈ps.map (·.2),(ev x).den β=some (ρ x)) :
  SV.zal β ((zas (fun p=>(p.1,ev p.2)) ps).map (·.2))=some ((ps.map fun (i,x)=>(i,ρ x)).map (·.2))/\(zas (fun p=>(p.1,ev p.2)) ps).map (·.1)=(ps.map fun (i,x)=>(i,ρ x)).map (·.1):=by
 rw [qxa];constructor
 . induction ps with
   | nil=>rfl
   | cons p ps ih=>exact zae.2 ⟨_,_,h p.2 (by simp),ih (fun x hx=>h x (by simp at hx ⊢; exact .inr hx)),rfl⟩
 . simp [Function.comp_def]
theorem qmd {β:Val} {ev:Operand->SV} {ρ:Operand->Value} (l:List Operand) (h:∀ x∈l,(ev x).den β=some (ρ x)):SV.zal β (zas ev l)=some (l.map ρ):=by
 rw [qxa];induction l with
 | nil=>rfl
 | cons a l ih=>exact zae.2 ⟨_,_,h a (by simp),ih (fun x hx=>h x (by simp [hx])),rfl⟩
theorem q0t {β:Val} {z:List SV} {zs:List Value} (h:SV.zal β z=some zs) (n:Nat):SV.zal β (qvv z n)=some (List.replicate n zs).flatten:=by
 induction n with
 | zero=>rfl
 | succ n ih =>
   show SV.zal β (app z (qvv z n))=_;rw [q7a,List.replicate_succ,List.flatten_cons];exact qqd h ih
theorem qrk {z:Array Value} {n s:Nat} (hs:z.size=s) (hpos:n * s≠0):(Array.range (n * s)).map (fun i=>z[i % z.size]!)=(List.replicate n z.toList).flatten.toArray:=by
 subst hs;have hs0:0<z.size:=Nat.pos_of_ne_zero fun h=>hpos (by rw [h,Nat.mul_zero])
 apply Array.ext';simp only [Array.toList_map,Array.toList_range];have hl:((List.replicate n z.toList).flatten).length=n * z.size:=by simp
 apply List.ext_getElem?;intro i;simp only [List.getElem?_map];rcases Nat.lt_or_ge i (n * z.size) with h | h
 . rw [List.getElem?_range h];have key:∀ (n i:Nat),i<n * z.size->((List.replicate n z.toList).flatten)[i]? = some (z[i % z.size]'(Nat.mod_lt _ hs0)):=by
    intro n;induction n with
    | zero=>intro i hi; omega
    | succ n ih =>
      intro i hi;rw [List.replicate_succ,List.flatten_cons];rcases Nat.lt_or_ge i z.size with h1 | h1
      . rw [List.getElem?_append_left (by simpa using h1)]
        simp [Nat.mod_eq_of_lt h1]
      . rw [List.getElem?_append_right (by simpa using h1),Array.length_toList,ih (i - z.size) (by rw [Nat.succ_mul] at hi; omega)]
        simp only [Nat.mod_eq_sub_mod h1]
   show some (z[i % z.size]!)=_;rw [key n i h];simp only [Option.some.injEq];exact getElem!_pos z (i % z.size) (Nat.mod_lt _ hs0)
 . rw [List.getElem?_eq_none (by simpa using h),List.getElem?_eq_none (by omega)]; rfl
end
noncomputable section
variable {α:Type}
section
variable {P:Program} {O:Nat->Prop} {w0:World} {β:Val} {H:List SO} {w:World} {base:Nat}
theorem qga {res:Result Next} {v:SV} {x:Value} (hres:res=.ok (.value x) w) (hv:v.den β=some x):(vR v).Sat (qea P H β w base res) :=
 fun _=>⟨.value x,x,w,β,hres,rfl,hv,Eff.refl P β w base,by simp⟩
variable {ev:Operand->SV} {ρ:Operand->Value}
theorem q1t {dst:Option Tmp} {x:Operand} {t:TypeId} {pos:String} {af:Array Edge} {g:Option (Nat × Bool)} (hev:(ev x).den β=some (ρ x)) :
  (q0v x P ev H base).Sat (qea P H β w base ((execOp ρ ⟨dst,.move x,t,pos,af,g⟩).run P w))/\(q0v x P ev H base).Sat (qea P H β w base ((execOp ρ ⟨dst,.assign x,t,pos,af,g⟩).run P w)) :=
 ⟨qga rfl hev,qga rfl hev⟩
theorem q46 {dst:Option Tmp} {c a b:Operand} {t:TypeId} {pos:String} {af:Array Edge} {g:Option (Nat × Bool)} (h1:(ev c).den β=some (ρ c)) (h2:(ev a).den β=some (ρ a)) (h3:(ev b).den β=some (ρ b)) :
  (qq3 c a b P ev H base).Sat (qea P H β w base ((execOp ρ ⟨dst,.pick c a b,t,pos,af,g⟩).run P w)):=by
 unfold qq3;split
 . rename_i h; rw [h] at h1; simp only [SV.den,SB.den,Option.some.injEq] at h1;exact qga (by simp [execOp,← h1,asBool]) h2
 . rename_i h; rw [h] at h1; simp only [SV.den,SB.den,Option.some.injEq] at h1;exact qga (by simp [execOp,← h1,asBool]) h3
 . rename_i c' h; rw [h] at h1; simp only [SV.den,SB.den,Option.some.injEq] at h1;exact ⟨fun hb=>qga (by simp [execOp,← h1,asBool,hb]) h2,fun hb=>qga (by simp [execOp,← h1,asBool,hb]) h3⟩
 . trivial
theorem q93 {dst:Option Tmp} {e:TypeId} {t:TypeId} {pos:String} {af:Array Edge} {g:Option (Nat × Bool)} :
  (qn6 e P ev H base).Sat (qea P H β w base ((execOp ρ ⟨dst,.alloc e,t,pos,af,g⟩).run P w)):=by
 refine R.Sat.opt fun z hz => ?_
 obtain ⟨i,v,hi,hv,hd⟩:=q9d hz;refine fun hb=>⟨.value (.pointer (some ⟨w.heap.size,0,none⟩)),_,{ w with heap:=w.heap.push (.cells v.cells e) },β.upd base ⟨w.heap.size,0,0⟩,?_,rfl,by simp [SV.den,SA.den,Val.upd_same,SN.den],?_,by simp⟩
 . simp [execOp,Instr.alloc,qzc hi hv,newVar,newRow]
 . refine Eff.alloc (vs:=v.cells.toList) (rest:=[]) (lo:=0) (hi:=0) hb.hd (by simp) rfl rfl rfl (hd β) (by simp) (by simp) (by simp)
theorem qx9 {dst:Option Tmp} {e:TypeId} {x:Operand} {t:TypeId} {pos:String} {af:Array Edge} {g:Option (Nat × Bool)} (hev:(ev x).den β=some (ρ x)) :
  (oBox e x P ev H base).Sat (qea P H β w base ((execOp ρ ⟨dst,.box e x,t,pos,af,g⟩).run P w)):=by
 refine qih fun ho => ?_
 refine fun hb=>⟨.value (.pointer (some ⟨w.heap.size,0,none⟩)),_,{ w with heap:=w.heap.push (.cells (ρ x).cells e) },β.upd base ⟨w.heap.size,0,0⟩,?_,rfl,by simp [SV.den,SA.den,Val.upd_same,SN.den],?_,by simp⟩
 . simp [execOp,Instr.box,newVar,newRow]
 . refine Eff.alloc (vs:=(ρ x).cells.toList) (rest:=[]) (lo:=0) (hi:=0) hb.hd (by simp) rfl rfl rfl (qxl hev (ho _ (by simp))) (by simp) (by simp) (by simp)
theorem qy9 {d:TypeDesc} {e:R α} {f:Array Field->R α} {φ:α->Prop} (h:∀ fs,d=.struct fs->(f fs).Sat φ) (he:e.Sat φ):(TypeDesc.asSt d e f).Sat φ:=by
 cases d <;> first | exact h _ rfl | exact he
theorem q56 {d:TypeDesc} {e:R α} {f:Nat->TypeId->R α} {φ:α->Prop} (h:∀ n t,d=.array n t->(f n t).Sat φ) (he:e.Sat φ):(TypeDesc.zgb d e f).Sat φ:=by
 cases d <;> first | exact h _ _ rfl | exact he
theorem q9p {d:TypeDesc} {e:R α} {f:TypeId->R α} {φ:α->Prop} (h:∀ t,d=.slice t->(f t).Sat φ) (he:e.Sat φ):(TypeDesc.zga d e f).Sat φ:=by
 cases d <;> first | exact h _ rfl | exact he
theorem qa4 {dst:Option Tmp} {ty:TypeId} {ps:Array (Nat × Operand)} {t:TypeId} {pos:String} {af:Array Edge} {g:Option (Nat × Bool)} (hev:∀ x∈ps.toList.map (·.2),(ev x).den β=some (ρ x)) :
  (qo6 ty ps P ev H base).Sat (qea P H β w base ((execOp ρ ⟨dst,.build ty ps,t,pos,af,g⟩).run P w)):=by
 obtain ⟨hp1,hp2⟩:=qlr ps.toList hev;refine qih fun ho => ?_
 rw [qxa] at ho;refine R.Sat.opt fun d hd => ?_
 have hu:=qba (w:=w) hd;have hps:(ps.map fun (p:Nat × Operand)=>(p.1,ρ p.2)).toList=ps.toList.map fun (p:Nat × Operand)=>(p.1,ρ p.2):=by simp
 split
 . rename_i fields;refine R.Sat.opt fun z hz=>R.Sat.opt fun pl hpl=>R.Sat.opt fun cells hc => ?_
   obtain ⟨i,v,hi,hv,hden⟩:=q9d hz;have zfY:=qmx (w:=w) _ _ hpl;obtain ⟨rs,hrs,hr,_⟩:=qdn (β:=β) (nth pl) _ (ps.map fun (p:Nat × Operand)=>(p.1,ρ p.2)).toList _ _ _ (by rw [hps]; exact hp1) (by rw [hps]; exact hp2) (hden β) hc ho
   refine qga (x:=.agg rs.toArray) ?_ (by simp [SV.den,hr])
   have hm:(fields.mapM (m:=Sem) fun f=>do pure (f.offset,← sizeOf f.type)).run P w=.ok pl.toArray w:=by
    rw [Array.mapM_eq_mapM_toList];simp only [Sem.run_map,zfY,Result.andThen_ok]
   have hn:(fun i=>pl.toArray[i]?)=nth pl:=by funext i; rw [qda]; simp
   simp only [execOp,Instr.build,Sem.run_bind,qzc hi hv,Result.andThen_ok,hu,hm,hn];rw [show v.cells=v.cells.toList.toArray from by simp,hrs]
   simp
 . rename_i n elem;refine R.Sat.opt fun z hz=>R.Sat.opt fun ie hie=>R.Sat.opt fun cells hc => ?_
   obtain ⟨i,v,hi,hv,hden⟩:=q9d hz;obtain ⟨rs,hrs,hr,_⟩:=qdn (β:=β) (fun j=>some (j * ie.size,ie.size)) _ (ps.map fun (p:Nat × Operand)=>(p.1,ρ p.2)).toList _ _ _ (by rw [hps]; exact hp1) (by rw [hps]; exact hp2) (hden β) hc ho
   refine qga (x:=.agg rs.toArray) ?_ (by simp [SV.den,hr])
   simp only [execOp,Instr.build,Sem.run_bind,qzc hi hv,Result.andThen_ok,hu,qya hie];rw [show v.cells=v.cells.toList.toArray from by simp,hrs]
   simp
 . trivial
end
end
noncomputable section
variable {α:Type}
section
variable {P:Program} {O:Nat->Prop} {w0:World} {β:Val} {H:List SO} {w:World} {base:Nat}
variable {ev:Operand->SV} {ρ:Operand->Value} {dst:Option Tmp} {t:TypeId} {pos:String} {af:Array Edge} {g:Option (Nat × Bool)}
theorem qmr {ty:TypeId} {n:Nat} {ps:Array (Nat × Operand)} (hev:∀ x∈ps.toList.map (·.2),(ev x).den β=some (ρ x)) :
  (qjp ty n ps P ev H base).Sat (qea P H β w base ((execOp ρ ⟨dst,.buildSlice ty n ps,t,pos,af,g⟩).run P w)):=by
 obtain ⟨hp1,hp2⟩:=qlr ps.toList hev;refine qih fun ho => ?_
 rw [qxa] at ho;refine R.Sat.opt fun d hd => ?_
 have hu:=qba (w:=w) hd;have hps:(ps.map fun (p:Nat × Operand)=>(p.1,ρ p.2)).toList=ps.toList.map fun (p:Nat × Operand)=>(p.1,ρ p.2):=by simp
 split
 . rename_i elem;refine R.Sat.opt fun ie hie=>R.Sat.opt fun z hz => ?_
   split
   . trivial
   . rename_i hbig;split
     . trivial
     . rename_i hzl;refine R.Sat.opt fun cells hc => ?_
       obtain ⟨i,v,hi,hv,hden⟩:=q9d hz;rw [hie] at hi; cases hi;have zdj:v.cells.size=ie.size:=by
        have:=qra (hden β);rw [qha] at hzl;simp at this hzl; omega
       have zjQ:=q0t (hden β) n;obtain ⟨rs,hrs,hr,hrl⟩:=qdn (β:=β) (fun j=>some (j * ie.size,ie.size)) _ (ps.map fun (p:Nat × Operand)=>(p.1,ρ p.2)).toList _ _ _ (by rw [hps]; exact hp1) (by rw [hps]; exact hp2) zjQ hc ho
       have hlen:rs.length=n * ie.size:=by rw [hrl]; simp [zdj]
       refine fun hb=>⟨.value (.slice (some ⟨w.heap.size,0,none⟩) n n),_,{ w with heap:=w.heap.push (.cells rs.toArray elem) },β.upd base ⟨w.heap.size,0,0⟩,?_,rfl,by rw [zaf]; exact ⟨⟨w.heap.size,0,none⟩,n,by simp [SA.den,Val.upd_same,SN.den],rfl,Nat.le_refl _,rfl⟩,?_,by simp⟩
       . simp only [execOp,Instr.buildSlice,Sem.run_bind,hu,Result.andThen_ok,qya hie];rw [if_neg hbig];by_cases h0:n * ie.size=0
         . rw [if_pos h0];have hrs':Instr.fill (fun i=>some (i * ie.size,ie.size)) ((Array.range (n * ie.size)).map (fun i=>(#[]:Array Value)[i % (#[]:Array Value).size]!)) (ps.map fun (p:Nat × Operand)=>(p.1,ρ p.2)).toList=some rs.toArray:=by
            rw [h0,← hrs];congr 1;have:(List.replicate n v.cells.toList).flatten=[]:=by
             apply List.eq_nil_of_length_eq_zero; simp [zdj,h0]
            rw [this]; simp
           simp only [Sem.run_bind,Sem.run_pure,Result.andThen_ok,hrs'];simp [newRow]
         . rw [if_neg h0];simp only [Sem.run_bind,qzc hie hv,Result.andThen_ok,Sem.run_pure,qrk zdj h0,hrs];simp [newRow]
       . exact Eff.alloc (vs:=rs) (rest:=[]) (lo:=0) (hi:=0) hb.hd (by simp) rfl rfl rfl hr (by simp) (by simp) (by simp)
 . trivial
theorem q8i {v:SV} {x:Value} (hv:v.den β=some x) {f:SA->R α} {φ:α->Prop} (h:∀ a A,v=.ptr a->a.den β=some A->x=.pointer (some A)->(f a).Sat φ):(zgn v f).Sat φ:=by
 cases v
 case ptr a =>
  simp only [SV.den,Option.map_eq_some_iff] at hv;obtain ⟨A,hA,rfl⟩:=hv;exact h a A rfl hA rfl
 all_goals trivial
theorem qnx {v:SV} {x:Value} (hv:v.den β=some x) {g:Value->R α} {f:SA->R α} {φ:α->Prop} (hg:v=.val x->(g x).Sat φ) (h:∀ a A,v=.ptr a->a.den β=some A->x=.pointer (some A)->(f a).Sat φ):(zi6 v g f).Sat φ:=by
 cases v
 case ptr a =>
  simp only [SV.den,Option.map_eq_some_iff] at hv;obtain ⟨A,hA,rfl⟩:=hv;exact h a A rfl hA rfl
 case val y =>
  have hy:y=x:=Option.some.inj hv;subst hy;exact hg rfl
 all_goals trivial
theorem q66 (hr:HeapRel0 P O w0 β H w) {ty:TypeId} {a:Operand} (hev:(ev a).den β=some (ρ a)) :
  (j8c ty a P ev H base).Sat (qea P H β w base ((execOp ρ ⟨dst,.load ty a,t,pos,af,g⟩).run P w)):=by
 refine qnx hev (fun _=>q26 hr fun A v y hx hv hrun=>qga (x:=y) ?_ hv) fun a' A _ hA hx=>qyt hr hA fun v x hv hrun=>qga (x:=x) ?_ hv
 all_goals
  simp only [execOp,Instr.loadAt,hx,Instr.sureAddr];simp [hrun]
theorem q76 {β:Val} {l:List SV} {xs:List Value} (h:SV.zal β l=some xs) (hs:zaO qf1 l=true) (ho:∀ v∈l,qkr v):∀ x∈xs,x.oneCell'=true:=by
 intro x hx;obtain ⟨n,hn⟩:=List.getElem?_of_mem hx;have hlt:n<l.length:=by rw [← qra h]; exact (List.getElem?_eq_some_iff.1 hn).1
 obtain ⟨y,hy,hd⟩:=qlc h (List.getElem?_eq_getElem hlt);rw [hn] at hy; cases hy;have h1:=qxe _ _ hs _ (List.getElem_mem hlt);have h2:=ho _ (List.getElem_mem hlt);generalize l[n]=v at hd h1 h2;cases v with
 | val z=>obtain rfl:z=x:=Option.some.inj hd; exact h2 z rfl
 | int=>exact qwb (v:=.int _ _) h1 hd
 | bool=>exact qwb (v:=.bool _) h1 hd
 | str=>exact qwb (v:=.str _) h1 hd
 | ptr=>exact qwb (v:=.ptr _) h1 hd
 | nilPtr=>exact qwb (v:=.nilPtr) h1 hd
 | slice=>exact qwb (v:=.slice _ _ _) h1 hd
 | zad=>exact qwb (v:=.zad) h1 hd
 | map=>exact qwb (v:=.map _) h1 hd
 | zau=>exact qwb (v:=.zau) h1 hd
 | func=>exact qwb (v:=.func _ _ _) h1 hd
 | nilFunc=>exact qwb (v:=.nilFunc) h1 hd
 | iface=>exact qwb (v:=.iface _ _) h1 hd
 | nilIface=>exact qwb (v:=.nilIface) h1 hd
 | agg=>cases h1
 | tuple=>cases h1
 | tail=>exact qwb (v:=.tail _ _ _ _) h1 hd
theorem j0e (hr:HeapRel0 P O w0 β H w) {a:SA} {A:Addr} (ha:a.den β=some A) {e:SO} (he:H[a.nm]? = some e) {l:List SV} {xs:List Value} (hl:SV.zal β l=some xs) (hs:∀ x∈xs,x.oneCell'=true)
  {res:Result Next} (hres:∀ w',(storeCells A xs).run P w=.ok () w'->res=.ok .skip w'):(wrO e a l).Sat (qea P H β w base res):=by
 cases e with
 | row=>trivial
 | loop=>trivial
 | deferred=>trivial
 | gone=>trivial
 | mem=>trivial
 | obj=>trivial
 | own c wh el =>
   obtain ⟨ll,vs,rest,lo,hi,hbl,h0,hc,hh,hfz,hw,hcap⟩:=hr.entries _ _ he;obtain ⟨l',hl',rfl⟩:=SA.zaB ha;rw [hbl] at hl'; cases hl';cases l with
   | nil =>
     have hx:xs=[]:=by
      simp only [SV.zal] at hl;exact (Option.some.inj hl).symm
     subst hx;have h1:=hr.entries _ _ he;refine ⟨.skip,_,w,_,hres w rfl,rfl,by simp [qsa,SV.den,SV.zal,undef],he,rfl,⟨Val.le_refl β,rfl,rfl,rfl,Nat.le_refl _,Nat.le_refl _,fun _ _=>rfl,fun _ _ _ _=>rfl,?_,?_,by simp,by simp⟩⟩
     . intro n e e' h2 h3; simp at h2 h3; rw [h2.2,h3.2]
     . intro n e h2;simp at h2;obtain ⟨rfl,rfl⟩:=h2;exact h1
   | cons y l =>
   refine q8j hc hl fun c' hc' hle => ?_
   have hrun:=q5b (P:=P) xs (vs++rest) (ll.off+a.off.den) 0 w hh hs hfz.at (by rw [h0]; simp; omega)
   rw [Nat.add_zero,h0,Nat.zero_add,qye hle] at hrun;rw [h0,Nat.zero_add] at hres;refine fun _=>⟨.skip,_,_,β,hres _ hrun,rfl,by simp [qsa,SV.den,SV.zal,undef],Eff.turn hbl ?_,?_⟩
   . have hlt:ll.blk<w.heap.size:=(Array.getElem?_eq_some_iff.1 hh).1;refine ⟨ll,qib vs a.off.den xs,rest,lo,hi,hbl,h0,hc',by simp [hlt],?_,hw,?_⟩
     . simp only [List.length_append,q4a hle] at hfz ⊢; exact hfz
     . intro i hi';have:=hcap i hi';simp only [List.length_append,q4a hle] at this ⊢; exact this
   . intro n e hn;simp at hn;obtain ⟨rfl,rfl⟩:=hn;exact ⟨_,he,rfl,.not⟩
theorem qb4 (hr:HeapRel0 P O w0 β H w) {ty:TypeId} {a x:Operand} (hev:(ev a).den β=some (ρ a)) (hevx:(ev x).den β=some (ρ x)) :
  (qp6 ty a x P ev H base).Sat (qea P H β w base ((execOp ρ ⟨dst,.store ty a x,t,pos,af,g⟩).run P w)):=by
 refine q8i hev fun a' A _ hA hx=>R.Sat.opt fun i hi=>R.Sat.zab (fun hlen=>R.Sat.zab (fun hs=>qih fun ho=>qkb fun e he => ?_) fun _=>trivial) fun _=>trivial;have hc:=qxl hevx (fun y hy=>by rw [hy] at ho; exact ho (.val y) List.mem_cons_self y rfl)
 refine j0e hr hA he hc (q76 hc hs ho) fun w' hw' => ?_
 have hsz:(ρ x).cells.size=i.size:=by
  have h1:=qra hc;have h2:=Nat.eq_of_beq_eq_true hlen;rw [qha] at h2;simp at h1; omega
 simp only [execOp,Instr.storeAt,hx,Instr.sureAddr,storeVar];simp [qya hi,hsz,hw']
theorem qz9 {x:Operand} (hev:(ev x).den β=some (ρ x)) :
  (zjb x P ev H base).Sat (qea P H β w base ((execOp ρ ⟨dst,.nilCheck x,t,pos,af,g⟩).run P w)):=by
 unfold zjb qrt;have zhH:=hev;cases hv:ev x
 case ptr a =>
  rw [hv] at hev;simp only [SV.den,Option.map_eq_some_iff] at hev;obtain ⟨A,hA,hx⟩:=hev;refine qga (x:=ρ x) ?_ (by rw [← hv]; exact zhH)
  simp [execOp,← hx]
 case slice a l c =>
  rw [hv] at hev;rw [zaf] at hev;obtain ⟨A,C,hA,hC,_,hx⟩:=hev;refine qga (x:=ρ x) ?_ (by rw [← hv]; exact zhH)
  simp [execOp,← hx]
 case tail a n l c =>
  rw [hv] at hev;rw [q1c] at hev;obtain ⟨A,C,hA,hC,_,hx⟩:=hev;refine qga (x:=ρ x) ?_ (by rw [← hv]; exact zhH)
  simp [execOp,← hx]
 case func f xs ys =>
  rw [hv] at hev;simp only [SV.den,Option.map_eq_some_iff,Option.bind_eq_some_iff] at hev;obtain ⟨F,hF,az,has,bs,hbs,hx⟩:=hev;have key:(∀ m,F≠.method m)->(vR (.func f xs ys)).Sat (qea P H β w base ((execOp ρ ⟨dst,.nilCheck x,t,pos,af,g⟩).run P w)):=by
   intro hm;refine qga (x:=ρ x) ?_ (by rw [← hv]; exact zhH)
   simp only [execOp,← hx];cases F <;> first | rfl | exact absurd rfl (hm _)
  cases f with
  | yield nm =>
    simp only [SFn.den,Option.map_eq_some_iff] at hF;obtain ⟨l,_,rfl⟩:=hF;exact key (by simp)
  | fn fn =>
    simp only [SFn.den,Option.some.injEq] at hF;subst hF;cases fn <;> first | exact key (by simp) | trivial
 all_goals trivial
end
end
noncomputable section
variable {α:Type}
section
variable {P:Program} {O:Nat->Prop} {w0:World} {β:Val} {H:List SO} {w:World} {base:Nat}
variable {ev:Operand->SV} {ρ:Operand->Value} {dst:Option Tmp} {t:TypeId} {pos:String} {af:Array Edge} {g:Option (Nat × Bool)}
def qze:Value->Value->Bool
 | .nilIface,.nilIface=>false
 | .agg _,.agg _=>false
 | _,_=>true
theorem qe0 {op:BinOp} {t:TypeId} {x y:Operand} {a b:Value} (h:qze a b=true):(eqGuard op t x y a b).run P w=.ok () w:=by
 unfold eqGuard;cases a <;> cases b <;> first | (cases h; done) | (dsimp only; split <;> rfl)
theorem qaf {op:BinOp} {ty yt:TypeId} {x y:Operand} {v:SV} {z:Value} (hg:qze (ρ x) (ρ y)=true) (hrun:(binOp op ty (ρ x) (ρ y)).run P w=.ok z w) (hv:v.den β=some z) :
  (vR v).Sat (qea P H β w base ((execOp ρ ⟨dst,.binOp op ty x y yt,t,pos,af,g⟩).run P w)):=by
 refine qga (x:=z) ?_ hv;simp [execOp,qe0 hg,hrun]
theorem j1e {op:BinOp} {ty:TypeId} {k:IntKind} {a b n:Int} (h:arM op k a b=some n):(binOp op ty (.int k a) (.int k b)).run P w=.ok (.int k n) w:=by
 cases op <;> simp only [arM,reduceCtorEq,Option.some.injEq] at h <;> subst h
 . rw [binOp_add]; rfl
 . rw [binOp_sub]; rfl
 . rw [binOp_mul]; rfl
 . rw [binOp_and]; rfl
 . rw [binOp_or]; rfl
 . rw [binOp_xor]; rfl
 . rw [binOp_andNot]; rfl
theorem q09 {op:BinOp} {ty:TypeId} {k:IntKind} {a b:Int} {n:Bool} (h:zd2 op a b=some n):(binOp op ty (.int k a) (.int k b)).run P w=.ok (.bool n) w:=by
 cases op <;> simp only [zd2,reduceCtorEq,Option.some.injEq] at h <;> subst h
 . rw [binOp_eql]; rfl
 . rw [binOp_neq]; rfl
 . rw [binOp_lss]; rfl
 . rw [binOp_leq]; rfl
 . rw [binOp_gtr]; rfl
 . rw [binOp_geq]; rfl
theorem q86 {op:BinOp} {ty yt:TypeId} {x y:Operand} {k k':IntKind} {a b:SI} (hx:ρ x=.int k a.den) (hy:ρ y=.int k' b.den) :
  (j0c op k a k' b).Sat (qea P H β w base ((execOp ρ ⟨dst,.binOp op ty x y yt,t,pos,af,g⟩).run P w)):=by
 have hg:qze (ρ x) (ρ y)=true:=by rw [hx,hy]; rfl
 have har:∀ op',op'=op->(zfB op' k a k' b).Sat (qea P H β w base ((execOp ρ ⟨dst,.binOp op ty x y yt,t,pos,af,g⟩).run P w)):=by
  rintro op' rfl;refine R.Sat.zab (fun hk => ?_) fun _=>trivial;have:=q5i hk; subst this;refine (qng op' k a b).bind fun z hz=>qaf hg (z:=.int k z.den) (by rw [hx,hy]; exact j1e hz) rfl
 have hcm:∀ op',op'=op->(zf8 op' k a k' b).Sat (qea P H β w base ((execOp ρ ⟨dst,.binOp op ty x y yt,t,pos,af,g⟩).run P w)):=by
  rintro op' rfl;refine R.Sat.zab (fun hk => ?_) fun _=>trivial;have:=q5i hk; subst this;refine (qv9 op' a b).bind fun z hz=>qaf hg (z:=.bool z.den) (by rw [hx,hy]; exact q09 hz) rfl
 have hdv:∀ op',op'=op->op'=.quo\/op'=.rem->(zkB op' k a k' b).Sat (qea P H β w base ((execOp ρ ⟨dst,.binOp op ty x y yt,t,pos,af,g⟩).run P w)):=by
  rintro op' rfl hop;refine R.Sat.zab (fun hk => ?_) fun _=>trivial;have:=q5i hk; subst this;refine (qu9 op' k a b).bind fun z hz=>qaf hg (z:=.int k z.den) ?_ rfl;rw [hx,hy,← hz.2];rcases hop with rfl | rfl
  . rw [binOp_quo]; unfold Op.intDiv; rw [if_neg hz.1]; rfl
  . rw [binOp_rem]; unfold Op.intDiv; rw [if_neg hz.1]; rfl
 have hsh:∀ op',op'=op->op'=.shl\/op'=.shr->(zkA op' k a k' b).Sat (qea P H β w base ((execOp ρ ⟨dst,.binOp op ty x y yt,t,pos,af,g⟩).run P w)):=by
  rintro op' rfl hop;refine (q63 op' k a b hop).bind fun z hz=>qaf hg (z:=.int k z.den) ?_ rfl;rw [hx,hy,← hz.2];have h0:¬ b.den<0:=by omega
  rcases hop with rfl | rfl
  . rw [binOp_shl]; unfold Op.shift; rw [if_neg h0]; rfl
  . rw [binOp_shr]; unfold Op.shift; rw [if_neg h0]; rfl
 cases op
 . exact har _ rfl
 . exact har _ rfl
 . exact har _ rfl
 . exact hdv _ rfl (.inl rfl)
 . exact hdv _ rfl (.inr rfl)
 . exact har _ rfl
 . exact har _ rfl
 . exact har _ rfl
 . exact hsh _ rfl (.inl rfl)
 . exact hsh _ rfl (.inr rfl)
 . exact har _ rfl
 . exact hcm _ rfl
 . exact hcm _ rfl
 . exact hcm _ rfl
 . exact hcm _ rfl
 . exact hcm _ rfl
 . exact hcm _ rfl
theorem q0e (a b:ByteArray):(a.toList == b.toList)=decide (a=b):=by
 rw [ByteArray.toList_eq,ByteArray.toList_eq,Bool.eq_iff_iff];simp only [beq_iff_eq,decide_eq_true_eq];obtain ⟨⟨x⟩⟩:=a;obtain ⟨⟨y⟩⟩:=b;simp
theorem q9i (a b:ByteArray):(a.toList == b.toList)=(a.data.toList == b.data.toList):=by
 rw [ByteArray.toList_eq,ByteArray.toList_eq]
theorem qf0 (l m:List SI):qfc (l++m)=qfc l++qfc m:=by
 unfold qfc;rw [List.map_append];apply ByteArray.ext;simp
theorem qnr (a:ByteArray):qfc (qso a)=a:=by
 unfold qfc qso;rw [qxa,List.map_map];apply ByteArray.ext;have h:((fun i:SI=>UInt8.ofNat i.den.toNat) ∘ fun b:UInt8=>SI.lit (b.toNat:Int))=id:=by
  funext b;show UInt8.ofNat ((b.toNat:Int)).toNat=b;simp
 rw [h];simp
theorem qen (l:List SI):(qfc l).size=zay l:=by
 rw [qha];unfold qfc;show (l.map _).toArray.size=_;simp
theorem q96 {op:BinOp} {ty yt:TypeId} {x y:Operand} {a b:za8} (hx:ρ x=.string a.den) (hy:ρ y=.string b.den) :
  (jyc op a b).Sat (qea P H β w base ((execOp ρ ⟨dst,.binOp op ty x y yt,t,pos,af,g⟩).run P w)):=by
 have hg:qze (ρ x) (ρ y)=true:=by rw [hx,hy]; rfl
 have key:∀ (v:SV) (z:Value),v.den β=some z->(binOp op ty (.string a.den) (.string b.den)).run P w=.ok z w->(vR v).Sat (qea P H β w base ((execOp ρ ⟨dst,.binOp op ty x y yt,t,pos,af,g⟩).run P w)) :=
  fun v z hv hz=>qaf hg (by rw [hx,hy]; exact hz) hv
 cases op
 case eql =>
  have hs:(binOp .eql ty (.string a.den) (.string b.den)).run P w=.ok (.bool (decide (a.den=b.den))) w:=by rw [binOp_string_eql,q0e]; rfl
  cases a <;> cases b <;> first
   | (refine key _ _ rfl ?_; rw [binOp_string_eql,q9i]; rfl)
   | exact key _ _ rfl hs
 case neq =>
  have hs:(binOp .neq ty (.string a.den) (.string b.den)).run P w=.ok (.bool (!decide (a.den=b.den))) w:=by rw [binOp_string_neq,q0e]; rfl
  cases a <;> cases b <;> first
   | (refine key _ _ rfl ?_; rw [binOp_string_neq,q9i]; rfl)
   | exact key _ _ rfl hs
 case lss =>
  have hs:(binOp .lss ty (.string a.den) (.string b.den)).run P w=.ok (.bool (Op.bytesLess a.den.data.toList b.den.data.toList)) w:=by rw [binOp_string_lss,ByteArray.toList_eq,ByteArray.toList_eq]; rfl
  cases a <;> cases b <;> exact key _ _ rfl hs
 case geq =>
  have hs:(binOp .geq ty (.string a.den) (.string b.den)).run P w=.ok (.bool (!Op.bytesLess a.den.data.toList b.den.data.toList)) w:=by rw [← ByteArray.toList_eq,← ByteArray.toList_eq]; rfl
  cases a <;> cases b <;> exact key _ _ rfl hs
 case leq =>
  have hs:(binOp .leq ty (.string a.den) (.string b.den)).run P w=.ok (.bool (Op.bytesLess a.den.data.toList b.den.data.toList || decide (a.den=b.den))) w:=by rw [← ByteArray.toList_eq,← ByteArray.toList_eq,← q0e]; rfl
  cases a <;> cases b <;> first
   | (refine key _ _ rfl ?_; rw [← q9i,q0e]; exact hs)
   | exact key _ _ rfl hs
 case gtr =>
  have hs:(binOp .gtr ty (.string a.den) (.string b.den)).run P w=.ok (.bool (!(Op.bytesLess a.den.data.toList b.den.data.toList || decide (a.den=b.den)))) w:=by rw [← ByteArray.toList_eq,← ByteArray.toList_eq,← q0e]; rfl
  cases a <;> cases b <;> first
   | (refine key _ _ rfl ?_; rw [← q9i,q0e]; exact hs)
   | exact key _ _ rfl hs
 case add =>
  have hs:a.den.size+b.den.size<=9223372036854775807->(binOp .add ty (.string a.den) (.string b.den)).run P w=.ok (.string (a.den++b.den)) w:=by
   intro hle;rw [binOp_string_add];unfold Op.stringOp;simp only;rw [if_neg (by simp only [IntKind.max,IntKind.signed,IntKind.bits]; simp; omega)]
   rfl
  have zka:∀ l m:List SI,qfc l=a.den->qfc m=b.den->(qxq l m).Sat (qea P H β w base ((execOp ρ ⟨dst,.binOp .add ty x y yt,t,pos,af,g⟩).run P w)):=by
   intro l m hl hm;unfold qxq;split
   . rename_i h;refine key _ _ ?_ (hs (by rw [← hl,← hm,qen,qen]; exact h))
     show some (Value.string (q3m (app l m)).den)=_;rw [qvq,q7a,qf0,hl,hm]
   . trivial
  cases a with
  | lit a=>cases b with
    | lit b =>
      show R.Sat (if _ then _ else _) _
      split
      . rename_i h; exact key _ _ rfl (hs h)
      . trivial
    | sym b=>exact fun h=>key _ _ rfl (hs h)
    | bytes m=>exact zka _ _ (qnr a) rfl
  | sym a=>cases b <;> exact fun h=>key _ _ rfl (hs h)
  | bytes l=>cases b with
    | lit b=>exact zka _ _ rfl (qnr b)
    | sym b=>exact fun h=>key _ _ rfl (hs h)
    | bytes m=>exact zka _ _ rfl rfl
 all_goals trivial
theorem qle (v:SV):(∃ k n,v=.int k n)\/∀ {γ:Type} (d:γ) (f:IntKind->SI->γ),v.asInt d f=d:=by
 cases v <;> first | exact .inl ⟨_,_,rfl⟩ | exact .inr fun _ _=>rfl
theorem qor:∃ d,∀ t x y,Op.equal t x y=Op.equalIn (d+1) t x y:=⟨9999,fun _ _ _=>rfl⟩
theorem qsk {ty:TypeId} (h:P.underlying ty=some .bool) (a b:Bool):(Op.equal ty (.bool a) (.bool b)).run P w=.ok (a == b) w:=by
 obtain ⟨m,hm⟩:=qor;rw [hm];simp [Op.equalIn,qba h]
theorem qc4 {op:BinOp} {ty yt:TypeId} {x y:Operand} {a b:SB} (hx:ρ x=.bool a.den) (hy:ρ y=.bool b.den) :
  (qf6 P op ty a b).Sat (qea P H β w base ((execOp ρ ⟨dst,.binOp op ty x y yt,t,pos,af,g⟩).run P w)):=by
 have hg:qze (ρ x) (ρ y)=true:=by rw [hx,hy]; rfl
 refine R.Sat.opt fun d hd => ?_
 split
 . cases op
   case eql =>
    have h1:(binOp .eql ty (.bool a.den) (.bool b.den)).run P w=.ok (.bool (a.den == b.den)) w:=by
     simp [binOp,qsk hd]
    cases a <;> cases b <;> exact qaf hg (by rw [hx,hy]; exact h1) rfl
   case neq =>
    have h1:(binOp .neq ty (.bool a.den) (.bool b.den)).run P w=.ok (.bool (!(a.den == b.den))) w:=by
     simp [binOp,qsk hd]
    cases a <;> cases b <;> exact qaf hg (by rw [hx,hy]; exact h1) rfl
   all_goals trivial
 . trivial
theorem q9u {ty:TypeId} {d:TypeDesc} (h:P.underlying ty=some d) {x y:SV} (hn:qmt d x y=true) {b:Bool} (hb:qg3 x y=some b) {a c:Value} (hx:x.den β=some a) (hy:y.den β=some c) :
  (Op.equal ty a c).run P w=.ok b w/\qze a c=true/\∀ op,(op=.eql\/op=.neq)->(binOp op ty a c).run P w=.ok (.bool (if op=.eql then b else !b)) w:=by
 have key:(Op.equal ty a c).run P w=.ok b w->(∀ s,a≠.string s)->(∀ k n,a≠.int k n)->(∀ k n,a≠.float k n)->(∀ k n m,a≠.complex k n m)->a≠.nilIface->(∀ l,a≠.agg l) ->
   (Op.equal ty a c).run P w=.ok b w/\qze a c=true/\∀ op,(op=.eql\/op=.neq)->(binOp op ty a c).run P w=.ok (.bool (if op=.eql then b else !b)) w:=by
  intro h1 n1 n2 n3 n4 n5 n6;refine ⟨h1,?_,fun op hop => ?_⟩
  . cases a <;> first | rfl | exact absurd rfl (n6 _) | exact absurd rfl n5
  . rcases hop with rfl | rfl
    . have:binOp .eql ty a c=(do pure (.bool (← Op.equal ty a c))):=by
       cases a <;> first | rfl | exact absurd rfl (n1 _) | exact absurd rfl (n2 _ _) | exact absurd rfl (n3 _ _) | exact absurd rfl (n4 _ _ _)
      rw [this]; simp [h1]
    . have:binOp .neq ty a c=(do pure (.bool (!(← Op.equal ty a c)))):=by
       cases a <;> first | rfl | exact absurd rfl (n1 _) | exact absurd rfl (n2 _ _) | exact absurd rfl (n3 _ _) | exact absurd rfl (n4 _ _ _)
      rw [this]; simp [h1]
 obtain ⟨m,hm⟩:=qor;have heq:∀ z:Sem Bool,Op.equalIn (m+1) ty a c=z->z.run P w=.ok b w->(Op.equal ty a c).run P w=.ok b w:=fun z e1 e2=>by
  rw [hm,e1]; exact e2
 cases d <;> cases x <;> first
  | (cases hn; done)
  | (cases y <;> first
    | (cases hn; done)
    | (simp only [SV.den,Option.map_eq_some_iff,Option.bind_eq_some_iff,Option.some.injEq,qth,q3i] at hx hy
       simp only [qg3,Option.some.injEq] at hb;subst hb;refine key (heq _ rfl ?_) ?_ ?_ ?_ ?_ ?_ ?_ <;> first
        | (first
          | (subst hx; subst hy)
          | (subst hx; obtain ⟨_,_,rfl⟩:=hy)
          | (subst hy; obtain ⟨_,_,rfl⟩:=hx)
          | (subst hx; obtain ⟨_,_,_,_,_,rfl⟩:=hy)
          | (subst hy; obtain ⟨_,_,_,_,_,rfl⟩:=hx)
          | (subst hx; obtain ⟨_,_,_,_,_,_,rfl⟩:=hy)
          | (subst hy; obtain ⟨_,_,_,_,_,_,rfl⟩:=hx)) <;> first | (simp [Op.equalIn,qba h]; done) | (intros; simp; done)))
end
end
noncomputable section
variable {α:Type}
def zcW (k:CK) (a b:Value):Option Bool :=
 match k,a,b with
 | .i,.int k x,.int k' y=>if k=k' then some (x == y) else none
 | .b,.bool x,.bool y=>some (x == y)
 | .s,.string x,.string y=>some (decide (x=y))
 | _,_,_=>none
def zbk:List CK->List Value->List Value->Option Bool
 | [],[],[]=>some true
 | k::ks,a::az,b::bs=>(zcW k a b).bind fun x=>(zbk ks az bs).map fun y=>x && y
 | _,_,_=>none
theorem q19 (x y:SI):(eqSI x y).den=(x.den == y.den):=by
 cases x <;> cases y <;> first | rfl | exact qqk _ _
theorem q29 (x y:SB):(eqSB x y).den=(x.den == y.den):=by cases x <;> cases y <;> rfl
theorem qg0 (a b:ByteArray):(a.data.toList == b.data.toList)=decide (a=b):=by
 obtain ⟨⟨a⟩⟩:=a;obtain ⟨⟨b⟩⟩:=b;show (a == b)=_;by_cases h:a=b
 . subst h; simp
 . rw [decide_eq_false]
   . simpa using h
   . intro e; injection e with e; injection e with e; exact h e
theorem q39 (x y:za8):(eqSS x y).den=decide (x.den=y.den):=by
 cases x <;> cases y <;> first | rfl | exact qg0 _ _
theorem q49 (x y:SB):(zkK x y).den=(x.den && y.den):=by
 cases x with
 | lit a=>cases a <;> rfl
 | sym a =>
   cases y with
   | lit b=>cases b <;> simp [zkK,zab,SB.den]
   | sym b=>rfl
theorem qd4 {β:Val} {k:CK} {a b:SV} {c:SB} {x y:Value} (h:q4m k a b=some c) (ha:a.den β=some x) (hb:b.den β=some y):zcW k x y=some c.den:=by
 unfold q4m at h;split at h
 . rename_i k1 x1 k2 y1;simp only [SV.den,Option.some.injEq] at ha hb;subst ha hb;cases hk:eqK k1 k2 with
   | false=>rw [hk] at h; cases h
   | true =>
     rw [hk] at h;cases h;have:=q5i hk;subst this;simp only [zcW,if_true,q19]
 . simp only [SV.den,Option.some.injEq] at ha hb;subst ha hb;cases h;simp only [zcW,q29]
 . simp only [SV.den,Option.some.injEq] at ha hb;subst ha hb;cases h;simp only [zcW,q39]
 . cases h
theorem q9j {β:Val}:∀ {ks:List CK} {az bs:List SV} {c:SB} {xs ys:List Value},q0d ks az bs=some c->SV.zal β az=some xs->SV.zal β bs=some ys->zbk ks xs ys=some c.den
 | [],[],[],c,xs,ys,h,ha,hb=>by cases h; cases ha; cases hb; rfl
 | k::ks,a::az,b::bs,c,xs,ys,h,ha,hb=>by
   obtain ⟨x,xs',hx,hxs,rfl⟩:=zae.1 ha;obtain ⟨y,ys',hy,hys,rfl⟩:=zae.1 hb;simp only [q0d,Option.bind_eq_some_iff,Option.map_eq_some_iff] at h;obtain ⟨c1,h1,c2,h2,rfl⟩:=h;simp only [zbk,qd4 h1 hx hy,q9j h2 hxs hys,Option.bind_some,Option.map_some,q49]
 | [],[],_::_,_,_,_,h,_,_=>by cases h
 | [],_::_,_,_,_,_,h,_,_=>by cases h
 | _::_,[],_,_,_,_,h,_,_=>by cases h
 | _::_,_::_,[],_,_,_,h,_,_=>by cases h
theorem qak:∀ {ks ls:List CK} {xs ys:List Value} {r:Bool},zbk (ks++ls) xs ys=some r->∃ r1 r2,zbk ks (xs.take ks.length) (ys.take ks.length)=some r1/\zbk ls (xs.drop ks.length) (ys.drop ks.length)=some r2/\r=(r1 && r2)
 | [],ls,xs,ys,r,h=>⟨true,r,by simp [zbk],by simpa using h,by simp⟩
 | k::ks,ls,x::xs,y::ys,r,h=>by
   simp only [List.cons_append,zbk,Option.bind_eq_some_iff,Option.map_eq_some_iff] at h;obtain ⟨a,ha,b,hb,rfl⟩:=h;obtain ⟨r1,r2,h1,h2,rfl⟩:=qak hb;exact ⟨a && r1,r2,by simp [zbk,ha,h1],by simpa using h2,by cases a <;> simp⟩
 | _::_,_,[],_,_,h=>by simp [zbk] at h
 | _::_,_,_::_,[],_,h=>by simp [zbk] at h
theorem qjh:∀ {ks:List CK} {xs ys:List Value} {r:Bool},zbk ks xs ys=some r->xs.length=ks.length/\ys.length=ks.length
 | [],[],[],_,_=>⟨rfl,rfl⟩
 | k::ks,x::xs,y::ys,r,h=>by
   simp only [zbk,Option.bind_eq_some_iff,Option.map_eq_some_iff] at h;obtain ⟨a,_,b,hb,rfl⟩:=h;obtain ⟨h1,h2⟩:=qjh hb;simp [h1,h2]
 | [],[],_::_,_,h=>by simp [zbk] at h
 | [],_::_,_,_,h=>by simp [zbk] at h
 | _::_,[],_,_,h=>by simp [zbk] at h
 | _::_,_::_,[],_,h=>by simp [zbk] at h
theorem qa7 {k:CK} {a b:Value} (h:zcW k a b=some true):a=b:=by
 unfold zcW at h;split at h
 . split at h
   . rename_i hk; simp at h; rw [hk,h]
   . cases h
 . simp at h; rw [h]
 . simp at h; rw [h]
 . cases h
theorem q2t:∀ {ks:List CK} {xs ys:List Value},zbk ks xs ys=some true->xs=ys
 | [],[],[],_=>rfl
 | k::ks,x::xs,y::ys,h=>by
   simp only [zbk,Option.bind_eq_some_iff,Option.map_eq_some_iff] at h;obtain ⟨a,ha,b,hb,hab⟩:=h;cases a <;> cases b <;> simp at hab
   rw [qa7 ha,q2t hb]
 | [],[],_::_,h=>by simp [zbk] at h
 | [],_::_,_,h=>by simp [zbk] at h
 | _::_,[],_,h=>by simp [zbk] at h
 | _::_,_::_,[],h=>by simp [zbk] at h
section
variable {P:Program}
def qie (P:Program) (t:TypeId) (x:Value) (xs:List Value):Prop:=∀ d,P.underlying t=some d->if qcc d=true then x=.agg xs.toArray else xs=[x]
theorem qme {t:TypeId} {l ks:List CK} (h:qyq P t l=some ks):ks=l/\∃ i,P.info? t=some i/\i.size=l.length:=by
 unfold qyq at h;simp only [Option.bind_eq_some_iff] at h;obtain ⟨i,hi,h⟩:=h;split at h
 . rename_i hs; cases h; rw [qha] at hs; exact ⟨rfl,i,hi,hs⟩
 . cases h
theorem qfn {d:Nat} {t:TypeId} {ks:List CK} (h:q2b P d t=some ks):∃ k,P.underlying t=some k/\(qcc k=true->∃ i,P.info? t=some i/\i.size=ks.length)/\(qcc k=false->ks.length=1):=by
 cases d with
 | zero=>cases h
 | succ d =>
   simp only [q2b,Option.bind_eq_some_iff] at h;obtain ⟨k,hk,h⟩:=h;refine ⟨k,hk,?_⟩;cases k <;> first | (cases h; done) | skip
   case bool=>cases h; exact ⟨fun h=>(by cases h),fun _=>rfl⟩
   case int=>cases h; exact ⟨fun h=>(by cases h),fun _=>rfl⟩
   case string=>cases h; exact ⟨fun h=>(by cases h),fun _=>rfl⟩
   case array n e =>
    simp only [Option.bind_eq_some_iff] at h;obtain ⟨ls,_,i,_,h⟩:=h;split at h
    . obtain ⟨rfl,i,hi,hs⟩:=qme h;exact ⟨fun _=>⟨i,hi,hs⟩,fun h=>(by cases h)⟩
    . cases h
   case struct fs =>
    simp only at h;split at h
    . cases h
    . simp only [Option.bind_eq_some_iff] at h;obtain ⟨ls,_,h⟩:=h;obtain ⟨rfl,i,hi,hs⟩:=qme h;exact ⟨fun _=>⟨i,hi,hs⟩,fun h=>(by cases h)⟩
theorem qbf {w:World} {d:Nat} {e:TypeId} {ks:List CK} (h:q2b P d e=some ks) {zs:List Value} {off:Nat} (hl:((zs.drop off).take ks.length).length=ks.length) :
  ∃ v,(part e zs.toArray off).run P w=.ok v w/\qie P e v ((zs.drop off).take ks.length):=by
 obtain ⟨k,hk,h1,h2⟩:=qfn h;have hagg:=qxj (w:=w) hk;cases hb:qcc k with
 | true =>
   obtain ⟨i,hi,hs⟩:=h1 hb;refine ⟨.agg ((zs.drop off).take ks.length).toArray,?_,fun d hd => ?_⟩
   . simp only [part,Sem.run_bind,hagg,hb,Result.andThen_ok,if_true,qya hi,Sem.run_pure];congr 2;apply Array.ext';simp only [Array.toList_extract];rw [List.extract_eq_take_drop,hs];simp
   . rw [hk] at hd; cases hd; rw [if_pos hb]
 | false =>
   have hks:=h2 hb;rw [hks] at hl ⊢;cases hd:zs.drop off with
   | nil=>rw [hd] at hl; simp at hl
   | cons v r =>
     have hv:zs[off]? = some v:=by
      have:=List.getElem?_drop (xs:=zs) (i:=off) (j:=0);rw [hd] at this; simpa using this.symm
     refine ⟨v,?_,fun d hd => ?_⟩
     . simp [part,hagg,hb,hv]
     . rw [hk] at hd; cases hd; rw [hb,if_neg (by simp)]; simp
theorem qkp {w:World} {d D:Nat} {e:TypeId} {ks:List CK} (hk:q2b P d e=some ks) (hE:∀ x y xs ys r,qie P e x xs->qie P e y ys->zbk ks xs ys=some r->(Op.equalIn D e x y).run P w=.ok r w) {xs ys:List Value} :
  ∀ (m s:Nat) (r:Bool),zbk (zgj ks m) (xs.drop (s * ks.length)) (ys.drop (s * ks.length))=some r->(Op.eqItems D e ks.length xs.toArray ys.toArray (List.range' s m)).run P w=.ok r w
 | 0,s,r,h=>by
   have:r=true:=by
    have h:zbk [] _ _=some r:=h;unfold zbk at h;split at h <;> simp_all
   subst this;simp [Op.eqItems]
 | m+1,s,r,h=>by
   have h:zbk (app ks (zgj ks m)) _ _=some r:=h;rw [q7a] at h;obtain ⟨r1,r2,h1,h2,rfl⟩:=qak h;obtain ⟨l1,l2⟩:=qjh h1;obtain ⟨a,ha,sa⟩:=qbf (w:=w) hk l1;obtain ⟨b,hb,sb⟩:=qbf (w:=w) hk l2;have hr:=hE _ _ _ _ _ sa sb h1;rw [List.drop_drop,List.drop_drop,show s * ks.length+ks.length=(s+1) * ks.length from by rw [Nat.add_mul]; omega] at h2
   have ih:=qkp hk hE m (s+1) r2 h2;simp only [List.range'_succ,Op.eqItems,Sem.run_bind,ha,hb,hr,Result.andThen_ok];cases r1
   . simp
   . simpa using ih
theorem qgn {w:World} {d D:Nat} (hE:∀ e ks,q2b P d e=some ks->∀ x y xs ys r,qie P e x xs->qie P e y ys->zbk ks xs ys=some r->(Op.equalIn D e x y).run P w=.ok r w) {xs ys:List Value} :
  ∀ (fs:List Field) (off:Nat) (ks:List CK) (r:Bool),q1f (fun e=>q2b P d e) fs off=some ks->zbk ks (xs.drop off) (ys.drop off)=some r->(Op.eqFields D xs.toArray ys.toArray fs).run P w=.ok r w
 | [],off,ks,r,hk,h=>by
   cases hk;have:r=true:=by
    unfold zbk at h;split at h <;> simp_all
   subst this;simp [Op.eqFields]
 | f::fs,off,ks,r,hk,h=>by
   simp only [q1f,Option.bind_eq_some_iff] at hk;obtain ⟨ls,hls,hk⟩:=hk;split at hk
   . rename_i hc;obtain ⟨ho,hn⟩:=hc;simp only [Option.map_eq_some_iff] at hk;obtain ⟨ms,hms,rfl⟩:=hk;rw [q7a] at h;rw [qha] at hms;obtain ⟨r1,r2,h1,h2,rfl⟩:=qak h;obtain ⟨l1,l2⟩:=qjh h1;subst ho;obtain ⟨a,ha,sa⟩:=qbf (w:=w) hls l1;obtain ⟨b,hb,sb⟩:=qbf (w:=w) hls l2;have hr:=hE _ _ hls _ _ _ _ _ sa sb h1;rw [List.drop_drop,List.drop_drop] at h2;have ih:=qgn hE fs _ ms r2 hms h2;simp only [Op.eqFields,hn,ne_eq,not_false_eq_true,if_true,Sem.run_bind,ha,hb,hr,Result.andThen_ok];cases r1
     . simp
     . simpa using ih
   . cases hk
theorem qhn {w:World}:∀ (d:Nat) (t:TypeId) (ks:List CK),q2b P d t=some ks->∀ D,d<=D->∀ (x y:Value) (xs ys:List Value) (r:Bool),qie P t x xs->qie P t y ys->zbk ks xs ys=some r->(Op.equalIn D t x y).run P w=.ok r w:=by
 intro d;induction d with
 | zero=>intro t ks h; cases h
 | succ d ih =>
   intro t ks h D hD x y xs ys r hx hy hr;obtain ⟨D,rfl⟩:∃ D',D=D'+1:=⟨D - 1,by omega⟩
   simp only [q2b,Option.bind_eq_some_iff] at h;obtain ⟨k,hk,h⟩:=h;have hx:=hx k hk;have hy:=hy k hk;have hu:=qba (w:=w) hk;cases k <;> first | (cases h; done) | skip
   case bool =>
    cases h;rw [if_neg (by simp [qcc])] at hx hy
    subst hx hy;simp only [zbk,Option.bind_eq_some_iff,Option.map_eq_some_iff] at hr;obtain ⟨a,ha,b,hb,rfl⟩:=hr;cases hb;cases x <;> cases y <;> simp only [zcW,reduceCtorEq,Option.some.injEq] at ha
    subst ha;simp [Op.equalIn,hu]
   case int =>
    cases h;rw [if_neg (by simp [qcc])] at hx hy
    subst hx hy;simp only [zbk,Option.bind_eq_some_iff,Option.map_eq_some_iff] at hr;obtain ⟨a,ha,b,hb,rfl⟩:=hr;cases hb;cases x <;> cases y <;> simp only [zcW,reduceCtorEq] at ha
    split at ha
    . rename_i hkk;cases ha;simp [Op.equalIn,hu,hkk]
    . cases ha
   case string =>
    cases h;rw [if_neg (by simp [qcc])] at hx hy
    subst hx hy;simp only [zbk,Option.bind_eq_some_iff,Option.map_eq_some_iff] at hr;obtain ⟨a,ha,b,hb,rfl⟩:=hr;cases hb;cases x <;> cases y <;> simp only [zcW,reduceCtorEq,Option.some.injEq] at ha
    subst ha;simp [Op.equalIn,hu];rw [Bool.eq_iff_iff,MapKept.bytes_beq,decide_eq_true_iff]
   case array n e =>
    simp only [Option.bind_eq_some_iff] at h;obtain ⟨ls,hls,i,hi,h⟩:=h;split at h
    . rename_i hsz;obtain ⟨rfl,_⟩:=qme h;rw [if_pos (by simp [qcc])] at hx hy
      subst hx hy;rw [qha] at hsz;rw [run_equalIn_array w D xs.toArray ys.toArray hk hi];have hc:P.cellsOf e=ls.length:=by simp [Program.cellsOf,hi,hsz]
      rw [hc,List.range_eq_range'];exact qkp hls (fun x y xs ys r sx sy he=>ih e ls hls D (by omega) x y xs ys r sx sy he) n 0 r (by simpa using hr)
    . cases h
   case struct fs =>
    simp only at h;split at h
    . cases h
    . rename_i hst;simp only [Option.bind_eq_some_iff] at h;obtain ⟨ls,hls,h⟩:=h;obtain ⟨rfl,_⟩:=qme h;rw [if_pos (by simp [qcc])] at hx hy
      subst hx hy;have hf:P.fieldsOf t=fs:=by simp [Program.fieldsOf,hk]
      rw [run_equalIn_struct w D t xs.toArray ys.toArray (by rw [hf]; exact hk) (by simpa using hst),hf]
      exact qgn (fun e ks he x y xs ys r sx sy hr=>ih e ks he D (by omega) x y xs ys r sx sy hr) fs.toList 0 ks r hls (by simpa using hr)
theorem qe4:∀ (d:Nat) (t:TypeId) (ks:List CK),q2b P d t=some ks->∀ D,d<=D->P.eqGuardType D t=false:=by
 intro d;induction d with
 | zero=>intro t ks h; cases h
 | succ d ih =>
   intro t ks h D hD;obtain ⟨D,rfl⟩:∃ D',D=D'+1:=⟨D - 1,by omega⟩
   simp only [q2b,Option.bind_eq_some_iff] at h;obtain ⟨k,hk,h⟩:=h;unfold Program.eqGuardType;rw [hk];cases k <;> first | (cases h; done) | rfl | skip
   case array n e =>
    simp only [Option.bind_eq_some_iff] at h;obtain ⟨ls,hls,_⟩:=h;exact ih e ls hls D (by omega)
   case struct fs =>
    simp only at h;split at h
    . cases h
    . simp only [Option.bind_eq_some_iff] at h;obtain ⟨ls,hls,_⟩:=h
      show (fs.any fun f=>f.name != "_" && P.eqGuardType D f.type)=false
      have key:∀ (l:List Field) (off:Nat) (ks:List CK),q1f (fun e=>q2b P d e) l off=some ks->∀ f∈l,P.eqGuardType D f.type=false:=by
       intro l;induction l with
       | nil=>intro off ks _ f hf; cases hf
       | cons g l ihl =>
         intro off ks hk f hf;simp only [q1f,Option.bind_eq_some_iff] at hk;obtain ⟨ms,hms,hk⟩:=hk;split at hk
         . simp only [Option.map_eq_some_iff] at hk;obtain ⟨ns,hns,_⟩:=hk;rcases List.mem_cons.1 hf with rfl | hf
           . exact ih _ _ hms D (by omega)
           . exact ihl _ _ hns f hf
         . cases hk
      rw [Bool.eq_false_iff];intro hany;rw [Array.any_eq_true'] at hany;obtain ⟨f,hf,hf2⟩:=hany;rw [key fs.toList 0 ls hls f (by simpa using hf)] at hf2
      simp at hf2
end
section
variable {P:Program} {O:Nat->Prop} {w0:World} {β:Val} {H:List SO} {w:World} {base:Nat}
variable {ev:Operand->SV} {ρ:Operand->Value} {dst:Option Tmp} {t:TypeId} {pos:String} {af:Array Edge} {g:Option (Nat × Bool)}
theorem qb7 {op:BinOp} {ty yt:TypeId} {x y:Operand} {l m:List SV} (hx:(SV.agg l).den β=some (ρ x)) (hy:(SV.agg m).den β=some (ρ y)) :
  (jzc P op ty l m).Sat (qea P H β w base ((execOp ρ ⟨dst,.binOp op ty x y yt,t,pos,af,g⟩).run P w)):=by
 simp only [SV.den,Option.map_eq_some_iff] at hx hy;obtain ⟨xs,hxs,hx⟩:=hx;obtain ⟨ys,hys,hy⟩:=hy;refine R.Sat.opt fun k hk=>R.Sat.zab (fun hag=>R.Sat.opt fun ks hks=>R.Sat.opt fun b hb => ?_) fun _=>trivial;have hv:=q9j hb hxs hys;have hsh:∀ zs:List Value,qie P ty (.agg zs.toArray) zs:=fun zs d hd=>by rw [hk] at hd; cases hd; rw [if_pos hag]
 have hr:=qhn (w:=w) 8 ty ks hks 10000 (by omega) _ _ _ _ _ (hsh xs) (hsh ys) hv
 have hgd:=qe4 8 ty ks hks P.depth (by unfold Program.depth Made.depth; omega)
 have hg:(eqGuard op ty x y (.agg xs.toArray) (.agg ys.toArray)).run P w=.ok () w:=run_eqGuard_agg w op ty x y _ _ hgd;cases op
 case eql =>
  refine qga (x:=.bool b.den) ?_ rfl;simp [execOp,← hx,← hy,hg,run_eql_struct,hr]
 case neq =>
  cases b with
  | lit b =>
    refine qga (x:=.bool (!b)) ?_ rfl;simp [execOp,← hx,← hy,hg,run_neq_struct,hr,SB.den]
  | sym b =>
    refine qga (x:=.bool (!b)) ?_ rfl;simp [execOp,← hx,← hy,hg,run_neq_struct,hr,SB.den]
 all_goals trivial
end
end
noncomputable section
variable {α:Type}
section
variable {P:Program} {O:Nat->Prop} {w0:World} {β:Val} {H:List SO} {w:World} {base:Nat}
variable {ev:Operand->SV} {ρ:Operand->Value} {dst:Option Tmp} {t:TypeId} {pos:String} {af:Array Edge} {g:Option (Nat × Bool)}
theorem qc7 {op:BinOp} {ty yt:TypeId} {x y:Operand} {a b:SV} (hx:a.den β=some (ρ x)) (hy:b.den β=some (ρ y)) :
  (j1c P op ty a b).Sat (qea P H β w base ((execOp ρ ⟨dst,.binOp op ty x y yt,t,pos,af,g⟩).run P w)):=by
 refine R.Sat.opt fun d hd => ?_
 split
 . rename_i hn;refine R.Sat.opt fun c hc => ?_
   obtain ⟨_,h2,h3⟩:=q9u (w:=w) hd hn hc hx hy;cases op
   case eql=>exact qaf h2 (h3 .eql (.inl rfl)) rfl
   case neq=>exact qaf h2 (h3 .neq (.inr rfl)) rfl
   all_goals trivial
 . trivial
theorem qpr {op:BinOp} {ty yt:TypeId} {x y:Operand} {a b:SV} (hx:a.den β=some (ρ x)) (hy:b.den β=some (ρ y)) :
  (qzq P op ty a b).Sat (qea P H β w base ((execOp ρ ⟨dst,.binOp op ty x y yt,t,pos,af,g⟩).run P w)):=by
 unfold qzq;split
 . exact q96 (by simpa [SV.den,eq_comm] using hx) (by simpa [SV.den,eq_comm] using hy)
 . exact qc4 (by simpa [SV.den,eq_comm] using hx) (by simpa [SV.den,eq_comm] using hy)
 . exact qb7 hx hy
 . exact qc7 hx hy
theorem q59 {op:BinOp} {ty yt:TypeId} {x y:Operand} (hx:(ev x).den β=some (ρ x)) (hy:(ev y).den β=some (ρ y)) :
  (zjd op ty x y yt P ev H base).Sat (qea P H β w base ((execOp ρ ⟨dst,.binOp op ty x y yt,t,pos,af,g⟩).run P w)):=by
 unfold zjd binT;rcases qle (ev x) with ⟨k,n,h1⟩ | h1
 . rcases qle (ev y) with ⟨k',n',h2⟩ | h2
   . rw [h1] at hx ⊢;rw [h2] at hy ⊢;exact q86 (by simpa [SV.den,eq_comm] using hx) (by simpa [SV.den,eq_comm] using hy)
   . rw [h1];show R.Sat ((ev y).asInt _ _) _;rw [h2,← h1];exact qpr hx hy
 . rw [h1];exact qpr hx hy
theorem j2e {op:UnOp} {ty:TypeId} {x:Operand} (hx:(ev x).den β=some (ρ x)) :
  (oUn op ty x P ev H base).Sat (qea P H β w base ((execOp ρ ⟨dst,.unOp op ty x,t,pos,af,g⟩).run P w)):=by
 unfold oUn unT;split
 . rename_i b h;rw [h] at hx; simp only [SV.den,SB.den,Option.some.injEq] at hx;exact qga (x:=.bool (!b)) (by simp [execOp,← hx,Op.unary]) rfl
 . rename_i b _ h;rw [h] at hx; simp only [SV.den,Option.some.injEq] at hx;exact qga (x:=.bool (!b.den)) (by simp [execOp,← hx,Op.unary]) rfl
 . rename_i k n h;rw [h] at hx; simp only [SV.den,Option.some.injEq] at hx;refine (qng .sub k (.lit 0) n).bind fun z hz=>qga (x:=.int k z.den) ?_ rfl;have hz':k.wrap (0 - n.den)=z.den:=Option.some.inj hz;have hu:Op.unary .neg (.int k n.den)=pure (.int k (k.wrap (0 - n.den))):=rfl;simp only [execOp,← hx,hu,hz'];rfl
 . rename_i n h;rw [h] at hx; simp only [SV.den,Option.some.injEq] at hx;refine (qng .xor .u8 (.lit 255) n).bind fun z hz=>qga (x:=.int .u8 z.den) ?_ rfl;have hz':qqe .xor .u8 255 n.den=z.den:=Option.some.inj hz;have hu:Op.unary .xor (.int .u8 n.den)=pure (.int .u8 (qqe .xor .u8 255 n.den)):=rfl;simp only [execOp,← hx,hu,hz'];rfl
 . rename_i n h;rw [h] at hx; simp only [SV.den,Option.some.injEq] at hx;refine (qng .xor .u32 (.lit 4294967295) n).bind fun z hz=>qga (x:=.int .u32 z.den) ?_ rfl;have hz':qqe .xor .u32 4294967295 n.den=z.den:=Option.some.inj hz;have hu:Op.unary .xor (.int .u32 n.den)=pure (.int .u32 (qqe .xor .u32 4294967295 n.den)):=rfl;simp only [execOp,← hx,hu,hz'];rfl
 . rename_i n h;rw [h] at hx; simp only [SV.den,Option.some.injEq] at hx;refine (qng .xor .u64 (.lit 18446744073709551615) n).bind fun z hz=>qga (x:=.int .u64 z.den) ?_ rfl;have hz':qqe .xor .u64 18446744073709551615 n.den=z.den:=Option.some.inj hz;have hu:Op.unary .xor (.int .u64 n.den)=pure (.int .u64 (qqe .xor .u64 18446744073709551615 n.den)):=rfl;simp only [execOp,← hx,hu,hz'];rfl
 . trivial
theorem q69 {ty:TypeId} {x:Operand} (hx:(ev x).den β=some (ρ x)) :
  (oArr ty x P ev H base).Sat (qea P H β w base ((execOp ρ ⟨dst,.sliceToArrayPointer ty x,t,pos,af,g⟩).run P w)):=by
 refine R.Sat.opt fun d hd => ?_
 have hu:=qba (w:=w) hd;split
 . rename_i n e;split
   . rename_i a len c h;rw [h] at hx;rw [zaf] at hx;obtain ⟨A,C,hA,hC,hLC,hx⟩:=hx;have key:n<=len.den->(vR (.ptr a)).Sat (qea P H β w base ((execOp ρ ⟨dst,.sliceToArrayPointer ty x,t,pos,af,g⟩).run P w)):=by
      intro hle;refine qga (x:=.pointer (some A)) ?_ (by simp [SV.den,hA])
      simp only [execOp,← hx,Instr.arrayAt,Sem.run_bind,hu,Result.andThen_ok];rw [if_neg (by omega)]
      rfl
     split
     . rename_i l;split
       . trivial
       . rename_i hb;refine key ?_
         rcases Nat.lt_or_ge l n with h' | h'
         . have:Nat.blt l n=true:=by unfold Nat.blt; exact Nat.ble_eq_true_of_le h'
           rw [this] at hb; cases hb
         . exact h'
     . exact fun hle=>key hle
     . exact fun hle=>key hle
   . trivial
 . trivial
theorem qf4 {ty:TypeId} {x:Operand} (hx:(ev x).den β=some (ρ x)) :
  (qq6 ty x P ev H base).Sat (qea P H β w base ((execOp ρ ⟨dst,.makeInterface ty x,t,pos,af,g⟩).run P w)):=by
 refine R.Sat.opt fun d hd => ?_
 have hu:=qba (w:=w) hd;cases d <;> first
  | trivial
  | exact qga (x:=.iface ty (ρ x)) (by simp [execOp,Instr.makeInterface,hu]) (by simp [SV.den,hx])
theorem qd7 {fn:Fn} {xs ys:Array Operand} (hx:∀ x∈xs.toList,(ev x).den β=some (ρ x)) (hy:∀ x∈ys.toList,(ev x).den β=some (ρ x)) :
  (qr3 fn xs ys P ev H base).Sat (qea P H β w base ((execOp ρ ⟨dst,.makeFunc fn xs ys,t,pos,af,g⟩).run P w)):=by
 unfold qr3;split
 . rename_i f;refine qga (x:=.func (.func f) (xs.map ρ) (ys.map ρ)) (by simp [execOp,Instr.makeFunc]) ?_
   simp [SV.den,SFn.den,qmd _ hx,qmd _ hy];exact ⟨by simp [← Array.toList_map],by simp [← Array.toList_map]⟩
 . rename_i t' path f p;refine qga (x:=.func (.via t' path f p) (xs.map ρ) (ys.map ρ)) (by simp [execOp,Instr.makeFunc]) ?_
   simp [SV.den,SFn.den,qmd _ hx,qmd _ hy];exact ⟨by simp [← Array.toList_map],by simp [← Array.toList_map]⟩
 . rename_i t' name;refine qga (x:=.func (.methodOf t' name) (xs.map ρ) (ys.map ρ)) (by simp [execOp,Instr.makeFunc]) ?_
   simp [SV.den,SFn.den,qmd _ hx,qmd _ hy];exact ⟨by simp [← Array.toList_map],by simp [← Array.toList_map]⟩
 . trivial
theorem qtk {A:Addr} {f:Field} {i:TypeInfo} (hi:P.info? f.type=some i) (h0:i.size≠0):(fieldPlace A f).run P w=.ok (A.add f.offset) w:=by
 simp [fieldPlace,qya hi,h0]
theorem q1s {ty:TypeId} {x:Operand} {n:Nat} (hx:(ev x).den β=some (ρ x)) :
  (q3q ty x n P ev H base).Sat (qea P H β w base ((execOp ρ ⟨dst,.fieldAddr ty x n,t,pos,af,g⟩).run P w)):=by
 refine R.Sat.opt fun d hd=>qy9 (fun fs hfs=>R.Sat.opt fun f hf=>R.Sat.opt fun i hi=>R.Sat.zab (fun _=>trivial) fun h0 => ?_) trivial;have hu:=qba (w:=w) hd;subst hfs;rw [qda] at hf;have hf':fs[n]? = some f:=by rw [← hf]; simp
 have h0':i.size≠0:=fun h=>by rw [h] at h0; cases h0
 refine qnx hx (fun _ hp => ?_) fun a A _ hA hρ => ?_
 . obtain ⟨A,hρ,hA⟩:∃ A,ρ x=.pointer (some A)/\zaV (ρ x)=A:=⟨_,hp,rfl⟩;refine qga (x:=.pointer (some (A.add f.offset))) ?_ (by simp [SV.den,hA])
   simp [execOp,Instr.fieldAt,hu,hf',hρ,Instr.sureAddr,qtk hi h0']
 . refine qga (x:=.pointer (some (A.add f.offset))) ?_ (by simp [SV.den,SA.za7 hA,SN.den])
   simp [execOp,Instr.fieldAt,hu,hf',hρ,Instr.sureAddr,qtk hi h0']
theorem qin {ty:TypeId} {l:List SV} {vs:List Value} (hl:SV.zal β l=some vs) {off:Nat} {f:SV->R α} {φ:α->Prop}
  (hf:∀ v x,v.den β=some x->(part ty vs.toArray off).run P w=.ok x w->(f v).Sat φ):(quv P ty l off f).Sat φ:=by
 refine R.Sat.opt fun d hd => ?_
 have hagg:=qxj (w:=w) hd;split
 . rename_i hb;refine R.Sat.opt fun i hi => ?_
   rw [qsc,qad];refine hf _ (.agg ((vs.drop off).take i.size).toArray) (by simp [SV.den,q3f (quh hl off) i.size]) ?_
   simp only [part,Sem.run_bind,hagg,hb,Result.andThen_ok,if_true,qya hi,Sem.run_pure];congr 2;apply Array.ext';simp only [Array.toList_extract];rw [List.extract_eq_take_drop];simp
 . rename_i hb;refine R.Sat.opt fun v hv => ?_
   rw [qda] at hv;obtain ⟨x,hx,hd'⟩:=qlc hl hv;refine hf _ x hd' ?_
   have hb':qcc d=false:=by simpa using hb
   simp [part,hagg,hb',hx]
theorem qg4 {ty:TypeId} {x:Operand} {n:Nat} (hx:(ev x).den β=some (ρ x)) :
  (qtw ty x n P ev H base).Sat (qea P H β w base ((execOp ρ ⟨dst,.field ty x n,t,pos,af,g⟩).run P w)):=by
 unfold qtw;split
 . rename_i l h;rw [h] at hx;simp only [SV.den,Option.map_eq_some_iff] at hx;obtain ⟨vs,hvs,hρ⟩:=hx;refine R.Sat.opt fun d hd => ?_
   have hu:=qba (w:=w) hd;split
   . rename_i fs;refine R.Sat.opt fun f hf=>qin (w:=w) hvs fun v x hv hrun=>qga (x:=x) ?_ hv;rw [qda] at hf;have hf':fs[n]? = some f:=by rw [← hf]; simp
     simp [execOp,Instr.field,hu,hf',← hρ,asAgg,hrun]
   . trivial
 . trivial
theorem q7h (v:SV):(∃ a n c,v=.slice a n c)\/∀ {γ:Type} (d:γ) (f:SA->SN->SC->γ),v.asSlice d f=d:=by
 cases v <;> first | exact .inl ⟨_,_,_,rfl⟩ | exact .inr fun _ _=>rfl
theorem q2s {ty:TypeId} {x i:Operand} (hx:(ev x).den β=some (ρ x)) (hi:(ev i).den β=some (ρ i)) :
  (qll ty x i P ev H base).Sat (qea P H β w base ((execOp ρ ⟨dst,.indexAddr ty x i,t,pos,af,g⟩).run P w)):=by
 unfold qll qtq;refine R.Sat.opt fun d hd => ?_
 have hu:=qba (w:=w) hd;rcases qle (ev i) with ⟨k,n,h1⟩ | h1
 . rw [h1] at hi ⊢;simp only [SV.den,Option.some.injEq] at hi;show R.Sat (TypeDesc.zgb d (TypeDesc.zga d (.stuck 247) (zjB P (ev x) n)) (jtc P (ev x) n)) _;refine q56 (fun m elem hdd => ?_) (q9p (fun elem hdd => ?_) trivial)
   . subst hdd;refine q8i hx fun a A _ hA hρ=>R.Sat.opt fun e he=>q6i fun j h0 hlt hj => ?_
     refine qga (x:=.pointer (some (A.add (n.den.toNat * e.size)))) ?_ (by simp [SV.den,SA.za7 hA,SN.zbK,hj])
     simp only [SN.den] at hlt;simp [execOp,Instr.indexAt,← hi,asIntOf,hu,hρ,Instr.sureAddr,h0,hlt,qya he]
   . subst hdd;unfold zjB;split
     . rename_i a n' len c h2;rw [h2,q1c] at hx;obtain ⟨A,C,hA,hC,hle,hρ⟩:=hx;refine R.Sat.opt fun e he=>q6i fun j h0 hlt hj => ?_
       have hC0:¬ C=0:=by omega
       rw [if_neg hC0] at hρ;refine qga (x:=.pointer (some ((A.add n'.den).add (n.den.toNat * e.size)))) ?_ (by simp [SV.den,SA.za7 (SA.za7 hA n'),SN.zbK,hj])
       simp [execOp,Instr.indexAt,← hi,asIntOf,hu,← hρ,h0,hlt,qya he]
     rename_i hnt;clear hnt;unfold juc;rcases q7h (ev x) with ⟨a,len,c,h2⟩ | h2
     . rw [h2] at hx ⊢;rw [zaf] at hx;obtain ⟨A,C,hA,hC,_,hρ⟩:=hx;refine R.Sat.opt fun e he=>q6i fun j h0 hlt hj => ?_
       refine qga (x:=.pointer (some (A.add (n.den.toNat * e.size)))) ?_ (by simp [SV.den,SA.za7 hA,SN.zbK,hj])
       simp [execOp,Instr.indexAt,← hi,asIntOf,hu,← hρ,h0,hlt,qya he]
     . rw [h2];cases hv:ev x
       case val y =>
        rw [hv] at hx;have hy:y=ρ x:=Option.some.inj hx;refine R.Sat.opt fun e he=>fun hs=>q6i fun j h0 hlt hj => ?_
        have hs:y=.slice (some (zaV y)) (zaL y) (zbY y):=hs;refine qga (x:=.pointer (some ((zaV y).add (n.den.toNat * e.size)))) ?_ (by simp [SV.den,SN.zbK,hj])
        have hρ:ρ x=.slice (some (zaV y)) (zaL y) (zbY y):=hy▸hs;have hlt:n.den<(zaL y:Int):=hlt;simp [execOp,Instr.indexAt,← hi,asIntOf,hu,hρ,h0,hlt,qya he]
       all_goals trivial
 . rw [h1]; trivial
theorem qh4 {ty:TypeId} {x i:Operand} (hx:(ev x).den β=some (ρ x)) (hi:(ev i).den β=some (ρ i)) :
  (quw ty x i P ev H base).Sat (qea P H β w base ((execOp ρ ⟨dst,.index ty x i,t,pos,af,g⟩).run P w)):=by
 unfold quw qe6;refine R.Sat.opt fun d hd => ?_
 have hu:=qba (w:=w) hd;split
 . rename_i k n h1;rw [h1] at hi;simp only [SV.den,Option.some.injEq] at hi;split
   . rename_i m elem l h2;rw [h2] at hx;simp only [SV.den,Option.map_eq_some_iff] at hx;obtain ⟨vs,hvs,hρ⟩:=hx;refine R.Sat.opt fun e he=>q6i fun j h0 hlt hj => ?_
     cases j with
     | sym=>trivial
     | byt=>trivial
     | lit j =>
       refine qin (w:=w) hvs fun v x hv hrun=>qga (x:=x) ?_ hv;simp only [SN.den] at hlt hj;subst hj;simp [execOp,Instr.index,← hi,asIntOf,hu,← hρ,h0,hlt,qya he,hrun]
   . rename_i s h2;rw [h2] at hx;simp only [SV.den,Option.some.injEq] at hx;have key:∀ (v:SV) (b:UInt8),0<=n.den->s.den.data[n.den.toNat]? = some b->v.den β=some (.int .u8 (b.toNat:Int))->(vR v).Sat (qea P H β w base ((execOp ρ ⟨dst,.index ty x i,t,pos,af,g⟩).run P w)):=by
      intro v b h0 hb hv;refine qga ?_ hv;have hb':s.den[n.den.toNat]? = some b:=by
       obtain ⟨hlt,hget⟩:=Array.getElem?_eq_some_iff.1 hb;rw [getElem?_pos s.den n.den.toNat hlt];exact congrArg some hget
      simp [execOp,Instr.index,← hi,asIntOf,hu,← hx,h0,hb']
     split
     . rename_i s i';split
       . rename_i h0;refine R.Sat.opt fun b hb=>key _ b h0 ?_ rfl;rw [qda] at hb;simp only [za8.den,SI.den];rw [← hb]; simp
       . trivial
     . rename_i l i';split
       . rename_i h0;refine R.Sat.opt fun b hb => ?_
         rw [qda] at hb;have hget:∀ b,l[i'.toNat]? = some b->(za8.bytes l).den.data[(SI.lit i').den.toNat]? = some (UInt8.ofNat b.den.toNat):=by
          intro b hb;simp only [za8.den,qfc,SI.den,List.getElem?_toArray,List.getElem?_map,hb,Option.map_some]
         split
         . rename_i x8;refine key _ _ h0 (hget _ hb) ?_
           simp only [SV.den,SI.den,Int.toNat_natCast];rw [UInt8.toNat_ofNat',Nat.mod_eq_of_lt x8.isLt]
         . rename_i zhI;rintro ⟨h1,h2⟩;refine key _ _ h0 (hget _ hb) ?_
           simp only [SV.den,UInt8.toNat_ofNat'];rw [Nat.mod_eq_of_lt (by omega)]
           congr 2; omega
       . trivial
     . rintro ⟨h0,hlt⟩;have hlt':n.den.toNat<s.den.data.size:=by
        have:s.den.size=s.den.data.size:=rfl;omega
       refine key _ (s.den.data[n.den.toNat]) h0 (Array.getElem?_eq_getElem hlt') ?_
       have hg:s.den.data.getD n.den.toNat 0=s.den.data[n.den.toNat]:=by
        rw [Array.getD_eq_getD_getElem?,Array.getElem?_eq_getElem hlt']; rfl
       show some (Value.int .u8 (((s.den.data.getD n.den.toNat 0).toBitVec.toNat:Nat):Int))=_;rw [hg]; rfl
   . trivial
 . trivial
theorem qox {x:Operand} {n:Nat} (hx:(ev x).den β=some (ρ x)) :
  (q5p x n P ev H base).Sat (qea P H β w base ((execOp ρ ⟨dst,.extract x n,t,pos,af,g⟩).run P w)):=by
 unfold q5p;split
 . rename_i l h;rw [h] at hx;simp only [SV.den,Option.map_eq_some_iff] at hx;obtain ⟨vs,hvs,hρ⟩:=hx;refine R.Sat.opt fun v hv => ?_
   rw [qda] at hv;obtain ⟨x,hx',hd⟩:=qlc hvs hv;exact qga (x:=x) (by simp [execOp,Instr.extract,← hρ,hx']) hd
 . trivial
end
end
end Go.Sim
