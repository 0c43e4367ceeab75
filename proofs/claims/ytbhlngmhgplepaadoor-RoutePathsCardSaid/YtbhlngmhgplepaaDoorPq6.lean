/-
  zda behind one another: the symbolic simulator and what it is told of the program.
-/
import Derived.Test.YtbhlngmhgplepaaDoorPq5
import Derived.Below
import Derived.Test.YtbhlngmhgplepaaDoorProg
import Derived.Laws.Externs
namespace Go.Sim
noncomputable section
open Go
theorem getElem?_snocM {α:Type} {l:List α} {x y:α} {n:Nat} (h:(l++[x])[n]? = some y):l[n]? = some y\/(n=l.length/\y=x):=by
 rcases Nat.lt_or_ge n l.length with hn | hn
 . rw [List.getElem?_append_left hn] at h; exact .inl h
 . rw [List.getElem?_append_right hn] at h;right;cases hx:n - l.length with
   | zero=>rw [hx] at h; exact ⟨by omega,(Option.some.inj h).symm⟩
   | succ k=>rw [hx] at h; simp at h
def zcW:Mem:=⟨fun _=>none,fun _=>none,fun _=>False⟩
section
variable {P:Program} {O:Nat->Prop} {w0:World} {β:Val} {H:List SO} {w:World}
theorem zbu.none:zbu P O w0 β H w zcW:=⟨(fun _ _ h=>by cases h),(fun _ _ _ _ h=>by cases h),(fun _ h=>False.elim h)⟩
theorem zbt.sub {β:Val} {H H':List SO} (h:∀ (n:Nat) (e:SO) (l:Loc),H'[n]? = some e->e.owned=true->β n=some l->H[n]? = some e) {b:Nat} (hn:zbt β H b):zbt β H' b:=fun k e l hk ho hl=>hn k e l (h k e l hk ho hl) ho hl
theorem zae.zga (h:zae P O w0 β H w) {m:Mem} (hm:zbu P O w0 β H w m) (h1:∀ (n:Nat) (m':Mem),H[n]? ≠ some (SO.mem m')):zae P O w0 β (H++[.mem m]) w:=by
 have hnone:β H.length=Option.none:=h.bound _ (Nat.le_refl _);have own:∀ (n:Nat) (e:SO) (l:Loc),(H++[SO.mem m])[n]? = some e->e.owned=true->β n=some l->H[n]? = some e:=fun n e l he ho hl=>by
  rcases getElem?_snocM he with h' | ⟨hn,rfl⟩
  . exact h'
  . rw [hn,hnone] at hl; cases hl
 refine ⟨⟨fun n e he => ?_,fun n k e e' l l' he he' ho ho' hnk hl hl'=>h.sep n k e e' l l' (own _ _ _ he ho hl) (own _ _ _ he' ho' hl') ho ho' hnk hl hl',fun n e l he ho hl=>h.fresh n e l (own _ _ _ he ho hl) ho hl,h.keep,fun n k he => ?_,fun n k m1 m2 hn hk => ?_⟩,fun n hn=>h.bound n (by rw [List.length_append] at hn; simp at hn; omega)⟩
 . rcases getElem?_snocM he with h' | ⟨hn,rfl⟩
   . exact h.entries n e h'
   . show β n=none;rw [hn]; exact hnone
 . rcases getElem?_snocM he with h' | ⟨_,h'⟩
   . exact (h.zcX n k h').names fun b _ hn=>zbt.sub own hn
   . cases h';exact hm.names fun b _ hn=>zbt.sub own hn
 . rcases getElem?_snocM hn with h' | ⟨e1,_⟩
   . exact absurd h' (h1 n m1)
   . rcases getElem?_snocM hk with h' | ⟨e2,_⟩
     . exact absurd h' (h1 k m2)
     . rw [e1,e2]
theorem getElem?_set2 {α:Type} {l:List α} {i j:Nat} {x y:α} (h:(l.set i x)[j]? = some y):(j=i/\y=x)\/(j≠i/\l[j]? = some y):=by
 by_cases hj:i=j
 . subst hj;have hl:i<l.length:=by have:=(List.getElem?_eq_some_iff.1 h).1; simpa using this
   rw [List.getElem?_set_self hl] at h;exact .inl ⟨rfl,(Option.some.inj h).symm⟩
 . rw [List.getElem?_set_ne hj] at h;exact .inr ⟨fun e=>hj e.symm,h⟩
theorem zae.zfQ (h:zae P O w0 β H w) {j:Nat} {m m':Mem} (hj:H[j]? = some (.mem m)) (hm:zbu P O w0 β H w m'):zae P O w0 β (H.set j (.mem m')) w:=by
 have hnone:β j=Option.none:=h.entries j _ hj;have own:∀ (n:Nat) (e:SO) (l:Loc),(H.set j (.mem m'))[n]? = some e->e.owned=true->β n=some l->H[n]? = some e:=fun n e l he ho hl=>by
  rcases getElem?_set2 he with ⟨hn,rfl⟩ | ⟨_,h'⟩
  . rw [hn,hnone] at hl; cases hl
  . exact h'
 have old:∀ (n:Nat) (m1:Mem),(H.set j (.mem m'))[n]? = some (SO.mem m1)->n=j:=fun n m1 hn=>by
  rcases getElem?_set2 hn with ⟨e,_⟩ | ⟨_,h'⟩
  . exact e
  . exact h.zbE n j m1 m h' hj
 refine ⟨⟨fun n e he => ?_,fun n k e e' l l' he he' ho ho' hnk hl hl'=>h.sep n k e e' l l' (own _ _ _ he ho hl) (own _ _ _ he' ho' hl') ho ho' hnk hl hl',fun n e l he ho hl=>h.fresh n e l (own _ _ _ he ho hl) ho hl,h.keep,fun n k he => ?_,fun n k m1 m2 hn hk=>(old n m1 hn).trans (old k m2 hk).symm⟩,fun n hn=>h.bound n (by simpa using hn)⟩
 . rcases getElem?_set2 he with ⟨hn,rfl⟩ | ⟨_,h'⟩
   . show β n=none;rw [hn]; exact hnone
   . exact h.entries n e h'
 . rcases getElem?_set2 he with ⟨_,h'⟩ | ⟨_,h'⟩
   . cases h';exact hm.names fun b _ hn=>zbt.sub own hn
   . exact (h.zcX n k h').names fun b _ hn=>zbt.sub own hn
theorem Mem.zf3 {m:Mem} {b n cap:Nat} {el:TypeId} {V:Nat->Value} {i:Nat} (h:i<n):(m.add b n cap el V).cell ⟨b,i,none⟩=some (V i):=by
 show (if b=b then (if (none:Option _)=none/\i<n then some (V i) else none) else m.cell _)=_
 rw [if_pos rfl,if_pos ⟨rfl,h⟩]
theorem Mem.zdC {m:Mem} {b n cap:Nat} {el:TypeId} {V:Nat->Value} {a:Addr} (h:a.block≠b):(m.add b n cap el V).cell a=m.cell a:=by
 show (if a.block=b then _ else m.cell a)=_
 rw [if_neg h]
theorem Mem.zgs {m:Mem} {b:Nat} (h:¬ m.Has b):m.free b:=by
 refine ⟨fun a ha => ?_,?_⟩
 . cases hc:m.cell a with
   | none=>rfl
   | some x=>exact absurd (.inl ⟨a,x,hc,ha⟩) h
 . cases hc:m.own b with
   | none=>rfl
   | some p=>exact absurd (.inr ⟨p,hc⟩) h
theorem Mem.zfG {m:Mem} {b:Nat} (h:m.free b):m.fresh b=b:=by
 unfold Mem.fresh;exact if_pos h
def Mem.bounded (m:Mem):Prop:=∃ N,∀ b,N<=b->m.free b
theorem Mem.zbR {m:Mem} (h:m.bounded) (b:Nat):m.free (m.fresh b):=by
 unfold Mem.fresh;by_cases hb:m.free b
 . rw [if_pos hb]; exact hb
 . rw [if_neg hb];obtain ⟨N,hN⟩:=h;exact Classical.epsilon_spec (p:=m.free) ⟨N,hN N (Nat.le_refl _)⟩
theorem Mem.zbo {m:Mem} (h:m.bounded) (b n cap:Nat) (el:TypeId) (V:Nat->Value):(m.add b n cap el V).bounded:=by
 obtain ⟨N,hN⟩:=h;refine ⟨max N (b+1),fun b' hb=>⟨fun a ha => ?_,?_⟩⟩
 . rw [Mem.zdC (by omega)]; exact (hN b' (by omega)).1 a ha
 . show (if b'=b then _ else m.own b')=none
   rw [if_neg (by omega)]; exact (hN b' (by omega)).2
theorem Mem.zcL:zcW.bounded:=⟨0,fun _ _=>⟨fun _ _=>rfl,rfl⟩⟩
theorem zae.retire (h:zae P O w0 β H w) {nm j:Nat} {c:Cells} {wh:Bool} {el:TypeId} {m:Mem} {V:Nat->Value} {n:Nat} (hn:H[nm]? = some (.own c wh el)) (hj:H[j]? = some (.mem m))
  (hV:∀ vs,zaj β c vs->vs.length=n/\∀ i x,vs[i]? = some x->x=V i) :
  ∃ l,β nm=some l/\l.off=0/\m.free l.blk/\zae P O w0 β ((H.set nm .gone).set j (.mem (m.add l.blk n l.cap el V))) w:=by
 obtain ⟨l,vs,rest,lo,hi,hl,h0,hc,hh,hfz,hw,hcap⟩:=h.entries nm _ hn;obtain ⟨hlen,hval⟩:=hV vs hc;have hm:=h.zcX j m hj;have hfree:¬ m.Has l.blk:=by
  rintro (⟨a,x,hx,hb⟩ | ⟨⟨n',cap',el'⟩,hp⟩)
  . exact (hm.told a x hx).2 nm _ l hn rfl hl hb.symm
  . exact (hm.own _ _ _ _ hp).2.1 nm _ l hn rfl hl rfl
 have hjn:nm≠j:=fun e=>by subst e; rw [hn] at hj; cases hj
 have hnl:=(List.getElem?_eq_some_iff.1 hn).1;have zgc:∀ (k:Nat) (e:SO),(H.set nm .gone)[k]? = some e->e.owned=true->k≠nm/\H[k]? = some e:=fun k e he ho=>by
  rcases getElem?_set2 he with ⟨_,rfl⟩ | h'
  . cases ho
  . exact h'
 have h1:zae P O w0 β (H.set nm .gone) w:=by
  refine ⟨⟨fun k e he => ?_,fun i k e e' l1 l2 he he' ho ho'=>h.sep i k e e' l1 l2 (zgc _ _ he ho).2 (zgc _ _ he' ho').2 ho ho',fun k e l1 he ho=>h.fresh k e l1 (zgc _ _ he ho).2 ho,h.keep,fun k m' he => ?_,fun k k' m1 m2 hk hk'=>h.zbE k k' m1 m2 (zgc _ _ hk rfl).2 (zgc _ _ hk' rfl).2⟩,fun k hk=>h.bound k (by simpa using hk)⟩
  . rcases getElem?_set2 he with ⟨_,rfl⟩ | ⟨_,h'⟩
    . trivial
    . exact h.entries k e h'
  . rcases getElem?_set2 he with ⟨_,h'⟩ | ⟨_,h'⟩
    . cases h'
    . exact (h.zcX k m' h').names fun b _ hb=>zbt.sub (fun k e _ he ho _=>(zgc k e he ho).2) hb
 have hj1:(H.set nm .gone)[j]? = some (.mem m):=by rw [List.getElem?_set_ne hjn]; exact hj
 have hno:zbt β (H.set nm .gone) l.blk:=fun k e l1 hk ho hl1 heq=>by
  obtain ⟨h2,h3⟩:=zgc k e hk ho;exact h.sep k nm e _ l1 l h3 hn ho rfl h2 hl1 hl heq
 refine ⟨l,hl,h0,Mem.zgs hfree,h1.zfQ hj1 ?_⟩;have hm1:=h1.zcX j m hj1;refine ⟨fun a x hx => ?_,fun b n' cap' el' hb => ?_,hm1.old⟩
 . by_cases hb:a.block=l.blk
   . have hx:(if a.block=l.blk then (if a.spot=none/\a.off<n then some (V a.off) else none) else m.cell a)=some x:=hx
     rw [if_pos hb] at hx;split at hx
     . rename_i hs;obtain ⟨hs,ho⟩:=hs;have ha:a=⟨l.blk,a.off,none⟩:=by cases a; cases hb; cases hs; rfl
       have hx:V a.off=x:=Option.some.inj hx;have hv:vs[a.off]? = some x:=by
        rw [List.getElem?_eq_getElem (by omega),← hx]
        exact congrArg some (hval _ _ (List.getElem?_eq_getElem (by omega)))
       refine ⟨?_,hb▸hno⟩;rw [ha,cell?_of hh];simp [List.getElem?_append_left (List.getElem?_eq_some_iff.1 hv).1,hv]
     . cases hx
   . rw [Mem.zdC hb] at hx;exact hm1.told a x hx
 . have hb':(if b=l.blk then some (n,l.cap,el) else m.own b)=some (n',cap',el'):=hb
   by_cases hbl:b=l.blk
   . rw [if_pos hbl] at hb';cases hb';subst hbl;refine ⟨h.fresh nm _ l hn rfl hl,hno,vs,rest,lo,hi,hh,hlen,hfz,hcap,fun i x hx => ?_⟩;rw [Mem.zf3 (by have:=(List.getElem?_eq_some_iff.1 hx).1; omega),hval i x hx]
   . rw [if_neg hbl] at hb';obtain ⟨h3,h4,vs',rest',lo',hi',h5,h6,h7,h8,h9⟩:=hm1.own b n' cap' el' hb';exact ⟨h3,h4,vs',rest',lo',hi',h5,h6,h7,h8,fun i x hx=>by rw [Mem.zdC hbl]; exact h9 i x hx⟩
theorem zae.borrow (h:zae P O w0 β H w) {j b n cap:Nat} {el:TypeId} {m:Mem} (hj:H[j]? = some (.mem m)) (h1:∀ (k:Nat) (m':Mem),H[k]? = some (.mem m')->k=j) (hb:m.own b=some (n,cap,el)) :
  zae P O w0 (β.upd H.length ⟨b,0,cap⟩) (H.set j (.mem (m.drop b))++[.own (.raw (fun i=>zc2 m ⟨b,0,none⟩ i) n) false el]) w/\β.le (β.upd H.length ⟨b,0,cap⟩):=by
 have hm:=h.zcX j m hj;obtain ⟨hf,hno,vs,rest,lo,hi,hh,hlen,hfz,hcap,htold⟩:=hm.own b n cap el hb;have hd:zbu P O w0 β H w (m.drop b):=hm.less ⟨fun a x hx => ?_,fun b' p hp => ?_,fun _ h=>h⟩
 . have h2:=h.zfQ hj hd;have zhv:(H.set j (.mem (m.drop b))).length=H.length:=by simp
   have hs:=h2.snoc ⟨b,0,cap⟩ (.own (.raw (fun i=>zc2 m ⟨b,0,Option.none⟩ i) n) false el) ?_ ?_ (by intro m' hm'; cases hm') ?_
   . rw [zhv] at hs; exact hs
   . refine ⟨⟨b,0,cap⟩,vs,rest,lo,hi,by rw [zhv]; exact Val.upd_same _ _ _,rfl,⟨hlen,fun i x hx => ?_⟩,hh,hfz,fun h=>(by cases h),hcap⟩
     show x=(m.cell (Addr.add ⟨b,0,Option.none⟩ i)).getD undef;have e:(Addr.add ⟨b,0,Option.none⟩ i:Addr)=⟨b,i,Option.none⟩:=by
      unfold Addr.add;split
      . rename_i h0; subst h0; rfl
      . simp
     rw [e,htold i x hx]; rfl
   . intro _;refine ⟨hf,fun k e l hk ho hl => ?_⟩;rcases getElem?_set2 hk with ⟨hkj,rfl⟩ | ⟨_,h'⟩
     . have h':β j=Option.none:=h.entries j _ hj;rw [hkj,h'] at hl; cases hl
     . exact hno k e l h' ho hl
   . intro _ k m' hk;rcases getElem?_set2 hk with ⟨_,h'⟩ | ⟨hne,h'⟩
     . cases h';rintro (⟨a,x,hx,hab⟩ | ⟨p,hp⟩)
       . have hx:(if a.block=b then Option.none else m.cell a)=some x:=hx
         rw [if_pos hab] at hx; cases hx
       . have hp:(if b=b then Option.none else m.own b)=some p:=hp
         rw [if_pos rfl] at hp; cases hp
     . exact absurd (h1 k m' h') hne
 . have hx:(if a.block=b then Option.none else m.cell a)=some x:=hx
   split at hx
   . cases hx
   . exact hx
 . have hp:(if b'=b then Option.none else m.own b')=some p:=hp
   split at hp
   . cases hp
   . rename_i hne;refine ⟨hp,fun i => ?_⟩;show (if b'=b then Option.none else m.cell _)=_
     rw [if_neg hne]
theorem zae.zg9 (h:zae P O w0 β H w) {n:Nat} {c c':Cells} {wh:Bool} {el:TypeId} (hn:H[n]? = some (.own c wh el)) (hc:∀ vs,zaj β c vs->zaj β c' vs):zae P O w0 β (H.set n (.own c' wh el)) w:=by
 have own:∀ {j:Nat} {e:SO},(H.set n (.own c' wh el))[j]? = some e->e.owned=true->∃ e0,H[j]? = some e0/\e0.owned=true:=fun {j e} he ho=>by
  rcases getElem?_set2 he with ⟨rfl,_⟩ | ⟨_,h1⟩
  . exact ⟨_,hn,rfl⟩
  . exact ⟨e,h1,ho⟩
 refine ⟨⟨fun j e he => ?_,fun i j e e' l1 l2 he he' ho ho' hij h1 h2 => ?_,fun j e l1 he ho hl => ?_,h.keep,fun j m he => ?_,fun j k m1 m2 hj hk => ?_⟩,fun j hj=>h.bound j (by simpa using hj)⟩
 . rcases getElem?_set2 he with ⟨rfl,rfl⟩ | ⟨_,h1⟩
   . obtain ⟨l,vs,rest,lo,hi,hl,h0,hcc,hh,hfz,hw,hcap⟩:=h.entries _ _ hn;exact ⟨l,vs,rest,lo,hi,hl,h0,hc _ hcc,hh,hfz,hw,hcap⟩
   . exact h.entries j e h1
 . obtain ⟨e1,h3,h4⟩:=own he ho;obtain ⟨e2,h5,h6⟩:=own he' ho';exact h.sep i j e1 e2 l1 l2 h3 h5 h4 h6 hij h1 h2
 . obtain ⟨e1,h3,h4⟩:=own he ho;exact h.fresh j e1 l1 h3 h4 hl
 . rcases getElem?_set2 he with ⟨_,h1⟩ | ⟨_,h1⟩
   . cases h1
   . refine (h.zcX j m h1).names fun b _ h3 i e l1 hi ho hl1 => ?_
     obtain ⟨e1,h4,h5⟩:=own hi ho;exact h3 i e1 l1 h4 h5 hl1
 . rcases getElem?_set2 hj with ⟨_,h1⟩ | ⟨_,h1⟩
   . cases h1
   . rcases getElem?_set2 hk with ⟨_,h2⟩ | ⟨_,h2⟩
     . cases h2
     . exact h.zbE j k m1 m2 h1 h2
end
end
noncomputable section
open Go
section
variable {P:Program} {O:Nat->Prop} {w0:World} {β:Val} {H:List SO} {w:World} {D:SV->List SO->Prop} {S:SS->Prop}
def zbZ (β:Val) (σ:Sub):Prop:=∀ nm p,zd9 σ nm=some p->∃ l,β nm=some l/\l.off=0/\l.blk=p.1/\l.cap=p.2
theorem zbZ.nil:zbZ β []:=fun _ _ h=>by cases h
theorem zbZ.cons {σ:Sub} (h:zbZ β σ) {nm:Nat} {l:Loc} (hl:β nm=some l) (h0:l.off=0):zbZ β ((nm,l.blk,l.cap)::σ):=fun nm' p hp=>by
 have hp:zab (Nat.beq nm nm') (some (l.blk,l.cap)) (zd9 σ nm')=some p:=hp;cases hb:Nat.beq nm nm' with
 | true =>
   rw [hb] at hp;cases hp;have:=Nat.eq_of_beq_eq_true hb;subst this;exact ⟨l,hl,h0,rfl,rfl⟩
 | false=>rw [hb] at hp; exact h nm' p hp
theorem qgo {α:Type} {o:Option α} {f:α->Bool} (h:zah o false f=true):∃ a,o=some a/\f a=true:=by
 cases o with
 | none=>cases h
 | some a=>exact ⟨a,rfl,h⟩
theorem j2f {σ:Sub} (hσ:zbZ β σ) {c:SC} (h:okC σ c=true) {n:Nat} (hd:c.den β=some n):ziF σ c=n:=by
 cases c with
 | lit m=>exact Option.some.inj hd
 | sym m=>exact Option.some.inj hd
 | rest nm k =>
   obtain ⟨p,hp,_⟩:=qgo (show zah (zd9 σ nm) false (fun _=>true)=true from h)
   show zah (zd9 σ nm) 0 (fun p=>p.2 - k)=n;rw [hp];obtain ⟨l,hl,_,_,hc⟩:=hσ nm p hp;have hd:(β nm).map (fun l=>l.cap - k)=some n:=hd;rw [hl] at hd;have hd:l.cap - k=n:=Option.some.inj hd;rw [hc] at hd;exact hd
theorem qvq {σ:Sub} (hσ:zbZ β σ) {v:SV} (h:okS σ v=true) {x:Value} (hd:v.den β=some x):zeb σ v=x:=by
 cases v with
 | int k n=>exact Option.some.inj hd
 | bool b=>exact Option.some.inj hd
 | str s=>exact Option.some.inj hd
 | ptr a =>
   obtain ⟨p,hp,_⟩:=qgo (show zah (zd9 σ a.nm) false (fun _=>true)=true from h)
   show zah (zd9 σ a.nm) undef (fun p=>.pointer (some ⟨p.1,a.off.den,none⟩))=x;rw [hp];obtain ⟨l,hl,h0,hb,_⟩:=hσ _ p hp;simp only [SV.den,SA.den,hl,Option.map_some,Option.some.injEq] at hd;rw [zao,← hd,hb,h0,Nat.zero_add]
 | nilPtr=>exact Option.some.inj hd
 | slice a l c =>
   obtain ⟨p,hp,hc⟩:=qgo (show zah (zd9 σ a.nm) false (fun _=>okC σ c)=true from h)
   show zah (zd9 σ a.nm) undef (fun p=>.slice (some ⟨p.1,a.off.den,none⟩) l.den (ziF σ c))=x;rw [hp];obtain ⟨A,C,hA,hC,_,rfl⟩:=zaf.1 hd;obtain ⟨lo,hl,h0,hb,_⟩:=hσ _ p hp;simp only [SA.den,hl,Option.map_some,Option.some.injEq] at hA;rw [zao,← hA,j2f hσ hc hC,hb,h0,Nat.zero_add]
 | zac=>exact Option.some.inj hd
 | map nm=>cases h
 | zaD=>exact Option.some.inj hd
 | func=>cases h
 | nilFunc=>exact Option.some.inj hd
 | iface=>cases h
 | nilIface=>exact Option.some.inj hd
 | agg=>cases h
 | tuple=>cases h
 | val y=>exact Option.some.inj hd
 | tail=>cases h
theorem q4y {σ:Sub} (hσ:zbZ β σ) {c:Cells} {f:(Nat->Value)->Nat->Tree} (h:(qr4 σ c f).Ob D S):∃ V n,(∀ vs,zaj β c vs->vs.length=n/\∀ i x,vs[i]? = some x->x=V i)/\(f V n).Ob D S:=by
 cases c with
 | lst l =>
   have h:(zab (zaG (okS σ) l) (f (atV (zar (zeb σ) l)) (zay l)) (.stuck 960)).Ob D S:=h;cases hb:zaG (okS σ) l with
   | false=>rw [hb] at h; exact h.elim
   | true =>
     rw [hb] at h;refine ⟨_,_,fun vs hvs=>⟨?_,fun i x hx => ?_⟩,h⟩
     . rw [qha]; exact qxa hvs
     . have hl:vs.length=l.length:=qxa hvs;have hi:i<l.length:=by have:=(List.getElem?_eq_some_iff.1 hx).1; omega
       obtain ⟨y,hy,hd⟩:=qqc hvs (List.getElem?_eq_getElem hi);rw [hx] at hy; cases hy;show x=((zar (zeb σ) l)[i]?).getD undef;rw [q1a,List.getElem?_map,List.getElem?_eq_getElem hi];exact (qvq hσ (q6e _ _ hb _ (List.getElem_mem hi)) hd).symm
 | fn g n =>
   have h:(∀ j,j<n->okS σ (g j)=true)/\(f (fun j=>zeb σ (g j)) n).Ob D S:=h;exact ⟨_,_,fun vs hvs=>⟨hvs.1,fun i x hx=>(qvq hσ (h.1 i (by have:=(List.getElem?_eq_some_iff.1 hx).1; have:=hvs.1; omega)) (hvs.2 i x hx)).symm⟩,h.2⟩
 | raw V n=>exact ⟨V,n,fun vs hvs=>hvs,h⟩
def q8k (β:Val) (l:List (Nat × Nat)):Prop:=∀ p∈l,∀ lo,β p.1=some lo->p.2<=lo.cap
theorem j3f {j:Nat} {p:Nat × Nat} {σ:Sub} {k:Sub->List SO->Tree} (hσ:zbZ β σ) (hH:zae P O w0 β H w) (hL:∀ lo,β p.1=some lo->p.2<=lo.cap) (h:(zhX j p σ H k).Ob D S):∃ σ' H',zbZ β σ'/\zae P O w0 β H' w/\(k σ' H').Ob D S:=by
 unfold zhX at h;cases hs:zd9 σ p.1 with
 | some q=>rw [hs] at h; exact ⟨σ,H,hσ,hH,h⟩
 | none =>
   rw [hs] at h;replace h:(zah (qsf H j) (.stuck 962) fun m=>zah (nth H p.1) (.stuck 962) fun e=>zhW σ p.1 p.2 H j m e k).Ob D S:=h;cases hm:qsf H j with
   | none=>rw [hm] at h; exact h.elim
   | some m =>
     rw [hm] at h;replace h:(zah (nth H p.1) (.stuck 962) fun e=>zhW σ p.1 p.2 H j m e k).Ob D S:=h;cases he:nth H p.1 with
     | none=>rw [he] at h; exact h.elim
     | some e =>
       rw [he] at h;replace h:(zhW σ p.1 p.2 H j m e k).Ob D S:=h;have hj:H[j]? = some (.mem m):=by
        unfold qsf at hm;rw [qea] at hm;cases hh:H[j]? with
        | none=>rw [hh] at hm; cases hm
        | some e' =>
          rw [hh] at hm;have hm:zhg e' none=some m:=hm;cases e' with
          | mem m'=>cases hm; rfl
          | own=>cases hm
          | row=>cases hm
          | loop=>cases hm
          | deferred=>cases hm
          | gone=>cases hm
          | obj=>cases hm
       cases e with
       | own c wh el =>
         rw [qea] at he;obtain ⟨V,n,hV,h⟩:=q4y (f:=fun V n=>.any fun z=>k ((p.1,m.fresh (z 0),if p.2<=z 1 then z 1 else p.2)::σ) (zbz (zbz H p.1 .gone) j (.mem (m.add (m.fresh (z 0)) n (if p.2<=z 1 then z 1 else p.2) el V)))) hσ h
         obtain ⟨l,hl,h0,hfree,hH'⟩:=hH.retire he hj hV;have h:=h fun i=>if i=0 then l.blk else l.cap
         have e1:m.fresh l.blk=l.blk:=Mem.zfG hfree;have e2:(if p.2<=l.cap then l.cap else p.2)=l.cap:=if_pos (hL l hl)
         simp only [if_pos,if_neg (show ¬ (1=0) from by decide)] at h
         rw [e1,e2,qzc,qzc] at h;exact ⟨_,_,hσ.cons hl h0,hH',h⟩
       | row=>exact h.elim
       | loop=>exact h.elim
       | deferred=>exact h.elim
       | gone=>exact h.elim
       | obj=>exact h.elim
       | mem=>exact h.elim
theorem q1t {j:Nat}:∀ {l:List (Nat × Nat)} {H:List SO} {σ:Sub} {k:Sub->List SO->Tree},zbZ β σ->zae P O w0 β H w->q8k β l->(zfU j l σ H k).Ob D S->∃ σ' H',zbZ β σ'/\zae P O w0 β H' w/\(k σ' H').Ob D S
 | [],H,σ,_,hσ,hH,_,h=>⟨σ,H,hσ,hH,h⟩
 | p::l,H,σ,k,hσ,hH,hL,h=>by
   have h:(zhX j p σ H fun σ H=>zfU j l σ H k).Ob D S:=h;obtain ⟨σ1,H1,h1,h2,h3⟩:=j3f hσ hH (hL p List.mem_cons_self) h;exact q1t h1 h2 (fun q hq=>hL q (List.mem_cons_of_mem _ hq)) h3
theorem j4f {σ:Sub} {nm:Nat} {k:List SO->Tree} (hσ:zbZ β σ) (hH:zae P O w0 β H w) (h:(zhZ σ nm H k).Ob D S):∃ H',zae P O w0 β H' w/\(k H').Ob D S:=by
 unfold zhZ at h;cases he:nth H nm with
 | none=>rw [he] at h; exact ⟨H,hH,h⟩
 | some e =>
   rw [he] at h;replace h:(recO σ nm H e k).Ob D S:=h;cases e with
   | own c wh el =>
     obtain ⟨V,n,hV,h⟩:=q4y (f:=fun V n=>k (zbz H nm (.own (.raw V n) wh el))) hσ h;rw [qzc] at h;rw [qea] at he;exact ⟨_,hH.zg9 (c':=.raw V n) he hV,h⟩
   | row=>exact ⟨H,hH,h⟩
   | loop=>exact ⟨H,hH,h⟩
   | deferred=>exact ⟨H,hH,h⟩
   | gone=>exact ⟨H,hH,h⟩
   | obj=>exact ⟨H,hH,h⟩
   | mem=>exact ⟨H,hH,h⟩
theorem qj2 {σ:Sub} (hσ:zbZ β σ):∀ {l:List Nat} {H:List SO} {k:List SO->Tree},zae P O w0 β H w->(zhY σ l H k).Ob D S->∃ H',zae P O w0 β H' w/\(k H').Ob D S
 | [],H,_,hH,h=>⟨H,hH,h⟩
 | nm::l,H,k,hH,h=>by
   have h:(zhZ σ nm H fun H=>zhY σ l H k).Ob D S:=h;obtain ⟨H1,h1,h2⟩:=j4f hσ hH h;exact qj2 hσ h1 h2
theorem q5y {v:SV} {x:Value} (hd:v.den β=some x):q8k β (zeh v):=by
 intro p hp lo hlo;cases v with
 | slice a l c =>
   have hp:p∈[(a.nm,qs4 a.nm c l.den)]:=hp;rw [List.mem_singleton] at hp;subst hp;obtain ⟨A,C,hA,hC,hle,_⟩:=zaf.1 hd;show qs4 a.nm c l.den<=lo.cap;cases c with
   | lit n=>exact Nat.zero_le _
   | sym n=>exact Nat.zero_le _
   | rest nm k =>
     show zab (Nat.beq nm a.nm) (zab (Nat.beq k 0) l.den 0) 0<=lo.cap;cases hb:Nat.beq nm a.nm with
     | false=>exact Nat.zero_le _
     | true =>
       cases hk:Nat.beq k 0 with
       | false=>exact Nat.zero_le _
       | true =>
         have e1:=Nat.eq_of_beq_eq_true hb;have e2:=Nat.eq_of_beq_eq_true hk;subst e1 e2;simp only [SC.den] at hC;have hlo:β a.nm=some lo:=hlo;rw [hlo] at hC;have hC:lo.cap - 0=C:=Option.some.inj hC;show l.den<=lo.cap;omega
 | _=>first | (cases hp; done) | (exact absurd hp (by simp [zeh,SV.asSlice]))
theorem qmm:∀ {l:List SV} {vs:List Value},SV.zak β l=some vs->q8k β (qjn l)
 | [],_,_,p,hp=>by cases hp
 | v::l,vs,hd,p,hp=>by
   obtain ⟨y,ys,hy,hl,rfl⟩:=zad.1 hd;have hp:p∈app (zeh v) (qjn l):=hp;rw [qbb,List.mem_append] at hp;rcases hp with hp | hp
   . exact q5y hy p hp
   . exact qmm hl p hp
theorem jcb (hH:zae P O w0 β H w) {n:Nat} {e:SO} (he:H[n]? = some e):q8k β (zkl e):=by
 intro p hp;cases e with
 | own c wh el =>
   cases c with
   | lst l =>
     obtain ⟨lo,vs,rest,a,b,_,_,hc,_⟩:=hH.entries _ _ he;exact qmm (show SV.zak β l=some vs from hc) p hp
   | fn=>cases hp
   | raw=>cases hp
 | row=>cases hp
 | loop=>cases hp
 | deferred=>cases hp
 | gone=>cases hp
 | obj=>cases hp
 | mem=>cases hp
theorem qqs (hH:zae P O w0 β H w):∀ l:List Nat,q8k β (qzr H l)
 | [],p,hp=>by cases hp
 | nm::l,p,hp=>by
   have hp:p∈app (zah (nth H nm) [] zkl) (qzr H l):=hp;rw [qbb,List.mem_append] at hp;rcases hp with hp | hp
   . rw [qea] at hp;cases he:H[nm]? with
     | none=>rw [he] at hp; cases hp
     | some e=>rw [he] at hp; exact jcb hH he p hp
   . exact qqs hH l p hp
theorem jdb {j:Nat} {l:List Nat} {k:List SO->Tree} (hH:zae P O w0 β H w) (h:(qsw j l H k).Ob D S):∃ H',zae P O w0 β H' w/\(k H').Ob D S:=by
 unfold qsw at h;have hL:=qqs hH l;cases hn:qzr H l with
 | nil=>rw [hn] at h; exact ⟨H,hH,h⟩
 | cons p r =>
   rw [hn] at h hL;replace h:(zfU j (p::r) [] H fun σ H'=>zhY σ (fnsE H' l) H' k).Ob D S:=h;obtain ⟨σ,H1,h1,h2,h3⟩:=q1t zbZ.nil hH hL h;exact qj2 h1 h2 h3
theorem qaq {σ:Sub} (hσ:zbZ β σ) {v:SV} {x:Value} (hd:v.den β=some x) (h:(List.rec (motive:=fun _=>Bool) true (fun _ _ _=>okS σ v) (zeh v):Bool)=true):((List.rec (motive:=fun _=>SV) v (fun _ _ _=>.val (zeb σ v)) (zeh v):SV)).den β=some x:=by
 cases hn:zeh v with
 | nil=>exact hd
 | cons p r =>
   rw [hn] at h;show some (zeb σ v)=some x;rw [qvq hσ h hd]
theorem qbq {σ:Sub} (hσ:zbZ β σ):∀ {l:List SV} {vs:List Value},SV.zak β l=some vs->zaG (fun v=>List.rec (motive:=fun _=>Bool) true (fun _ _ _=>okS σ v) (zeh v)) l=true->SV.zak β (zar (fun v=>List.rec (motive:=fun _=>SV) v (fun _ _ _=>.val (zeb σ v)) (zeh v)) l)=some vs
 | [],_,hd,_=>hd
 | v::l,vs,hd,h=>by
   obtain ⟨y,ys,hy,hl,rfl⟩:=zad.1 hd;have h':=q6e _ _ h;refine zad.2 ⟨y,ys,qaq hσ hy (h' v List.mem_cons_self),qbq hσ hl ?_,rfl⟩;have hv:=h' v List.mem_cons_self;have h:zab (List.rec (motive:=fun _=>Bool) true (fun _ _ _=>okS σ v) (zeh v)) (zaG _ l) false=true:=h;rw [hv] at h;exact h
theorem qv5 {σ:Sub} (hσ:zbZ β σ) {v:SV} {x:Value} (hd:v.den β=some x) (h:zgO σ v=true):(qkn σ v).den β=some x:=by
 cases v with
 | agg l =>
   simp only [SV.den,Option.map_eq_some_iff] at hd;obtain ⟨vs,hvs,rfl⟩:=hd;show (SV.agg (zar _ l)).den β=_;simp only [SV.den];rw [qbq hσ hvs h]; rfl
 | _=>exact qaq hσ hd h
theorem qw5 {v:SV} {x:Value} (hd:v.den β=some x):q8k β (qln v):=by
 cases v with
 | agg l =>
   simp only [SV.den,Option.map_eq_some_iff] at hd;obtain ⟨vs,hvs,rfl⟩:=hd;exact qmm hvs
 | _=>exact q5y hd
theorem jeb {j:Nat} {x:Operand} {T:List SV} {ts:List Value} {k:List SV->List SO->Tree} (hH:zae P O w0 β H w) (hT:SV.zak β T=some ts) (h:(q1l j x T H k).Ob D S):∃ T' H',SV.zak β T'=some ts/\zae P O w0 β H' w/\(k T' H').Ob D S:=by
 unfold q1l at h;cases hx:zhN x with
 | none=>rw [hx] at h; exact ⟨T,H,hT,hH,h⟩
 | some t =>
   rw [hx] at h;replace h:(zah (nth T t) (k T H) fun v=>List.rec (motive:=fun _=>Tree) (k T H) (fun p r _=>zfU j (p::r) [] H fun σ H'=>zab (zgO σ v) (k (zbz T t (qkn σ v)) H') (.stuck 963)) (qln v)).Ob D S:=h;cases hv:nth T t with
   | none=>rw [hv] at h; exact ⟨T,H,hT,hH,h⟩
   | some v =>
     rw [hv] at h;replace h:(List.rec (motive:=fun _=>Tree) (k T H) (fun p r _=>zfU j (p::r) [] H fun σ H'=>zab (zgO σ v) (k (zbz T t (qkn σ v)) H') (.stuck 963)) (qln v):Tree).Ob D S:=h;rw [qea] at hv;obtain ⟨y,hy,hd⟩:=qqc hT hv;have hL:=qw5 hd;cases hn:qln v with
     | nil=>rw [hn] at h; exact ⟨T,H,hT,hH,h⟩
     | cons p r =>
       rw [hn] at h hL;replace h:(zfU j (p::r) [] H fun σ H'=>zab (zgO σ v) (k (zbz T t (qkn σ v)) H') (.stuck 963)).Ob D S:=h;obtain ⟨σ,H1,h1,h2,h3⟩:=q1t zbZ.nil hH hL h;cases hok:zgO σ v with
       | false=>rw [hok] at h3; exact h3.elim
       | true =>
         rw [hok] at h3;refine ⟨_,H1,?_,h2,h3⟩;rw [qzc];have:=q9i hT (n:=t) (qv5 h1 hd hok);rw [this];congr 1;obtain ⟨ht,rfl⟩:=List.getElem?_eq_some_iff.1 hy;exact List.set_getElem_self ht
theorem qn1 {j:Nat} {m:Mem} (hm:qsf H j=some m):H[j]? = some (.mem m):=by
 unfold qsf at hm;rw [qea] at hm;cases hh:H[j]? with
 | none=>rw [hh] at hm; cases hm
 | some e' =>
   rw [hh] at hm;have hm:zhg e' none=some m:=hm;cases e' with
   | mem m'=>cases hm; rfl
   | own=>cases hm
   | row=>cases hm
   | loop=>cases hm
   | deferred=>cases hm
   | gone=>cases hm
   | obj=>cases hm
theorem j5f {j:Nat} (h:q3j (zbz H j .gone)=true):∀ (k:Nat) (m':Mem),H[k]? = some (.mem m')->k=j:=fun k m' hk=>by
 by_cases hkj:k=j
 . exact hkj
 . refine absurd ?_ (qxl h k m');rw [qzc,List.getElem?_set_ne (fun e=>hkj e.symm)];exact hk
theorem jfb {j:Nat} {cl:Call} {T:List SV} {ts:List Value} {k:List SV->List SO->Tree} (hH:zae P O w0 β H w) (hT:SV.zak β T=some ts) (h:(qtw P j cl T H k).Ob D S) :
  ∃ β' T' H',β.le β'/\SV.zak β' T'=some ts/\zae P O w0 β' H' w/\(k T' H').Ob D S:=by
 have same:(k T H).Ob D S->∃ β' T' H',β.le β'/\SV.zak β' T'=some ts/\zae P O w0 β' H' w/\(k T' H').Ob D S:=fun h=>⟨β,T,H,Val.le_refl β,hT,hH,h⟩;unfold qtw at h;cases hx:nth cl.args.toList 0 with
 | none=>rw [hx] at h; exact same h
 | some x =>
 rw [hx,zao] at h;cases ht:zhN x with
 | none=>rw [ht] at h; exact same h
 | some t =>
 rw [ht,zao] at h;cases hv:nth T t with
 | none=>rw [hv] at h; exact same h
 | some v =>
 rw [hv,zao] at h;cases v with
 | val y =>
   replace h:(zah (nth cl.argTypes.toList 0) (k T H) fun st=>zah (P.underlying st) (k T H) fun d=>TypeDesc.zgx d (k T H) fun el=>zah (qsf H j) (k T H) fun m=>borrow j m y el t T H k).Ob D S:=h;cases hst:nth cl.argTypes.toList 0 with
   | none=>rw [hst] at h; exact same h
   | some st =>
   rw [hst,zao] at h;cases hd:P.underlying st with
   | none=>rw [hd] at h; exact same h
   | some d =>
   rw [hd,zao] at h;cases d <;> first | exact same h | skip
   rename_i el;replace h:(zah (qsf H j) (k T H) fun m=>borrow j m y el t T H k).Ob D S:=h;cases hm:qsf H j with
   | none=>rw [hm] at h; exact same h
   | some m =>
   rw [hm,zao] at h;unfold borrow at h;cases hn:q3j (zbz H j .gone) with
   | false=>rw [hn] at h; exact h.elim
   | true =>
   rw [hn,zal] at h;obtain ⟨⟨h1,hle,h2,n,h3⟩,h4⟩:=h;have hj:=qn1 hm;obtain ⟨h5,h6⟩:=hH.borrow hj (j5f hn) h3;rw [qbb,qzc,qzc,qha,h3,zao] at h4;refine ⟨_,_,_,h6,?_,h5,h4⟩;rw [qea] at hv;obtain ⟨z,hz,hd⟩:=qqc hT hv;have hd:some y=some z:=hd;cases hd;have hset:=q9i (SV.zan h6 _ hT) (n:=t) (v:=.slice ⟨H.length,.lit 0⟩ (.sym (zaK y)) (.rest H.length 0)) (x:=y) ?_
   . rw [hset];congr 1;obtain ⟨ht,rfl⟩:=List.getElem?_eq_some_iff.1 hz;exact List.set_getElem_self ht
   . refine zaf.2 ⟨⟨(zaS y).block,0,none⟩,zb7 y,?_,?_,hle,?_⟩
     . simp [SA.den,Val.upd_same,SN.den]
     . simp [SC.den,Val.upd_same]
     . rw [← h2]; exact h1.symm
 | _=>exact same h
end
section
variable {c:Cfg} {B:Base} {D:SV->List SO->Prop} {S:SS->Prop}
theorem q6y {j:Nat} (hP:B.P=c.P) {s:SS} {m:Machine} {k:SS->Tree} (hM:zd5 B s m) (h:(qxx c j s k).Ob D S):∃ s',zd5 B s' m/\(k s').Ob D S:=by
 obtain ⟨F,H⟩:=s;cases F with
 | nil=>exact ⟨_,hM,h⟩
 | cons f rest =>
   have same:(k ⟨f::rest,H⟩).Ob D S->∃ s',zd5 B s' m/\(k s').Ob D S:=fun h=>⟨_,hM,h⟩;obtain ⟨β,fr,frs,w,rfl,hFs,hH,hG,hl⟩:=hM.ex;obtain ⟨hF,hR⟩:=hFs;have fin:∀ (β':Val) (T':List SV) (H':List SO),β.le β'->SV.zak β' T'=some fr.tmps.toList->zae B.P B.O B.w0 β' H' w->(k ⟨⟨f.fn,T',f.todo,f.defers,f.roundOf⟩::rest,H'⟩).Ob D S->∃ s',zd5 B s' (lone fr (frs++B.cs) w)/\(k s').Ob D S :=
    fun β' T' H' hle hT' hH' h=>⟨⟨⟨f.fn,T',f.todo,f.defers,f.roundOf⟩::rest,H'⟩,⟨β',fr,frs,w,rfl,⟨⟨hF.fn,hT',hF.todo.mono hle,SD.zan hle hF.defers,hF.mode,hF.kind,hF.round.mono hle⟩,hR.mono hle⟩,hH',hG.mono hle,hl⟩,h⟩
   obtain ⟨fn,T,td,ds,ro⟩:=f;replace h:(qm7 c j ⟨fn,T,td,ds,ro⟩ H fun fr H=>k ⟨fr::rest,H⟩).Ob D S:=h;cases td with
   | nil=>exact same h
   | cons x r =>
     replace h:(ql7 c j x T H fun T H=>k ⟨⟨fn,T,x::r,ds,ro⟩::rest,H⟩).Ob D S:=h;cases x with
     | ops os l =>
       cases l with
       | nil =>
         obtain ⟨H',h1,h2⟩:=jdb hH (show (qsw j (jce T os.toList) H fun H=>k ⟨⟨fn,T,.ops os []::r,ds,ro⟩::rest,H⟩).Ob D S from h)
         exact fin β T H' (Val.le_refl β) hF.tmps h1 h2
       | cons o l =>
         replace h:(qwx c j os o T H fun T H=>k ⟨⟨fn,T,.ops os (o::l)::r,ds,ro⟩::rest,H⟩).Ob D S:=h;have ret:∀ x,(q1l j x T H fun T H=>k ⟨⟨fn,T,.ops os (o::l)::r,ds,ro⟩::rest,H⟩).Ob D S->∃ s',zd5 B s' (lone fr (frs++B.cs) w)/\(k s').Ob D S:=fun x h=>by
          obtain ⟨T',H',h1,h2,h3⟩:=jeb hH hF.tmps h;exact fin β T' H' (Val.le_refl β) h1 h2 h3
         unfold qwx at h;cases hg:o.guard with
         | some g=>rw [hg] at h; exact same h
         | none =>
           rw [hg] at h;cases ho:o.op <;> rw [ho] at h <;> first | exact same h | skip
           . rename_i t a x;replace h:(zab (zkB H (evS c.glob T a)) (q1l j x T H fun T H=>k ⟨⟨fn,T,.ops os (o::l)::r,ds,ro⟩::rest,H⟩) (k ⟨⟨fn,T,.ops os (o::l)::r,ds,ro⟩::rest,H⟩)).Ob D S:=h;cases hb:zkB H (evS c.glob T a) with
             | true=>rw [hb] at h; exact ret x h
             | false=>rw [hb] at h; exact same h
           . rename_i t m k' x;replace h:(zab (zkE H (evS c.glob T m)) (q1l j x T H fun T H=>k ⟨⟨fn,T,.ops os (o::l)::r,ds,ro⟩::rest,H⟩) (k ⟨⟨fn,T,.ops os (o::l)::r,ds,ro⟩::rest,H⟩)).Ob D S:=h;cases hb:zkE H (evS c.glob T m) with
             | true=>rw [hb] at h; exact ret x h
             | false=>rw [hb] at h; exact same h
           . rename_i cl;replace h:(qvx c j os cl T H fun T H=>k ⟨⟨fn,T,.ops os (o::l)::r,ds,ro⟩::rest,H⟩).Ob D S:=h;unfold qvx at h;split at h
             . rename_i b hcb;split at h
               . cases hb:c.each os with
                 | false=>rw [hb] at h; exact same h
                 | true =>
                   rw [hb,← hP] at h;replace h:(qtw B.P j cl T H fun T H=>k ⟨⟨fn,T,.ops os (o::l)::r,ds,ro⟩::rest,H⟩).Ob D S:=h;obtain ⟨β',T',H',h1,h2,h3,h4⟩:=jfb hH hF.tmps h;exact fin β' T' H' h1 h2 h3 h4
               . exact same h
             . exact same h
     | code=>exact same h
     | inBlock=>exact same h
     | inLoop=>exact same h
     | inScope=>exact same h
     | zfq=>exact same h
     | zes=>exact same h
     | beginRound=>exact same h
end
end
noncomputable section
variable {α:Type}
section
variable {c:Cfg} {B:Base} {go:SS->Tree} {D:SV->List SO->Prop} {S:SS->Prop}
theorem qho (w:World) (o:Obj):(w.alloc o).heap[w.heap.size]? = some o:=by
 show (w.heap.push o)[w.heap.size]? = _;simp
theorem qwq {P:Program} {b:Frame} {a:Act} {k:List Item} {cs:List Frame} {w:World} {g:Operand} {ps:Array Tmp} {assign body:Code} {l:Nat} {mark:List Deferred} {w₁ w₂:World} {f:FuncId} {args:Array Value}
  (he:(Instr.enterLoop b.fn a.tmps ps assign body b.roundOf).run P w=.ok (l,mark) w₁) {d:Deferred}
  (hres:(resolve a.eval (rangeCall g l) 0).run P w₁=.ok d w₁) (hinv:(invoke d.target d.args).run P w₁=.ok (.enter f args) w₂) :
  step P (lone (b.atR a (.code (.rangeFunc g ps assign body)::k)) cs w)=.next (lone (Frame.enter P f args .normal) (b.atR { a with defers:=mark++a.defers } (.inRangeFunc l::k)::cs) w₂) :=
 stepR_rangeFunc he hres hinv
theorem qxq {P:Program} {b:Frame} {a:Act} {k:List Item} {cs:List Frame} {w:World} {g:Operand} {ps:Array Tmp} {assign body:Code} {l:Nat} {mark:List Deferred} {w₁ w₂:World} {v:Value}
  (he:(Instr.enterLoop b.fn a.tmps ps assign body b.roundOf).run P w=.ok (l,mark) w₁) {d:Deferred}
  (hres:(resolve a.eval (rangeCall g l) 0).run P w₁=.ok d w₁) (hinv:(invoke d.target d.args).run P w₁=.ok (.value v) w₂) :
  step P (lone (b.atR a (.code (.rangeFunc g ps assign body)::k)) cs w)=.next (lone ((b.atR { a with defers:=mark++a.defers } (.inRangeFunc l::k)).finish v) cs w₂) :=
 step_lone_go (by
  have hev:=Frame.eval_atR b { a with defers:=mark++a.defers } (.inRangeFunc l::k)
  simp only [Frame.atR] at hev;have hres':Sem.run P (resolve ({ tmps:=a.tmps,defers:=mark++a.defers }:Act).eval { callee:=.value g,args := #[.const (.func (.yield l) #[] #[])],argTypes := #[] } 0) w₁=.ok d w₁:=hres;simp [stepG,stepG.exec,Frame.atR,Sem.runT_eq,he,GStep.bare_after,stepG.apply,hev,Sem.run_bind,hres',hinv,Result.andThen])
theorem qo1 {P:Program} {β:Val} {w:World} {f:SV} {fv:Value} {az args:List SV} {vs:List Value} {g:FuncId} (h:q0j f az=.ok (.enter g args)) (hf:f.den β=some fv) (has:SV.zak β az=some vs) :
  ∃ d us,(Deferred.ofValue fv vs.toArray).run P w=.ok d w/\SV.zak β args=some us/\(invoke d.target d.args).run P w=(callFunc g us.toArray).run P w:=by
 unfold q0j at h;rcases qug f with ⟨fn,xs,ys,h'⟩ | h'
 . rw [h'] at hf h;simp only [SV.den,Option.bind_eq_some_iff,Option.map_eq_some_iff] at hf;obtain ⟨F,hF,x,hx,y,hy,rfl⟩:=hf;cases fn with
   | yield nm=>cases h
   | fn fn =>
     simp only [SFn.den,Option.some.injEq] at hF;subst hF;cases fn with
     | func g' =>
       cases h;exact ⟨_,x++(vs++y),rfl,qfe hx (qfe has hy),by simp [invoke]⟩
     | method=>cases h
     | methodOf=>cases h
     | via=>cases h
     | yield=>cases h
 . rw [h'] at h; cases h
theorem q7y (hc:zaw c) (hP:B.P=c.P) (hgl:B.glob=c.glob) {f:Operand} {ps:Array Tmp} {az bd:Code} {k:List zaM} {s:SF} {rest:List SF} {H:List SO} {β:Val} {fr:Frame} {frs:List Frame} {w:World} (hF:zas β s fr) (hR:zat β rest frs) (hH:zae B.P B.O B.w0 β H w) (hG:zcU B β)
  (hl:((fr::frs).getLast?).map (·.fn)=some B.fn0) (htd:s.todo=.code (.rangeFunc f ps az bd)::k) (hob:(qox c f ps az bd s k rest H go).Ob D S):After B go D S (lone fr (frs++B.cs) w):=by
 have zbi:=hF.todo;rw [htd] at zbi;cases hft:fr.todo with
 | nil=>rw [hft] at zbi; exact zbi.elim
 | cons y k' =>
   rw [hft] at zbi;obtain ⟨hxy,hkk⟩:=zbi;cases y <;> first | exact hxy.elim | skip
   rename_i cd;have hcd:cd=.rangeFunc f ps az bd:=hxy;subst hcd;have hfv:=qxe (glob:=c.glob) (a:=⟨fr.tmps,fr.defers⟩) hF.tmps (hgl▸hG.glob) f;unfold qox at hob;have zaE:=hF.round;rw [qha] at hob;have key:∀ (β1:Val) (H1:List SO) (w1:World) (nm:Nat) (ll:Loc) (sd:List SD) (mark:List Deferred),β.le β1->β1 nm=some ll->zae B.P B.O B.w0 β1 H1 w1->SD.zak β1 sd=some (mark++fr.defers) ->
     (Instr.enterLoop fr.fn fr.tmps ps az bd fr.roundOf).run B.P w=.ok (ll.blk,mark) w1 ->
     (match q0j (evS c.glob s.tmps f) [.func (.yield nm) [] []] with
      | .ok (.enter g args)=>quk c g args ⟨s.fn,s.tmps,.zfq nm::k,sd,s.roundOf⟩ rest H1 go
      | _=>.stuck 414).Ob D S->After B go D S (lone fr (frs++B.cs) w):=by
    intro β1 H1 w1 nm ll sd mark hle hnm hH1 hsd hent hob;split at hob
    . rename_i g args hcall;have hyd:SV.zak β1 [.func (.yield nm) [] []]=some [.func (.yield ll.blk) #[] #[]]:=by
       simp [SV.zak,SV.den,SFn.den,hnm]
      obtain ⟨d,us,hd,hus,hinv⟩:=qo1 (P:=B.P) (w:=w1) hcall (SV.zav hle _ hfv) hyd;have hF1:zas β1 ⟨s.fn,s.tmps,.zfq nm::k,sd,s.roundOf⟩ (fr.atR ⟨fr.tmps,mark++fr.defers⟩ (.inRangeFunc ll.blk::k')) :=
       ⟨hF.fn,SV.zan hle _ hF.tmps,⟨⟨ll,hnm,rfl⟩,hkk.mono hle⟩,hsd,rfl,hF.kind,hF.round.mono hle⟩
      have hres:(resolve (Act.eval ⟨fr.tmps,fr.defers⟩) (rangeCall f ll.blk) 0).run B.P w1=.ok d w1:=by
       have e:resolve (Act.eval ⟨fr.tmps,fr.defers⟩) (rangeCall f ll.blk) 0=Deferred.ofValue (Act.eval ⟨fr.tmps,fr.defers⟩ f) #[.func (.yield ll.blk) #[] #[]]:=by simp [resolve,Act.eval]
       rw [e]; exact hd
      refine q7n hc hP hgl hF1 (hR.mono hle) hH1 (hG.mono hle) ((qjc (f:=fr) (f':=fr.atR ⟨fr.tmps,mark++fr.defers⟩ (.inRangeFunc ll.blk::k')) rfl).trans hl) hus hob (fun he=>.one ?_) fun v w' he=>.one ?_
      . conv=>lhs; rw [q5b hF.mode,hft]
        exact qwq (a:=⟨fr.tmps,fr.defers⟩) hent hres (hinv.trans he)
      . conv=>lhs; rw [q5b hF.mode,hft]
        exact qxq (a:=⟨fr.tmps,fr.defers⟩) hent hres (hinv.trans he)
    . exact hob.elim
   cases hro:s.roundOf with
   | none =>
     rw [hro] at hob zaE;have hfr:fr.roundOf=none:=by
      cases hx:fr.roundOf with
      | none=>rfl
      | some b=>rw [hx] at zaE; exact zaE.elim
     have hb0:=hH.bound _ (Nat.le_refl H.length);have hE1:Eff B.P β w H.length [] [.deferred (some [])] (β.upd H.length ⟨w.heap.size,0,0⟩) (w.alloc (.deferred (some []))) :=
      Eff.zkx hb0 rfl ⟨_,some [],Val.upd_same _ _ _,rfl,qho _ _⟩
     have hH1:=hH.apply hE1 (by simp)
     rw [quc] at hH1;replace hH1:zae B.P B.O B.w0 _ (H++[.deferred (some [])]) _:=hH1;have hlen:(H++[SO.deferred (some [])]).length=H.length+1:=by simp
     have hb1:=hH1.bound _ (Nat.le_refl _);have hE2:Eff B.P (β.upd H.length ⟨w.heap.size,0,0⟩) (w.alloc (.deferred (some []))) (H++[SO.deferred (some [])]).length [] [.loop .ready none s.fn s.tmps ps az bd H.length] ((β.upd H.length ⟨w.heap.size,0,0⟩).upd (H++[SO.deferred (some [])]).length ⟨(w.alloc (.deferred (some []))).heap.size,0,0⟩)
       ((w.alloc (.deferred (some []))).alloc (.loop { state:=.ready,pending:=none,fn:=fr.fn,tmps:=fr.tmps,params:=ps,assign:=az,body:=bd,defers:=w.heap.size })):=by
      refine Eff.zkx hb1 rfl ⟨_,⟨w.heap.size,0,0⟩,fr.tmps.toList,Val.upd_same _ _ _,Val.zbk hb1 _ _ (Val.upd_same _ _ _),SV.zan (Val.le_trans hE1.le (Val.zbk hb1)) _ hF.tmps,?_⟩;rw [hF.fn]; exact qho _ _
     have hH2:=hH1.apply hE2 (by simp)
     rw [quc] at hH2;have hle:=Val.le_trans hE1.le hE2.le;refine key _ _ _ (H.length+1) ⟨(w.alloc (.deferred (some []))).heap.size,0,0⟩ (.coll H.length::s.defers) [{ target:=.collected w.heap.size,args := #[] }] hle ?_ hH2 ?_ ?_ ?_
     . rw [← hlen]; exact Val.upd_same _ _ _
     . have h1:=hE2.le _ _ (Val.upd_same β H.length ⟨w.heap.size,0,0⟩);have h2:=SD.zan (Val.le_trans hE1.le hE2.le) hF.defers;show (SD.den _ (.coll H.length)).bind _=_;simp only [SD.den,h1,Option.map_some,Option.bind_some,h2];rfl
     . rw [hfr,run_enterLoop_outer,World.size_alloc]
     . have e:qkc (H++[SO.deferred (some [])]) []++[SO.loop .ready none s.fn s.tmps ps az bd H.length]=app H [.deferred (some []),.loop .ready none s.fn s.tmps ps az bd H.length]:=by
        rw [qbb]; show (H++_)++_=_; simp
       rw [e,hro];exact hob
   | some nm0 =>
     rw [hro] at hob zaE;simp only at hob;cases hx:fr.roundOf with
     | none=>rw [hx] at zaE; exact zaE.elim
     | some b =>
       rw [hx] at zaE;obtain ⟨l0,hl0,rfl⟩:=zaE;split at hob
       . rename_i st p f0 T0 ps0 a0 b0 d hloop;obtain ⟨l1,r,hl1,hh,_,_,_,_,_,_,_,⟨ld,hd,hrd⟩,_⟩:=q5h hH (qwf hloop);rw [hl0] at hl1; cases hl1;have hb0:=hH.bound _ (Nat.le_refl H.length);have hE1:Eff B.P β w H.length [] [.loop .ready none s.fn s.tmps ps az bd d] (β.upd H.length ⟨w.heap.size,0,0⟩)
           (w.alloc (.loop { state:=.ready,pending:=none,fn:=fr.fn,tmps:=fr.tmps,params:=ps,assign:=az,body:=bd,defers:=r.defers })):=by
          refine Eff.zkx hb0 rfl ⟨_,ld,fr.tmps.toList,Val.upd_same _ _ _,Val.zbk hb0 _ _ hd,SV.zan (Val.zbk hb0) _ hF.tmps,?_⟩;rw [hF.fn,hrd]; exact qho _ _
         have hH1:=hH.apply hE1 (by simp)
         rw [quc] at hH1;refine key _ _ _ H.length _ s.defers [] hE1.le (Val.upd_same _ _ _) hH1 ?_ ?_ ?_
         . rw [List.nil_append]; exact SD.zan hE1.le hF.defers
         . rw [hx]; exact run_enterLoop_inner hh _ _ _ _ _
         . have e:qkc H []++[SO.loop .ready none s.fn s.tmps ps az bd d]=app H [.loop .ready none s.fn s.tmps ps az bd d]:=by
            rw [qbb]; rfl
           rw [e,hro];split at hob
           . rename_i g args hcall;rw [hcall]; exact hob
           . exact hob.elim
       . exact hob.elim
theorem qrs (hc:zaw c) (hP:B.P=c.P) (hgl:B.glob=c.glob) {s:SS} {m:Machine} (hM:zd5 B s m) (hob:(quw c s go).Ob D S):After B go D S m:=by
 obtain ⟨β,fr,frs,w,rfl,hFs,hH,hG,hl⟩:=hM.ex;obtain ⟨frames,H⟩:=s;cases frames with
 | nil=>exact hFs.elim
 | cons s rest =>
   obtain ⟨hF,hR⟩:=hFs;replace hob:(jbe s.todo s rest c H go).Ob D S:=hob;cases htd:s.todo with
   | nil=>rw [htd] at hob; exact q7m hc hP hgl hF hR hH hG hl (.inl htd) hob
   | cons x k =>
     rw [htd] at hob;replace hob:(jae x k s rest c H go).Ob D S:=hob;have zbi:=hF.todo;rw [htd] at zbi;cases hft:fr.todo with
     | nil=>rw [hft] at zbi; exact zbi.elim
     | cons y k' =>
       rw [hft] at zbi;obtain ⟨hxy,hkk⟩:=zbi;cases x with
       | inBlock id =>
         cases y <;> first | exact hxy.elim | skip
         refine qad hF hR hH hG hl hkk hob ?_
         rw [hft]; exact stepR_inBlock
       | inScope cd =>
         cases y <;> first | exact hxy.elim | skip
         refine qad hF hR hH hG hl hkk hob ?_
         rw [hft]; exact step_lone_go (by simp [stepG,stepG.exec,Frame.atR])
       | inLoop cd =>
         cases y <;> first | exact hxy.elim | skip
         . rename_i cd';have:cd'=.loop cd:=hxy;subst this;refine qad hF hR hH hG hl (k:=.code cd::.inLoop cd::k) (k':=.code cd::.inLoop cd::k') ⟨rfl,rfl,hkk⟩ hob ?_
           rw [hft]; exact stepR_loop
         . rename_i cd';have:cd'=cd:=hxy;subst this;refine qad hF hR hH hG hl (k:=.code cd'::.inLoop cd'::k) (k':=.code cd'::.inLoop cd'::k') ⟨rfl,rfl,hkk⟩ hob ?_
           rw [hft]; exact stepR_inLoop
       | zfq nm=>exact hob.elim
       | zes nm =>
         cases y <;> first | exact hxy.elim | skip
         rename_i b;obtain ⟨l0,hl0,rfl⟩:=hxy;replace hob:(qux nm k s rest c H go).Ob D S:=hob;unfold qux at hob;split at hob
         . rename_i st p f T ps a b d hloop;obtain ⟨l1,r,hl1,hh,hst,hpe,_,_,_,_,_,_,hturn⟩:=q5h hH (qwf hloop);rw [hl0] at hl1; cases hl1;obtain ⟨hnb,td,htd2,hob⟩:st≠.busy/\∃ td,za3 β td ((p.map Item.code).toList++k')/\(go ⟨⟨s.fn,s.tmps,td,s.defers,s.roundOf⟩::rest,zbz H nm (.loop .exhausted p f T ps a b d)⟩).Ob D S:=by
            cases st <;> first
             | exact hob.elim
             | (cases p with
               | none=>exact ⟨by simp,k,hkk,hob⟩
               | some j=>exact ⟨by simp,.code j::k,⟨rfl,hkk⟩,hob⟩)
           subst hpe;have hrun:=run_endLoop (P:=B.P) hh (by rw [hst]; exact hnb)
           have hstep:=stepR_endRangeFunc (P:=B.P) (b:=fr) (a:=⟨fr.tmps,fr.defers⟩) (k:=k') (cs:=frs++B.cs) hrun;rw [← hft,← q5b hF.mode] at hstep;have hH':=hturn .exhausted r.pending;exact ⟨_,.one hstep,.inl ⟨_,hob,⟨β,_,frs,_,rfl,⟨⟨hF.fn,hF.tmps,htd2,hF.defers,rfl,hF.kind,hF.round⟩,hR⟩,hH',hG,Eq.trans (qjc (f:=fr) (f':=fr.atR ⟨fr.tmps,fr.defers⟩ _) rfl) hl⟩⟩⟩
         . exact hob.elim
       | beginRound =>
         cases y <;> first | exact hxy.elim | skip
         replace hob:(qtx k s rest c H go).Ob D S:=hob;unfold qtx at hob;split at hob
         . rename_i nm hro;have zaE:=hF.round;rw [hro] at zaE;cases hx:fr.roundOf with
           | none=>rw [hx] at zaE; exact zaE.elim
           | some b =>
             rw [hx] at zaE;obtain ⟨l0,hl0,rfl⟩:=zaE;split at hob
             . rename_i p f T ps a b d hloop;obtain ⟨l1,r,hl1,hh,hst,hpe,_,_,_,_,_,_,hturn⟩:=q5h hH (qwf hloop);rw [hl0] at hl1; cases hl1;subst hpe;have hstep:=stepR_beginRound (P:=B.P) (b:=fr) (a:=⟨fr.tmps,fr.defers⟩) (k:=k') (cs:=frs++B.cs) hx (run_beginRound hh hst);rw [← hft,← q5b hF.mode] at hstep;have hH':=hturn .busy r.pending;exact ⟨_,.one hstep,.inl ⟨_,hob,⟨β,_,frs,_,rfl,⟨⟨hF.fn,hF.tmps,hkk,hF.defers,rfl,hF.kind,hF.round⟩,hR⟩,hH',hG,Eq.trans (qjc (f:=fr) (f':=fr.atR ⟨fr.tmps,fr.defers⟩ _) rfl) hl⟩⟩⟩
             . exact hob.elim
         . exact hob.elim
       | ops os l =>
         cases l with
         | nil =>
           cases y <;> first | exact hxy.elim | skip
           rename_i os' idx;obtain ⟨rfl,hat⟩:=hxy;cases idx with
           | cons=>exact hat.elim
           | nil =>
           refine qad hF hR hH hG hl hkk hob ?_
           rw [hft]; exact stepR_region_end
         | cons o l=>exact qo8 hc hP hgl hF hR hH hG hl htd hob
       | code cd =>
         cases y <;> first | exact hxy.elim | skip
         rename_i cd';have hcd:cd'=cd:=hxy;subst hcd;replace hob:(j9d cd' k s rest c H go).Ob D S:=hob;cases cd' with
         | skip=>refine qad hF hR hH hG hl hkk hob ?_; rw [hft]; exact stepR_skip
         | label n=>refine qad hF hR hH hG hl hkk hob ?_; rw [hft]; exact stepR_label
         | seq a b=>refine qad hF hR hH hG hl (k:=.code a::.code b::k) (k':=.code a::.code b::k') ⟨rfl,rfl,hkk⟩ hob ?_; rw [hft]; exact stepR_seq
         | block id body=>refine qad hF hR hH hG hl (k:=.code body::.inBlock id::k) (k':=.code body::.inBlock id::k') ⟨rfl,rfl,hkk⟩ hob ?_; rw [hft]; exact stepR_block
         | loop body =>
           replace hob:(go ⟨s.to (.inLoop body::k)::rest,H⟩).Ob D S:=hob;exact ⟨_,.refl _ _,.inl ⟨_,hob,⟨β,fr,frs,w,rfl,⟨⟨hF.fn,hF.tmps,by rw [hft]; exact ⟨rfl,hkk⟩,hF.defers,hF.mode,hF.kind,hF.round⟩,hR⟩,hH,hG,hl⟩⟩⟩
         | scope body =>
           refine qad hF hR hH hG hl (k:=.code body::.inScope body::k) (k':=.code body::.inScope body::k') ⟨rfl,rfl,hkk⟩ hob ?_
           rw [hft]; exact step_lone_go (by simp [stepG,stepG.exec,Frame.atR])
         | goto n=>exact hob.elim
         | refuse w=>exact hob.elim
         | ret=>exact q7m hc hP hgl hF hR hH hG hl (.inr ⟨k,htd⟩) hob
         | exit id =>
           replace hob:(qk4 id k s rest c H go).Ob D S:=hob;unfold qk4 at hob;have hsp:=qks (β:=β) id k k' hkk;cases hex:qap id k with
           | some r =>
             rw [hex] at hob hsp;obtain ⟨r',hr',hrr⟩:=hsp;refine qad hF hR hH hG hl hrr hob ?_
             rw [hft]; exact stepR_exit hr'
           | none =>
             rw [hex] at hob hsp;simp only at hob hsp;split at hob
             . rename_i nm hro;have zaE:=hF.round;rw [hro] at zaE;cases hx:fr.roundOf with
               | none=>rw [hx] at zaE; exact zaE.elim
               | some b =>
                 rw [hx] at zaE;obtain ⟨l0,hl0,rfl⟩:=zaE;refine q6k hR hH hG hl hob fun l cc cs w' hb hrun => ?_
                 rw [hl0] at hb; cases hb;rw [q5b hF.mode,hft];exact stepR_round_exit hx hF.kind hsp hrun
             . exact hob.elim
         | cond x a b =>
           replace hob:(qj4 x a b k s rest c H go).Ob D S:=hob;unfold qj4 at hob;have hx:=qxe (glob:=c.glob) (a:=⟨fr.tmps,fr.defers⟩) hF.tmps (hgl▸hG.glob) x;rcases qgj (evS c.glob s.tmps x) with ⟨v,hv⟩ | hno
           . rw [hv] at hob hx;have hval:Act.eval ⟨fr.tmps,fr.defers⟩ x=.bool v.den:=(Option.some.inj hx).symm;have key:∀ t:Bool,v.den=t->(go ⟨s.to (.code (if t then a else b)::k)::rest,H⟩).Ob D S->After B go D S (lone fr (frs++B.cs) w):=by
              intro t ht hob;refine qad hF hR hH hG hl (k:=.code (if t then a else b)::k) (k':=.code (if t then a else b)::k') ⟨rfl,hkk⟩ hob ?_
              rw [hft];exact stepR_cond (by rw [hval,ht])
             cases v with
             | lit v=>cases v with
               | true=>exact key true rfl hob
               | false=>exact key false rfl hob
             | sym v=>cases v with
               | true=>exact key true rfl (hob.1 rfl)
               | false=>exact key false rfl (hob.2 rfl)
           . rw [hno] at hob; exact hob.elim
         | region id os draw =>
           cases draw with
           | true=>exact qm1 hc hP hgl hF hR hH hG hl htd hob
           | false =>
             refine qad hF hR hH hG hl (k:=.ops os os.toList::k) (k':=.inRegion os (List.range os.size)::k') ⟨⟨rfl,zb6.all os⟩,hkk⟩ hob ?_
             rw [hft]; exact stepR_region
         | rangeFunc f ps a b=>exact q7y hc hP hgl hF hR hH hG hl htd hob
def Ends (B:Base) (D:SV->List SO->Prop) (S:SS->Prop) (m:Machine):Prop :=
 ∃ m',Steps B.P m m'/\((∃ v H,D v H/\zdE B v H m')\/(∃ s,S s/\zd5 B s m'))
theorem qcq (hc:zaw c) (hP:B.P=c.P) (hgl:B.glob=c.glob) {s:SS} {m:Machine} (hM:zd5 B s m) (hob:(q0r c s go).Ob D S):After B go D S m:=by
 unfold q0r at hob;cases hj:c.zdM with
 | none=>rw [hj] at hob; exact qrs hc hP hgl hM hob
 | some j =>
   rw [hj] at hob;replace hob:(qxx c j s fun s=>quw c s go).Ob D S:=hob;obtain ⟨s',hM',h⟩:=q6y hP hM hob;exact qrs hc hP hgl hM' h
theorem qio (hc:zaw c) (hP:B.P=c.P) (hgl:B.glob=c.glob):∀ (n:Nat) (s:SS) (m:Machine),zd5 B s m->(sim c n s).Ob D S->Ends B D S m:=by
 intro n;induction n with
 | zero=>intro s m hM h; exact ⟨m,.refl _ _,.inr ⟨s,h,hM⟩⟩
 | succ n ih =>
   intro s m hM h;replace h:(zab (qt4 c s) (.stop s) (q0r c s (sim c n))).Ob D S:=h;cases hst:qt4 c s with
   | true=>rw [hst] at h; exact ⟨m,.refl _ _,.inr ⟨s,h,hM⟩⟩
   | false =>
     rw [hst] at h;obtain ⟨m1,hs,⟨s',h',hM'⟩ | ⟨v,H,hD,hM'⟩⟩:=qcq hc hP hgl hM h
     . obtain ⟨m2,hs2,hr⟩:=ih s' m1 hM' h';exact ⟨m2,hs.trans hs2,hr⟩
     . exact ⟨m1,hs,.inl ⟨v,H,hD,hM'⟩⟩
theorem qx5 (hc:zaw c) (hP:B.P=c.P) (hgl:B.glob=c.glob) {n:Nat} {s:SS} {m:Machine} (hM:zd5 B s m) (h:(zaY c n s).Ob D S):Ends B D S m:=by
 obtain ⟨m1,hs,⟨s',h',hM'⟩ | ⟨v,H,hD,hM'⟩⟩:=qcq hc hP hgl hM h
 . obtain ⟨m2,hs2,hr⟩:=qio hc hP hgl n s' m1 hM' h';exact ⟨m2,hs.trans hs2,hr⟩
 . exact ⟨m1,hs,.inl ⟨v,H,hD,hM'⟩⟩
end
end
noncomputable section
variable {α:Type}
def qla (c:Cfg) (n:Nat) (f:FuncId) (args:List SV) (H:List SO):Tree:=zah (qpe c.P f args) (.stuck 500) fun g=>sim c n ⟨[g],H⟩
def Came (P:Program) (O:Nat->Prop) (w0:World) (β:Val) (D:SV->List SO->Prop) (e:Ending) (w':World):Prop :=
 ∃ v H x β',e=.returned x/\D v H/\β.le β'/\v.den β'=some x/\zae P O w0 β' H w'
theorem qss {c:Cfg} {O:Nat->Prop} {w0 w:World} {β:Val} {H:List SO} {f:FuncId} {args:List SV} {vs:List Value} {g:SF} (hH:zae c.P O w0 β H w) (hG:zaC c.glob β) (ha:SV.zak β args=some vs) (hg:qpe c.P f args=some g) (cs:List Frame) :
  zd5 ⟨c.P,c.glob,O,w0,cs,f,β⟩ ⟨[g],H⟩ (lone (Frame.enter c.P f vs.toArray .normal) cs w):=by
 obtain ⟨h1,_⟩:=q8u hg ha;exact ⟨β,_,[],w,rfl,⟨h1,trivial⟩,hH,⟨hG,Val.le_refl β⟩,rfl⟩
theorem qyq {c:Cfg} (hc:zaw c) {n:Nat} {O:Nat->Prop} {w0 w:World} {β:Val} {H:List SO} {f:FuncId} {args:List SV} {vs:List Value} (hH:zae c.P O w0 β H w) (hG:zaC c.glob β) (ha:SV.zak β args=some vs) {D:SV->List SO->Prop}
  (hob:(qla c n f args H).Ob D fun _=>False):Calls c.P f vs.toArray w (Came c.P O w0 β D):=by
 intro cs;unfold qla at hob;cases hg:qpe c.P f args with
 | none=>rw [hg] at hob; exact hob.elim
 | some g =>
   rw [hg] at hob;obtain ⟨m',hs,⟨v,H',hD,hdone⟩ | ⟨s,hS,_⟩⟩:=qio (B:=⟨c.P,c.glob,O,w0,cs,f,β⟩) hc rfl rfl n _ _ (qss hH hG ha hg cs) hob
   . obtain ⟨β',fr,x,w',rfl,hfn,hleave,hv,hH',hG'⟩:=hdone.ex;exact ⟨.returned x,w',fr,⟨v,H',x,β',rfl,hD,hG'.fix,hv,hH'⟩,hs,hfn,hleave⟩
   . exact hS.elim
theorem Keep.below {w w':World} (h:Keep (fun _=>False) w w'):Go.RowKit.Below w.heap.size w w' :=
 ⟨h.os,h.tape,h.output,h.size,fun k hk=>h.block k hk fun f=>f⟩
def j6f:Val:=fun _=>none
theorem zae.start (P:Program) (O:Nat->Prop) (w:World):zae P O w j6f [] w :=
 ⟨⟨by simp,by simp,by simp,⟨rfl,rfl,rfl,Nat.le_refl _,Nat.le_refl _,fun _ _ _=>rfl⟩,by simp,by simp⟩,fun _ _=>rfl⟩
theorem zaC.none (β:Val):zaC (fun _=>Option.none) β:=fun _ _ h=>by cases h
end
noncomputable section
variable {α:Type}
def SA.ren (f:Nat->Nat) (a:SA):SA:=⟨f a.nm,a.off⟩
def SC.ren (f:Nat->Nat):SC->SC
 | .lit n=>.lit n
 | .sym n=>.sym n
 | .rest nm k=>.rest (f nm) k
def SFn.ren (f:Nat->Nat):SFn->SFn
 | .fn g=>.fn g
 | .yield nm=>.yield (f nm)
mutual
def SV.ren (f:Nat->Nat):SV->SV
 | .int k n=>.int k n
 | .bool b=>.bool b
 | .str s=>.str s
 | .ptr a=>.ptr (a.ren f)
 | .nilPtr=>.nilPtr
 | .slice a l c=>.slice (a.ren f) l (c.ren f)
 | .zac=>.zac
 | .map nm=>.map (f nm)
 | .zaD=>.zaD
 | .func g xs ys=>.func (g.ren f) (SV.zbA f xs) (SV.zbA f ys)
 | .nilFunc=>.nilFunc
 | .iface t v=>.iface t (v.ren f)
 | .nilIface=>.nilIface
 | .agg l=>.agg (SV.zbA f l)
 | .tuple l=>.tuple (SV.zbA f l)
 | .val v=>.val v
 | .tail a n l c=>.tail (a.ren f) n l (c.ren f)
def SV.zbA (f:Nat->Nat):List SV->List SV
 | []=>[]
 | v::l=>v.ren f::SV.zbA f l
end
theorem SC.zaF (f:Nat->Nat) (β:Val) (c:SC):(c.ren f).den β=c.den (fun n=>β (f n)):=by cases c <;> rfl
theorem SFn.zaF (f:Nat->Nat) (β:Val) (c:SFn):(c.ren f).den β=c.den (fun n=>β (f n)):=by cases c <;> rfl
mutual
theorem SV.zaF (f:Nat->Nat) (β:Val):(v:SV)->(v.ren f).den β=v.den (fun n=>β (f n))
 | .int _ _=>rfl
 | .bool _=>rfl
 | .str _=>rfl
 | .ptr _=>rfl
 | .nilPtr=>rfl
 | .slice a l c=>by simp only [SV.ren,SV.den,SC.zaF]; rfl
 | .zac=>rfl
 | .map _=>rfl
 | .zaD=>rfl
 | .func g xs ys=>by simp only [SV.ren,SV.den,SFn.zaF,SV.zaL f β xs,SV.zaL f β ys]
 | .nilFunc=>rfl
 | .iface t v=>by simp only [SV.ren,SV.den,SV.zaF f β v]
 | .nilIface=>rfl
 | .agg l=>by simp only [SV.ren,SV.den,SV.zaL f β l]
 | .tuple l=>by simp only [SV.ren,SV.den,SV.zaL f β l]
 | .val _=>rfl
 | .tail a n l c=>by simp only [SV.ren,SV.den,SC.zaF]; rfl
theorem SV.zaL (f:Nat->Nat) (β:Val):(l:List SV)->SV.zak β (SV.zbA f l)=SV.zak (fun n=>β (f n)) l
 | []=>rfl
 | v::l=>by simp only [SV.zbA,SV.zak,SV.zaF f β v,SV.zaL f β l]
end
def SC.uses (p:Nat->Bool):SC->Bool
 | .rest nm _=>p nm
 | _=>true
def SFn.uses (p:Nat->Bool):SFn->Bool
 | .yield nm=>p nm
 | _=>true
mutual
def SV.uses (p:Nat->Bool):SV->Bool
 | .ptr a=>p a.nm
 | .slice a _ c=>p a.nm && c.uses p
 | .tail a _ _ c=>p a.nm && c.uses p
 | .map nm=>p nm
 | .func g xs ys=>g.uses p && (SV.za5 p xs && SV.za5 p ys)
 | .iface _ v=>v.uses p
 | .agg l=>SV.za5 p l
 | .tuple l=>SV.za5 p l
 | _=>true
def SV.za5 (p:Nat->Bool):List SV->Bool
 | []=>true
 | v::l=>v.uses p && SV.za5 p l
end
theorem SC.zaN {p:Nat->Bool} {β β':Val} (hp:∀ n,p n=true->β n=β' n) {c:SC} (h:c.uses p=true):c.den β=c.den β':=by
 cases c with
 | rest nm k=>simp only [SC.den,hp nm h]
 | _=>rfl
theorem SFn.zaN {p:Nat->Bool} {β β':Val} (hp:∀ n,p n=true->β n=β' n) {c:SFn} (h:c.uses p=true):c.den β=c.den β':=by
 cases c with
 | yield nm=>simp only [SFn.den,hp nm h]
 | _=>rfl
mutual
theorem SV.zaN {p:Nat->Bool} {β β':Val} (hp:∀ n,p n=true->β n=β' n):(v:SV)->v.uses p=true->v.den β=v.den β'
 | .int _ _,_=>rfl
 | .bool _,_=>rfl
 | .str _,_=>rfl
 | .ptr a,h=>by simp only [SV.den,SA.den,hp a.nm h]
 | .nilPtr,_=>rfl
 | .slice a l c,h=>by
   simp only [SV.uses,Bool.and_eq_true] at h;simp only [SV.den,SA.den,hp a.nm h.1,SC.zaN hp h.2]
 | .zac,_=>rfl
 | .map nm,h=>by simp only [SV.den,hp nm h]
 | .zaD,_=>rfl
 | .func g xs ys,h=>by
   simp only [SV.uses,Bool.and_eq_true] at h;simp only [SV.den,SFn.zaN hp h.1,SV.za1 hp xs h.2.1,SV.za1 hp ys h.2.2]
 | .nilFunc,_=>rfl
 | .iface t v,h=>by simp only [SV.den,SV.zaN hp v h]
 | .nilIface,_=>rfl
 | .agg l,h=>by simp only [SV.den,SV.za1 hp l h]
 | .tuple l,h=>by simp only [SV.den,SV.za1 hp l h]
 | .val _,_=>rfl
 | .tail a n l c,h=>by
   simp only [SV.uses,Bool.and_eq_true] at h;simp only [SV.den,SA.den,hp a.nm h.1,SC.zaN hp h.2]
theorem SV.za1 {p:Nat->Bool} {β β':Val} (hp:∀ n,p n=true->β n=β' n):(l:List SV)->SV.za5 p l=true->SV.zak β l=SV.zak β' l
 | [],_=>rfl
 | v::l,h=>by
   simp only [SV.za5,Bool.and_eq_true] at h;simp only [SV.zak,SV.zaN hp v h.1,SV.za1 hp l h.2]
end
def Cells.ren (f:Nat->Nat):Cells->Cells
 | .lst l=>.lst (SV.zbA f l)
 | .fn g n=>.fn (fun i=>(g i).ren f) n
 | .raw V n=>.raw V n
def Cells.Uses (p:Nat->Bool):Cells->Prop
 | .lst l=>SV.za5 p l=true
 | .fn g _=>∀ i,(g i).uses p=true
 | .raw _ _=>True
theorem zaj.ren {f:Nat->Nat} {β β':Val} {p:Nat->Bool} {c:Cells} (hu:c.Uses p) (hp:∀ n,p n=true->β (f n)=β' n) {vs:List Value}:zaj β (c.ren f) vs↔zaj β' c vs:=by
 cases c with
 | lst l =>
   show SV.zak β (SV.zbA f l)=some vs↔SV.zak β' l=some vs;rw [SV.zaL,SV.za1 hp l hu]
 | fn g n =>
   show (vs.length=n/\∀ i x,vs[i]? = some x->((g i).ren f).den β=some x)↔(vs.length=n/\∀ i x,vs[i]? = some x->(g i).den β'=some x);have:∀ i,((g i).ren f).den β=(g i).den β':=fun i=>by rw [SV.zaF,SV.zaN hp _ (hu i)]
   simp only [this]
 | raw V n=>exact Iff.rfl
def qvw (f:Nat->Nat) (es:List (SV × SV × Nat)):List (SV × SV × Nat):=zar (fun e=>(e.1.ren f,e.2.1.ren f,e.2.2)) es
def za7.ren (f:Nat->Nat) (o:za7):za7:=za7.rec (motive:=fun _=>za7) (fun es clock=>.map (qvw f es) clock) (fun m since seen last=>.iter (zah m none fun n=>some (f n)) since seen last) (fun s pos=>.str s pos) (fun ks vs es c=>.za6 ks vs es c) o
theorem qdq (f:Nat->Nat) (β:Val):∀ es:List (SV × SV × Nat),qqa β (qvw f es)=qqa (fun n=>β (f n)) es
 | []=>rfl
 | e::r=>by
   show qqa β ((e.1.ren f,e.2.1.ren f,e.2.2)::qvw f r)=_;simp only [qqa,SV.zaF,qdq f β r]
theorem za7.zaF (f:Nat->Nat) (β:Val) (o:za7):(o.ren f).den β=o.den (fun n=>β (f n)):=by
 cases o with
 | map es clock =>
   show (qqa β (qvw f es)).map _=(qqa _ es).map _;rw [qdq]
 | iter m since seen last=>cases m <;> rfl
 | str s pos=>rfl
 | za6=>rfl
def za7.Imp (a b:za7):Prop:=∀ β x,a.den β=some x->b.den β=some x
def q8y (p:Nat->Bool) (es:List (SV × SV × Nat)):Bool:=List.rec (motive:=fun _=>Bool) true (fun e _ ih=>zab (e.1.uses p) (zab (e.2.1.uses p) ih false) false) es
def za7.uses (p:Nat->Bool) (o:za7):Bool:=za7.rec (motive:=fun _=>Bool) (fun es _=>q8y p es) (fun m _ _ _=>zah m true p) (fun _ _=>true) (fun _ _ _ _=>true) o
theorem qts {a b:Bool} (h:zab a b false=true):a=true/\b=true:=by cases a <;> first | (cases h; done) | exact ⟨rfl,h⟩
theorem qjo {p:Nat->Bool} {β β':Val} (hp:∀ n,p n=true->β n=β' n):(es:List (SV × SV × Nat))->q8y p es=true->qqa β es=qqa β' es
 | [],_=>rfl
 | e::r,h=>by
   obtain ⟨h1,h2⟩:=qts (show zab (e.1.uses p) (zab (e.2.1.uses p) (q8y p r) false) false=true from h)
   obtain ⟨h2,h3⟩:=qts h2;simp only [qqa,SV.zaN hp _ h1,SV.zaN hp _ h2,qjo hp r h3]
theorem za7.zaN {p:Nat->Bool} {β β':Val} (hp:∀ n,p n=true->β n=β' n) {o:za7} (h:o.uses p=true):o.den β=o.den β':=by
 cases o with
 | map es c =>
   show (qqa β es).map _=(qqa β' es).map _;rw [qjo hp es h]
 | iter m since seen last =>
   cases m with
   | none=>rfl
   | some m =>
     have h:p m=true:=h;show (β m).map _=(β' m).map _;rw [hp m h]
 | str s pos=>rfl
 | za6=>rfl
structure Ifc where
 names:List Nat
 ents:List SO
 args:List SV
def Ifc.big (I:Ifc) (j:Nat):Nat:=(nth I.names j).getD 0
def Ifc.known (I:Ifc) (j:Nat):Bool:=Nat.blt j (zay I.names)
def SO.placed:SO->Bool
 | .own _ _ _=>true
 | .row _=>true
 | _=>false
def SV.Imp (v u:SV):Prop:=∀ β x,v.den β=some x->u.den β=some x
def SV.zfL (l m:List SV):Prop:=∀ β vs,SV.zak β l=some vs->SV.zak β m=some vs
theorem SV.zfL.refl (l:List SV):SV.zfL l l:=fun _ _ h=>h
def Cells.Imp (c d:Cells):Prop:=∀ β vs,zaj β c vs->zaj β d vs
def Cells.zfM (c d:Cells):Prop:=∀ β vs,zaj β c vs->∃ k,zaj β d (vs.take k)
theorem SV.Imp.refl (v:SV):v.Imp v:=fun _ _ h=>h
theorem Cells.Imp.refl (c:Cells):c.Imp c:=fun _ _ h=>h
theorem Cells.Imp.front {c d:Cells} (h:c.Imp d):c.zfM d:=fun β vs x=>⟨vs.length,by rw [List.take_length]; exact h β vs x⟩
def Taken (f:Nat->Nat) (E e:SO):Prop :=
 match E with
 | .own c w el=>∃ c0,e=.own c0 w el/\c0.Imp (c.ren f)
 | .row c=>∃ c0,(e=.row c0\/∃ w el,e=.own c0 w el)/\c0.zfM (c.ren f)
 | .gone=>e.placed=true
 | _=>False
def SO.zdp (p:Nat->Bool):SO->Prop
 | .own c _ _=>c.Uses p
 | .row c=>c.Uses p
 | .gone=>True
 | _=>False
structure Ifc.Fits (I:Ifc) (H:List SO):Prop where
 len:I.ents.length=I.names.length
 nodup:∀ (i j nm:Nat),I.names[i]? = some nm->I.names[j]? = some nm->i=j
 zeT:SV.za5 I.known I.args=true
 ent:∀ (j:Nat) (E:SO),I.ents[j]? = some E->∃ e,H[I.big j]? = some e/\Taken I.big E e
 zcC:∀ (j:Nat) (E:SO),I.ents[j]? = some E->E.zdp I.known
def Ifc.val (I:Ifc) (β:Val):Val:=fun j=>if I.known j then β (I.big j) else none
def Ifc.owns (I:Ifc) (β:Val) (b:Nat):Prop:=∃ (j:Nat) (c:Cells) (w:Bool) (el:TypeId) (l:Loc),I.ents[j]? = some (.own c w el)/\β (I.big j)=some l/\l.blk=b
theorem Ifc.zaJ (I:Ifc) (j:Nat):I.known j=true↔j<I.names.length:=by
 unfold Ifc.known;rw [qha];constructor
 . intro h; have:=Nat.le_of_ble_eq_true h; omega
 . intro h; exact Nat.ble_eq_true_of_le h
theorem Ifc.zax {I:Ifc} {β:Val}:∀ n,I.known n=true->β (I.big n)=I.val β n:=fun n h=>by unfold Ifc.val; rw [if_pos h]
theorem Ifc.zbJ {I:Ifc} {j:Nat} (h:j<I.names.length):I.names[j]? = some (I.big j):=by
 unfold Ifc.big;rw [qea,List.getElem?_eq_getElem h]; rfl
theorem World.cell_of_block {w w':World} {a:Addr} (h:w'.heap[a.block]? = w.heap[a.block]?):w'.cell? a=w.cell? a:=by
 unfold World.cell?;rw [h]
theorem Ifc.heap {P:Program} {O:Nat->Prop} {w0 w:World} {β:Val} {H:List SO} {I:Ifc} (h:HeapRel0 P O w0 β H w) (hI:I.Fits H):zae P (I.owns β) w (I.val β) I.ents w:=by
 have hj:∀ (j:Nat) (E:SO),I.ents[j]? = some E->j<I.names.length:=fun j E he=>by
  rw [← hI.len]; exact (List.getElem?_eq_some_iff.1 he).1
 have hval:∀ (j:Nat) (E:SO),I.ents[j]? = some E->I.val β j=β (I.big j):=fun j E he=>by
  exact (Ifc.zax j ((I.zaJ j).2 (hj j E he))).symm
 have hne:∀ (i j:Nat) (E E':SO),I.ents[i]? = some E->I.ents[j]? = some E'->i≠j->I.big i≠I.big j:=fun i j E E' h1 h2 hij heq =>
  hij (hI.nodup i j (I.big i) (Ifc.zbJ (hj i E h1)) (by rw [heq]; exact Ifc.zbJ (hj j E' h2)))
 refine ⟨⟨fun n E hn => ?_,fun n m E E' l l' hn hm ho ho' hnm hl hl' => ?_,fun n E l hn ho hl => ?_,⟨rfl,rfl,rfl,Nat.le_refl _,Nat.le_refl _,fun _ _ _=>rfl⟩,fun n m hn=>(hI.zcC n _ hn).elim,fun n _ m _ hn=>(hI.zcC n _ hn).elim⟩,fun n hn => ?_⟩
 . obtain ⟨e,he,ht⟩:=hI.ent n E hn;have hu:=hI.zcC n E hn;have hv:=hval n E hn;have h0:=h.entries _ e he;cases E with
   | own c wh el =>
     obtain ⟨c0,rfl,himp⟩:=ht;obtain ⟨l,vs,rest,lo,hi,hl,h0',hc,hh,hfz,hw,hcap⟩:=h0;exact ⟨l,vs,rest,lo,hi,hv.trans hl,h0',(zaj.ren hu Ifc.zax).1 (himp _ _ hc),hh,hfz,hw,hcap⟩
   | row c =>
     have htake:∀ (vs:List Value) (k i:Nat) (x:Value),(vs.take k)[i]? = some x->vs[i]? = some x:=by
      intro vs k i x h;rw [List.getElem?_take] at h;split at h
      . exact h
      . cases h
     obtain ⟨c0,ht,himp⟩:=ht;rcases ht with rfl | ⟨wh,el,rfl⟩
     . obtain ⟨l,vs,hl,hc,hx⟩:=h0;obtain ⟨kk,hc⟩:=himp _ _ hc;refine ⟨l,vs.take kk,hv.trans hl,(zaj.ren hu Ifc.zax).1 hc,fun i x hi => ?_⟩;obtain ⟨h1,h2,h3⟩:=hx i x (htake _ _ _ _ hi);refine ⟨Nat.lt_of_lt_of_le h1 h.keep.size,?_,?_⟩
       . rintro ⟨j,c',w',el',l',hj',hl',hb⟩;obtain ⟨e',he',ht'⟩:=hI.ent j _ hj';obtain ⟨c1,rfl,_⟩:=ht';rcases h.fresh _ _ l' he' rfl hl' with h4 | h4
         . omega
         . exact h2 (hb▸h4)
       . rw [World.cell_of_block (h.keep.block _ h1 h2)]; exact h3
     . obtain ⟨l,vs,rest,lo,hi,hl,h0',hc,hh,hfz,hw,hcap⟩:=h0;obtain ⟨kk,hc⟩:=himp _ _ hc;refine ⟨l,vs.take kk,hv.trans hl,(zaj.ren hu Ifc.zax).1 hc,fun i x hi0=>⟨(Array.getElem?_eq_some_iff.1 hh).1,?_,?_⟩⟩
       . rintro ⟨j,c',w',el',l',hj',hl',hb⟩;obtain ⟨e',he',ht'⟩:=hI.ent j _ hj';obtain ⟨c1,rfl,_⟩:=ht';by_cases hnj:n=j
         . subst hnj; rw [hn] at hj'; cases hj'
         . exact h.sep _ _ _ _ l l' he he' rfl rfl (hne n j _ _ hn hj' hnj) hl hl' hb.symm
       . unfold World.cell?;rw [hh,h0',Nat.zero_add];have hi':=htake _ _ _ _ hi0;have hlt:=(List.getElem?_eq_some_iff.1 hi').1;simp only [List.getElem?_toArray,List.getElem?_append_left hlt,hi'];rfl
   | loop=>exact hu.elim
   | deferred=>exact hu.elim
   | gone=>trivial
   | mem=>trivial
   | obj=>exact hu.elim
 . obtain ⟨e,he,ht⟩:=hI.ent n E hn;obtain ⟨e',he',ht'⟩:=hI.ent m E' hm;rw [hval n E hn] at hl;rw [hval m E' hm] at hl';cases E with
   | own c wh el =>
     cases E' with
     | own c' wh' el' =>
       obtain ⟨c1,rfl,_⟩:=ht;obtain ⟨c2,rfl,_⟩:=ht';exact h.sep _ _ _ _ l l' he he' rfl rfl (hne n m _ _ hn hm hnm) hl hl'
     | row=>cases ho'
     | loop=>exact (hI.zcC m _ hm).elim
     | deferred=>exact (hI.zcC m _ hm).elim
     | gone=>cases ho'
     | mem=>exact ht'.elim
     | obj=>exact (hI.zcC m _ hm).elim
   | row=>cases ho
   | loop=>exact (hI.zcC n _ hn).elim
   | deferred=>exact (hI.zcC n _ hn).elim
   | gone=>cases ho
   | mem=>exact ht.elim
   | obj=>exact (hI.zcC n _ hn).elim
 . rw [hval n E hn] at hl;cases E with
   | own c wh el=>exact .inr ⟨n,c,wh,el,l,hn,hl,rfl⟩
   | row=>cases ho
   | loop=>exact (hI.zcC n _ hn).elim
   | deferred=>exact (hI.zcC n _ hn).elim
   | gone=>cases ho
   | mem=>exact (hI.zcC n _ hn).elim
   | obj=>exact (hI.zcC n _ hn).elim
 . unfold Ifc.val;rw [if_neg];rw [I.zaJ,← hI.len]; omega
def zdl (k:Nat) (l:List Nat):Nat:=List.rec (motive:=fun _=>Nat) 0 (fun a _ ih=>zab (Nat.beq a k) 0 (Nat.succ ih)) l
def Ifc.out (I:Ifc) (base:Nat) (keep:List Nat) (j:Nat):Nat:=zab (I.known j) (I.big j) (base+zdl j keep)
def Ifc.seen (I:Ifc) (keep:List Nat) (j:Nat):Bool:=zab (I.known j) true (zbM j keep)
def Given (p:Nat->Bool) (g:Nat->Nat) (E:Option SO) (e:SO):Prop:=∃ c w el c',E=some (.own c w el)/\c.Uses p/\(c.ren g).Imp c'/\e=.own c' w el
theorem Given.notMem {p:Nat->Bool} {g:Nat->Nat} {E:Option SO} {e:SO} (h:Given p g E e):∀ m,e≠.mem m:=fun m hm=>by
 obtain ⟨_,_,_,_,_,_,_,h⟩:=h;rw [h] at hm; cases hm
structure Ifc.Out (I:Ifc) (base:Nat) (turn keep:List Nat) (r:zaz) (v:SV) (H:List SO):Prop where
 val:(v.ren (I.out base keep)).Imp r.v
 uv:v.uses (I.seen keep)=true
 zc0:r.sets.length=turn.length
 sets:∀ (i j:Nat),turn[i]? = some j->∃ e,r.sets[i]? = some (I.big j,e)/\Given (I.seen keep) (I.out base keep) H[j]? e
 newsLen:r.news.length=keep.length
 news:∀ (i j:Nat),keep[i]? = some j->∃ e,r.news[i]? = some e/\Given (I.seen keep) (I.out base keep) H[j]? e
theorem qcf {k:Nat} {l:List Nat} (h:k∈l):l[zdl k l]? = some k:=by
 induction l with
 | nil=>cases h
 | cons a l ih =>
   show (a::l)[zab (Nat.beq a k) 0 (Nat.succ (zdl k l))]? = _;by_cases ha:a=k
   . subst ha; rw [show Nat.beq a a=true from Nat.beq_refl a]; rfl
   . rw [show Nat.beq a k=false from Bool.eq_false_iff.2 fun h=>ha (Nat.eq_of_beq_eq_true h)]
     simpa using ih ((List.mem_cons.1 h).resolve_left fun e=>ha e.symm)
theorem zcr {n:Nat} {l:List Nat}:zbM n l=true↔n∈l:=by
 constructor
 . intro h;induction l with
   | nil=>cases h
   | cons a l ih =>
     have h':zab (Nat.beq a n) true (zbM n l)=true:=h;by_cases ha:a=n
     . subst ha; exact List.mem_cons_self
     . rw [show Nat.beq a n=false from Bool.eq_false_iff.2 fun h=>ha (Nat.eq_of_beq_eq_true h)] at h'
       exact List.mem_cons_of_mem _ (ih h')
 . exact qeg
theorem qy5 {c:Cfg} {O:Nat->Prop} {w0 w:World} {β:Val} {H:List SO} {base:Nat} {f:FuncId} {vs:List Value} (hH:HeapRel0 c.P O w0 β H w)
  (I:Ifc) (hgl:∀ g j,c.glob g=some j->I.known j=true/\∃ l,β (I.big j)=some l/\l.blk=g/\l.off=0) (ha:SV.zak β (SV.zbA I.big I.args)=some vs) (hI:I.Fits H) {r:zaz} (turn keep:List Nat) (ht1:∀ (j:Nat) c w el,I.ents[j]? = some (.own c w el)->j∈turn) (ht2:∀ j∈turn,∃ c w el,I.ents[j]? = some (.own c w el)) (hk:∀ j∈keep,I.names.length<=j) (hkn:keep.Nodup) (htn:turn.Nodup:=by simp)
  (hbody:∃ fn,c.P.funcs[f]? = some fn/\fn.body.isSome=true)
  (hrun:zae c.P (I.owns β) w (I.val β) I.ents w->zaC c.glob (I.val β)->SV.zak (I.val β) I.args=some vs->Calls c.P f vs.toArray w (Came c.P (I.owns β) w (I.val β) (I.Out base turn keep r))):qob c.P H β w base f vs r:=by
 intro hfree;have hH':=Ifc.heap hH hI;have ha':SV.zak (I.val β) I.args=some vs:=by
  rw [SV.zaL,SV.za1 Ifc.zax _ hI.zeT] at ha; exact ha
 have zcI:=hrun hH' (fun g j hg=>let ⟨hk,l,h1,h2⟩:=hgl g j hg; ⟨l,by rw [← Ifc.zax j hk]; exact h1,h2⟩) ha'
 have hown:∀ j∈turn,∃ cb wb el l vs rest lo hi,H[I.big j]? = some (.own cb wb el)/\β (I.big j)=some l/\I.val β j=some l/\j<I.names.length/\w.heap[l.blk]? = some (.cells (vs++rest:List Value).toArray el (lo,hi)):=by
  intro j hj;obtain ⟨cc,ww,el,he⟩:=ht2 j hj;obtain ⟨e,he',ht⟩:=hI.ent j _ he;obtain ⟨c1,rfl,_⟩:=ht;obtain ⟨l,vs,rest,lo,hi,hl,_,_,hh,_⟩:=hH.entries _ _ he';have hjl:j<I.names.length:=by rw [← hI.len]; exact (List.getElem?_eq_some_iff.1 he).1
  exact ⟨_,_,_,l,vs,rest,lo,hi,he',hl,by rw [← Ifc.zax j ((I.zaJ j).2 hjl)]; exact hl,hjl,hh⟩
 have zcs:∀ (v:SV) (H'':List SO),I.Out base turn keep r v H''->∀ m e,(m,e)∈r.sets->∃ j∈turn,m=I.big j/\Given (I.seen keep) (I.out base keep) H''[j]? e/\∃ i:Nat,turn[i]? = some j/\r.sets[i]? = some (m,e):=by
  intro v H'' hout m e hm;obtain ⟨i,hi⟩:=List.mem_iff_getElem?.1 hm;have hil:=(List.getElem?_eq_some_iff.1 hi).1;rw [hout.zc0] at hil;obtain ⟨e',h1,h2⟩:=hout.sets i _ (List.getElem?_eq_getElem hil);rw [hi] at h1;cases h1;exact ⟨_,List.getElem_mem hil,rfl,h2,i,List.getElem?_eq_getElem hil,hi⟩
 refine ⟨?_,.inl ⟨hbody,?_⟩⟩
 . intro m e hm;obtain ⟨e',w',fr,zbI,_⟩:=zcI [];obtain ⟨v,H'',x,β'',_,hout,_⟩:=zbI;obtain ⟨j,hj,rfl,hg,_⟩:=zcs v H'' hout m e hm;obtain ⟨cb,wb,el,l,vs,rest,lo,hi,h1,_⟩:=hown j hj;exact ⟨_,h1,rfl,.not hg.notMem⟩
 . intro cs;obtain ⟨e',w',fr,zbI,hst⟩:=zcI cs;refine ⟨e',w',fr,?_,hst⟩;obtain ⟨v,H'',x,β'',rfl,hout,hle,hv,hH2⟩:=zbI
   let βb:Val:=fun n=>if base<=n/\n<base+keep.length then (keep[n - base]?).bind β'' else β n
   have zct:r.news.length=keep.length:=hout.newsLen;have hfree':∀ i,i<keep.length->β (base+i)=none:=fun i hi=>hfree i (by rw [zct]; exact hi)
   have hβle:β.le βb:=by
    intro n l hn;show (if _ then _ else _)=_
    rw [if_neg]
    . exact hn
    . rintro ⟨h1,h2⟩;have:=hfree' (n - base) (by omega)
      rw [show base+(n - base)=n from by omega,hn] at this; cases this
   have zbw:∀ j,I.seen keep j=true->βb (I.out base keep j)=β'' j:=by
    intro j hj;unfold Ifc.seen at hj;unfold Ifc.out;cases hkn':I.known j with
    | true =>
      rw [zal];have hjl:=(I.zaJ j).1 hkn';obtain ⟨E,hE⟩:∃ E,I.ents[j]? = some E:=⟨_,List.getElem?_eq_getElem (by rw [hI.len]; exact hjl)⟩
      obtain ⟨e,he,htk⟩:=hI.ent j E hE;have hsome:∃ l,β (I.big j)=some l:=by
       have h0:=hH.entries _ e he;have hu:=hI.zcC j E hE;have zc4:e.placed=true:=by
        cases E with
        | own cc ww el=>obtain ⟨c1,rfl,_⟩:=htk; rfl
        | row cc=>obtain ⟨c1,rfl | ⟨ww,el,rfl⟩,_⟩:=htk <;> rfl
        | loop=>exact hu.elim
        | deferred=>exact hu.elim
        | gone=>exact htk
        | mem=>exact htk.elim
        | obj=>exact hu.elim
       cases e with
       | own cc ww el=>obtain ⟨l,_,_,_,_,hl,_⟩:=h0; exact ⟨l,hl⟩
       | row cc=>obtain ⟨l,_,hl,_⟩:=h0; exact ⟨l,hl⟩
       | loop=>cases zc4
       | deferred=>cases zc4
       | gone=>cases zc4
       | mem=>cases zc4
       | obj=>cases zc4
      obtain ⟨l,hl⟩:=hsome;rw [hβle _ _ hl];have:I.val β j=some l:=by rw [← Ifc.zax j hkn']; exact hl
      rw [hle _ _ this]
    | false =>
      rw [hkn',zam,zcr] at hj;rw [zam];have h1:=qcf hj;have h2:=(List.getElem?_eq_some_iff.1 h1).1;show (if _ then _ else _)=_
      rw [if_pos (by omega),show base+zdl j keep - base=zdl j keep from by omega,h1]; rfl
   have zb8:∀ (j:Nat) (e:SO),Given (I.seen keep) (I.out base keep) H''[j]? e->I.seen keep j=true->e.owned=true/\zaA c.P βb w' (I.out base keep j) e:=by
    intro j e hg hs;obtain ⟨cc,ww,el,c',he,hu,himp,rfl⟩:=hg;obtain ⟨l,vs,rest,lo,hi,hl,h0,hcl,hh,hfz,hw,hcap⟩:=hH2.entries j _ he;exact ⟨rfl,l,vs,rest,lo,hi,(zbw j hs).trans hl,h0,himp _ _ ((zaj.ren hu zbw).2 hcl),hh,hfz,hw,hcap⟩
   have zdP:∀ j∈turn,I.seen keep j=true/\I.out base keep j=I.big j:=by
    intro j hj;obtain ⟨_,_,_,_,_,_,_,_,_,_,_,hjl,_⟩:=hown j hj;have:=(I.zaJ j).2 hjl;unfold Ifc.seen Ifc.out;rw [this]; exact ⟨rfl,rfl⟩
   have zdQ:∀ j∈keep,I.seen keep j=true/\I.known j=false:=by
    intro j hj;have hnk:I.known j=false:=by
     cases hx:I.known j with
     | false=>rfl
     | true=>have:=(I.zaJ j).1 hx; have:=hk j hj; omega
    unfold Ifc.seen;rw [hnk]; exact ⟨qeg hj,rfl⟩
   have zc5:∀ (i:Nat) (e:SO),r.news[i]? = some e->∃ j,keep[i]? = some j/\Given (I.seen keep) (I.out base keep) H''[j]? e:=by
    intro i e hi;have hil:=(List.getElem?_eq_some_iff.1 hi).1;rw [zct] at hil;obtain ⟨e',h1,h2⟩:=hout.news i _ (List.getElem?_eq_getElem hil);rw [hi] at h1; cases h1;exact ⟨_,List.getElem?_eq_getElem hil,h2⟩
   refine ⟨x,βb,rfl,?_,⟨hβle,hH2.keep.os,hH2.keep.tape,hH2.keep.output,hH2.keep.drawn,hH2.keep.size,?_,?_,?_,?_,?_,?_⟩⟩
   . refine hout.val _ _ ?_
     rw [SV.zaF,SV.zaN zbw _ hout.uv]; exact hv
   . intro n hn;rw [zct] at hn;show (if _ then _ else _)=_
     rw [if_neg (by omega)]
   . intro b hb hno _;refine hH2.keep.block b hb ?_
     rintro ⟨j,cc,ww,el,l,hj,hl,rfl⟩;have hjt:=ht1 j cc ww el hj;obtain ⟨i,hi⟩:=List.mem_iff_getElem?.1 hjt;obtain ⟨e,he,_⟩:=hout.sets i j hi;exact hno (I.big j) e l (List.mem_of_getElem? he) hl rfl
   . intro m e e' h1 h2;obtain ⟨j,hj,hm1,hg1,i1,ht1',hs1⟩:=zcs v H'' hout m e h1;obtain ⟨k,hk',hm2,hg2,i2,zhn,hs2⟩:=zcs v H'' hout m e' h2;obtain ⟨_,_,_,_,_,_,_,_,_,_,_,hjl,_⟩:=hown j hj;obtain ⟨_,_,_,_,_,_,_,_,_,_,_,hkl,_⟩:=hown k hk';have hjk:k=j:=hI.nodup k j (I.big k) (Ifc.zbJ hkl) (by rw [← hm2,hm1]; exact Ifc.zbJ hjl)
     subst hjk;have:i1=i2:=(List.getElem?_inj (List.getElem?_eq_some_iff.1 ht1').1 htn).1 (ht1'.trans zhn.symm);subst this;rw [hs1] at hs2;exact (Prod.mk.inj (Option.some.inj hs2)).2
   . intro m e hm;obtain ⟨j,hj,rfl,hg,_⟩:=zcs v H'' hout m e hm;obtain ⟨hs,hb⟩:=zdP j hj;rw [← hb];exact (zb8 j e hg hs).2
   . intro i e hi;obtain ⟨j,hj,hg⟩:=zc5 i e hi;have hjm:=List.mem_of_getElem? hj;obtain ⟨hs,hnk⟩:=zdQ j hjm;have zdR:I.out base keep j=base+i:=by
      unfold Ifc.out;rw [hnk,zam];have h1:=qcf hjm;have:zdl j keep=i:=(List.getElem?_inj (List.getElem?_eq_some_iff.1 h1).1 hkn).1 (h1.trans hj.symm);rw [this]
     obtain ⟨ho,hor⟩:=zb8 j e hg hs;refine ⟨ho,zdR▸hor,?_⟩;obtain ⟨cc,ww,el,c',he,_⟩:=hg;obtain ⟨l,vs2,rest,lo,hi2,hl,_⟩:=hH2.entries j _ he;refine ⟨l,by rw [← zdR,zbw j hs]; exact hl,.inl ?_⟩
     rcases hH2.fresh j _ l he rfl hl with h1 | ⟨k,ck,wk,ek,lk,hk1,hk2,hk3⟩
     . exact h1
     . exfalso;have hkt:=ht1 k ck wk ek hk1;obtain ⟨i3,hi3⟩:=List.mem_iff_getElem?.1 hkt;obtain ⟨_,_,c2,w2,e2,_,he2,_⟩:=hout.sets i3 k hi3;obtain ⟨_,_,_,l2,_,_,_,_,_,hb2,hv2,hkl,_⟩:=hown k hkt;rw [hb2] at hk2; cases hk2;refine hH2.sep k j _ _ lk l he2 he rfl rfl ?_ (hle _ _ hv2) hl hk3;have:=hk j hjm; omega
   . intro i j l l' hij hi hj hl hl';rw [zct] at hi hj;have hone:∀ i,i<keep.length->∀ l,βb (base+i)=some l->∃ k,keep[i]? = some k/\β'' k=some l:=by
      intro i hi l hl;have hl:(if base<=base+i/\base+i<base+keep.length then (keep[base+i - base]?).bind β'' else β (base+i))=some l:=hl
      rw [if_pos (by omega),show base+i - base=i from by omega,List.getElem?_eq_getElem hi] at hl
      exact ⟨_,List.getElem?_eq_getElem hi,hl⟩
     obtain ⟨k1,hk1,hb1⟩:=hone i hi l hl;obtain ⟨k2,hk2,hb2⟩:=hone j hj l' hl';obtain ⟨_,_,c1,w1,e1,_,he1,_⟩:=hout.news i k1 hk1;obtain ⟨_,_,c2,w2,e2,_,he2,_⟩:=hout.news j k2 hk2;refine hH2.sep k1 k2 _ _ l l' he1 he2 rfl rfl (fun h => ?_) hb1 hb2;subst h;exact hij ((List.getElem?_inj (List.getElem?_eq_some_iff.1 hk1).1 hkn).1 (hk1.trans hk2.symm))
theorem qok {P:Program} {f:FuncId} {args:List SV} {g:SF} (h:qpe P f args=some g):∃ fn,P.funcs[f]? = some fn/\fn.body.isSome=true:=by
 unfold qpe at h;rw [qea,Array.getElem?_toList] at h;cases hf:P.funcs[f]? with
 | none=>rw [hf] at h; cases h
 | some fn =>
   refine ⟨fn,rfl,?_⟩;rw [hf] at h;cases hb:fn.body with
   | none=>simp only [zao,hb,ze0] at h; cases h
   | some b=>rfl
theorem qv8 {c:Cfg} (hc:zaw c) {n:Nat} {O:Nat->Prop} {w0 w:World} {β:Val} {H:List SO} {base:Nat} {f:FuncId} {vs:List Value} (hH:HeapRel0 c.P O w0 β H w)
  (I:Ifc) (hgl:∀ g j,c.glob g=some j->I.known j=true/\∃ l,β (I.big j)=some l/\l.blk=g/\l.off=0) (ha:SV.zak β (SV.zbA I.big I.args)=some vs) (hI:I.Fits H) {r:zaz} (turn keep:List Nat) (ht1:∀ (j:Nat) c w el,I.ents[j]? = some (.own c w el)->j∈turn) (ht2:∀ j∈turn,∃ c w el,I.ents[j]? = some (.own c w el)) (hk:∀ j∈keep,I.names.length<=j) (hkn:keep.Nodup) (htn:turn.Nodup:=by simp)
  (hob:(qla c n f I.args I.ents).Ob (I.Out base turn keep r) fun _=>False):qob c.P H β w base f vs r:=by
 refine qy5 hH I hgl ha hI turn keep ht1 ht2 hk hkn htn ?_ fun hH' hG ha'=>qyq hc hH' hG ha' hob;unfold qla at hob;cases hg:qpe c.P f I.args with
 | none=>rw [hg] at hob; exact hob.elim
 | some g=>exact qok hg
theorem Cells.za9 {c d:Cells} (h:c=d):c.Imp d:=h▸.refl c
theorem SV.za9 {c d:SV} (h:c=d):c.Imp d:=h▸.refl c
end
noncomputable section
variable {α:Type}
def zcO (f:Nat->Nat) (p:Nat->Bool) (H:List SO):List Nat->List SO->Prop
 | n::ns,E::Es=>((∃ e,H[n]? = some e/\Taken f E e)/\E.zdp p)/\zcO f p H ns Es
 | [],[]=>True
 | _,_=>False
theorem zcO.length {f:Nat->Nat} {p:Nat->Bool} {H:List SO}:∀ {ns:List Nat} {Es:List SO},zcO f p H ns Es->Es.length=ns.length
 | [],[],_=>rfl
 | _::_,_::_,h=>by simp only [List.length_cons]; rw [zcO.length h.2]
 | [],_::_,h=>h.elim
 | _::_,[],h=>h.elim
theorem zcO.get {f:Nat->Nat} {p:Nat->Bool} {H:List SO}:∀ {ns:List Nat} {Es:List SO},zcO f p H ns Es->∀ (j:Nat) (E:SO),Es[j]? = some E->(∃ e,H[(nth ns j).getD 0]? = some e/\Taken f E e)/\E.zdp p
 | [],[],_,j,E,h=>by simp at h
 | n::ns,E'::Es,h,0,E,hE=>by simp at hE; subst hE; exact h.1
 | n::ns,E'::Es,h,j+1,E,hE=>by
   have:=zcO.get h.2 j E (by simpa using hE)
   rw [qea] at this ⊢;simpa using this
 | [],_::_,h,_,_,_=>h.elim
 | _::_,[],h,_,_,_=>h.elim
theorem Ifc.fits {I:Ifc} {H:List SO} (hn:I.names.Nodup) (hu:SV.za5 I.known I.args=true) (he:zcO I.big I.known H I.names I.ents):I.Fits H :=
 ⟨he.length,fun _ _ _ hi hj=>(List.getElem?_inj (List.getElem?_eq_some_iff.1 hi).1 hn).1 (hi.trans hj.symm),hu,fun j E hE=>(he.get j E hE).1,fun j E hE=>(he.get j E hE).2⟩
def SO.zkD:SO->Bool
 | .own _ _ _=>true
 | _=>false
def qdf:List SO->Nat->List Nat
 | [],_=>[]
 | E::Es,k=>if E.zkD then k::qdf Es (k+1) else qdf Es (k+1)
theorem qqh:∀ (Es:List SO) (k j:Nat),j∈qdf Es k↔∃ i c w el,j=k+i/\Es[i]? = some (.own c w el)
 | [],k,j=>by simp [qdf]
 | E::Es,k,j=>by
   have ih:=qqh Es (k+1) j;have hstep:(∃ i c w el,j=k+1+i/\Es[i]? = some (SO.own c w el))->∃ i c w el,j=k+i/\(E::Es)[i]? = some (SO.own c w el):=fun ⟨i,c,w,el,h,h'⟩=>⟨i+1,c,w,el,by omega,by simpa using h'⟩
   unfold qdf;split
   . rename_i ho;rw [List.mem_cons,ih];constructor
     . rintro (rfl | h)
       . cases E <;> first | (cases ho; done) | exact ⟨0,_,_,_,rfl,rfl⟩
       . exact hstep h
     . rintro ⟨i,c,w,el,h,h'⟩;cases i with
       | zero=>exact .inl h
       | succ i=>exact .inr ⟨i,c,w,el,by omega,by simpa using h'⟩
   . rename_i ho;rw [ih];constructor
     . exact hstep
     . rintro ⟨i,c,w,el,h,h'⟩;cases i with
       | zero=>simp at h'; subst h'; exact absurd rfl ho
       | succ i=>exact ⟨i,c,w,el,by omega,by simpa using h'⟩
theorem qkj:∀ (Es:List SO) (k:Nat),(qdf Es k).Nodup
 | [],k=>by simp [qdf]
 | E::Es,k=>by
   unfold qdf;split
   . refine List.nodup_cons.2 ⟨fun h => ?_,qkj Es (k+1)⟩;obtain ⟨i,_,_,_,h,_⟩:=(qqh Es (k+1) k).1 h;omega
   . exact qkj Es (k+1)
def zcM (big:Nat->Nat) (p:Nat->Bool) (g:Nat->Nat) (H:List SO):List Nat->List (Nat × SO)->Prop
 | j::js,x::rs=>(x.1=big j/\Given p g H[j]? x.2)/\zcM big p g H js rs
 | [],[]=>True
 | _,_=>False
def zcN (p:Nat->Bool) (g:Nat->Nat) (H:List SO):List Nat->List SO->Prop
 | j::js,e::rs=>Given p g H[j]? e/\zcN p g H js rs
 | [],[]=>True
 | _,_=>False
theorem zcM.length {big p g H}:∀ {js:List Nat} {rs:List (Nat × SO)},zcM big p g H js rs->rs.length=js.length
 | [],[],_=>rfl
 | _::_,_::_,h=>by simp only [List.length_cons]; rw [zcM.length h.2]
 | [],_::_,h=>h.elim
 | _::_,[],h=>h.elim
theorem zcM.get {big p g H}:∀ {js:List Nat} {rs:List (Nat × SO)},zcM big p g H js rs->∀ (i j:Nat),js[i]? = some j->∃ e,rs[i]? = some (big j,e)/\Given p g H[j]? e
 | [],[],_,i,j,h=>by simp at h
 | j'::js,x::rs,h,0,j,hE=>by simp at hE; subst hE; exact ⟨x.2,by simp [← h.1.1],h.1.2⟩
 | j'::js,x::rs,h,i+1,j,hE=>by
   obtain ⟨e,a,b⟩:=zcM.get h.2 i j (by simpa using hE)
   exact ⟨e,by simpa using a,b⟩
 | [],_::_,h,_,_,_=>h.elim
 | _::_,[],h,_,_,_=>h.elim
theorem zcN.length {p g H}:∀ {js:List Nat} {rs:List SO},zcN p g H js rs->rs.length=js.length
 | [],[],_=>rfl
 | _::_,_::_,h=>by simp only [List.length_cons]; rw [zcN.length h.2]
 | [],_::_,h=>h.elim
 | _::_,[],h=>h.elim
theorem zcN.get {p g H}:∀ {js:List Nat} {rs:List SO},zcN p g H js rs->∀ (i j:Nat),js[i]? = some j->∃ e,rs[i]? = some e/\Given p g H[j]? e
 | [],[],_,i,j,h=>by simp at h
 | j'::js,x::rs,h,0,j,hE=>by simp at hE; subst hE; exact ⟨x,by simp,h.1⟩
 | j'::js,x::rs,h,i+1,j,hE=>by
   obtain ⟨e,a,b⟩:=zcN.get h.2 i j (by simpa using hE)
   exact ⟨e,by simpa using a,b⟩
 | [],_::_,h,_,_,_=>h.elim
 | _::_,[],h,_,_,_=>h.elim
structure Ifc.Ends (I:Ifc) (base:Nat) (keep:List Nat) (r:zaz) (v:SV) (H:List SO):Prop where
 val:(v.ren (I.out base keep)).Imp r.v
 uv:v.uses (I.seen keep)=true
 sets:zcM I.big (I.seen keep) (I.out base keep) H (qdf I.ents 0) r.sets
 news:zcN (I.seen keep) (I.out base keep) H keep r.news
theorem Tree.Ob.mono {t:Tree} {D D':SV->List SO->Prop} {S:SS->Prop} (h:t.Ob D S) (hd:∀ v H,D v H->D' v H):t.Ob D' S:=by
 induction t with
 | done v H=>exact hd v H h
 | stop s=>exact h
 | need p t ih=>exact ⟨h.1,ih h.2⟩
 | fork b t f iht ihf=>exact ⟨fun hb=>iht (h.1 hb),fun hb=>ihf (h.2 hb)⟩
 | stuck n=>exact h
 | any k ih=>exact fun z=>ih z (h z)
theorem q9y {c:Cfg} (hc:zaw c) (n:Nat) {O:Nat->Prop} {w0 w:World} {β:Val} {H:List SO} {base:Nat} {f:FuncId} {vs:List Value} (hH:HeapRel0 c.P O w0 β H w)
  (I:Ifc) (hgl:∀ g j,c.glob g=some j->I.known j=true/\∃ l,β (I.big j)=some l/\l.blk=g/\l.off=0) (ha:SV.zak β (SV.zbA I.big I.args)=some vs) (hI:I.Fits H) {r:zaz} (keep:List Nat) (hk:∀ j∈keep,I.names.length<=j) (hkn:keep.Nodup)
  (hob:(qla c n f I.args I.ents).Ob (I.Ends base keep r) fun _=>False):qob c.P H β w base f vs r:=by
 refine qv8 hc (n:=n) hH I hgl ha hI (qdf I.ents 0) keep (fun j c w el h=>(qqh _ _ _).2 ⟨j,c,w,el,by omega,h⟩) (fun j hj => ?_) hk hkn (qkj _ _) ?_
 . obtain ⟨i,c,w,el,h,h'⟩:=(qqh _ _ _).1 hj;exact ⟨c,w,el,by rw [h,Nat.zero_add]; exact h'⟩
 . refine hob.mono fun v H' h=>⟨h.val,h.uv,h.sets.length,h.sets.get,h.news.length,h.news.get⟩
theorem j7f {c:Cfg} (hc:zaw c) (hgl:c.glob=fun _=>none) (n:Nat) {O:Nat->Prop} {w0 w:World} {β:Val} {H:List SO} {base:Nat} {f:FuncId} {vs:List Value} (hH:HeapRel0 c.P O w0 β H w)
  (I:Ifc) (ha:SV.zak β (SV.zbA I.big I.args)=some vs) (hI:I.Fits H) {r:zaz} (keep:List Nat) (hk:∀ j∈keep,I.names.length<=j) (hkn:keep.Nodup)
  (hob:(qla c n f I.args I.ents).Ob (I.Ends base keep r) fun _=>False):qob c.P H β w base f vs r :=
 q9y hc n hH I (fun g j h=>by rw [hgl] at h; cases h) ha hI keep hk hkn hob
theorem q6h {f:Nat->Nat} {c c0:Cells} {e:SO} (h:e=.row c0\/∃ w el,e=.own c0 w el) (hi:c0.zfM (c.ren f)):Taken f (.row c) e:=⟨c0,h,hi⟩
end
noncomputable section
variable {α β:Type}
theorem qw8 {b:Bool} {f g:R α} {φ:α->Prop} (h:b=true->f.Sat φ) (h':b=false->g.Sat φ):(zab b f g).Sat φ:=by cases b <;> first | exact h rfl | exact h' rfl
theorem qcb {b:Bool} {f:R α} {n:Nat} {φ:α->Prop} (h:b=true->f.Sat φ):(zab b f (.stuck n)).Sat φ:=qw8 h fun _=>trivial
theorem qca {o:Option β} {f:β->R α} {n:Nat} {φ:α->Prop} (h:∀ a,o=some a->(f a).Sat φ):(zah o (.stuck n) f).Sat φ:=by
 cases o with
 | none=>trivial
 | some a=>exact h a rfl
theorem qbv {b:Bool} {f:Option α} {s:α} (h:zab b f none=some s):b=true/\f=some s:=by
 cases b with
 | true=>exact ⟨rfl,h⟩
 | false=>cases h
theorem zh4 {o:Option β} {f:β->Option α} {s:α} (h:zah o none f=some s):∃ a,o=some a/\f a=some s:=by
 cases o with
 | none=>cases h
 | some a=>exact ⟨a,rfl,h⟩
theorem qz5 {b:Bool} {f g:Option α} {s:α} (h:zab b f g=some s):(b=true/\f=some s)\/g=some s:=by
 cases b with
 | true=>exact .inl ⟨rfl,h⟩
 | false=>exact .inr h
theorem zij {x y:Int} (h:eqI x y=true):x=y:=by rw [qyk] at h; simpa using h
theorem jgb {x y:Nat} (h:Nat.beq x y=true):x=y:=Nat.eq_of_beq_eq_true h
theorem qaz {k k':IntKind} (h:eqK k k'=true):k=k':=by cases k <;> cases k' <;> first | rfl | cases h
def bx (l:List (BitVec 8)):List SV:=zar (fun x=>.int .u8 (.b8 x)) l
def lx (l:List Int):List SV:=zar (fun x=>.int .u8 (.lit x)) l
theorem jhb {v:SV} {x:BitVec 8} (h:zcZ v=some x):∃ n,v=.int .u8 n/\si8 n=some x:=by
 unfold zcZ at h;rcases qve v with ⟨k,n,rfl⟩ | hv
 . obtain ⟨hk,h⟩:=qbv (show zab (eqK k .u8) (si8 n) none=some x from h)
   rw [qaz hk]; exact ⟨n,rfl,h⟩
 . rw [hv] at h; cases h
theorem jib {v:SV} {x:BitVec 8} (h:zcZ v=some x):v.Imp (.int .u8 (.b8 x)):=by
 obtain ⟨n,rfl,hn⟩:=jhb h;intro γ y hy;have hy:some (Value.int .u8 n.den)=some y:=hy;rw [qnq hn] at hy; exact hy
theorem qja {v u:SV} {l m:List SV} (h:v.Imp u) (h':SV.zfL l m):SV.zfL (v::l) (u::m):=by
 intro γ vs hv;obtain ⟨x,ys,a,b,rfl⟩:=zad.1 hv;exact zad.2 ⟨x,ys,h _ _ a,h' _ _ b,rfl⟩
theorem qsb:SV.zfL [] []:=.refl _
def zgE (v:SV):Option Int:=v.asInt none fun k n=>zab (eqK k .u8) (n.zba none some) none
theorem jdo {v:SV} {x:Int} (h:zgE v=some x):v=.int .u8 (.lit x):=by
 unfold zgE at h;rcases qve v with ⟨k,n,rfl⟩ | hv
 . obtain ⟨hk,h⟩:=qbv (show zab (eqK k .u8) (n.zba none some) none=some x from h)
   rw [qaz hk];cases n <;> first | (cases h; rfl) | cases h
 . rw [hv] at h; cases h
def preLit (T:List Int):List SV->Bool :=
 List.rec (motive:=fun _=>List SV->Bool) (fun _=>true) (fun t _ ih l=>List.rec (motive:=fun _=>Bool) false (fun v r _=>zah (zgE v) false fun x=>zab (eqI x t) (ih r) false) l) T
def q2f (args:List SV) (f:SV->R α):R α:=List.rec (motive:=fun _=>R α) (.stuck 700) (fun v r _=>List.rec (motive:=fun _=>R α) (f v) (fun _ _ _=>.stuck 700) r) args
def qke (args:List SV) (f:SV->SV->R α):R α:=List.rec (motive:=fun _=>R α) (.stuck 700) (fun v r _=>q2f r (f v)) args
def qrh (args:List SV) (f:SV->SV->SV->R α):R α:=List.rec (motive:=fun _=>R α) (.stuck 700) (fun v r _=>qke r (f v)) args
theorem qed {args:List SV} {f:SV->R α} {φ:α->Prop} (h:∀ v,args=[v]->(f v).Sat φ):(q2f args f).Sat φ:=by
 match args,h with
 | [],_=>trivial
 | [v],h=>exact h v rfl
 | _::_::_,_=>trivial
theorem qvc {args:List SV} {f:SV->SV->R α} {φ:α->Prop} (h:∀ v u,args=[v,u]->(f v u).Sat φ):(qke args f).Sat φ:=by
 cases args with
 | nil=>trivial
 | cons v r=>exact qed fun u hu=>h v u (by rw [hu])
theorem qxd {args:List SV} {f:SV->SV->SV->R α} {φ:α->Prop} (h:∀ v u x,args=[v,u,x]->(f v u x).Sat φ):(qrh args f).Sat φ:=by
 cases args with
 | nil=>trivial
 | cons v r=>exact qvc fun u x hu=>h v u x (by rw [hu])
theorem qfd {H:List SO} {args:List SV} (hu:SV.za5 (Ifc.known ⟨[],[],args⟩) args=true):Ifc.Fits ⟨[],[],args⟩ H:=Ifc.fits (by simp) hu trivial
theorem jee {I:Ifc} {base:Nat} {v:SV} {H:List SO} (ho:qdf I.ents 0=[]) (h:v=v.ren (I.out base [])) (hu:v.uses (I.seen [])=true):I.Ends base [] ⟨v,[],[]⟩ v H :=
 ⟨SV.za9 h.symm,hu,by rw [ho]; trivial,trivial⟩
end
noncomputable section
variable {α:Type}
def qus (v:SV) (nil:R α) (f:SA->SN->R α):R α :=
 SV.rec (motive_1:=fun _=>R α) (motive_2:=fun _=>Unit) (fun _ _=>.stuck 713) (fun _=>.stuck 713) (fun _=>.stuck 713) (fun _=>.stuck 713) (.stuck 713) (fun a l _=>f a l) nil (fun _=>.stuck 713) (.stuck 713) (fun _ _ _ _ _=>.stuck 713) (.stuck 713) (fun _ _ _=>.stuck 713) (.stuck 713) (fun _ _=>.stuck 713) (fun _ _=>.stuck 713) (fun _=>.stuck 713) (fun _ _ _ _=>.stuck 713) () (fun _ _ _ _=>()) v
theorem qko {γ:Val} {a:SA} {l:SN} {c:SC} {x:Value} (h:(SV.slice a l c).den γ=some x):∃ m,l.den<=m/\(SV.slice ⟨a.nm,.sym a.off.den⟩ (.sym l.den) (.sym m)).den γ=some x/\(SV.slice ⟨a.nm,.sym a.off.den⟩ l (.sym m)).den γ=some x/\(SV.slice a l (.sym m)).den γ=some x:=by
 simp only [SV.den,Option.bind_eq_some_iff] at h;obtain ⟨y,hy,m,hm,hs⟩:=h;unfold qbn at hs;have hl:l.den<=m:=by
  by_cases h:l.den<=m
  . exact h
  . rw [if_neg h] at hs; cases hs
 have hy':(⟨a.nm,.sym a.off.den⟩:SA).den γ=some y:=hy;refine ⟨m,hl,?_,?_,?_⟩
 . simp only [SV.den,Option.bind_eq_some_iff];exact ⟨y,hy',m,rfl,hs⟩
 . simp only [SV.den,Option.bind_eq_some_iff];exact ⟨y,hy',m,rfl,hs⟩
 . simp only [SV.den,Option.bind_eq_some_iff];exact ⟨y,hy,m,rfl,hs⟩
theorem qnm {v:SV} {nil:R α} {f:SA->SN->R α} {φ:α->Prop} (h0:v=.zac->nil.Sat φ) (h:∀ a l c,v=.slice a l c->(f a l).Sat φ):(qus v nil f).Sat φ:=by
 cases v <;> first | trivial | exact h0 rfl | exact h _ _ _ rfl
end
end Go.Sim
namespace Go.Proofs.YtbhlngmhgplepaaDoor.Aes
noncomputable section
open Go.Sim
open Go.Proofs
variable {α:Type}
theorem qx8:zd2 Tryd.prog:=by
 refine ⟨?_,by kernel_rfl⟩
 have h:(Tryd.prog.funcs.all fun fn => !(fn.body.isSome && fn.name == "runtime.NumGoroutine"))=true:=by kernel_rfl
 intro f fn hf hb;have:=Array.all_eq_true'.1 h fn (Array.mem_of_getElem? hf);rw [hb] at this;simpa using this
def cfgG (glob:Nat->Option Nat) (s:FuncId->Option zaR):Cfg:={ P:=Tryd.prog,glob:=glob,sums:=s,zeW:=none }
def qyb (s:FuncId->Option zaR):Cfg:=cfgG (fun _=>none) s
def q2b (l:List (FuncId × zaR)):FuncId->Option zaR:=List.rec (motive:=fun _=>FuncId->Option zaR) (fun _=>none) (fun a _ ih f=>zab (Nat.beq f a.1) (some a.2) (ih f)) l
theorem qbz {glob:Nat->Option Nat}:∀ {l:List (FuncId × zaR)},(∀ x∈l,qq5 Tryd.prog glob x.1 x.2)->zaw (cfgG glob (q2b l))
 | [],_=>⟨qx8,fun _ _ h=>(by cases h),fun _ _ h=>by cases h⟩
 | a::l,hl=>⟨qx8,fun f s h=>by
   rcases qz5 (show zab (Nat.beq f a.1) (some a.2) (q2b l f)=some s from h) with ⟨hf,h⟩ | h
   . cases h; rw [jgb hf]; exact hl a List.mem_cons_self
   . exact (qbz (l:=l) fun x hx=>hl x (List.mem_cons_of_mem _ hx)).sums f s h,fun _ _ h=>by cases h⟩
theorem qdc {l:List (FuncId × zaR)} (h:∀ x∈l,q2a Tryd.prog x.1 x.2):zaw (qyb (q2b l)):=qbz fun x hx=>h x hx _
theorem all1 {x:FuncId × zaR} (h:q2a Tryd.prog x.1 x.2):∀ y∈[x],q2a Tryd.prog y.1 y.2:=by simpa using h
theorem zb2 {x:FuncId × zaR} {l:List (FuncId × zaR)} (h:q2a Tryd.prog x.1 x.2) (h':∀ y∈l,q2a Tryd.prog y.1 y.2):∀ y∈x::l,q2a Tryd.prog y.1 y.2:=by
 intro y hy;rcases List.mem_cons.1 hy with rfl | hy
 . exact h
 . exact h' y hy
def cfg0:Cfg:=qyb (q2b [])
theorem qy8:zaw cfg0:=qdc (by simp)
end
noncomputable section
open Go.Sim
open Go.Proofs
variable {α:Type}
def zbH (v:SV):Option zbg :=
 SV.rec (motive_1:=fun _=>Option zbg) (motive_2:=fun _=>Unit) (fun _ _=>none) (fun _=>none) (fun s=>some s) (fun _=>none) none (fun _ _ _=>none) none (fun _=>none) none (fun _ _ _ _ _=>none) none (fun _ _ _=>none) none (fun _ _=>none) (fun _ _=>none) (fun _=>none) (fun _ _ _ _=>none) () (fun _ _ _ _=>()) v
theorem qua {v:SV} {s:zbg} (h:zbH v=some s):v=.str s:=by
 cases v <;> first | (cases h; done) | (cases h; rfl)
def zib (s:zbg) (v:SV) (n:Int):SI:=zbg.rec (motive:=fun _=>SI) (fun _=>zah (zgE v) (.sym n) fun _=>.lit n) (fun _=>.sym n) (fun _=>.sym n) s
theorem jjb (s:zbg) (v:SV) (n:Int):(zib s v n).den=n:=by
 unfold zib;cases s with
 | lit s =>
   show (zah (zgE v) (SI.sym n) fun _=>.lit n).den=n;cases zgE v <;> rfl
 | sym=>rfl
 | bytes=>rfl
def zeQ:zaR:=fun args _ _=>qke args fun s v=>zah (zbH s) (.stuck 680) fun s=>zah (zcZ v) (.stuck 680) fun x=>.ok ⟨.int .i64 (zib s v (firstIdx s.den x.toNat.toUInt8)),[],[]⟩
set_option maxRecDepth 1000000
theorem jkb:∃ fn,Tryd.prog.funcs[109]? = some fn/\(fn.name == "runtime.NumGoroutine")=false/\fn.body.isNone=true/\Extern.findNext fn=none/\Extern.find fn=some Extern.BytealgIndexByte.indexByte:=⟨_,rfl,by kernel_rfl,by kernel_rfl,by kernel_rfl,by kernel_rfl⟩
theorem qww:q2a Tryd.prog 109 zeQ:=by
 intro glob O w0 β H w base args vs hH hG ha;refine qvc fun v1 v2 hv=>qca fun s hs=>qca fun x hx => ?_
 rw [hv,qua hs] at ha;have ha:=qja (.refl _) (qja (jib hx) qsb) _ _ ha;cases ha;intro hfree;refine ⟨by simp,.inr ?_⟩
 obtain ⟨fn,h1,h2,h3,h4,h5⟩:=jkb;refine ⟨.int .i64 (firstIdx s.den x.toNat.toUInt8),w,β,?_,by show some (Value.int .i64 (zib s v2 _).den)=_; rw [jjb],Eff.refl _ _ _ _⟩
 rw [run_callFunc_extern h1 h2 h3 h4 h5];show ((Extern.BytealgIndexByte.indexByte #[.string s.den,.int .u8 (x.toNat:Int)]).run Tryd.prog w).andThen _=_;rw [run_indexByte_string];rfl
def zcb:Cfg:=qyb (q2b [(109,zeQ)])
theorem q7h:zaw zcb:=qdc (all1 qww)
end
end Go.Proofs.YtbhlngmhgplepaaDoor.Aes
namespace Go.Sim
noncomputable section
open Go.RowKit
variable {α:Type}
theorem zf9 {P:Program} {w:World} {r:Reach} {base t e:Nat} {a:Option Addr} {len cap:Nat} (ht:P.underlying t=some (.slice e)) (h:Value.okWide P w r base t (.slice a len cap)):∀ x,a=some x->x.spot=none:=by
 rintro x rfl;simp only [Value.okWide,ht,Cell.okWide,Cell.ok] at h;exact h.2.2.2.1
theorem q05 {c:Cfg} (hc:zaw c) (n:Nat) {w:World} {β:Val} {H:List SO} {f:FuncId} {args:List SV} {vs:List Value} (hH:zae c.P (fun _=>False) w β H w) (hG:zaC c.glob β) (ha:SV.zak β args=some vs)
  (hob:(qla c n f args H).Ob (fun v _=>v=.bool (.lit true)) fun _=>False):Calls c.P f vs.toArray w fun e w'=>e=.returned (.bool true)/\Below w.heap.size w w':=by
 refine (qyq hc hH hG ha hob).mono fun e w' zbI => ?_
 obtain ⟨v,H',x,β',rfl,rfl,_,hv,hH'⟩:=zbI;cases hv;exact ⟨rfl,hH'.keep.below⟩
def zaP (js:List Nat) (t:Tree):List Bool->List Prop × Option (SV × List (Option SO)) :=
 Tree.rec (motive:=fun _=>List Bool->List Prop × Option (SV × List (Option SO))) (fun v H _=>([],some (v,zar (fun j=>nth H j) js))) (fun _ _=>([],none)) (fun p _ ih ds=>(p::(ih ds).1,(ih ds).2))
  (fun b _ _ iht ihf ds=>List.rec (motive:=fun _=>List Prop × Option (SV × List (Option SO))) ([],none) (fun d r _=>((b=d)::(zab d (iht r) (ihf r)).1,(zab d (iht r) (ihf r)).2)) ds) (fun _ _=>([],none)) (fun _ _ _=>([],none)) t
theorem q5a {js:List Nat} {t:Tree} {ds:List Bool} {ps:List Prop} {v:SV} {es:List (Option SO)} (h:zaP js t ds=(ps,some (v,es))) (hp:∀ p∈ps,p) {D:SV->List SO->Prop} {S:SS->Prop} (hD:∀ H:List SO,js.map (fun j=>H[j]?)=es->D v H):t.Ob D S:=by
 induction t generalizing ps ds with
 | done v' H =>
   have h':([],some (v',zar (fun j=>nth H j) js))=(ps,some (v,es)):=h;have h1:=Option.some.inj (Prod.mk.inj h').2;obtain ⟨h2,h3⟩:=Prod.mk.inj h1;subst h2;refine hD H ?_
   rw [q1a] at h3;rw [← h3];exact List.map_congr_left fun j _=>(qea H j).symm
 | stop=>cases (Prod.mk.inj (show ([],none)=(ps,some (v,es)) from h)).2
 | need p t ih =>
   have h':(p::(zaP js t ds).1,(zaP js t ds).2)=(ps,some (v,es)):=h;obtain ⟨h1,h2⟩:=Prod.mk.inj h';subst h1;exact ⟨hp p List.mem_cons_self,ih (ds:=ds) (ps:=(zaP js t ds).1) (by rw [← h2]) fun q hq=>hp q (List.mem_cons_of_mem _ hq)⟩
 | fork b t f iht ihf =>
   cases ds with
   | nil=>cases (Prod.mk.inj (show ([],none)=(ps,some (v,es)) from h)).2
   | cons d r =>
     have h':((b=d)::(zab d (zaP js t r) (zaP js f r)).1,(zab d (zaP js t r) (zaP js f r)).2)=(ps,some (v,es)):=h;obtain ⟨h1,h2⟩:=Prod.mk.inj h';subst h1;have hb:=hp _ List.mem_cons_self;cases d with
     | true=>exact ⟨fun _=>iht (ds:=r) (ps:=(zaP js t r).1) (by rw [← h2]; rfl) fun q hq=>hp q (List.mem_cons_of_mem _ hq),fun hf=>by rw [hf] at hb; cases hb⟩
     | false=>exact ⟨fun ht=>(by rw [ht] at hb; cases hb),fun _=>ihf (ds:=r) (ps:=(zaP js f r).1) (by rw [← h2]; rfl) fun q hq=>hp q (List.mem_cons_of_mem _ hq)⟩
 | stuck=>cases (Prod.mk.inj (show ([],none)=(ps,some (v,es)) from h)).2
 | any=>cases (Prod.mk.inj (show ([],none)=(ps,some (v,es)) from h)).2
def zc1 (js:List Nat) (t:Tree):List Bool->(Nat->Nat->Nat)->List Prop × Option (SV × List (Option SO)) :=
 Tree.rec (motive:=fun _=>List Bool->(Nat->Nat->Nat)->List Prop × Option (SV × List (Option SO))) (fun v H _ _=>([],some (v,zar (fun j=>nth H j) js))) (fun _ _ _=>([],none)) (fun p _ ih ds z=>(p::(ih ds z).1,(ih ds z).2))
  (fun b _ _ iht ihf ds z=>List.rec (motive:=fun _=>List Prop × Option (SV × List (Option SO))) ([],none) (fun d r _=>((b=d)::(zab d (iht r z) (ihf r z)).1,(zab d (iht r z) (ihf r z)).2)) ds) (fun _ _ _=>([],none)) (fun _ ih ds z=>ih (z 0) ds fun i=>z (i+1)) t
theorem q3d {c:Cfg} (hc:zaw c) (hgl:c.glob=fun _=>none) (n:Nat) {O:Nat->Prop} {w0 w:World} {β:Val} {H:List SO} {base:Nat} {f:FuncId} {vs:List Value} (hH:HeapRel0 c.P O w0 β H w)
  (I:Ifc) (ha:SV.zak β (SV.zbA I.big I.args)=some vs) (hI:I.Fits H) {r:zaz} (keep:List Nat) (hk:∀ j∈keep,I.names.length<=j) (hkn:keep.Nodup)
  {js:List Nat} {ds:List Bool} {ps:List Prop} {v:SV} {es:List (Option SO)} (h:zaP js (qla c n f I.args I.ents) ds=(ps,some (v,es))) (hp:∀ p∈ps,p) (hD:∀ H2:List SO,js.map (fun j=>H2[j]?)=es->I.Ends base keep r v H2):qob c.P H β w base f vs r :=
 j7f hc hgl n hH I ha hI keep hk hkn (q5a h hp hD)
theorem qaa:∀ p∈([]:List Prop),p:=by simp
theorem zaa {p:Prop} {ps:List Prop} (h:p) (hs:∀ q∈ps,q):∀ q∈p::ps,q:=by
 intro q hq;rcases List.mem_cons.1 hq with rfl | hq
 . exact h
 . exact hs q hq
theorem j0k {c:Cfg} (hc:zaw c) (n:Nat) {w:World} {β:Val} {H:List SO} {f:FuncId} {args:List SV} {vs:List Value} (hH:zae c.P (fun _=>False) w β H w) (hG:zaC c.glob β) (ha:SV.zak β args=some vs) (ds:List Bool)
  {ps:List Prop} (h:zaP [] (qla c n f args H) ds=(ps,some (.bool (.lit true),[]))) (hp:∀ p∈ps,p):Calls c.P f vs.toArray w fun e w'=>e=.returned (.bool true)/\Below w.heap.size w w' :=
 q05 hc n hH hG ha (by generalize qla c n f args H=t at h ⊢; exact q5a h hp fun _ _=>rfl)
theorem qz8:∀ n k:Nat,qsa n k=List.range' k n:=by
 intro n;induction n with
 | zero=>intro k; rfl
 | succ n ih=>intro k; show k::qsa n (k+1)=_; rw [ih]; rfl
end
noncomputable section
variable {α:Type}
structure SP where
 fn:FuncId
 tmps:List (Option SV)
 todo:List zaM
 defers:List SD
 roundOf:Option Nat
inductive HP where
 | ent (e:SO)
 | loop (state:LoopState) (pending:Option Code) (fn:FuncId) (tmps:List (Option SV)) (params:Array Tmp) (assign body:Code) (defers:Nat)
structure Cut where
 frames:List SP
 heap:List HP
structure zaW where
 fr:Nat->Nat->Value
 hp:Nat->Nat->Value
def q15 (js:Nat->Value) (T:List (Option SV)):Nat->List SV :=
 List.rec (motive:=fun _=>Nat->List SV) (fun _=>[]) (fun o _ ih k=>zah o (.val (js k)) (fun v=>v)::ih (Nat.succ k)) T
def SP.fill (js:Nat->Value) (p:SP):SF:=⟨p.fn,q15 js p.tmps 0,p.todo,p.defers,p.roundOf⟩
def q08 (J:Nat->Nat->Value) (l:List SP):Nat->List SF:=List.rec (motive:=fun _=>Nat->List SF) (fun _=>[]) (fun p _ ih i=>p.fill (J i)::ih (Nat.succ i)) l
def HP.fill (js:Nat->Value) (E:HP):SO:=HP.rec (motive:=fun _=>SO) (fun e=>e) (fun s p f T ps a b d=>.loop s p f (q15 js T 0) ps a b d) E
def qlj (J:Nat->Nat->Value) (l:List HP):Nat->List SO:=List.rec (motive:=fun _=>Nat->List SO) (fun _=>[]) (fun p _ ih i=>p.fill (J i)::ih (Nat.succ i)) l
def Cut.fill (J:zaW) (C:Cut):SS:=⟨q08 J.fr C.frames 0,qlj J.hp C.heap 0⟩
def zaM.ren (f:Nat->Nat):zaM->zaM
 | .zfq n=>.zfq (f n)
 | .zes n=>.zes (f n)
 | x=>x
def SD.ren (f:Nat->Nat):SD->SD
 | .coll n=>.coll (f n)
 | .call g xs ys=>.call (g.ren f) (SV.zbA f xs) (SV.zbA f ys)
theorem zcd.ren {β:Val} (f:Nat->Nat) {x:zaM} {y:Item} (h:zcd β (x.ren f) y):zcd (fun n=>β (f n)) x y:=by
 cases x <;> cases y <;> exact h
theorem za3.ren {β:Val} (f:Nat->Nat):∀ {x:List zaM} {y:List Item},za3 β (x.map (zaM.ren f)) y->za3 (fun n=>β (f n)) x y
 | [],[],_=>trivial
 | _::_,_::_,h=>⟨zcd.ren f h.1,za3.ren f h.2⟩
 | [],_::_,h=>h.elim
 | _::_,[],h=>h.elim
theorem SD.zaF (f:Nat->Nat) (β:Val) (d:SD):(d.ren f).den β=d.den (fun n=>β (f n)):=by
 cases d with
 | coll n=>rfl
 | call g xs ys=>simp only [SD.ren,SD.den,SFn.zaF,SV.zaL]
theorem SD.zaL (f:Nat->Nat) (β:Val):∀ l:List SD,SD.zak β (l.map (SD.ren f))=SD.zak (fun n=>β (f n)) l
 | []=>rfl
 | d::l=>by simp only [List.map_cons,SD.zak,SD.zaF,SD.zaL f β l]
def zgX (f:Nat->Nat):List SV->List (Option SV)->Prop
 | v::vs,some u::us=>v.Imp (u.ren f)/\zgX f vs us
 | _::vs,none::us=>zgX f vs us
 | [],[]=>True
 | _,_=>False
structure GenF (f:Nat->Nat) (s:SF) (p:SP):Prop where
 fn:s.fn=p.fn
 tmps:zgX f s.tmps p.tmps
 todo:s.todo=p.todo.map (zaM.ren f)
 defers:s.defers=p.defers.map (SD.ren f)
 roundOf:s.roundOf=p.roundOf.map f
def qxw (f:Nat->Nat):List SF->List SP->Prop
 | s::ss,p::ps=>GenF f s p/\qxw f ss ps
 | [],[]=>True
 | _,_=>False
def zis (f:Nat->Nat) (e:Option SO) (E:HP):Prop :=
 match E with
 | .ent (.own c w el)=>∃ c0,e=some (.own c0 w el)/\c0.Imp (c.ren f)
 | .ent (.row c)=>∃ c0,e=some (.row c0)/\c0.Imp (c.ren f)
 | .ent (.deferred ds)=>e=some (.deferred (ds.map (List.map (SD.ren f))))
 | .ent (.obj o)=>∃ o0,e=some (.obj o0)/\o0.Imp (o.ren f)
 | .ent .gone=>True
 | .ent (.mem m)=>∃ m0,e=some (.mem m0)/\m.le m0
 | .ent (.loop ..)=>False
 | .loop s p g T ps a b d=>∃ T0,e=some (.loop s p g T0 ps a b (f d))/\zgX f T0 T
def q9b (names:List Nat) (N j:Nat):Nat:=zah (nth names j) (Nat.add N j) fun n=>n
structure Gen (k0:Nat) (s:SS) (C:Cut) (names:List Nat):Prop where
 keep:∀ j,j<k0->names[j]? = some j
 nodup:names.Nodup
 len:names.length=C.heap.length
 frames:qxw (q9b names s.heap.length) s.frames C.frames
 heap:∀ j E,C.heap[j]? = some E->zis (q9b names s.heap.length) s.heap[q9b names s.heap.length j]? E
structure zeF (k0:Nat) (B:Base):Prop where
 fix:∀ n,k0<=n->B.fix n=none
 glob:∀ g nm,B.glob g=some nm->nm<k0
theorem q7j {β β':Val} {f:Nat->Nat} (hβ:β'=fun n=>β (f n)) {js:Nat->Value}:∀ {vs:List SV} {T:List (Option SV)} {xs:List Value} {o:Nat},SV.zak β vs=some xs->zgX f vs T->(∀ k x,xs[k]? = some x->js (o+k)=x)->SV.zak β' (q15 js T o)=some xs
 | [],[],xs,o,h,_,_=>h
 | v::vs,u::us,xs,o,h,hg,hj=>by
   obtain ⟨y,ys,hy,hys,rfl⟩:=zad.1 h;have hj':∀ k x,ys[k]? = some x->js (o+1+k)=x:=fun k x hk=>by
    rw [show o+1+k=o+(k+1) from by omega]; exact hj (k+1) x (by simpa using hk)
   cases u with
   | some u =>
     refine zad.2 ⟨y,ys,?_,q7j hβ hys hg.2 hj',rfl⟩;show u.den β'=_;rw [hβ,← SV.zaF]; exact hg.1 _ _ hy
   | none =>
     refine zad.2 ⟨y,ys,?_,q7j hβ hys hg hj',rfl⟩;show some (js o)=_;rw [show o=o+0 from rfl,hj 0 y rfl]
 | [],_::_,_,_,_,h,_=>h.elim
 | _::_,[],_,_,_,h,_=>h.elim
theorem qcv {names:List Nat} {N j:Nat} (h:j<names.length):names[j]? = some (q9b names N j):=by
 unfold q9b;rw [qea,List.getElem?_eq_getElem h]; rfl
theorem q18 {names:List Nat} {N j:Nat} (h:names.length<=j):q9b names N j=N+j:=by
 unfold q9b;rw [qea,List.getElem?_eq_none h]; rfl
theorem qvs (J:Nat->Nat->Value):∀ (l:List HP) (o i:Nat),(qlj J l o)[i]? = l[i]?.map (HP.fill (J (o+i)))
 | [],_,_=>by simp [qlj]
 | _::_,_,0=>rfl
 | _::l,o,i+1=>by
   show (qlj J l (o+1))[i]? = _;rw [qvs J l (o+1) i,show o+1+i=o+(i+1) from by omega]; simp
theorem q9m (J:Nat->Nat->Value):∀ (l:List HP) (o:Nat),(qlj J l o).length=l.length
 | [],_=>rfl
 | _::l,o=>congrArg (· + 1) (q9m J l (o+1))
theorem HP.zcf {f:Nat->Nat} {js:Nat->Value} {e:Option SO} {E:HP} (h:zis f e E) (ho:(E.fill js).owned=true):∃ e0,e=some e0/\e0.owned=true:=by
 cases E with
 | ent E =>
   cases E with
   | own c w el=>obtain ⟨c0,rfl,_⟩:=h; exact ⟨_,rfl,rfl⟩
   | row c=>cases ho
   | loop=>exact h.elim
   | deferred ds=>have h:e=_:=h; subst h; exact ⟨_,rfl,rfl⟩
   | gone=>cases ho
   | mem m=>obtain ⟨m0,rfl,_⟩:=h; exact ⟨_,rfl,rfl⟩
   | obj o=>obtain ⟨o0,rfl,_⟩:=h; exact ⟨_,rfl,rfl⟩
 | loop s p g T ps a b d=>obtain ⟨T0,rfl,_⟩:=h; exact ⟨_,rfl,rfl⟩
theorem q9k {β β':Val} {f:Nat->Nat} (hβ:β'=fun n=>β (f n)) {J:Nat->Nat->Value}:∀ {ss:List SF} {ps:List SP} {fs:List Frame} {o:Nat},zat β ss fs->qxw f ss ps->(∀ i fr,fs[i]? = some fr->∀ k x,fr.tmps.toList[k]? = some x->J (o+i) k=x)->zat β' (q08 J ps o) fs
 | [],[],[],o,_,_,_=>trivial
 | s::ss,p::ps,fr::fs,o,h,hg,hj=>by
   have h0:=hj 0 fr rfl;refine ⟨?_,q9k hβ h.2 hg.2 fun i fr' hi k x hk => ?_⟩
   . obtain ⟨h1,h2,h3,h4,h5,h6,h7⟩:=h.1;obtain ⟨g1,g2,g3,g4,g5⟩:=hg.1;refine ⟨h1.trans g1,?_,?_,?_,h5,h6,?_⟩
     . exact q7j hβ h2 g2 fun k x hk=>by rw [Nat.zero_add]; exact h0 k x hk
     . rw [hβ]; rw [g3] at h3; exact za3.ren f h3
     . show SD.zak β' p.defers=_;rw [hβ,← SD.zaL,← g4]; exact h4
     . show zcx β' p.roundOf fr.roundOf;rw [hβ];rw [g5] at h7;cases hp:p.roundOf <;> cases hr:fr.roundOf <;> rw [hp,hr] at h7 <;> exact h7
   . rw [show o+1+i=o+(i+1) from by omega]
     exact hj (i+1) fr' (by simpa using hi) k x hk
 | [],_::_,_,_,_,h,_=>h.elim
 | _::_,[],_,_,_,h,_=>h.elim
 | [],[],_::_,_,h,_,_=>h.elim
 | _::_,_::_,[],_,h,_,_=>h.elim
theorem Cells.zaF (f:Nat->Nat) {β:Val} {c:Cells} {vs:List Value} (h:zaj β (c.ren f) vs):zaj (fun n=>β (f n)) c vs:=by
 cases c with
 | lst l =>
   have h:SV.zak β (SV.zbA f l)=some vs:=h;rw [SV.zaL] at h; exact h
 | fn g n =>
   obtain ⟨h1,h2⟩:=h;refine ⟨h1,fun i x hx => ?_⟩;have:=h2 i x hx;rw [SV.zaF] at this; exact this
 | raw V n=>exact h
theorem j8f {B:Base} {k0:Nat} (hB:zeF k0 B) {s:SS} {C:Cut} {names:List Nat} (h:Gen k0 s C names) {m:Machine} (hM:zd5 B s m):∃ J,zd5 B (C.fill J) m:=by
 obtain ⟨β,fr,frs,w,rfl,hFs,hH,hG,hl⟩:=hM.ex;obtain ⟨hkeep,hnd,hlen,hgf,hgh⟩:=h;generalize hf:q9b names s.heap.length=f at hgf hgh;have hlt:∀ j,j<names.length->names[j]? = some (f j):=fun j hj=>by rw [← hf]; exact qcv hj
 have hge:∀ j,names.length<=j->f j=s.heap.length+j:=fun j hj=>by rw [← hf]; exact q18 hj
 have hid:∀ j,j<k0->f j=j:=fun j hj=>by
  have h1:=hkeep j hj;have h2:=(List.getElem?_eq_some_iff.1 h1).1;rw [hlt j h2] at h1; exact Option.some.inj h1
 have hinj:∀ i j,i<names.length->j<names.length->f i=f j->i=j:=fun i j hi hj he=>by
  have h1:=hlt i hi;have h2:=hlt j hj;rw [he] at h1;exact (List.getElem?_inj hi hnd).1 (h1.trans h2.symm)
 let J:zaW:=⟨fun i k=>(((fr::frs)[i]?).bind fun g=>g.tmps.toList[k]?).getD undef,fun j k=>((β (f j)).bind fun l=>match w.heap[l.blk]? with | some (.loop r)=>r.tmps.toList[k]? | _=>none).getD undef⟩
 have hent:∀ j e,(qlj J.hp C.heap 0)[j]? = some e->∃ E:HP,C.heap[j]? = some E/\e=E.fill (J.hp j):=fun j e he=>by
  rw [qvs,Nat.zero_add] at he;cases hE:C.heap[j]? with
  | none=>rw [hE] at he; cases he
  | some E=>rw [hE] at he; exact ⟨E,rfl,(Option.some.inj he).symm⟩
 have hjl:∀ j E,C.heap[j]? = some E->j<names.length:=fun j E h=>by rw [hlen]; exact (List.getElem?_eq_some_iff.1 h).1
 refine ⟨J,⟨fun n=>β (f n),fr,frs,w,rfl,?_,⟨⟨?_,?_,?_,hH.keep,?_,?_⟩,?_⟩,⟨?_,?_⟩,hl⟩⟩
 . refine q9k rfl hFs hgf fun i g hi k x hk => ?_
   show (((fr::frs)[0+i]?).bind fun g=>g.tmps.toList[k]?).getD undef=x;rw [Nat.zero_add,hi];show (g.tmps.toList[k]?).getD undef=x;rw [hk]; rfl
 . intro j e he;obtain ⟨E,hE,rfl⟩:=hent j e he;have hg:=hgh j E hE;have hold:=hH.entries (f j);cases E with
   | ent E =>
     cases E with
     | own c wh el =>
       obtain ⟨c0,h1,hi⟩:=hg;obtain ⟨l,vs,rest,lo,hi2,hl2,h0,hc,hh,hz,hw,hcap⟩:=hold _ h1;exact ⟨l,vs,rest,lo,hi2,hl2,h0,Cells.zaF f (hi _ _ hc),hh,hz,hw,hcap⟩
     | row c =>
       obtain ⟨c0,h1,hi⟩:=hg;obtain ⟨l,vs,hl2,hc,hx⟩:=hold _ h1;exact ⟨l,vs,hl2,Cells.zaF f (hi _ _ hc),hx⟩
     | loop=>exact hg.elim
     | deferred ds =>
       obtain ⟨l,ds',hl2,hd,hh⟩:=hold _ hg;refine ⟨l,ds',hl2,?_,hh⟩;cases ds with
       | none=>exact hd
       | some ds =>
         have hd:(SD.zak β (ds.map (SD.ren f))).map some=some ds':=hd;rw [SD.zaL] at hd; exact hd
     | gone=>trivial
     | mem m=>obtain ⟨m0,h1,_⟩:=hg; exact hold _ h1
     | obj o =>
       obtain ⟨o0,h1,hi⟩:=hg;obtain ⟨l,x,hl2,h0,hd,hh⟩:=hold _ h1;refine ⟨l,x,hl2,h0,?_,hh⟩;rw [← za7.zaF];exact hi _ _ hd
   | loop st p g T ps a b d =>
     obtain ⟨T0,h1,hT⟩:=hg;obtain ⟨l,ld,Ts,hl2,hd,hTs,hh⟩:=hold _ h1;refine ⟨l,ld,Ts,hl2,hd,?_,hh⟩;refine q7j rfl hTs hT fun k x hk => ?_
     show ((β (f j)).bind fun l=>_).getD undef=x;rw [hl2];simp only [Option.bind_some,hh,Nat.zero_add,hk];rfl
 . intro i j e e' l l' hi hj ho ho' hij hl1 hl2;obtain ⟨E,hE,rfl⟩:=hent i e hi;obtain ⟨E',hE',rfl⟩:=hent j e' hj;obtain ⟨e0,h1,h2⟩:=HP.zcf (hgh i E hE) ho;obtain ⟨e1,h3,h4⟩:=HP.zcf (hgh j E' hE') ho';exact hH.sep (f i) (f j) e0 e1 l l' h1 h3 h2 h4 (fun he=>hij (hinj i j (hjl i E hE) (hjl j E' hE') he)) hl1 hl2
 . intro j e l he ho hl1;obtain ⟨E,hE,rfl⟩:=hent j e he;obtain ⟨e0,h1,h2⟩:=HP.zcf (hgh j E hE) ho;exact hH.fresh (f j) e0 l h1 h2 hl1
 . intro j m he;obtain ⟨E,hE,hEe⟩:=hent j _ he;have hg:=hgh j E hE;cases E with
   | loop=>cases hEe
   | ent E =>
     obtain rfl:E=SO.mem m:=hEe.symm;obtain ⟨m0,h1,h2⟩:=hg;refine ((hH.zcX (f j) m0 h1).less h2).names fun b _ h4 k e l hk ho hl1 => ?_
     obtain ⟨E',hE',rfl⟩:=hent k e hk;obtain ⟨e0,h5,h6⟩:=HP.zcf (hgh k E' hE') ho;exact h4 (f k) e0 l h5 h6 hl1
 . intro n k m m' hn hk;have old:∀ (n:Nat) (m:Mem),(C.fill J).heap[n]? = some (SO.mem m)->n<names.length/\∃ m0,s.heap[f n]? = some (SO.mem m0):=fun n m hn=>by
    obtain ⟨E,hE,hEe⟩:=hent n _ hn;have hg:=hgh n E hE;cases E with
    | loop=>cases hEe
    | ent E =>
      obtain rfl:E=SO.mem m:=hEe.symm;obtain ⟨m0,h1,_⟩:=hg;exact ⟨hjl n _ hE,m0,h1⟩
   obtain ⟨h1,m1,h2⟩:=old n m hn;obtain ⟨h3,m2,h4⟩:=old k m' hk;exact hinj n k h1 h3 (hH.zbE _ _ _ _ h2 h4)
 . intro n hn;have hn:(qlj J.hp C.heap 0).length<=n:=hn;rw [q9m,← hlen] at hn;show β (f n)=none;rw [hge n hn];exact hH.bound _ (Nat.le_add_right _ _)
 . intro g nm hg;obtain ⟨l,h1,h2⟩:=hG.glob g nm hg;exact ⟨l,by show β (f nm)=some l; rw [hid nm (hB.glob g nm hg)]; exact h1,h2⟩
 . intro n l hn;show β (f n)=some l;by_cases hk:n<k0
   . rw [hid n hk]; exact hG.fix n l hn
   . rw [hB.fix n (by omega)] at hn; cases hn
def q8j {A:Type} (k0:Nat) (C:A->Cut) (Q:A->Prop) (s:SS):Prop:=∀ B m,zeF k0 B->zd5 B s m->∃ a J,Q a/\zd5 B ((C a).fill J) m
theorem qom {A:Type} {k0:Nat} {C:A->Cut} {Q:A->Prop} {s:SS} (a:A) (hq:Q a) (names:List Nat) (h:Gen k0 s (C a) names):q8j k0 C Q s :=
 fun _ _ hB hM=>let ⟨J,hJ⟩:=j8f hB h hM; ⟨a,J,hq,hJ⟩
def Cfg.at (c:Cfg) (st:Option (Nat × Nat)):Cfg:={ P:=c.P,glob:=c.glob,sums:=c.sums,zeW:=st,zeI:=c.zeI,zdM:=c.zdM,each:=c.each }
theorem zaw.at {c:Cfg} (hc:zaw c) (st:Option (Nat × Nat)):zaw (c.at st):=⟨hc.prog,hc.sums,hc.zeI⟩
theorem q28 {c:Cfg} (hc:zaw c) {B:Base} {k0:Nat} (hB:zeF k0 B) (hP:B.P=c.P) (hgl:B.glob=c.glob) {A:Type} (C:A->Cut) (OK:A->Prop) (μ:A->Nat) {D:SV->List SO->Prop}
  (hs:∀ a,OK a->∀ J,∃ st n,(zaY (c.at st) n ((C a).fill J)).Ob D (q8j k0 C fun a'=>OK a'/\μ a'<μ a)) :
  ∀ (k:Nat) (a:A) (J:zaW) (m:Machine),μ a<k->OK a->zd5 B ((C a).fill J) m->∃ m' v H,Steps B.P m m'/\D v H/\zdE B v H m':=by
 intro k;induction k with
 | zero=>intro a J m h; omega
 | succ k ih =>
   intro a J m hk ha hM;obtain ⟨st,n,hs'⟩:=hs a ha J;obtain ⟨m1,hst,⟨v,H,hD,hdone⟩ | ⟨s,hS,hM1⟩⟩:=qx5 (B:=B) (hc.at st) hP hgl hM hs'
   . exact ⟨m1,v,H,hst,hD,hdone⟩
   . obtain ⟨a',J',⟨ha',hμ⟩,hM2⟩:=hS B m1 hB hM1;obtain ⟨m2,v,H,zek,hD,hdone⟩:=ih a' J' m1 (by omega) ha' hM2
     exact ⟨m2,v,H,hst.trans zek,hD,hdone⟩
def Runs (c:Cfg) (f:FuncId) (args:List SV) (H:List SO) (D:SV->List SO->Prop):Prop :=
 (∃ fn,c.P.funcs[f]? = some fn/\fn.body.isSome=true)/\∀ (O:Nat->Prop) (w0 w:World) (β:Val) (vs:List Value),zae c.P O w0 β H w->zaC c.glob β->SV.zak β args=some vs->Calls c.P f vs.toArray w (Came c.P O w0 β D)
theorem qld {c:Cfg} (hc:zaw c) {n:Nat} {f:FuncId} {args:List SV} {H:List SO} {D:SV->List SO->Prop} (hob:(qla c n f args H).Ob D fun _=>False):Runs c f args H D:=by
 refine ⟨?_,fun O w0 w β vs hH hG ha=>qyq hc hH hG ha hob⟩;unfold qla at hob;cases hg:qpe c.P f args with
 | none=>rw [hg] at hob; exact hob.elim
 | some g=>exact qok hg
theorem q38 {c:Cfg} (hc:zaw c) {A:Type} (C:A->Cut) (OK:A->Prop) (μ:A->Nat) {D:SV->List SO->Prop} {f:FuncId} {args:List SV} {H:List SO} (hgl:∀ g nm,c.glob g=some nm->nm<H.length)
  (h0:∃ st n,(qla (c.at st) n f args H).Ob D (q8j H.length C OK))
  (hs:∀ a,OK a->∀ J,∃ st n,(zaY (c.at st) n ((C a).fill J)).Ob D (q8j H.length C fun a'=>OK a'/\μ a'<μ a)):Runs c f args H D:=by
 obtain ⟨st0,n0,h0⟩:=h0;unfold qla at h0;cases hg:qpe (c.at st0).P f args with
 | none=>rw [hg] at h0; exact h0.elim
 | some g =>
   rw [hg] at h0;refine ⟨qok hg,fun O w0 w β vs hH hG ha cs => ?_⟩;have hB:zeF H.length ⟨c.P,c.glob,O,w0,cs,f,β⟩:=⟨hH.bound,hgl⟩;have hend:∀ m v H',Steps c.P (lone (Frame.enter c.P f vs.toArray .normal) cs w) m->D v H'->zdE ⟨c.P,c.glob,O,w0,cs,f,β⟩ v H' m ->
     ∃ e w' b,Came c.P O w0 β D e w'/\Comes c.P (lone (Frame.enter c.P f vs.toArray .normal) cs w) (lone b cs w') e/\b.fn=f/\b.leaving c.P w' e:=by
    intro m v H' hst hD hdone;obtain ⟨β',fr,x,w',rfl,hfn,hleave,hv,hH',hG'⟩:=hdone.ex;exact ⟨.returned x,w',fr,⟨v,H',x,β',rfl,hD,hG'.fix,hv,hH'⟩,hst,hfn,hleave⟩
   obtain ⟨m1,hst,⟨v,H',hD,hdone⟩ | ⟨s,hS,hM1⟩⟩:=qio (B:=⟨c.P,c.glob,O,w0,cs,f,β⟩) (hc.at st0) rfl rfl n0 _ _ (qss (c:=c) hH hG ha hg cs) h0
   . exact hend m1 v H' hst hD hdone
   . obtain ⟨a,J,ha',hM2⟩:=hS _ _ hB hM1;obtain ⟨m2,v,H',zek,hD,hdone⟩:=q28 hc hB rfl rfl C OK μ hs (μ a+1) a J m1 (Nat.lt_succ_self _) ha' hM2;exact hend m2 v H' (hst.trans zek) hD hdone
end
noncomputable section
variable {α:Type}
def zfR (vs:List SV):List (Option SV)->List (Option SV) :=
 List.rec (motive:=fun _=>List (Option SV)->List (Option SV)) (fun _=>[]) (fun v _ ih T=>List.rec (motive:=fun _=>List (Option SV)) (some v::ih []) (fun o r _=>zah o none (fun _=>some v)::ih r) T) vs
def seeF (s:SF) (p:SP):SP:=⟨s.fn,zfR s.tmps p.tmps,s.todo,s.defers,s.roundOf⟩
def qyw (ss:List SF):List SP->List SP :=
 List.rec (motive:=fun _=>List SP->List SP) (fun _=>[]) (fun s _ ih ps=>List.rec (motive:=fun _=>List SP) (⟨s.fn,zfR s.tmps [],s.todo,s.defers,s.roundOf⟩::ih []) (fun p r _=>seeF s p::ih r) ps) ss
def ziS (e:SO) (T:List (Option SV)):HP:=SO.rec (motive:=fun _=>HP) (fun c w el=>.ent (.own c w el)) (fun c=>.ent (.row c)) (fun s p f T0 ps a b d=>.loop s p f (zfR T0 T) ps a b d) (fun ds=>.ent (.deferred ds)) (.ent .gone) (fun o=>.ent (.obj o)) (fun m=>.ent (.mem m)) e
def qws (e:SO):Bool:=SO.rec (motive:=fun _=>Bool) (fun _ _ _=>false) (fun _=>false) (fun _ _ _ _ _ _ _ _=>false) (fun _=>false) true (fun _=>false) (fun _=>false) e
def zhQ (e:Option SO) (E:HP):Option HP:=HP.rec (motive:=fun _=>Option HP) (fun E0=>zab (qws E0) (some (.ent .gone)) (zah e none fun e=>some (.ent e))) (fun _ _ _ T _ _ _ _=>zah e none fun e=>some (ziS e T)) E
def q25 (H:List SO) (names:List Nat):List HP->List (Option HP) :=
 List.rec (motive:=fun _=>List HP->List (Option HP)) (fun _=>[]) (fun n _ ih Es=>List.rec (motive:=fun _=>List (Option HP)) [] (fun E r _=>zhQ (nth H n) E::ih r) Es) names
abbrev Seen:=List SP × Nat × List (Option HP)
def q9j (M:Cut) (names:List Nat) (s:SS):Seen:=(qyw s.frames M.frames,zay s.heap,q25 s.heap names M.heap)
def zjC (f:Nat->Nat) (T:List (Option SV)):List (Option SV):=zar (fun o=>zah o none fun v=>some (v.ren f)) T
def SP.ren (f:Nat->Nat) (p:SP):SP:=⟨p.fn,zjC f p.tmps,zar (zaM.ren f) p.todo,zar (SD.ren f) p.defers,zah p.roundOf none fun n=>some (f n)⟩
def HP.ren (f:Nat->Nat) (E:HP):HP :=
 HP.rec (motive:=fun _=>HP) (fun e=>SO.rec (motive:=fun _=>HP) (fun c w el=>.ent (.own (c.ren f) w el)) (fun c=>.ent (.row (c.ren f))) (fun s p g T ps a b d=>.ent (.loop s p g T ps a b d)) (fun ds=>.ent (.deferred (zah ds none fun l=>some (zar (SD.ren f) l)))) (.ent .gone) (fun o=>.ent (.obj (o.ren f))) (fun m=>.ent (.mem m)) e)
  (fun s p g T ps a b d=>.loop s p g (zjC f T) ps a b (f d)) E
def qia (names:List Nat) (N:Nat) (C:Cut):Seen:=(zar (SP.ren (q9b names N)) C.frames,N,zar (fun E=>some (E.ren (q9b names N))) C.heap)
def zfw (f:Nat->Nat):List (Option SV)->List (Option SV)->Prop
 | some v::vs,some u::us=>v.Imp (u.ren f)/\zfw f vs us
 | none::vs,none::us=>zfw f vs us
 | [],[]=>True
 | _,_=>False
structure ImpF (f:Nat->Nat) (s p:SP):Prop where
 fn:s.fn=p.fn
 tmps:zfw f s.tmps p.tmps
 todo:s.todo=p.todo.map (zaM.ren f)
 defers:s.defers=p.defers.map (SD.ren f)
 roundOf:s.roundOf=p.roundOf.map f
def qwg (f:Nat->Nat):List SP->List SP->Prop
 | s::ss,p::ps=>ImpF f s p/\qwg f ss ps
 | [],[]=>True
 | _,_=>False
def zfh (f:Nat->Nat) (e:Option HP) (E:HP):Prop :=
 match E with
 | .ent (.own c w el)=>∃ c0,e=some (.ent (.own c0 w el))/\c0.Imp (c.ren f)
 | .ent (.row c)=>∃ c0,e=some (.ent (.row c0))/\c0.Imp (c.ren f)
 | .ent (.deferred ds)=>e=some (.ent (.deferred (ds.map (List.map (SD.ren f)))))
 | .ent (.obj o)=>∃ o0,e=some (.ent (.obj o0))/\o0.Imp (o.ren f)
 | .ent .gone=>True
 | .ent (.mem m)=>∃ m0,e=some (.ent (.mem m0))/\m.le m0
 | .ent (.loop ..)=>False
 | .loop s p g T ps a b d=>∃ T0,e=some (.loop s p g T0 ps a b (f d))/\zfw f T0 T
def qki (f:Nat->Nat):List (Option HP)->List HP->Prop
 | e::es,E::Es=>zfh f e E/\qki f es Es
 | [],[]=>True
 | _,_=>False
theorem qbh {f:Nat->Nat}:∀ {vs:List SV} {Tm T:List (Option SV)},zfw f (zfR vs Tm) T->zgX f vs T
 | [],_,[],_=>trivial
 | [],_,_::_,h=>by cases h
 | v::vs,[],T,h=>by
   have h:zfw f (some v::zfR vs []) T:=h;cases T with
   | nil=>exact h.elim
   | cons u us=>cases u with
     | none=>exact h.elim
     | some u=>exact ⟨h.1,qbh h.2⟩
 | v::vs,o::Tm,T,h=>by
   have h:zfw f (zah o none (fun _=>some v)::zfR vs Tm) T:=h;cases T with
   | nil=>cases o <;> exact h.elim
   | cons u us =>
     cases o with
     | none=>cases u with
       | none=>exact qbh (Tm:=Tm) (T:=us) h
       | some u=>exact h.elim
     | some o=>cases u with
       | none=>exact h.elim
       | some u=>exact ⟨h.1,qbh (Tm:=Tm) (T:=us) h.2⟩
theorem qlo {f:Nat->Nat}:∀ {ss:List SF} {pm ps:List SP},qwg f (qyw ss pm) ps->qxw f ss ps
 | [],_,[],_=>trivial
 | [],_,_::_,h=>by cases h
 | s::ss,[],ps,h=>by
   have h:qwg f (⟨s.fn,zfR s.tmps [],s.todo,s.defers,s.roundOf⟩::qyw ss []) ps:=h;cases ps with
   | nil=>exact h.elim
   | cons p ps =>
     obtain ⟨⟨h1,h2,h3,h4,h5⟩,hr⟩:=h;exact ⟨⟨h1,qbh h2,h3,h4,h5⟩,qlo hr⟩
 | s::ss,q::pm,ps,h=>by
   have h:qwg f (seeF s q::qyw ss pm) ps:=h;cases ps with
   | nil=>exact h.elim
   | cons p ps =>
     obtain ⟨⟨h1,h2,h3,h4,h5⟩,hr⟩:=h;exact ⟨⟨h1,qbh h2,h3,h4,h5⟩,qlo hr⟩
theorem jlb {f:Nat->Nat} {e:Option SO} {Em E:HP} (h:zfh f (zhQ e Em) E):zis f e E:=by
 have hent:∀ {e:Option SO} {e0:SO},e0≠.gone->(∀ s p g T ps a b d,e0≠.loop s p g T ps a b d)->zhQ e Em=some (.ent e0)->e=some e0:=by
  intro e e0 hng hnl h;cases Em with
  | ent Em =>
    have h:zab (qws Em) (some (.ent .gone)) (zah e none fun e=>some (HP.ent e))=some (.ent e0):=h;cases hb:qws Em with
    | true=>rw [hb] at h; exact absurd (HP.ent.inj (Option.some.inj h)).symm hng
    | false =>
      rw [hb] at h;cases e with
      | none=>cases h
      | some e=>rw [(HP.ent.inj (Option.some.inj h))]
  | loop s p g T ps a b d =>
    cases e with
    | none=>cases h
    | some e =>
      have h:some (ziS e T)=some (HP.ent e0):=h;have h:=Option.some.inj h;cases e with
      | loop=>cases h
      | gone=>exact absurd (HP.ent.inj h).symm hng
      | mem=>rw [← HP.ent.inj h]
      | own=>rw [← HP.ent.inj h]
      | row=>rw [← HP.ent.inj h]
      | deferred=>rw [← HP.ent.inj h]
      | obj=>rw [← HP.ent.inj h]
 cases E with
 | ent E =>
   cases E with
   | own c w el=>obtain ⟨c0,h1,h2⟩:=h; exact ⟨c0,hent (by simp) (by simp) h1,h2⟩
   | row c=>obtain ⟨c0,h1,h2⟩:=h; exact ⟨c0,hent (by simp) (by simp) h1,h2⟩
   | deferred ds=>exact hent (by simp) (by simp) h
   | obj o=>obtain ⟨o0,h1,h2⟩:=h; exact ⟨o0,hent (by simp) (by simp) h1,h2⟩
   | gone=>trivial
   | mem m=>obtain ⟨m0,h1,h2⟩:=h; exact ⟨m0,hent (by simp) (by simp) h1,h2⟩
   | loop=>exact h.elim
 | loop s p g T ps a b d =>
   obtain ⟨T0,h1,h2⟩:=h;cases Em with
   | ent Em =>
     have h:zab (qws Em) (some (.ent .gone)) (zah e none fun e=>some (HP.ent e))=some (.loop s p g T0 ps a b (f d)):=h1;cases hb:qws Em with
     | true=>rw [hb] at h; cases h
     | false=>rw [hb] at h; cases e <;> cases h
   | loop s' p' g' Tm ps' a' b' d' =>
     cases e with
     | none=>cases h1
     | some e =>
       have h1:some (ziS e Tm)=some (HP.loop s p g T0 ps a b (f d)):=h1;have h1:=Option.some.inj h1;cases e with
       | loop s1 p1 g1 T1 ps1 a1 b1 d1 =>
         have h1:HP.loop s1 p1 g1 (zfR T1 Tm) ps1 a1 b1 d1=.loop s p g T0 ps a b (f d):=h1;injection h1 with e1 e2 e3 e4 e5 e6 e7 e8
         subst e1 e2 e3 e4 e5 e6 e7 e8;exact ⟨T1,rfl,qbh h2⟩
       | own=>cases h1
       | row=>cases h1
       | deferred=>cases h1
       | gone=>cases h1
       | mem=>cases h1
       | obj=>cases h1
theorem qdv {f:Nat->Nat} {H:List SO}:∀ {names:List Nat} {Em Es:List HP},qki f (q25 H names Em) Es->Em.length=names.length->∀ (j:Nat) (E:HP) (n:Nat),Es[j]? = some E->names[j]? = some n->zis f H[n]? E
 | [],_,[],_,_,_,_,_,h,_=>by simp at h
 | [],_,_::_,h,_,_,_,_,_,_=>h.elim
 | n::names,[],_,_,hl,_,_,_,_,_=>by simp at hl
 | n::names,Em::Ems,Es,h,hl,j,E,m,hE,hm=>by
   have h:qki f (zhQ (nth H n) Em::q25 H names Ems) Es:=h;cases Es with
   | nil=>exact h.elim
   | cons E0 Es =>
     cases j with
     | zero =>
       simp at hE hm;subst hE hm;have:=jlb h.1
       rwa [qea] at this
     | succ j=>exact qdv h.2 (by simpa using hl) j E m (by simpa using hE) (by simpa using hm)
theorem qpm (f:Nat->Nat):∀ T:List (Option SV),zfw f (zjC f T) T
 | []=>trivial
 | some _::T=>⟨.refl _,qpm f T⟩
 | none::T=>qpm f T
theorem qmo (f:Nat->Nat):∀ ps:List SP,qwg f (zar (SP.ren f) ps) ps
 | []=>trivial
 | p::ps=>⟨⟨rfl,qpm f _,by show zar _ _=_; rw [q1a],by show zar _ _=_; rw [q1a],by show zah p.roundOf none _=_; cases p.roundOf <;> rfl⟩,qmo f ps⟩
theorem jmb (f:Nat->Nat) (E:HP) (h:∀ s p g T ps a b d,E≠.ent (.loop s p g T ps a b d)):zfh f (some (E.ren f)) E:=by
 cases E with
 | ent e =>
   cases e with
   | own c w el=>exact ⟨_,rfl,.refl _⟩
   | row c=>exact ⟨_,rfl,.refl _⟩
   | deferred ds =>
     show some (HP.ent (.deferred (zah ds none fun l=>some (zar (SD.ren f) l))))=_;cases ds with
     | none=>rfl
     | some l=>rw [zao,q1a]; rfl
   | gone=>trivial
   | mem m=>exact ⟨_,rfl,m.le_refl⟩
   | obj o=>exact ⟨_,rfl,fun _ _ h=>h⟩
   | loop=>exact absurd rfl (h _ _ _ _ _ _ _ _)
 | loop s p g T ps a b d=>exact ⟨_,rfl,qpm f T⟩
def qma (E:HP):Bool:=HP.rec (motive:=fun _=>Bool) (fun e=>SO.rec (motive:=fun _=>Bool) (fun _ _ _=>true) (fun _=>true) (fun _ _ _ _ _ _ _ _=>false) (fun _=>true) true (fun _=>true) (fun _=>true) e) (fun _ _ _ _ _ _ _ _=>true) E
theorem qno (f:Nat->Nat):∀ Es:List HP,zaG qma Es=true->qki f (zar (fun E=>some (E.ren f)) Es) Es
 | [],_=>trivial
 | E::Es,h=>by
   have h':=q6e _ _ h;refine ⟨jmb f E fun s p g T ps a b d he => ?_,qno f Es ?_⟩
   . have:=h' E List.mem_cons_self;rw [he] at this; cases this
   . have h:zab (qma E) (zaG qma Es) false=true:=h;cases hb:qma E with
     | true=>rw [hb] at h; exact h
     | false=>rw [hb] at h; cases h
def qmj (l:List Nat):Bool:=List.rec (motive:=fun _=>Bool) true (fun a r ih=>zab (zbM a r) false ih) l
def q35 (l:List Nat):Nat->Nat->Bool:=List.rec (motive:=fun _=>Nat->Nat->Bool) (fun k i=>Nat.ble k i) (fun a _ ih k i=>zab (Nat.ble k i) true (zab (Nat.beq a i) (ih k (Nat.succ i)) false)) l
def qna (k0:Nat) (names:List Nat) (M C:Cut):Bool:=zab (qmj names) (zab (q35 names k0 0) (zab (Nat.beq (zay names) (zay C.heap)) (Nat.beq (zay names) (zay M.heap)) false) false) false
theorem qsh:∀ l:List Nat,qmj l=true->l.Nodup
 | [],_=>by simp
 | a::r,h=>by
   have h:zab (zbM a r) false (qmj r)=true:=h;cases hm:zbM a r with
   | true=>rw [hm] at h; cases h
   | false =>
     rw [hm] at h;refine List.nodup_cons.2 ⟨fun hin => ?_,qsh r h⟩;rw [zcr.2 hin] at hm; cases hm
theorem qxs:∀ (l:List Nat) (k i:Nat),q35 l k i=true->∀ j,i+j<k->l[j]? = some (i+j)
 | [],k,i,h,j,hj=>by
   have:=Nat.le_of_ble_eq_true (show Nat.ble k i=true from h)
   omega
 | a::r,k,i,h,j,hj=>by
   have h:zab (Nat.ble k i) true (zab (Nat.beq a i) (q35 r k (i+1)) false)=true:=h;cases hk:Nat.ble k i with
   | true=>have:=Nat.le_of_ble_eq_true hk; omega
   | false =>
     rw [hk,zam] at h;cases ha:Nat.beq a i with
     | false=>rw [ha] at h; cases h
     | true =>
       rw [ha] at h;have:=Nat.eq_of_beq_eq_true ha;subst this;cases j with
       | zero=>rfl
       | succ j =>
         have:=qxs r k (a+1) h j (by omega)
         rw [List.getElem?_cons_succ,this];congr 1; omega
theorem qnj {b:Bool} {t:Bool} (h:zab b t false=true):b=true/\t=true:=by cases b <;> first | exact ⟨rfl,h⟩ | cases h
theorem qcz {k0:Nat} {s:SS} {C M:Cut} {names:List Nat} {F:List SP} {N:Nat} {es:List (Option HP)} (hv:q9j M names s=(F,N,es)) (hn:qna k0 names M C=true) (hF:qwg (q9b names N) F C.frames) (hE:qki (q9b names N) es C.heap):Gen k0 s C names:=by
 obtain ⟨h1,h2⟩:=Prod.mk.inj (show (_,_,_)=(F,N,es) from hv)
 obtain ⟨h2,h3⟩:=Prod.mk.inj h2;rw [qha] at h2;obtain ⟨n1,n2⟩:=qnj hn;obtain ⟨n2,n3⟩:=qnj n2;obtain ⟨n3,n4⟩:=qnj n3;have l1:=Nat.eq_of_beq_eq_true n3;have l2:=Nat.eq_of_beq_eq_true n4;rw [qha,qha] at l1 l2;subst h2;refine ⟨fun j hj => ?_,qsh _ n1,l1,?_,fun j E hj => ?_⟩
 . have:=qxs names k0 0 n2 j (by omega)
   rwa [Nat.zero_add] at this
 . rw [← h1] at hF; exact qlo hF
 . rw [← h3] at hE;have hlt:j<names.length:=by rw [l1]; exact (List.getElem?_eq_some_iff.1 hj).1
   exact qdv hE l2.symm j E _ hj (qcv hlt)
theorem jnb {k0:Nat} {s:SS} {C M:Cut} {names:List Nat} {N:Nat} (hv:q9j M names s=qia names N C) (hn:zab (qna k0 names M C) (zaG qma C.heap) false=true):Gen k0 s C names :=
 qcz hv (qnj hn).1 (qmo _ _) (qno _ _ (qnj hn).2)
def qal (i:Nat) (E:HP) (V:Seen):Seen:=(V.1,V.2.1,zbz V.2.2 i (some E))
theorem qev {f:Nat->Nat}:∀ {es:List (Option HP)} {Es:List HP} (i:Nat) {E:HP},qki f es Es->(∀ E0,Es[i]? = some E0->zfh f (some E) E0)->qki f (zbz es i (some E)) Es
 | [],[],_,_,_,_=>trivial
 | e::es,E0::Es,0,E,h,h0=>⟨h0 E0 rfl,h.2⟩
 | e::es,E0::Es,i+1,E,h,h0=>⟨h.1,qev i h.2 fun E1 h1=>h0 E1 (by simpa using h1)⟩
 | [],_::_,_,_,h,_=>h.elim
 | _::_,[],_,_,h,_=>h.elim
def ziR (p:SP) (j:Nat) (v:SV):SP:=⟨p.fn,zbz p.tmps j (some v),p.todo,p.defers,p.roundOf⟩
def qxg (i j:Nat) (v:SV) (V:Seen):Seen:=(zah (nth V.1 i) V.1 fun p=>zbz V.1 i (ziR p j v),V.2.1,V.2.2)
def qva (ms:List (Nat × Nat × SV)) (es:List (Nat × HP)) (V:Seen):Seen :=
 List.rec (motive:=fun _=>Seen) (List.rec (motive:=fun _=>Seen) V (fun m _ ih=>qxg m.1 m.2.1 m.2.2 ih) ms) (fun e _ ih=>qal e.1 e.2 ih) es
theorem qzq {f:Nat->Nat}:∀ {vs us:List (Option SV)} (j:Nat) {v:SV},zfw f vs us->(∀ u,us[j]? = some u->∃ w,u=some w/\v.Imp (w.ren f))->zfw f (zbz vs j (some v)) us
 | some _::vs,some u::us,0,v,h,h0=>let ⟨w,e,hw⟩:=h0 _ rfl; ⟨by cases e; exact hw,h.2⟩
 | none::vs,none::us,0,v,h,h0=>let ⟨_,e,_⟩:=h0 _ rfl; by cases e
 | some _::vs,some u::us,j+1,v,h,h0=>⟨h.1,qzq j h.2 fun w hw=>h0 w (by simpa using hw)⟩
 | none::vs,none::us,j+1,v,h,h0=>qzq (vs:=vs) (us:=us) j h fun w hw=>h0 w (by simpa using hw)
 | [],[],_,_,_,_=>trivial
 | some _::_,none::_,_,_,h,_=>h.elim
 | none::_,some _::_,_,_,h,_=>h.elim
 | [],_::_,_,_,h,_=>h.elim
 | some _::_,[],_,_,h,_=>False.elim h
 | none::_,[],_,_,h,_=>False.elim h
theorem qfv {f:Nat->Nat}:∀ {ss ps:List SP} (i j:Nat) {v:SV} {s:SP},qwg f ss ps->ss[i]? = some s->(∀ p u,ps[i]? = some p->p.tmps[j]? = some u->∃ w,u=some w/\v.Imp (w.ren f))->qwg f (zbz ss i (ziR s j v)) ps
 | s0::ss,p::ps,0,j,v,s,h,hs,h0=>by
   simp at hs; subst hs;obtain ⟨⟨h1,h2,h3,h4,h5⟩,hr⟩:=h;exact ⟨⟨h1,qzq j h2 fun u hu=>h0 p u rfl hu,h3,h4,h5⟩,hr⟩
 | s0::ss,p::ps,i+1,j,v,s,h,hs,h0=>⟨h.1,qfv i j h.2 (by simpa using hs) fun q u hq hu=>h0 q u (by simpa using hq) hu⟩
 | [],_,_,_,_,_,_,hs,_=>by simp at hs
 | _::_,[],_,_,_,_,h,_,_=>h.elim
theorem q2t {k0:Nat} {s:SS} {C M:Cut} {names:List Nat} {N:Nat} (ms:List (Nat × Nat × SV)) (es:List (Nat × HP)) (hv:q9j M names s=qva ms es (qia names N C)) (hn:zab (qna k0 names M C) (zaG qma C.heap) false=true)
  (hT:∀ m∈ms,∀ p u,C.frames[m.1]? = some p->p.tmps[m.2.1]? = some u->∃ w,u=some w/\m.2.2.Imp (w.ren (q9b names N))) (hE:∀ e∈es,∀ E0,C.heap[e.1]? = some E0->zfh (q9b names N) (some e.2) E0):Gen k0 s C names:=by
 have key:∀ ms:List (Nat × Nat × SV),(∀ m∈ms,∀ p u,C.frames[m.1]? = some p->p.tmps[m.2.1]? = some u->∃ w,u=some w/\m.2.2.Imp (w.ren (q9b names N))) ->
   qwg (q9b names N) (List.rec (motive:=fun _=>Seen) (qia names N C) (fun m _ ih=>qxg m.1 m.2.1 m.2.2 ih) ms:Seen).1 C.frames/\(List.rec (motive:=fun _=>Seen) (qia names N C) (fun m _ ih=>qxg m.1 m.2.1 m.2.2 ih) ms:Seen).2=(qia names N C).2:=by
  intro ms;induction ms with
  | nil=>intro _; exact ⟨qmo _ _,rfl⟩
  | cons m ms ih =>
    intro h;obtain ⟨h1,h2⟩:=ih fun x hx=>h x (List.mem_cons_of_mem _ hx);generalize hV:(List.rec (motive:=fun _=>Seen) (qia names N C) (fun m _ ih=>qxg m.1 m.2.1 m.2.2 ih) ms:Seen)=V at h1 h2;show qwg _ (qxg m.1 m.2.1 m.2.2 (List.rec (motive:=fun _=>Seen) (qia names N C) (fun m _ ih=>qxg m.1 m.2.1 m.2.2 ih) ms:Seen)).1 _/\(qxg m.1 m.2.1 m.2.2 (List.rec (motive:=fun _=>Seen) (qia names N C) (fun m _ ih=>qxg m.1 m.2.1 m.2.2 ih) ms:Seen)).2=_;rw [hV];refine ⟨?_,h2⟩;show qwg _ (zah (nth V.1 m.1) V.1 fun p=>zbz V.1 m.1 (ziR p m.2.1 m.2.2)) _;cases hp:nth V.1 m.1 with
    | none=>exact h1
    | some p =>
      rw [qea] at hp;exact qfv m.1 m.2.1 h1 hp fun q u hq hu=>h m List.mem_cons_self q u hq hu
 obtain ⟨k1,k2⟩:=key ms hT;have key2:∀ es:List (Nat × HP),(∀ e∈es,∀ E0,C.heap[e.1]? = some E0->zfh (q9b names N) (some e.2) E0)->∀ V:Seen,V.2=(qia names N C).2 ->
   (List.rec (motive:=fun _=>Seen) V (fun e _ ih=>qal e.1 e.2 ih) es:Seen).1=V.1/\(List.rec (motive:=fun _=>Seen) V (fun e _ ih=>qal e.1 e.2 ih) es:Seen).2.1=N/\qki (q9b names N) (List.rec (motive:=fun _=>Seen) V (fun e _ ih=>qal e.1 e.2 ih) es:Seen).2.2 C.heap:=by
  intro es;induction es with
  | nil =>
    intro _ V hV;refine ⟨rfl,?_,?_⟩
    . show V.2.1=N; rw [hV]; rfl
    . show qki _ V.2.2 _; rw [hV]; exact qno _ _ (qnj hn).2
  | cons e es ih =>
    intro h V hV;obtain ⟨h1,h2,h3⟩:=ih (fun x hx=>h x (List.mem_cons_of_mem _ hx)) V hV;exact ⟨h1,h2,qev e.1 h3 (h e List.mem_cons_self)⟩
 obtain ⟨j1,j2,j3⟩:=key2 es hE _ k2;unfold qva at hv;generalize (List.rec (motive:=fun _=>Seen) (List.rec (motive:=fun _=>Seen) (qia names N C) (fun m _ ih=>qxg m.1 m.2.1 m.2.2 ih) ms) (fun e _ ih=>qal e.1 e.2 ih) es:Seen)=V at hv j1 j2 j3;obtain ⟨F,N',es'⟩:=V;have j2:N'=N:=j2;subst j2;exact qcz hv (qnj hn).1 (by rw [show F=_ from j1]; exact k1) j3
abbrev zgV:=List Prop × Option ((SV × List (Option SO)) ⊕ Seen)
def zaq (js:List Nat) (M:Cut) (names:List Nat) (t:Tree):List Bool->(Nat->Nat->Nat)->zgV :=
 Tree.rec (motive:=fun _=>List Bool->(Nat->Nat->Nat)->zgV) (fun v H _ _=>([],some (.inl (v,zar (fun j=>nth H j) js)))) (fun s _ _=>([],some (.inr (q9j M names s)))) (fun p _ ih ds z=>(p::(ih ds z).1,(ih ds z).2))
  (fun b _ _ iht ihf ds z=>List.rec (motive:=fun _=>zgV) ([],none) (fun d r _=>((b=d)::(zab d (iht r z) (ihf r z)).1,(zab d (iht r z) (ihf r z)).2)) ds) (fun _ _ _=>([],none)) (fun _ ih ds z=>ih (z 0) ds fun i=>z (i+1)) t
theorem q3t {js:List Nat} {M:Cut} {names:List Nat} {t:Tree} {ds:List Bool} {ps:(Nat->Nat->Nat)->List Prop} {r:(Nat->Nat->Nat)->(SV × List (Option SO)) ⊕ Seen} (h:∀ z,zaq js M names t ds z=(ps z,some (r z))) (hp:∀ z,∀ p∈ps z,p) {D:SV->List SO->Prop} {S:SS->Prop}
  (hD:∀ z v es,r z=.inl (v,es)->∀ H:List SO,js.map (fun j=>H[j]?)=es->D v H) (hS:∀ z V,r z=.inr V->∀ s,q9j M names s=V->S s):t.Ob D S:=by
 have z0:Nat->Nat->Nat:=fun _ _=>0;induction t generalizing ps r ds with
 | done v' H =>
   have h':([],some (.inl (v',zar (fun j=>nth H j) js)))=(ps z0,some (r z0)):=h z0;have h1:=Option.some.inj (Prod.mk.inj h').2;refine hD z0 v' _ h1.symm H ?_
   rw [q1a];exact List.map_congr_left fun j _=>(qea H j).symm
 | stop s =>
   have h':([],some (.inr (q9j M names s)))=(ps z0,some (r z0)):=h z0;have h1:=Option.some.inj (Prod.mk.inj h').2;exact hS z0 _ h1.symm s rfl
 | need p t ih =>
   have h':∀ z,(p::(zaq js M names t ds z).1,(zaq js M names t ds z).2)=(ps z,some (r z)):=h;refine ⟨?_,ih (ds:=ds) (ps:=fun z=>(zaq js M names t ds z).1) (r:=r) (fun z=>by rw [← (Prod.mk.inj (h' z)).2]) (fun z q hq=>hp z q ?_) hD hS⟩
   . have:=(Prod.mk.inj (h' z0)).1;exact hp z0 p (by rw [← this]; exact List.mem_cons_self)
   . rw [← (Prod.mk.inj (h' z)).1]; exact List.mem_cons_of_mem _ hq
 | fork b t f iht ihf =>
   cases ds with
   | nil=>cases (Prod.mk.inj (show ([],none)=(ps z0,some (r z0)) from h z0)).2
   | cons d rs =>
     have h':∀ z,((b=d)::(zab d (zaq js M names t rs z) (zaq js M names f rs z)).1,(zab d (zaq js M names t rs z) (zaq js M names f rs z)).2)=(ps z,some (r z)):=h;have hb:b=d:=hp z0 _ (by rw [← (Prod.mk.inj (h' z0)).1]; exact List.mem_cons_self)
     have hq:∀ z,∀ q∈(zab d (zaq js M names t rs z) (zaq js M names f rs z)).1,q:=fun z q hq=>hp z q (by rw [← (Prod.mk.inj (h' z)).1]; exact List.mem_cons_of_mem _ hq)
     cases d with
     | true=>exact ⟨fun _=>iht (ds:=rs) (ps:=fun z=>(zaq js M names t rs z).1) (r:=r) (fun z=>by rw [← (Prod.mk.inj (h' z)).2]; rfl) hq hD hS,fun hf=>by rw [hf] at hb; cases hb⟩
     | false=>exact ⟨fun ht=>(by rw [ht] at hb; cases hb),fun _=>ihf (ds:=rs) (ps:=fun z=>(zaq js M names f rs z).1) (r:=r) (fun z=>by rw [← (Prod.mk.inj (h' z)).2]; rfl) hq hD hS⟩
 | stuck=>cases (Prod.mk.inj (show ([],none)=(ps z0,some (r z0)) from h z0)).2
 | any k ih =>
   have h':∀ z,zaq js M names (k (z 0)) ds (fun i=>z (i+1))=(ps z,some (r z)):=h;intro y
   let c:(Nat->Nat->Nat)->Nat->Nat->Nat:=fun z i=>Nat.rec (motive:=fun _=>Nat->Nat) y (fun j _=>z j) i
   exact ih y (ds:=ds) (ps:=fun z=>ps (c z)) (r:=fun z=>r (c z)) (fun z=>h' (c z)) (fun z=>hp (c z)) (fun z=>hD (c z)) (fun z=>hS (c z))
theorem qgv {A:Type} {k0:Nat} {C:A->Cut} {Q:A->Prop} {js:List Nat} {M:Cut} {names:List Nat} {t:Tree} {ds:List Bool} {ps:List Prop} {N:Nat} {D:SV->List SO->Prop} (a:A) (hq:Q a)
  (h:∀ z,zaq js M names t ds z=(ps,some (.inr (qia names N (C a))))) (hn:zab (qna k0 names M (C a)) (zaG qma (C a).heap) false=true) (hp:∀ p∈ps,p):t.Ob D (q8j k0 C Q) :=
 q3t h (fun _=>hp) (fun _ v es h=>by cases h) fun _ V h s hv=>qom a hq names (jnb (N:=N) (by cases h; exact hv) hn)
theorem qys {A:Type} {k0:Nat} {C:A->Cut} {Q:A->Prop} {js:List Nat} {M:Cut} {names:List Nat} {t:Tree} {ds:List Bool} {ps:List Prop} {N:Nat} {ms:List (Nat × Nat × SV)} {es:List (Nat × HP)} {D:SV->List SO->Prop} (a:A) (hq:Q a)
  (h:∀ z,zaq js M names t ds z=(ps,some (.inr (qva ms es (qia names N (C a)))))) (hn:zab (qna k0 names M (C a)) (zaG qma (C a).heap) false=true)
  (hT:∀ m∈ms,∀ p u,(C a).frames[m.1]? = some p->p.tmps[m.2.1]? = some u->∃ w,u=some w/\m.2.2.Imp (w.ren (q9b names N))) (hE:∀ e∈es,∀ E0,(C a).heap[e.1]? = some E0->zfh (q9b names N) (some e.2) E0) (hp:∀ p∈ps,p):t.Ob D (q8j k0 C Q) :=
 q3t h (fun _=>hp) (fun _ v es h=>by cases h) fun _ V h s hv=>qom a hq names (q2t (N:=N) ms es (by cases h; exact hv) hn hT hE)
theorem qdz {js:List Nat} {M:Cut} {names:List Nat} {t:Tree} {ds:List Bool} {ps:List Prop} {v:SV} {es:List (Option SO)} {D:SV->List SO->Prop} {S:SS->Prop}
  (h:∀ z,zaq js M names t ds z=(ps,some (.inl (v,es)))) (hp:∀ p∈ps,p) (hD:∀ H:List SO,js.map (fun j=>H[j]?)=es->D v H):t.Ob D S :=
 q3t h (fun _=>hp) (fun _ v' es' h=>by cases h; exact hD) fun _ V h=>by cases h
def qgb {A:Type} (c:Cfg) (k0:Nat) (C:A->Cut) (Q:A->Prop) (D:SV->List SO->Prop) (s:SS):Prop:=∃ st n,(zaY (c.at st) n s).Ob D (q8j k0 C Q)
theorem qya {A:Type} {c:Cfg} {k0:Nat} {C:A->Cut} {Q:A->Prop} {D:SV->List SO->Prop} {s:SS} (st:Option (Nat × Nat)) (n:Nat) {M:Cut} {names:List Nat} {ds:List Bool} {ps:List Prop} {N:Nat} (a:A) (hq:Q a)
  (h:∀ z,zaq [] M names (zaY (c.at st) n s) ds z=(ps,some (.inr (qia names N (C a))))) (hn:zab (qna k0 names M (C a)) (zaG qma (C a).heap) false=true) (hp:∀ p∈ps,p):qgb c k0 C Q D s:=⟨st,n,qgv a hq h hn hp⟩
theorem qta {A:Type} {c:Cfg} {k0:Nat} {C:A->Cut} {Q:A->Prop} {D:SV->List SO->Prop} {s:SS} (st:Option (Nat × Nat)) (n:Nat) {M:Cut} {names js:List Nat} {ds:List Bool} {ps:List Prop} {v:SV} {es:List (Option SO)}
  (h:∀ z,zaq js M names (zaY (c.at st) n s) ds z=(ps,some (.inl (v,es)))) (hp:∀ p∈ps,p) (hD:∀ H:List SO,js.map (fun j=>H[j]?)=es->D v H):qgb c k0 C Q D s:=⟨st,n,qdz h hp hD⟩
theorem qsc {A:Type} {c:Cfg} {k0:Nat} {C:A->Cut} {Q:A->Prop} {D:SV->List SO->Prop} {s:SS} (st:Option (Nat × Nat)) (n:Nat) {M:Cut} {names:List Nat} {ds:List Bool} {ps:List Prop} {N:Nat} {ms:List (Nat × Nat × SV)} {es:List (Nat × HP)} (a:A) (hq:Q a)
  (h:∀ z,zaq [] M names (zaY (c.at st) n s) ds z=(ps,some (.inr (qva ms es (qia names N (C a)))))) (hn:zab (qna k0 names M (C a)) (zaG qma (C a).heap) false=true)
  (hT:∀ m∈ms,∀ p u,(C a).frames[m.1]? = some p->p.tmps[m.2.1]? = some u->∃ w,u=some w/\m.2.2.Imp (w.ren (q9b names N))) (hE:∀ e∈es,∀ E0,(C a).heap[e.1]? = some E0->zfh (q9b names N) (some e.2) E0) (hp:∀ p∈ps,p):qgb c k0 C Q D s:=⟨st,n,qys a hq h hn hT hE hp⟩
def qoj {A:Type} (c:Cfg) (k0:Nat) (C:A->Cut) (Q:A->Prop) (D:SV->List SO->Prop) (f:FuncId) (args:List SV) (H:List SO):Prop:=∃ st n,(qla (c.at st) n f args H).Ob D (q8j k0 C Q)
theorem qqm {A:Type} {c:Cfg} {k0:Nat} {C:A->Cut} {Q:A->Prop} {D:SV->List SO->Prop} {f:FuncId} {args:List SV} {H:List SO} (st:Option (Nat × Nat)) (n:Nat) {M:Cut} {names:List Nat} {ds:List Bool} {ps:List Prop} {N:Nat} (a:A) (hq:Q a)
  (h:∀ z,zaq [] M names (qla (c.at st) n f args H) ds z=(ps,some (.inr (qia names N (C a))))) (hn:zab (qna k0 names M (C a)) (zaG qma (C a).heap) false=true) (hp:∀ p∈ps,p):qoj c k0 C Q D f args H:=⟨st,n,qgv a hq h hn hp⟩
theorem qgc {A:Type} {c:Cfg} {k0:Nat} {C:A->Cut} {Q:A->Prop} {D:SV->List SO->Prop} {f:FuncId} {args:List SV} {H:List SO} (st:Option (Nat × Nat)) (n:Nat) {M:Cut} {names:List Nat} {ds:List Bool} {ps:List Prop} {N:Nat} {ms:List (Nat × Nat × SV)} {es:List (Nat × HP)} (a:A) (hq:Q a)
  (h:∀ z,zaq [] M names (qla (c.at st) n f args H) ds z=(ps,some (.inr (qva ms es (qia names N (C a)))))) (hn:zab (qna k0 names M (C a)) (zaG qma (C a).heap) false=true)
  (hT:∀ m∈ms,∀ p u,(C a).frames[m.1]? = some p->p.tmps[m.2.1]? = some u->∃ w,u=some w/\m.2.2.Imp (w.ren (q9b names N))) (hE:∀ e∈es,∀ E0,(C a).heap[e.1]? = some E0->zfh (q9b names N) (some e.2) E0) (hp:∀ p∈ps,p):qoj c k0 C Q D f args H:=⟨st,n,qys a hq h hn hT hE hp⟩
theorem qhv {A:Type} {c:Cfg} {k0:Nat} {C:A->Cut} {Q:A->Prop} {D:SV->List SO->Prop} {f:FuncId} {args:List SV} {H:List SO} (st:Option (Nat × Nat)) (n:Nat) {M:Cut} {names js:List Nat} {ds:List Bool} {ps:List Prop} {v:SV} {es:List (Option SO)}
  (h:∀ z,zaq js M names (qla (c.at st) n f args H) ds z=(ps,some (.inl (v,es)))) (hp:∀ p∈ps,p) (hD:∀ H:List SO,js.map (fun j=>H[j]?)=es->D v H):qoj c k0 C Q D f args H:=⟨st,n,qdz h hp hD⟩
theorem q7c {c:Cfg} (hc:zaw c) {A:Type} (C:A->Cut) (OK:A->Prop) (μ:A->Nat) {D:SV->List SO->Prop} {f:FuncId} {args:List SV} {H:List SO} (hgl:∀ g nm,c.glob g=some nm->nm<H.length)
  (h0:qoj c H.length C OK D f args H) (hs:∀ a,OK a->∀ J,qgb c H.length C (fun a'=>OK a'/\μ a'<μ a) D ((C a).fill J)):Runs c f args H D:=q38 hc C OK μ hgl h0 hs
def qvb (t:Tree):List Bool->SS :=
 Tree.rec (motive:=fun _=>List Bool->SS) (fun _ _ _=>⟨[],[]⟩) (fun s _=>s) (fun _ _ ih ds=>ih ds) (fun _ _ _ iht ihf ds=>List.rec (motive:=fun _=>SS) ⟨[],[]⟩ (fun d r _=>zab d (iht r) (ihf r)) ds) (fun _ _=>⟨[],[]⟩) (fun _ ih ds=>ih (fun _=>0) ds) t
def jfe (T:List (Option SV)) (l:List (Nat × SV)):List (Option SV):=List.rec (motive:=fun _=>List (Option SV)->List (Option SV)) (fun T=>T) (fun a _ ih T=>ih (zbz T a.1 (some a.2))) l T
def qzw (s:SF) (l:List (Nat × SV)):SP:=⟨s.fn,jfe (zaX none (zay s.tmps)) l,s.todo,s.defers,s.roundOf⟩
def q0b (ss:List SF):List (List (Nat × SV))->List SP:=List.rec (motive:=fun _=>List (List (Nat × SV))->List SP) (fun _=>[]) (fun s _ ih ls=>List.rec (motive:=fun _=>List SP) (qzw s []::ih []) (fun l r _=>qzw s l::ih r) ls) ss
def qzs (e:Option SO) (l:List (Nat × SV)):HP:=zah e (.ent .gone) fun e=>SO.rec (motive:=fun _=>HP) (fun c w el=>.ent (.own c w el)) (fun c=>.ent (.row c)) (fun s p f T ps a b d=>.loop s p f (jfe (zaX none (zay T)) l) ps a b d) (fun ds=>.ent (.deferred ds)) (.ent .gone) (fun o=>.ent (.obj o)) (fun m=>.ent (.mem m)) e
theorem job {c:Cfg} {w:World} {β:Val} {H:List SO} {f:FuncId} {args:List SV} {vs:List Value} (hH:zae c.P (fun _=>False) w β H w) (hG:zaC c.glob β) (ha:SV.zak β args=some vs)
  (hr:Runs c f args H fun v _=>v=.bool (.lit true)):Calls c.P f vs.toArray w fun e w'=>e=.returned (.bool true)/\Go.RowKit.Below w.heap.size w w':=by
 refine (hr.2 _ _ _ _ _ hH hG ha).mono fun e w' zbI => ?_
 obtain ⟨v,H',x,β',rfl,rfl,_,hv,hH'⟩:=zbI;cases hv;exact ⟨rfl,hH'.keep.below⟩
end
noncomputable section
variable {α:Type}
def SO.keeps (p:Nat->Bool) (e:SO):Bool:=SO.rec (motive:=fun _=>Bool) (fun c _ _=>Cells.rec (motive:=fun _=>Bool) (fun l=>SV.za5 p l) (fun _ _=>false) (fun _ _=>true) c) (fun c=>Cells.rec (motive:=fun _=>Bool) (fun l=>SV.za5 p l) (fun _ _=>false) (fun _ _=>true) c) (fun _ _ _ _ _ _ _ _=>false) (fun _=>false) false (fun o=>o.uses p) (fun _=>false) e
def maskH (M:List Nat) (H:List SO):Nat->List SO:=List.rec (motive:=fun _=>Nat->List SO) (fun _=>[]) (fun e _ ih i=>zab (zbM i M) e .gone::ih (Nat.succ i)) H
def atE (o:Option SO):SO:=zah o .gone fun e=>e
end
end Go.Sim
