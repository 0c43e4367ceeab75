/-
  zcS behind one another: the symbolic simulator and what it is told of the program.
-/
import Derived.Test.YtbhlngmhgplepaaDoorPh5
import Derived.Below
import Derived.Test.YtbhlngmhgplepaaDoorProg
import Derived.Laws.Externs
namespace Go.Sim
noncomputable section
open Go
theorem getElem?_snocM {α:Type} {l:List α} {x y:α} {n:Nat} (h:(l++[x])[n]? = some y):l[n]? = some y\/(n=l.length/\y=x):=by
 rcases Nat.lt_or_ge n l.length with hn | hn
 . rw [List.getElem?_append_left hn] at h; exact .inl h
 . rw [List.getElem?_append_right hn] at h;right;cases hx:n - l.length with
   | zero=>rw [hx] at h; exact ⟨by omega,(Option.some.inj h).symm⟩
   | succ k=>rw [hx] at h; simp at h
def zcF:Mem:=⟨fun _=>none,fun _=>none,fun _=>False⟩
section
variable {P:Program} {O:Nat->Prop} {w0:World} {β:Val} {H:List SO} {w:World}
theorem zbp.none:zbp P O w0 β H w zcF:=⟨(fun _ _ h=>by cases h),(fun _ _ _ _ h=>by cases h),(fun _ h=>False.elim h)⟩
theorem zbo.sub {β:Val} {H H':List SO} (h:∀ (n:Nat) (e:SO) (l:Loc),H'[n]? = some e->e.owned=true->β n=some l->H[n]? = some e) {b:Nat} (hn:zbo β H b):zbo β H' b:=fun k e l hk ho hl=>hn k e l (h k e l hk ho hl) ho hl
theorem zac.zfP (h:zac P O w0 β H w) {m:Mem} (hm:zbp P O w0 β H w m) (h1:∀ (n:Nat) (m':Mem),H[n]? ≠ some (SO.mem m')):zac P O w0 β (H++[.mem m]) w:=by
 have hnone:β H.length=Option.none:=h.bound _ (Nat.le_refl _);have own:∀ (n:Nat) (e:SO) (l:Loc),(H++[SO.mem m])[n]? = some e->e.owned=true->β n=some l->H[n]? = some e:=fun n e l he ho hl=>by
  rcases getElem?_snocM he with h' | ⟨hn,rfl⟩
  . exact h'
  . rw [hn,hnone] at hl; cases hl
 refine ⟨⟨fun n e he => ?_,fun n k e e' l l' he he' ho ho' hnk hl hl'=>h.sep n k e e' l l' (own _ _ _ he ho hl) (own _ _ _ he' ho' hl') ho ho' hnk hl hl',fun n e l he ho hl=>h.fresh n e l (own _ _ _ he ho hl) ho hl,h.keep,fun n k he => ?_,fun n k m1 m2 hn hk => ?_⟩,fun n hn=>h.bound n (by rw [List.length_append] at hn; simp at hn; omega)⟩
 . rcases getElem?_snocM he with h' | ⟨hn,rfl⟩
   . exact h.entries n e h'
   . show β n=none;rw [hn]; exact hnone
 . rcases getElem?_snocM he with h' | ⟨_,h'⟩
   . exact (h.zcG n k h').names fun b _ hn=>zbo.sub own hn
   . cases h';exact hm.names fun b _ hn=>zbo.sub own hn
 . rcases getElem?_snocM hn with h' | ⟨e1,_⟩
   . exact absurd h' (h1 n m1)
   . rcases getElem?_snocM hk with h' | ⟨e2,_⟩
     . exact absurd h' (h1 k m2)
     . rw [e1,e2]
theorem getElem?_set2 {α:Type} {l:List α} {i j:Nat} {x y:α} (h:(l.set i x)[j]? = some y):(j=i/\y=x)\/(j≠i/\l[j]? = some y):=by
 by_cases hj:i=j
 . subst hj;have hl:i<l.length:=by have:=(List.getElem?_eq_some_iff.1 h).1; simpa using this
   rw [List.getElem?_set_self hl] at h;exact .inl ⟨rfl,(Option.some.inj h).symm⟩
 . rw [List.getElem?_set_ne hj] at h;exact .inr ⟨fun e=>hj e.symm,h⟩
theorem zac.zfq (h:zac P O w0 β H w) {j:Nat} {m m':Mem} (hj:H[j]? = some (.mem m)) (hm:zbp P O w0 β H w m'):zac P O w0 β (H.set j (.mem m')) w:=by
 have hnone:β j=Option.none:=h.entries j _ hj;have own:∀ (n:Nat) (e:SO) (l:Loc),(H.set j (.mem m'))[n]? = some e->e.owned=true->β n=some l->H[n]? = some e:=fun n e l he ho hl=>by
  rcases getElem?_set2 he with ⟨hn,rfl⟩ | ⟨_,h'⟩
  . rw [hn,hnone] at hl; cases hl
  . exact h'
 have old:∀ (n:Nat) (m1:Mem),(H.set j (.mem m'))[n]? = some (SO.mem m1)->n=j:=fun n m1 hn=>by
  rcases getElem?_set2 hn with ⟨e,_⟩ | ⟨_,h'⟩
  . exact e
  . exact h.zbC n j m1 m h' hj
 refine ⟨⟨fun n e he => ?_,fun n k e e' l l' he he' ho ho' hnk hl hl'=>h.sep n k e e' l l' (own _ _ _ he ho hl) (own _ _ _ he' ho' hl') ho ho' hnk hl hl',fun n e l he ho hl=>h.fresh n e l (own _ _ _ he ho hl) ho hl,h.keep,fun n k he => ?_,fun n k m1 m2 hn hk=>(old n m1 hn).trans (old k m2 hk).symm⟩,fun n hn=>h.bound n (by simpa using hn)⟩
 . rcases getElem?_set2 he with ⟨hn,rfl⟩ | ⟨_,h'⟩
   . show β n=none;rw [hn]; exact hnone
   . exact h.entries n e h'
 . rcases getElem?_set2 he with ⟨_,h'⟩ | ⟨_,h'⟩
   . cases h';exact hm.names fun b _ hn=>zbo.sub own hn
   . exact (h.zcG n k h').names fun b _ hn=>zbo.sub own hn
theorem Mem.zfF {m:Mem} {b n cap:Nat} {el:TypeId} {V:Nat->Value} {i:Nat} (h:i<n):(m.add b n cap el V).cell ⟨b,i,none⟩=some (V i):=by
 show (if b=b then (if (none:Option _)=none/\i<n then some (V i) else none) else m.cell _)=_
 rw [if_pos rfl,if_pos ⟨rfl,h⟩]
theorem Mem.zdc {m:Mem} {b n cap:Nat} {el:TypeId} {V:Nat->Value} {a:Addr} (h:a.block≠b):(m.add b n cap el V).cell a=m.cell a:=by
 show (if a.block=b then _ else m.cell a)=_
 rw [if_neg h]
theorem Mem.zf3 {m:Mem} {b:Nat} (h:¬ m.Has b):m.free b:=by
 refine ⟨fun a ha => ?_,?_⟩
 . cases hc:m.cell a with
   | none=>rfl
   | some x=>exact absurd (.inl ⟨a,x,hc,ha⟩) h
 . cases hc:m.own b with
   | none=>rfl
   | some p=>exact absurd (.inr ⟨p,hc⟩) h
theorem Mem.zfk {m:Mem} {b:Nat} (h:m.free b):m.fresh b=b:=by
 unfold Mem.fresh;exact if_pos h
def Mem.bounded (m:Mem):Prop:=∃ N,∀ b,N<=b->m.free b
theorem Mem.zca {m:Mem} (h:m.bounded) (b:Nat):m.free (m.fresh b):=by
 unfold Mem.fresh;by_cases hb:m.free b
 . rw [if_pos hb]; exact hb
 . rw [if_neg hb];obtain ⟨N,hN⟩:=h;exact Classical.epsilon_spec (p:=m.free) ⟨N,hN N (Nat.le_refl _)⟩
theorem Mem.zbN {m:Mem} (h:m.bounded) (b n cap:Nat) (el:TypeId) (V:Nat->Value):(m.add b n cap el V).bounded:=by
 obtain ⟨N,hN⟩:=h;refine ⟨max N (b+1),fun b' hb=>⟨fun a ha => ?_,?_⟩⟩
 . rw [Mem.zdc (by omega)]; exact (hN b' (by omega)).1 a ha
 . show (if b'=b then _ else m.own b')=none
   rw [if_neg (by omega)]; exact (hN b' (by omega)).2
theorem Mem.zdC:zcF.bounded:=⟨0,fun _ _=>⟨fun _ _=>rfl,rfl⟩⟩
theorem zac.retire (h:zac P O w0 β H w) {nm j:Nat} {c:Cells} {wh:Bool} {el:TypeId} {m:Mem} {V:Nat->Value} {n:Nat} (hn:H[nm]? = some (.own c wh el)) (hj:H[j]? = some (.mem m))
  (hV:∀ vs,zaj β c vs->vs.length=n/\∀ i x,vs[i]? = some x->x=V i) :
  ∃ l,β nm=some l/\l.off=0/\m.free l.blk/\zac P O w0 β ((H.set nm .gone).set j (.mem (m.add l.blk n l.cap el V))) w:=by
 obtain ⟨l,vs,rest,lo,hi,hl,h0,hc,hh,hfz,hw,hcap⟩:=h.entries nm _ hn;obtain ⟨hlen,hval⟩:=hV vs hc;have hm:=h.zcG j m hj;have hfree:¬ m.Has l.blk:=by
  rintro (⟨a,x,hx,hb⟩ | ⟨⟨n',cap',el'⟩,hp⟩)
  . exact (hm.told a x hx).2 nm _ l hn rfl hl hb.symm
  . exact (hm.own _ _ _ _ hp).2.1 nm _ l hn rfl hl rfl
 have hjn:nm≠j:=fun e=>by subst e; rw [hn] at hj; cases hj
 have hnl:=(List.getElem?_eq_some_iff.1 hn).1;have zfR:∀ (k:Nat) (e:SO),(H.set nm .gone)[k]? = some e->e.owned=true->k≠nm/\H[k]? = some e:=fun k e he ho=>by
  rcases getElem?_set2 he with ⟨_,rfl⟩ | h'
  . cases ho
  . exact h'
 have h1:zac P O w0 β (H.set nm .gone) w:=by
  refine ⟨⟨fun k e he => ?_,fun i k e e' l1 l2 he he' ho ho'=>h.sep i k e e' l1 l2 (zfR _ _ he ho).2 (zfR _ _ he' ho').2 ho ho',fun k e l1 he ho=>h.fresh k e l1 (zfR _ _ he ho).2 ho,h.keep,fun k m' he => ?_,fun k k' m1 m2 hk hk'=>h.zbC k k' m1 m2 (zfR _ _ hk rfl).2 (zfR _ _ hk' rfl).2⟩,fun k hk=>h.bound k (by simpa using hk)⟩
  . rcases getElem?_set2 he with ⟨_,rfl⟩ | ⟨_,h'⟩
    . trivial
    . exact h.entries k e h'
  . rcases getElem?_set2 he with ⟨_,h'⟩ | ⟨_,h'⟩
    . cases h'
    . exact (h.zcG k m' h').names fun b _ hb=>zbo.sub (fun k e _ he ho _=>(zfR k e he ho).2) hb
 have hj1:(H.set nm .gone)[j]? = some (.mem m):=by rw [List.getElem?_set_ne hjn]; exact hj
 have hno:zbo β (H.set nm .gone) l.blk:=fun k e l1 hk ho hl1 heq=>by
  obtain ⟨h2,h3⟩:=zfR k e hk ho;exact h.sep k nm e _ l1 l h3 hn ho rfl h2 hl1 hl heq
 refine ⟨l,hl,h0,Mem.zf3 hfree,h1.zfq hj1 ?_⟩;have hm1:=h1.zcG j m hj1;refine ⟨fun a x hx => ?_,fun b n' cap' el' hb => ?_,hm1.old⟩
 . by_cases hb:a.block=l.blk
   . have hx:(if a.block=l.blk then (if a.spot=none/\a.off<n then some (V a.off) else none) else m.cell a)=some x:=hx
     rw [if_pos hb] at hx;split at hx
     . rename_i hs;obtain ⟨hs,ho⟩:=hs;have ha:a=⟨l.blk,a.off,none⟩:=by cases a; cases hb; cases hs; rfl
       have hx:V a.off=x:=Option.some.inj hx;have hv:vs[a.off]? = some x:=by
        rw [List.getElem?_eq_getElem (by omega),← hx]
        exact congrArg some (hval _ _ (List.getElem?_eq_getElem (by omega)))
       refine ⟨?_,hb▸hno⟩;rw [ha,cell?_of hh];simp [List.getElem?_append_left (List.getElem?_eq_some_iff.1 hv).1,hv]
     . cases hx
   . rw [Mem.zdc hb] at hx;exact hm1.told a x hx
 . have hb':(if b=l.blk then some (n,l.cap,el) else m.own b)=some (n',cap',el'):=hb
   by_cases hbl:b=l.blk
   . rw [if_pos hbl] at hb';cases hb';subst hbl;refine ⟨h.fresh nm _ l hn rfl hl,hno,vs,rest,lo,hi,hh,hlen,hfz,hcap,fun i x hx => ?_⟩;rw [Mem.zfF (by have:=(List.getElem?_eq_some_iff.1 hx).1; omega),hval i x hx]
   . rw [if_neg hbl] at hb';obtain ⟨h3,h4,vs',rest',lo',hi',h5,h6,h7,h8,h9⟩:=hm1.own b n' cap' el' hb';exact ⟨h3,h4,vs',rest',lo',hi',h5,h6,h7,h8,fun i x hx=>by rw [Mem.zdc hbl]; exact h9 i x hx⟩
theorem zac.borrow (h:zac P O w0 β H w) {j b n cap:Nat} {el:TypeId} {m:Mem} (hj:H[j]? = some (.mem m)) (h1:∀ (k:Nat) (m':Mem),H[k]? = some (.mem m')->k=j) (hb:m.own b=some (n,cap,el)) :
  zac P O w0 (β.upd H.length ⟨b,0,cap⟩) (H.set j (.mem (m.drop b))++[.own (.raw (fun i=>zcY m ⟨b,0,none⟩ i) n) false el]) w/\β.le (β.upd H.length ⟨b,0,cap⟩):=by
 have hm:=h.zcG j m hj;obtain ⟨hf,hno,vs,rest,lo,hi,hh,hlen,hfz,hcap,htold⟩:=hm.own b n cap el hb;have hd:zbp P O w0 β H w (m.drop b):=hm.less ⟨fun a x hx => ?_,fun b' p hp => ?_,fun _ h=>h⟩
 . have h2:=h.zfq hj hd;have zg4:(H.set j (.mem (m.drop b))).length=H.length:=by simp
   have hs:=h2.snoc ⟨b,0,cap⟩ (.own (.raw (fun i=>zcY m ⟨b,0,Option.none⟩ i) n) false el) ?_ ?_ (by intro m' hm'; cases hm') ?_
   . rw [zg4] at hs; exact hs
   . refine ⟨⟨b,0,cap⟩,vs,rest,lo,hi,by rw [zg4]; exact Val.upd_same _ _ _,rfl,⟨hlen,fun i x hx => ?_⟩,hh,hfz,fun h=>(by cases h),hcap⟩
     show x=(m.cell (Addr.add ⟨b,0,Option.none⟩ i)).getD undef;have e:(Addr.add ⟨b,0,Option.none⟩ i:Addr)=⟨b,i,Option.none⟩:=by
      unfold Addr.add;split
      . rename_i h0; subst h0; rfl
      . simp
     rw [e,htold i x hx]; rfl
   . intro _;refine ⟨hf,fun k e l hk ho hl => ?_⟩;rcases getElem?_set2 hk with ⟨hkj,rfl⟩ | ⟨_,h'⟩
     . have h':β j=Option.none:=h.entries j _ hj;rw [hkj,h'] at hl; cases hl
     . exact hno k e l h' ho hl
   . intro _ k m' hk;rcases getElem?_set2 hk with ⟨_,h'⟩ | ⟨hne,h'⟩
     . cases h';rintro (⟨a,x,hx,hab⟩ | ⟨p,hp⟩)
       . have hx:(if a.block=b then Option.none else m.cell a)=some x:=hx
         rw [if_pos hab] at hx; cases hx
       . have hp:(if b=b then Option.none else m.own b)=some p:=hp
         rw [if_pos rfl] at hp; cases hp
     . exact absurd (h1 k m' h') hne
 . have hx:(if a.block=b then Option.none else m.cell a)=some x:=hx
   split at hx
   . cases hx
   . exact hx
 . have hp:(if b'=b then Option.none else m.own b')=some p:=hp
   split at hp
   . cases hp
   . rename_i hne;refine ⟨hp,fun i => ?_⟩;show (if b'=b then Option.none else m.cell _)=_
     rw [if_neg hne]
theorem zac.zgK (h:zac P O w0 β H w) {n:Nat} {c c':Cells} {wh:Bool} {el:TypeId} (hn:H[n]? = some (.own c wh el)) (hc:∀ vs,zaj β c vs->zaj β c' vs):zac P O w0 β (H.set n (.own c' wh el)) w:=by
 have own:∀ {j:Nat} {e:SO},(H.set n (.own c' wh el))[j]? = some e->e.owned=true->∃ e0,H[j]? = some e0/\e0.owned=true:=fun {j e} he ho=>by
  rcases getElem?_set2 he with ⟨rfl,_⟩ | ⟨_,h1⟩
  . exact ⟨_,hn,rfl⟩
  . exact ⟨e,h1,ho⟩
 refine ⟨⟨fun j e he => ?_,fun i j e e' l1 l2 he he' ho ho' hij h1 h2 => ?_,fun j e l1 he ho hl => ?_,h.keep,fun j m he => ?_,fun j k m1 m2 hj hk => ?_⟩,fun j hj=>h.bound j (by simpa using hj)⟩
 . rcases getElem?_set2 he with ⟨rfl,rfl⟩ | ⟨_,h1⟩
   . obtain ⟨l,vs,rest,lo,hi,hl,h0,hcc,hh,hfz,hw,hcap⟩:=h.entries _ _ hn;exact ⟨l,vs,rest,lo,hi,hl,h0,hc _ hcc,hh,hfz,hw,hcap⟩
   . exact h.entries j e h1
 . obtain ⟨e1,h3,h4⟩:=own he ho;obtain ⟨e2,h5,h6⟩:=own he' ho';exact h.sep i j e1 e2 l1 l2 h3 h5 h4 h6 hij h1 h2
 . obtain ⟨e1,h3,h4⟩:=own he ho;exact h.fresh j e1 l1 h3 h4 hl
 . rcases getElem?_set2 he with ⟨_,h1⟩ | ⟨_,h1⟩
   . cases h1
   . refine (h.zcG j m h1).names fun b _ h3 i e l1 hi ho hl1 => ?_
     obtain ⟨e1,h4,h5⟩:=own hi ho;exact h3 i e1 l1 h4 h5 hl1
 . rcases getElem?_set2 hj with ⟨_,h1⟩ | ⟨_,h1⟩
   . cases h1
   . rcases getElem?_set2 hk with ⟨_,h2⟩ | ⟨_,h2⟩
     . cases h2
     . exact h.zbC j k m1 m2 h1 h2
end
end
noncomputable section
open Go
section
variable {P:Program} {O:Nat->Prop} {w0:World} {β:Val} {H:List SO} {w:World} {D:SV->List SO->Prop} {S:SS->Prop}
def zbP (β:Val) (σ:Sub):Prop:=∀ nm p,zdK σ nm=some p->∃ l,β nm=some l/\l.off=0/\l.blk=p.1/\l.cap=p.2
theorem zbP.nil:zbP β []:=fun _ _ h=>by cases h
theorem zbP.cons {σ:Sub} (h:zbP β σ) {nm:Nat} {l:Loc} (hl:β nm=some l) (h0:l.off=0):zbP β ((nm,l.blk,l.cap)::σ):=fun nm' p hp=>by
 have hp:zab (Nat.beq nm nm') (some (l.blk,l.cap)) (zdK σ nm')=some p:=hp;cases hb:Nat.beq nm nm' with
 | true =>
   rw [hb] at hp;cases hp;have:=Nat.eq_of_beq_eq_true hb;subst this;exact ⟨l,hl,h0,rfl,rfl⟩
 | false=>rw [hb] at hp; exact h nm' p hp
theorem q4n {α:Type} {o:Option α} {f:α->Bool} (h:zah o false f=true):∃ a,o=some a/\f a=true:=by
 cases o with
 | none=>cases h
 | some a=>exact ⟨a,rfl,h⟩
theorem j8e {σ:Sub} (hσ:zbP β σ) {c:SC} (h:okC σ c=true) {n:Nat} (hd:c.den β=some n):zh8 σ c=n:=by
 cases c with
 | lit m=>exact Option.some.inj hd
 | sym m=>exact Option.some.inj hd
 | rest nm k =>
   obtain ⟨p,hp,_⟩:=q4n (show zah (zdK σ nm) false (fun _=>true)=true from h)
   show zah (zdK σ nm) 0 (fun p=>p.2 - k)=n;rw [hp];obtain ⟨l,hl,_,_,hc⟩:=hσ nm p hp;have hd:(β nm).map (fun l=>l.cap - k)=some n:=hd;rw [hl] at hd;have hd:l.cap - k=n:=Option.some.inj hd;rw [hc] at hd;exact hd
theorem qfq {σ:Sub} (hσ:zbP β σ) {v:SV} (h:okS σ v=true) {x:Value} (hd:v.den β=some x):zer σ v=x:=by
 cases v with
 | int k n=>exact Option.some.inj hd
 | bool b=>exact Option.some.inj hd
 | str s=>exact Option.some.inj hd
 | ptr a =>
   obtain ⟨p,hp,_⟩:=q4n (show zah (zdK σ a.nm) false (fun _=>true)=true from h)
   show zah (zdK σ a.nm) undef (fun p=>.pointer (some ⟨p.1,a.off.den,none⟩))=x;rw [hp];obtain ⟨l,hl,h0,hb,_⟩:=hσ _ p hp;simp only [SV.den,SA.den,hl,Option.map_some,Option.some.injEq] at hd;rw [zao,← hd,hb,h0,Nat.zero_add]
 | nilPtr=>exact Option.some.inj hd
 | slice a l c =>
   obtain ⟨p,hp,hc⟩:=q4n (show zah (zdK σ a.nm) false (fun _=>okC σ c)=true from h)
   show zah (zdK σ a.nm) undef (fun p=>.slice (some ⟨p.1,a.off.den,none⟩) l.den (zh8 σ c))=x;rw [hp];obtain ⟨A,C,hA,hC,_,rfl⟩:=zaf.1 hd;obtain ⟨lo,hl,h0,hb,_⟩:=hσ _ p hp;simp only [SA.den,hl,Option.map_some,Option.some.injEq] at hA;rw [zao,← hA,j8e hσ hc hC,hb,h0,Nat.zero_add]
 | zad=>exact Option.some.inj hd
 | map nm=>cases h
 | zau=>exact Option.some.inj hd
 | func=>cases h
 | nilFunc=>exact Option.some.inj hd
 | iface=>cases h
 | nilIface=>exact Option.some.inj hd
 | agg=>cases h
 | tuple=>cases h
 | val y=>exact Option.some.inj hd
 | tail=>cases h
theorem qgy {σ:Sub} (hσ:zbP β σ) {c:Cells} {f:(Nat->Value)->Nat->Tree} (h:(q13 σ c f).Ob D S):∃ V n,(∀ vs,zaj β c vs->vs.length=n/\∀ i x,vs[i]? = some x->x=V i)/\(f V n).Ob D S:=by
 cases c with
 | lst l =>
   have h:(zab (zaO (okS σ) l) (f (atV (zas (zer σ) l)) (zay l)) (.stuck 960)).Ob D S:=h;cases hb:zaO (okS σ) l with
   | false=>rw [hb] at h; exact h.elim
   | true =>
     rw [hb] at h;refine ⟨_,_,fun vs hvs=>⟨?_,fun i x hx => ?_⟩,h⟩
     . rw [qha]; exact qra hvs
     . have hl:vs.length=l.length:=qra hvs;have hi:i<l.length:=by have:=(List.getElem?_eq_some_iff.1 hx).1; omega
       obtain ⟨y,hy,hd⟩:=qlc hvs (List.getElem?_eq_getElem hi);rw [hx] at hy; cases hy;show x=((zas (zer σ) l)[i]?).getD undef;rw [qxa,List.getElem?_map,List.getElem?_eq_getElem hi];exact (qfq hσ (qxe _ _ hb _ (List.getElem_mem hi)) hd).symm
 | fn g n =>
   have h:(∀ j,j<n->okS σ (g j)=true)/\(f (fun j=>zer σ (g j)) n).Ob D S:=h;exact ⟨_,_,fun vs hvs=>⟨hvs.1,fun i x hx=>(qfq hσ (h.1 i (by have:=(List.getElem?_eq_some_iff.1 hx).1; have:=hvs.1; omega)) (hvs.2 i x hx)).symm⟩,h.2⟩
 | raw V n=>exact ⟨V,n,fun vs hvs=>hvs,h⟩
def q0k (β:Val) (l:List (Nat × Nat)):Prop:=∀ p∈l,∀ lo,β p.1=some lo->p.2<=lo.cap
theorem j9e {j:Nat} {p:Nat × Nat} {σ:Sub} {k:Sub->List SO->Tree} (hσ:zbP β σ) (hH:zac P O w0 β H w) (hL:∀ lo,β p.1=some lo->p.2<=lo.cap) (h:(zhq j p σ H k).Ob D S):∃ σ' H',zbP β σ'/\zac P O w0 β H' w/\(k σ' H').Ob D S:=by
 unfold zhq at h;cases hs:zdK σ p.1 with
 | some q=>rw [hs] at h; exact ⟨σ,H,hσ,hH,h⟩
 | none =>
   rw [hs] at h;replace h:(zah (qlf H j) (.stuck 962) fun m=>zah (nth H p.1) (.stuck 962) fun e=>zhp σ p.1 p.2 H j m e k).Ob D S:=h;cases hm:qlf H j with
   | none=>rw [hm] at h; exact h.elim
   | some m =>
     rw [hm] at h;replace h:(zah (nth H p.1) (.stuck 962) fun e=>zhp σ p.1 p.2 H j m e k).Ob D S:=h;cases he:nth H p.1 with
     | none=>rw [he] at h; exact h.elim
     | some e =>
       rw [he] at h;replace h:(zhp σ p.1 p.2 H j m e k).Ob D S:=h;have hj:H[j]? = some (.mem m):=by
        unfold qlf at hm;rw [qda] at hm;cases hh:H[j]? with
        | none=>rw [hh] at hm; cases hm
        | some e' =>
          rw [hh] at hm;have hm:zgQ e' none=some m:=hm;cases e' with
          | mem m'=>cases hm; rfl
          | own=>cases hm
          | row=>cases hm
          | loop=>cases hm
          | deferred=>cases hm
          | gone=>cases hm
          | obj=>cases hm
       cases e with
       | own c wh el =>
         rw [qda] at he;obtain ⟨V,n,hV,h⟩:=qgy (f:=fun V n=>.any fun z=>k ((p.1,m.fresh (z 0),if p.2<=z 1 then z 1 else p.2)::σ) (zbv (zbv H p.1 .gone) j (.mem (m.add (m.fresh (z 0)) n (if p.2<=z 1 then z 1 else p.2) el V)))) hσ h
         obtain ⟨l,hl,h0,hfree,hH'⟩:=hH.retire he hj hV;have h:=h fun i=>if i=0 then l.blk else l.cap
         have e1:m.fresh l.blk=l.blk:=Mem.zfk hfree;have e2:(if p.2<=l.cap then l.cap else p.2)=l.cap:=if_pos (hL l hl)
         simp only [if_pos,if_neg (show ¬ (1=0) from by decide)] at h
         rw [e1,e2,quc,quc] at h;exact ⟨_,_,hσ.cons hl h0,hH',h⟩
       | row=>exact h.elim
       | loop=>exact h.elim
       | deferred=>exact h.elim
       | gone=>exact h.elim
       | obj=>exact h.elim
       | mem=>exact h.elim
theorem qat {j:Nat}:∀ {l:List (Nat × Nat)} {H:List SO} {σ:Sub} {k:Sub->List SO->Tree},zbP β σ->zac P O w0 β H w->q0k β l->(zfs j l σ H k).Ob D S->∃ σ' H',zbP β σ'/\zac P O w0 β H' w/\(k σ' H').Ob D S
 | [],H,σ,_,hσ,hH,_,h=>⟨σ,H,hσ,hH,h⟩
 | p::l,H,σ,k,hσ,hH,hL,h=>by
   have h:(zhq j p σ H fun σ H=>zfs j l σ H k).Ob D S:=h;obtain ⟨σ1,H1,h1,h2,h3⟩:=j9e hσ hH (hL p List.mem_cons_self) h;exact qat h1 h2 (fun q hq=>hL q (List.mem_cons_of_mem _ hq)) h3
theorem jaf {σ:Sub} {nm:Nat} {k:List SO->Tree} (hσ:zbP β σ) (hH:zac P O w0 β H w) (h:(zhs σ nm H k).Ob D S):∃ H',zac P O w0 β H' w/\(k H').Ob D S:=by
 unfold zhs at h;cases he:nth H nm with
 | none=>rw [he] at h; exact ⟨H,hH,h⟩
 | some e =>
   rw [he] at h;replace h:(recO σ nm H e k).Ob D S:=h;cases e with
   | own c wh el =>
     obtain ⟨V,n,hV,h⟩:=qgy (f:=fun V n=>k (zbv H nm (.own (.raw V n) wh el))) hσ h;rw [quc] at h;rw [qda] at he;exact ⟨_,hH.zgK (c':=.raw V n) he hV,h⟩
   | row=>exact ⟨H,hH,h⟩
   | loop=>exact ⟨H,hH,h⟩
   | deferred=>exact ⟨H,hH,h⟩
   | gone=>exact ⟨H,hH,h⟩
   | obj=>exact ⟨H,hH,h⟩
   | mem=>exact ⟨H,hH,h⟩
theorem qy1 {σ:Sub} (hσ:zbP β σ):∀ {l:List Nat} {H:List SO} {k:List SO->Tree},zac P O w0 β H w->(zhr σ l H k).Ob D S->∃ H',zac P O w0 β H' w/\(k H').Ob D S
 | [],H,_,hH,h=>⟨H,hH,h⟩
 | nm::l,H,k,hH,h=>by
   have h:(zhs σ nm H fun H=>zhr σ l H k).Ob D S:=h;obtain ⟨H1,h1,h2⟩:=jaf hσ hH h;exact qy1 hσ h1 h2
theorem qhy {v:SV} {x:Value} (hd:v.den β=some x):q0k β (zdP v):=by
 intro p hp lo hlo;cases v with
 | slice a l c =>
   have hp:p∈[(a.nm,q23 a.nm c l.den)]:=hp;rw [List.mem_singleton] at hp;subst hp;obtain ⟨A,C,hA,hC,hle,_⟩:=zaf.1 hd;show q23 a.nm c l.den<=lo.cap;cases c with
   | lit n=>exact Nat.zero_le _
   | sym n=>exact Nat.zero_le _
   | rest nm k =>
     show zab (Nat.beq nm a.nm) (zab (Nat.beq k 0) l.den 0) 0<=lo.cap;cases hb:Nat.beq nm a.nm with
     | false=>exact Nat.zero_le _
     | true =>
       cases hk:Nat.beq k 0 with
       | false=>exact Nat.zero_le _
       | true =>
         have e1:=Nat.eq_of_beq_eq_true hb;have e2:=Nat.eq_of_beq_eq_true hk;subst e1 e2;simp only [SC.den] at hC;have hlo:β a.nm=some lo:=hlo;rw [hlo] at hC;have hC:lo.cap - 0=C:=Option.some.inj hC;show l.den<=lo.cap;omega
 | _=>first | (cases hp; done) | (exact absurd hp (by simp [zdP,SV.asSlice]))
theorem qcm:∀ {l:List SV} {vs:List Value},SV.zal β l=some vs->q0k β (q7m l)
 | [],_,_,p,hp=>by cases hp
 | v::l,vs,hd,p,hp=>by
   obtain ⟨y,ys,hy,hl,rfl⟩:=zae.1 hd;have hp:p∈app (zdP v) (q7m l):=hp;rw [q7a,List.mem_append] at hp;rcases hp with hp | hp
   . exact qhy hy p hp
   . exact qcm hl p hp
theorem jpa (hH:zac P O w0 β H w) {n:Nat} {e:SO} (he:H[n]? = some e):q0k β (zjt e):=by
 intro p hp;cases e with
 | own c wh el =>
   cases c with
   | lst l =>
     obtain ⟨lo,vs,rest,a,b,_,_,hc,_⟩:=hH.entries _ _ he;exact qcm (show SV.zal β l=some vs from hc) p hp
   | fn=>cases hp
   | raw=>cases hp
 | row=>cases hp
 | loop=>cases hp
 | deferred=>cases hp
 | gone=>cases hp
 | obj=>cases hp
 | mem=>cases hp
theorem q5r (hH:zac P O w0 β H w):∀ l:List Nat,q0k β (qer H l)
 | [],p,hp=>by cases hp
 | nm::l,p,hp=>by
   have hp:p∈app (zah (nth H nm) [] zjt) (qer H l):=hp;rw [q7a,List.mem_append] at hp;rcases hp with hp | hp
   . rw [qda] at hp;cases he:H[nm]? with
     | none=>rw [he] at hp; cases hp
     | some e=>rw [he] at hp; exact jpa hH he p hp
   . exact q5r hH l p hp
theorem jqa {j:Nat} {l:List Nat} {k:List SO->Tree} (hH:zac P O w0 β H w) (h:(q6v j l H k).Ob D S):∃ H',zac P O w0 β H' w/\(k H').Ob D S:=by
 unfold q6v at h;have hL:=q5r hH l;cases hn:qer H l with
 | nil=>rw [hn] at h; exact ⟨H,hH,h⟩
 | cons p r =>
   rw [hn] at h hL;replace h:(zfs j (p::r) [] H fun σ H'=>zhr σ (fnsE H' l) H' k).Ob D S:=h;obtain ⟨σ,H1,h1,h2,h3⟩:=qat zbP.nil hH hL h;exact qy1 h1 h2 h3
theorem qvp {σ:Sub} (hσ:zbP β σ) {v:SV} {x:Value} (hd:v.den β=some x) (h:(List.rec (motive:=fun _=>Bool) true (fun _ _ _=>okS σ v) (zdP v):Bool)=true):((List.rec (motive:=fun _=>SV) v (fun _ _ _=>.val (zer σ v)) (zdP v):SV)).den β=some x:=by
 cases hn:zdP v with
 | nil=>exact hd
 | cons p r =>
   rw [hn] at h;show some (zer σ v)=some x;rw [qfq hσ h hd]
theorem qwp {σ:Sub} (hσ:zbP β σ):∀ {l:List SV} {vs:List Value},SV.zal β l=some vs->zaO (fun v=>List.rec (motive:=fun _=>Bool) true (fun _ _ _=>okS σ v) (zdP v)) l=true->SV.zal β (zas (fun v=>List.rec (motive:=fun _=>SV) v (fun _ _ _=>.val (zer σ v)) (zdP v)) l)=some vs
 | [],_,hd,_=>hd
 | v::l,vs,hd,h=>by
   obtain ⟨y,ys,hy,hl,rfl⟩:=zae.1 hd;have h':=qxe _ _ h;refine zae.2 ⟨y,ys,qvp hσ hy (h' v List.mem_cons_self),qwp hσ hl ?_,rfl⟩;have hv:=h' v List.mem_cons_self;have h:zab (List.rec (motive:=fun _=>Bool) true (fun _ _ _=>okS σ v) (zdP v)) (zaO _ l) false=true:=h;rw [hv] at h;exact h
theorem q54 {σ:Sub} (hσ:zbP β σ) {v:SV} {x:Value} (hd:v.den β=some x) (h:zgq σ v=true):(q8m σ v).den β=some x:=by
 cases v with
 | agg l =>
   simp only [SV.den,Option.map_eq_some_iff] at hd;obtain ⟨vs,hvs,rfl⟩:=hd;show (SV.agg (zas _ l)).den β=_;simp only [SV.den];rw [qwp hσ hvs h]; rfl
 | _=>exact qvp hσ hd h
theorem q64 {v:SV} {x:Value} (hd:v.den β=some x):q0k β (q9m v):=by
 cases v with
 | agg l =>
   simp only [SV.den,Option.map_eq_some_iff] at hd;obtain ⟨vs,hvs,rfl⟩:=hd;exact qcm hvs
 | _=>exact qhy hd
theorem jra {j:Nat} {x:Operand} {T:List SV} {ts:List Value} {k:List SV->List SO->Tree} (hH:zac P O w0 β H w) (hT:SV.zal β T=some ts) (h:(qrl j x T H k).Ob D S):∃ T' H',SV.zal β T'=some ts/\zac P O w0 β H' w/\(k T' H').Ob D S:=by
 unfold qrl at h;cases hx:zhk x with
 | none=>rw [hx] at h; exact ⟨T,H,hT,hH,h⟩
 | some t =>
   rw [hx] at h;replace h:(zah (nth T t) (k T H) fun v=>List.rec (motive:=fun _=>Tree) (k T H) (fun p r _=>zfs j (p::r) [] H fun σ H'=>zab (zgq σ v) (k (zbv T t (q8m σ v)) H') (.stuck 963)) (q9m v)).Ob D S:=h;cases hv:nth T t with
   | none=>rw [hv] at h; exact ⟨T,H,hT,hH,h⟩
   | some v =>
     rw [hv] at h;replace h:(List.rec (motive:=fun _=>Tree) (k T H) (fun p r _=>zfs j (p::r) [] H fun σ H'=>zab (zgq σ v) (k (zbv T t (q8m σ v)) H') (.stuck 963)) (q9m v):Tree).Ob D S:=h;rw [qda] at hv;obtain ⟨y,hy,hd⟩:=qlc hT hv;have hL:=q64 hd;cases hn:q9m v with
     | nil=>rw [hn] at h; exact ⟨T,H,hT,hH,h⟩
     | cons p r =>
       rw [hn] at h hL;replace h:(zfs j (p::r) [] H fun σ H'=>zab (zgq σ v) (k (zbv T t (q8m σ v)) H') (.stuck 963)).Ob D S:=h;obtain ⟨σ,H1,h1,h2,h3⟩:=qat zbP.nil hH hL h;cases hok:zgq σ v with
       | false=>rw [hok] at h3; exact h3.elim
       | true =>
         rw [hok] at h3;refine ⟨_,H1,?_,h2,h3⟩;rw [quc];have:=q4i hT (n:=t) (q54 h1 hd hok);rw [this];congr 1;obtain ⟨ht,rfl⟩:=List.getElem?_eq_some_iff.1 hy;exact List.set_getElem_self ht
theorem q30 {j:Nat} {m:Mem} (hm:qlf H j=some m):H[j]? = some (.mem m):=by
 unfold qlf at hm;rw [qda] at hm;cases hh:H[j]? with
 | none=>rw [hh] at hm; cases hm
 | some e' =>
   rw [hh] at hm;have hm:zgQ e' none=some m:=hm;cases e' with
   | mem m'=>cases hm; rfl
   | own=>cases hm
   | row=>cases hm
   | loop=>cases hm
   | deferred=>cases hm
   | gone=>cases hm
   | obj=>cases hm
theorem jbf {j:Nat} (h:qwj (zbv H j .gone)=true):∀ (k:Nat) (m':Mem),H[k]? = some (.mem m')->k=j:=fun k m' hk=>by
 by_cases hkj:k=j
 . exact hkj
 . refine absurd ?_ (qnl h k m');rw [quc,List.getElem?_set_ne (fun e=>hkj e.symm)];exact hk
theorem jsa {j:Nat} {cl:Call} {T:List SV} {ts:List Value} {k:List SV->List SO->Tree} (hH:zac P O w0 β H w) (hT:SV.zal β T=some ts) (h:(q7v P j cl T H k).Ob D S) :
  ∃ β' T' H',β.le β'/\SV.zal β' T'=some ts/\zac P O w0 β' H' w/\(k T' H').Ob D S:=by
 have same:(k T H).Ob D S->∃ β' T' H',β.le β'/\SV.zal β' T'=some ts/\zac P O w0 β' H' w/\(k T' H').Ob D S:=fun h=>⟨β,T,H,Val.le_refl β,hT,hH,h⟩;unfold q7v at h;cases hx:nth cl.args.toList 0 with
 | none=>rw [hx] at h; exact same h
 | some x =>
 rw [hx,zao] at h;cases ht:zhk x with
 | none=>rw [ht] at h; exact same h
 | some t =>
 rw [ht,zao] at h;cases hv:nth T t with
 | none=>rw [hv] at h; exact same h
 | some v =>
 rw [hv,zao] at h;cases v with
 | val y =>
   replace h:(zah (nth cl.argTypes.toList 0) (k T H) fun st=>zah (P.underlying st) (k T H) fun d=>TypeDesc.zga d (k T H) fun el=>zah (qlf H j) (k T H) fun m=>borrow j m y el t T H k).Ob D S:=h;cases hst:nth cl.argTypes.toList 0 with
   | none=>rw [hst] at h; exact same h
   | some st =>
   rw [hst,zao] at h;cases hd:P.underlying st with
   | none=>rw [hd] at h; exact same h
   | some d =>
   rw [hd,zao] at h;cases d <;> first | exact same h | skip
   rename_i el;replace h:(zah (qlf H j) (k T H) fun m=>borrow j m y el t T H k).Ob D S:=h;cases hm:qlf H j with
   | none=>rw [hm] at h; exact same h
   | some m =>
   rw [hm,zao] at h;unfold borrow at h;cases hn:qwj (zbv H j .gone) with
   | false=>rw [hn] at h; exact h.elim
   | true =>
   rw [hn,zak] at h;obtain ⟨⟨h1,hle,h2,n,h3⟩,h4⟩:=h;have hj:=q30 hm;obtain ⟨h5,h6⟩:=hH.borrow hj (jbf hn) h3;rw [q7a,quc,quc,qha,h3,zao] at h4;refine ⟨_,_,_,h6,?_,h5,h4⟩;rw [qda] at hv;obtain ⟨z,hz,hd⟩:=qlc hT hv;have hd:some y=some z:=hd;cases hd;have hset:=q4i (SV.zan h6 _ hT) (n:=t) (v:=.slice ⟨H.length,.lit 0⟩ (.sym (zaL y)) (.rest H.length 0)) (x:=y) ?_
   . rw [hset];congr 1;obtain ⟨ht,rfl⟩:=List.getElem?_eq_some_iff.1 hz;exact List.set_getElem_self ht
   . refine zaf.2 ⟨⟨(zaV y).block,0,none⟩,zbY y,?_,?_,hle,?_⟩
     . simp [SA.den,Val.upd_same,SN.den]
     . simp [SC.den,Val.upd_same]
     . rw [← h2]; exact h1.symm
 | _=>exact same h
end
section
variable {c:Cfg} {B:Base} {D:SV->List SO->Prop} {S:SS->Prop}
theorem qiy {j:Nat} (hP:B.P=c.P) {s:SS} {m:Machine} {k:SS->Tree} (hM:zdH B s m) (h:(q9w c j s k).Ob D S):∃ s',zdH B s' m/\(k s').Ob D S:=by
 obtain ⟨F,H⟩:=s;cases F with
 | nil=>exact ⟨_,hM,h⟩
 | cons f rest =>
   have same:(k ⟨f::rest,H⟩).Ob D S->∃ s',zdH B s' m/\(k s').Ob D S:=fun h=>⟨_,hM,h⟩;obtain ⟨β,fr,frs,w,rfl,hFs,hH,hG,hl⟩:=hM.ex;obtain ⟨hF,hR⟩:=hFs;have fin:∀ (β':Val) (T':List SV) (H':List SO),β.le β'->SV.zal β' T'=some fr.tmps.toList->zac B.P B.O B.w0 β' H' w->(k ⟨⟨f.fn,T',f.todo,f.defers,f.roundOf⟩::rest,H'⟩).Ob D S->∃ s',zdH B s' (lone fr (frs++B.cs) w)/\(k s').Ob D S :=
    fun β' T' H' hle hT' hH' h=>⟨⟨⟨f.fn,T',f.todo,f.defers,f.roundOf⟩::rest,H'⟩,⟨β',fr,frs,w,rfl,⟨⟨hF.fn,hT',hF.todo.mono hle,SD.zan hle hF.defers,hF.mode,hF.kind,hF.round.mono hle⟩,hR.mono hle⟩,hH',hG.mono hle,hl⟩,h⟩
   obtain ⟨fn,T,td,ds,ro⟩:=f;replace h:(qy6 c j ⟨fn,T,td,ds,ro⟩ H fun fr H=>k ⟨fr::rest,H⟩).Ob D S:=h;cases td with
   | nil=>exact same h
   | cons x r =>
     replace h:(qx6 c j x T H fun T H=>k ⟨⟨fn,T,x::r,ds,ro⟩::rest,H⟩).Ob D S:=h;cases x with
     | ops os l =>
       cases l with
       | nil =>
         obtain ⟨H',h1,h2⟩:=jqa hH (show (q6v j (jkd T os.toList) H fun H=>k ⟨⟨fn,T,.ops os []::r,ds,ro⟩::rest,H⟩).Ob D S from h)
         exact fin β T H' (Val.le_refl β) hF.tmps h1 h2
       | cons o l =>
         replace h:(q8w c j os o T H fun T H=>k ⟨⟨fn,T,.ops os (o::l)::r,ds,ro⟩::rest,H⟩).Ob D S:=h;have ret:∀ x,(qrl j x T H fun T H=>k ⟨⟨fn,T,.ops os (o::l)::r,ds,ro⟩::rest,H⟩).Ob D S->∃ s',zdH B s' (lone fr (frs++B.cs) w)/\(k s').Ob D S:=fun x h=>by
          obtain ⟨T',H',h1,h2,h3⟩:=jra hH hF.tmps h;exact fin β T' H' (Val.le_refl β) h1 h2 h3
         unfold q8w at h;cases hg:o.guard with
         | some g=>rw [hg] at h; exact same h
         | none =>
           rw [hg] at h;cases ho:o.op <;> rw [ho] at h <;> first | exact same h | skip
           . rename_i t a x;replace h:(zab (zjD H (evS c.glob T a)) (qrl j x T H fun T H=>k ⟨⟨fn,T,.ops os (o::l)::r,ds,ro⟩::rest,H⟩) (k ⟨⟨fn,T,.ops os (o::l)::r,ds,ro⟩::rest,H⟩)).Ob D S:=h;cases hb:zjD H (evS c.glob T a) with
             | true=>rw [hb] at h; exact ret x h
             | false=>rw [hb] at h; exact same h
           . rename_i t m k' x;replace h:(zab (zjG H (evS c.glob T m)) (qrl j x T H fun T H=>k ⟨⟨fn,T,.ops os (o::l)::r,ds,ro⟩::rest,H⟩) (k ⟨⟨fn,T,.ops os (o::l)::r,ds,ro⟩::rest,H⟩)).Ob D S:=h;cases hb:zjG H (evS c.glob T m) with
             | true=>rw [hb] at h; exact ret x h
             | false=>rw [hb] at h; exact same h
           . rename_i cl;replace h:(q7w c j os cl T H fun T H=>k ⟨⟨fn,T,.ops os (o::l)::r,ds,ro⟩::rest,H⟩).Ob D S:=h;unfold q7w at h;split at h
             . rename_i b hcb;split at h
               . cases hb:c.each os with
                 | false=>rw [hb] at h; exact same h
                 | true =>
                   rw [hb,← hP] at h;replace h:(q7v B.P j cl T H fun T H=>k ⟨⟨fn,T,.ops os (o::l)::r,ds,ro⟩::rest,H⟩).Ob D S:=h;obtain ⟨β',T',H',h1,h2,h3,h4⟩:=jsa hH hF.tmps h;exact fin β' T' H' h1 h2 h3 h4
               . exact same h
             . exact same h
     | code=>exact same h
     | inBlock=>exact same h
     | inLoop=>exact same h
     | inScope=>exact same h
     | ze1=>exact same h
     | zd1=>exact same h
     | beginRound=>exact same h
end
end
noncomputable section
variable {α:Type}
section
variable {c:Cfg} {B:Base} {go:SS->Tree} {D:SV->List SO->Prop} {S:SS->Prop}
theorem q5n (w:World) (o:Obj):(w.alloc o).heap[w.heap.size]? = some o:=by
 show (w.heap.push o)[w.heap.size]? = _;simp
theorem qgq {P:Program} {b:Frame} {a:Act} {k:List Item} {cs:List Frame} {w:World} {g:Operand} {ps:Array Tmp} {assign body:Code} {l:Nat} {mark:List Deferred} {w₁ w₂:World} {f:FuncId} {args:Array Value}
  (he:(Instr.enterLoop b.fn a.tmps ps assign body b.roundOf).run P w=.ok (l,mark) w₁) {d:Deferred}
  (hres:(resolve a.eval (rangeCall g l) 0).run P w₁=.ok d w₁) (hinv:(invoke d.target d.args).run P w₁=.ok (.enter f args) w₂) :
  step P (lone (b.atR a (.code (.rangeFunc g ps assign body)::k)) cs w)=.next (lone (Frame.enter P f args .normal) (b.atR { a with defers:=mark++a.defers } (.inRangeFunc l::k)::cs) w₂) :=
 stepR_rangeFunc he hres hinv
theorem qhq {P:Program} {b:Frame} {a:Act} {k:List Item} {cs:List Frame} {w:World} {g:Operand} {ps:Array Tmp} {assign body:Code} {l:Nat} {mark:List Deferred} {w₁ w₂:World} {v:Value}
  (he:(Instr.enterLoop b.fn a.tmps ps assign body b.roundOf).run P w=.ok (l,mark) w₁) {d:Deferred}
  (hres:(resolve a.eval (rangeCall g l) 0).run P w₁=.ok d w₁) (hinv:(invoke d.target d.args).run P w₁=.ok (.value v) w₂) :
  step P (lone (b.atR a (.code (.rangeFunc g ps assign body)::k)) cs w)=.next (lone ((b.atR { a with defers:=mark++a.defers } (.inRangeFunc l::k)).finish v) cs w₂) :=
 step_lone_go (by
  have hev:=Frame.eval_atR b { a with defers:=mark++a.defers } (.inRangeFunc l::k)
  simp only [Frame.atR] at hev;have hres':Sem.run P (resolve ({ tmps:=a.tmps,defers:=mark++a.defers }:Act).eval { callee:=.value g,args := #[.const (.func (.yield l) #[] #[])],argTypes := #[] } 0) w₁=.ok d w₁:=hres;simp [stepG,stepG.exec,Frame.atR,Sem.runT_eq,he,GStep.bare_after,stepG.apply,hev,Sem.run_bind,hres',hinv,Result.andThen])
theorem q40 {P:Program} {β:Val} {w:World} {f:SV} {fv:Value} {az args:List SV} {vs:List Value} {g:FuncId} (h:qtj f az=.ok (.enter g args)) (hf:f.den β=some fv) (has:SV.zal β az=some vs) :
  ∃ d us,(Deferred.ofValue fv vs.toArray).run P w=.ok d w/\SV.zal β args=some us/\(invoke d.target d.args).run P w=(callFunc g us.toArray).run P w:=by
 unfold qtj at h;rcases qpg f with ⟨fn,xs,ys,h'⟩ | h'
 . rw [h'] at hf h;simp only [SV.den,Option.bind_eq_some_iff,Option.map_eq_some_iff] at hf;obtain ⟨F,hF,x,hx,y,hy,rfl⟩:=hf;cases fn with
   | yield nm=>cases h
   | fn fn =>
     simp only [SFn.den,Option.some.injEq] at hF;subst hF;cases fn with
     | func g' =>
       cases h;exact ⟨_,x++(vs++y),rfl,q4d hx (q4d has hy),by simp [invoke]⟩
     | method=>cases h
     | methodOf=>cases h
     | via=>cases h
     | yield=>cases h
 . rw [h'] at h; cases h
theorem qjy (hc:zaC c) (hP:B.P=c.P) (hgl:B.glob=c.glob) {f:Operand} {ps:Array Tmp} {az bd:Code} {k:List zaK} {s:SF} {rest:List SF} {H:List SO} {β:Val} {fr:Frame} {frs:List Frame} {w:World} (hF:zar β s fr) (hR:zat β rest frs) (hH:zac B.P B.O B.w0 β H w) (hG:zcD B β)
  (hl:((fr::frs).getLast?).map (·.fn)=some B.fn0) (htd:s.todo=.code (.rangeFunc f ps az bd)::k) (hob:(q0w c f ps az bd s k rest H go).Ob D S):After B go D S (lone fr (frs++B.cs) w):=by
 have zbf:=hF.todo;rw [htd] at zbf;cases hft:fr.todo with
 | nil=>rw [hft] at zbf; exact zbf.elim
 | cons y k' =>
   rw [hft] at zbf;obtain ⟨hxy,hkk⟩:=zbf;cases y <;> first | exact hxy.elim | skip
   rename_i cd;have hcd:cd=.rangeFunc f ps az bd:=hxy;subst hcd;have hfv:=qne (glob:=c.glob) (a:=⟨fr.tmps,fr.defers⟩) hF.tmps (hgl▸hG.glob) f;unfold q0w at hob;have zaE:=hF.round;rw [qha] at hob;have key:∀ (β1:Val) (H1:List SO) (w1:World) (nm:Nat) (ll:Loc) (sd:List SD) (mark:List Deferred),β.le β1->β1 nm=some ll->zac B.P B.O B.w0 β1 H1 w1->SD.zal β1 sd=some (mark++fr.defers) ->
     (Instr.enterLoop fr.fn fr.tmps ps az bd fr.roundOf).run B.P w=.ok (ll.blk,mark) w1 ->
     (match qtj (evS c.glob s.tmps f) [.func (.yield nm) [] []] with
      | .ok (.enter g args)=>qmk c g args ⟨s.fn,s.tmps,.ze1 nm::k,sd,s.roundOf⟩ rest H1 go
      | _=>.stuck 414).Ob D S->After B go D S (lone fr (frs++B.cs) w):=by
    intro β1 H1 w1 nm ll sd mark hle hnm hH1 hsd hent hob;split at hob
    . rename_i g args hcall;have hyd:SV.zal β1 [.func (.yield nm) [] []]=some [.func (.yield ll.blk) #[] #[]]:=by
       simp [SV.zal,SV.den,SFn.den,hnm]
      obtain ⟨d,us,hd,hus,hinv⟩:=q40 (P:=B.P) (w:=w1) hcall (SV.zav hle _ hfv) hyd;have hF1:zar β1 ⟨s.fn,s.tmps,.ze1 nm::k,sd,s.roundOf⟩ (fr.atR ⟨fr.tmps,mark++fr.defers⟩ (.inRangeFunc ll.blk::k')) :=
       ⟨hF.fn,SV.zan hle _ hF.tmps,⟨⟨ll,hnm,rfl⟩,hkk.mono hle⟩,hsd,rfl,hF.kind,hF.round.mono hle⟩
      have hres:(resolve (Act.eval ⟨fr.tmps,fr.defers⟩) (rangeCall f ll.blk) 0).run B.P w1=.ok d w1:=by
       have e:resolve (Act.eval ⟨fr.tmps,fr.defers⟩) (rangeCall f ll.blk) 0=Deferred.ofValue (Act.eval ⟨fr.tmps,fr.defers⟩ f) #[.func (.yield ll.blk) #[] #[]]:=by simp [resolve,Act.eval]
       rw [e]; exact hd
      refine qvn hc hP hgl hF1 (hR.mono hle) hH1 (hG.mono hle) ((qac (f:=fr) (f':=fr.atR ⟨fr.tmps,mark++fr.defers⟩ (.inRangeFunc ll.blk::k')) rfl).trans hl) hus hob (fun he=>.one ?_) fun v w' he=>.one ?_
      . conv=>lhs; rw [qvb hF.mode,hft]
        exact qgq (a:=⟨fr.tmps,fr.defers⟩) hent hres (hinv.trans he)
      . conv=>lhs; rw [qvb hF.mode,hft]
        exact qhq (a:=⟨fr.tmps,fr.defers⟩) hent hres (hinv.trans he)
    . exact hob.elim
   cases hro:s.roundOf with
   | none =>
     rw [hro] at hob zaE;have hfr:fr.roundOf=none:=by
      cases hx:fr.roundOf with
      | none=>rfl
      | some b=>rw [hx] at zaE; exact zaE.elim
     have hb0:=hH.bound _ (Nat.le_refl H.length);have hE1:Eff B.P β w H.length [] [.deferred (some [])] (β.upd H.length ⟨w.heap.size,0,0⟩) (w.alloc (.deferred (some []))) :=
      Eff.zjz hb0 rfl ⟨_,some [],Val.upd_same _ _ _,rfl,q5n _ _⟩
     have hH1:=hH.apply hE1 (by simp)
     rw [qoc] at hH1;replace hH1:zac B.P B.O B.w0 _ (H++[.deferred (some [])]) _:=hH1;have hlen:(H++[SO.deferred (some [])]).length=H.length+1:=by simp
     have hb1:=hH1.bound _ (Nat.le_refl _);have hE2:Eff B.P (β.upd H.length ⟨w.heap.size,0,0⟩) (w.alloc (.deferred (some []))) (H++[SO.deferred (some [])]).length [] [.loop .ready none s.fn s.tmps ps az bd H.length] ((β.upd H.length ⟨w.heap.size,0,0⟩).upd (H++[SO.deferred (some [])]).length ⟨(w.alloc (.deferred (some []))).heap.size,0,0⟩)
       ((w.alloc (.deferred (some []))).alloc (.loop { state:=.ready,pending:=none,fn:=fr.fn,tmps:=fr.tmps,params:=ps,assign:=az,body:=bd,defers:=w.heap.size })):=by
      refine Eff.zjz hb1 rfl ⟨_,⟨w.heap.size,0,0⟩,fr.tmps.toList,Val.upd_same _ _ _,Val.zbh hb1 _ _ (Val.upd_same _ _ _),SV.zan (Val.le_trans hE1.le (Val.zbh hb1)) _ hF.tmps,?_⟩;rw [hF.fn]; exact q5n _ _
     have hH2:=hH1.apply hE2 (by simp)
     rw [qoc] at hH2;have hle:=Val.le_trans hE1.le hE2.le;refine key _ _ _ (H.length+1) ⟨(w.alloc (.deferred (some []))).heap.size,0,0⟩ (.coll H.length::s.defers) [{ target:=.collected w.heap.size,args := #[] }] hle ?_ hH2 ?_ ?_ ?_
     . rw [← hlen]; exact Val.upd_same _ _ _
     . have h1:=hE2.le _ _ (Val.upd_same β H.length ⟨w.heap.size,0,0⟩);have h2:=SD.zan (Val.le_trans hE1.le hE2.le) hF.defers;show (SD.den _ (.coll H.length)).bind _=_;simp only [SD.den,h1,Option.map_some,Option.bind_some,h2];rfl
     . rw [hfr,run_enterLoop_outer,World.size_alloc]
     . have e:qbc (H++[SO.deferred (some [])]) []++[SO.loop .ready none s.fn s.tmps ps az bd H.length]=app H [.deferred (some []),.loop .ready none s.fn s.tmps ps az bd H.length]:=by
        rw [q7a]; show (H++_)++_=_; simp
       rw [e,hro];exact hob
   | some nm0 =>
     rw [hro] at hob zaE;simp only at hob;cases hx:fr.roundOf with
     | none=>rw [hx] at zaE; exact zaE.elim
     | some b =>
       rw [hx] at zaE;obtain ⟨l0,hl0,rfl⟩:=zaE;split at hob
       . rename_i st p f0 T0 ps0 a0 b0 d hloop;obtain ⟨l1,r,hl1,hh,_,_,_,_,_,_,_,⟨ld,hd,hrd⟩,_⟩:=q0h hH (qpf hloop);rw [hl0] at hl1; cases hl1;have hb0:=hH.bound _ (Nat.le_refl H.length);have hE1:Eff B.P β w H.length [] [.loop .ready none s.fn s.tmps ps az bd d] (β.upd H.length ⟨w.heap.size,0,0⟩)
           (w.alloc (.loop { state:=.ready,pending:=none,fn:=fr.fn,tmps:=fr.tmps,params:=ps,assign:=az,body:=bd,defers:=r.defers })):=by
          refine Eff.zjz hb0 rfl ⟨_,ld,fr.tmps.toList,Val.upd_same _ _ _,Val.zbh hb0 _ _ hd,SV.zan (Val.zbh hb0) _ hF.tmps,?_⟩;rw [hF.fn,hrd]; exact q5n _ _
         have hH1:=hH.apply hE1 (by simp)
         rw [qoc] at hH1;refine key _ _ _ H.length _ s.defers [] hE1.le (Val.upd_same _ _ _) hH1 ?_ ?_ ?_
         . rw [List.nil_append]; exact SD.zan hE1.le hF.defers
         . rw [hx]; exact run_enterLoop_inner hh _ _ _ _ _
         . have e:qbc H []++[SO.loop .ready none s.fn s.tmps ps az bd d]=app H [.loop .ready none s.fn s.tmps ps az bd d]:=by
            rw [q7a]; rfl
           rw [e,hro];split at hob
           . rename_i g args hcall;rw [hcall]; exact hob
           . exact hob.elim
       . exact hob.elim
theorem q6r (hc:zaC c) (hP:B.P=c.P) (hgl:B.glob=c.glob) {s:SS} {m:Machine} (hM:zdH B s m) (hob:(q8v c s go).Ob D S):After B go D S m:=by
 obtain ⟨β,fr,frs,w,rfl,hFs,hH,hG,hl⟩:=hM.ex;obtain ⟨frames,H⟩:=s;cases frames with
 | nil=>exact hFs.elim
 | cons s rest =>
   obtain ⟨hF,hR⟩:=hFs;replace hob:(jjd s.todo s rest c H go).Ob D S:=hob;cases htd:s.todo with
   | nil=>rw [htd] at hob; exact qwm hc hP hgl hF hR hH hG hl (.inl htd) hob
   | cons x k =>
     rw [htd] at hob;replace hob:(jid x k s rest c H go).Ob D S:=hob;have zbf:=hF.todo;rw [htd] at zbf;cases hft:fr.todo with
     | nil=>rw [hft] at zbf; exact zbf.elim
     | cons y k' =>
       rw [hft] at zbf;obtain ⟨hxy,hkk⟩:=zbf;cases x with
       | inBlock id =>
         cases y <;> first | exact hxy.elim | skip
         refine q2c hF hR hH hG hl hkk hob ?_
         rw [hft]; exact stepR_inBlock
       | inScope cd =>
         cases y <;> first | exact hxy.elim | skip
         refine q2c hF hR hH hG hl hkk hob ?_
         rw [hft]; exact step_lone_go (by simp [stepG,stepG.exec,Frame.atR])
       | inLoop cd =>
         cases y <;> first | exact hxy.elim | skip
         . rename_i cd';have:cd'=.loop cd:=hxy;subst this;refine q2c hF hR hH hG hl (k:=.code cd::.inLoop cd::k) (k':=.code cd::.inLoop cd::k') ⟨rfl,rfl,hkk⟩ hob ?_
           rw [hft]; exact stepR_loop
         . rename_i cd';have:cd'=cd:=hxy;subst this;refine q2c hF hR hH hG hl (k:=.code cd'::.inLoop cd'::k) (k':=.code cd'::.inLoop cd'::k') ⟨rfl,rfl,hkk⟩ hob ?_
           rw [hft]; exact stepR_inLoop
       | ze1 nm=>exact hob.elim
       | zd1 nm =>
         cases y <;> first | exact hxy.elim | skip
         rename_i b;obtain ⟨l0,hl0,rfl⟩:=hxy;replace hob:(q6w nm k s rest c H go).Ob D S:=hob;unfold q6w at hob;split at hob
         . rename_i st p f T ps a b d hloop;obtain ⟨l1,r,hl1,hh,hst,hpe,_,_,_,_,_,_,hturn⟩:=q0h hH (qpf hloop);rw [hl0] at hl1; cases hl1;obtain ⟨hnb,td,htd2,hob⟩:st≠.busy/\∃ td,za0 β td ((p.map Item.code).toList++k')/\(go ⟨⟨s.fn,s.tmps,td,s.defers,s.roundOf⟩::rest,zbv H nm (.loop .exhausted p f T ps a b d)⟩).Ob D S:=by
            cases st <;> first
             | exact hob.elim
             | (cases p with
               | none=>exact ⟨by simp,k,hkk,hob⟩
               | some j=>exact ⟨by simp,.code j::k,⟨rfl,hkk⟩,hob⟩)
           subst hpe;have hrun:=run_endLoop (P:=B.P) hh (by rw [hst]; exact hnb)
           have hstep:=stepR_endRangeFunc (P:=B.P) (b:=fr) (a:=⟨fr.tmps,fr.defers⟩) (k:=k') (cs:=frs++B.cs) hrun;rw [← hft,← qvb hF.mode] at hstep;have hH':=hturn .exhausted r.pending;exact ⟨_,.one hstep,.inl ⟨_,hob,⟨β,_,frs,_,rfl,⟨⟨hF.fn,hF.tmps,htd2,hF.defers,rfl,hF.kind,hF.round⟩,hR⟩,hH',hG,Eq.trans (qac (f:=fr) (f':=fr.atR ⟨fr.tmps,fr.defers⟩ _) rfl) hl⟩⟩⟩
         . exact hob.elim
       | beginRound =>
         cases y <;> first | exact hxy.elim | skip
         replace hob:(q5w k s rest c H go).Ob D S:=hob;unfold q5w at hob;split at hob
         . rename_i nm hro;have zaE:=hF.round;rw [hro] at zaE;cases hx:fr.roundOf with
           | none=>rw [hx] at zaE; exact zaE.elim
           | some b =>
             rw [hx] at zaE;obtain ⟨l0,hl0,rfl⟩:=zaE;split at hob
             . rename_i p f T ps a b d hloop;obtain ⟨l1,r,hl1,hh,hst,hpe,_,_,_,_,_,_,hturn⟩:=q0h hH (qpf hloop);rw [hl0] at hl1; cases hl1;subst hpe;have hstep:=stepR_beginRound (P:=B.P) (b:=fr) (a:=⟨fr.tmps,fr.defers⟩) (k:=k') (cs:=frs++B.cs) hx (run_beginRound hh hst);rw [← hft,← qvb hF.mode] at hstep;have hH':=hturn .busy r.pending;exact ⟨_,.one hstep,.inl ⟨_,hob,⟨β,_,frs,_,rfl,⟨⟨hF.fn,hF.tmps,hkk,hF.defers,rfl,hF.kind,hF.round⟩,hR⟩,hH',hG,Eq.trans (qac (f:=fr) (f':=fr.atR ⟨fr.tmps,fr.defers⟩ _) rfl) hl⟩⟩⟩
             . exact hob.elim
         . exact hob.elim
       | ops os l =>
         cases l with
         | nil =>
           cases y <;> first | exact hxy.elim | skip
           rename_i os' idx;obtain ⟨rfl,hat⟩:=hxy;cases idx with
           | cons=>exact hat.elim
           | nil =>
           refine q2c hF hR hH hG hl hkk hob ?_
           rw [hft]; exact stepR_region_end
         | cons o l=>exact q07 hc hP hgl hF hR hH hG hl htd hob
       | code cd =>
         cases y <;> first | exact hxy.elim | skip
         rename_i cd';have hcd:cd'=cd:=hxy;subst hcd;replace hob:(jhd cd' k s rest c H go).Ob D S:=hob;cases cd' with
         | skip=>refine q2c hF hR hH hG hl hkk hob ?_; rw [hft]; exact stepR_skip
         | label n=>refine q2c hF hR hH hG hl hkk hob ?_; rw [hft]; exact stepR_label
         | seq a b=>refine q2c hF hR hH hG hl (k:=.code a::.code b::k) (k':=.code a::.code b::k') ⟨rfl,rfl,hkk⟩ hob ?_; rw [hft]; exact stepR_seq
         | block id body=>refine q2c hF hR hH hG hl (k:=.code body::.inBlock id::k) (k':=.code body::.inBlock id::k') ⟨rfl,rfl,hkk⟩ hob ?_; rw [hft]; exact stepR_block
         | loop body =>
           replace hob:(go ⟨s.to (.inLoop body::k)::rest,H⟩).Ob D S:=hob;exact ⟨_,.refl _ _,.inl ⟨_,hob,⟨β,fr,frs,w,rfl,⟨⟨hF.fn,hF.tmps,by rw [hft]; exact ⟨rfl,hkk⟩,hF.defers,hF.mode,hF.kind,hF.round⟩,hR⟩,hH,hG,hl⟩⟩⟩
         | scope body =>
           refine q2c hF hR hH hG hl (k:=.code body::.inScope body::k) (k':=.code body::.inScope body::k') ⟨rfl,rfl,hkk⟩ hob ?_
           rw [hft]; exact step_lone_go (by simp [stepG,stepG.exec,Frame.atR])
         | goto n=>exact hob.elim
         | refuse w=>exact hob.elim
         | ret=>exact qwm hc hP hgl hF hR hH hG hl (.inr ⟨k,htd⟩) hob
         | exit id =>
           replace hob:(qu3 id k s rest c H go).Ob D S:=hob;unfold qu3 at hob;have hsp:=qzr (β:=β) id k k' hkk;cases hex:qto id k with
           | some r =>
             rw [hex] at hob hsp;obtain ⟨r',hr',hrr⟩:=hsp;refine q2c hF hR hH hG hl hrr hob ?_
             rw [hft]; exact stepR_exit hr'
           | none =>
             rw [hex] at hob hsp;simp only at hob hsp;split at hob
             . rename_i nm hro;have zaE:=hF.round;rw [hro] at zaE;cases hx:fr.roundOf with
               | none=>rw [hx] at zaE; exact zaE.elim
               | some b =>
                 rw [hx] at zaE;obtain ⟨l0,hl0,rfl⟩:=zaE;refine qyk hR hH hG hl hob fun l cc cs w' hb hrun => ?_
                 rw [hl0] at hb; cases hb;rw [qvb hF.mode,hft];exact stepR_round_exit hx hF.kind hsp hrun
             . exact hob.elim
         | cond x a b =>
           replace hob:(qt3 x a b k s rest c H go).Ob D S:=hob;unfold qt3 at hob;have hx:=qne (glob:=c.glob) (a:=⟨fr.tmps,fr.defers⟩) hF.tmps (hgl▸hG.glob) x;rcases qbj (evS c.glob s.tmps x) with ⟨v,hv⟩ | hno
           . rw [hv] at hob hx;have hval:Act.eval ⟨fr.tmps,fr.defers⟩ x=.bool v.den:=(Option.some.inj hx).symm;have key:∀ t:Bool,v.den=t->(go ⟨s.to (.code (if t then a else b)::k)::rest,H⟩).Ob D S->After B go D S (lone fr (frs++B.cs) w):=by
              intro t ht hob;refine q2c hF hR hH hG hl (k:=.code (if t then a else b)::k) (k':=.code (if t then a else b)::k') ⟨rfl,hkk⟩ hob ?_
              rw [hft];exact stepR_cond (by rw [hval,ht])
             cases v with
             | lit v=>cases v with
               | true=>exact key true rfl hob
               | false=>exact key false rfl hob
             | sym v=>cases v with
               | true=>exact key true rfl (hob.1 rfl)
               | false=>exact key false rfl (hob.2 rfl)
           . rw [hno] at hob; exact hob.elim
         | region id os draw =>
           cases draw with
           | true=>exact q20 hc hP hgl hF hR hH hG hl htd hob
           | false =>
             refine q2c hF hR hH hG hl (k:=.ops os os.toList::k) (k':=.inRegion os (List.range os.size)::k') ⟨⟨rfl,zbX.all os⟩,hkk⟩ hob ?_
             rw [hft]; exact stepR_region
         | rangeFunc f ps a b=>exact qjy hc hP hgl hF hR hH hG hl htd hob
def Ends (B:Base) (D:SV->List SO->Prop) (S:SS->Prop) (m:Machine):Prop :=
 ∃ m',Steps B.P m m'/\((∃ v H,D v H/\zdf B v H m')\/(∃ s,S s/\zdH B s m'))
theorem qxp (hc:zaC c) (hP:B.P=c.P) (hgl:B.glob=c.glob) {s:SS} {m:Machine} (hM:zdH B s m) (hob:(qfr c s go).Ob D S):After B go D S m:=by
 unfold qfr at hob;cases hj:c.zej with
 | none=>rw [hj] at hob; exact q6r hc hP hgl hM hob
 | some j =>
   rw [hj] at hob;replace hob:(q9w c j s fun s=>q8v c s go).Ob D S:=hob;obtain ⟨s',hM',h⟩:=qiy hP hM hob;exact q6r hc hP hgl hM' h
theorem q6n (hc:zaC c) (hP:B.P=c.P) (hgl:B.glob=c.glob):∀ (n:Nat) (s:SS) (m:Machine),zdH B s m->(sim c n s).Ob D S->Ends B D S m:=by
 intro n;induction n with
 | zero=>intro s m hM h; exact ⟨m,.refl _ _,.inr ⟨s,h,hM⟩⟩
 | succ n ih =>
   intro s m hM h;replace h:(zab (q33 c s) (.stop s) (qfr c s (sim c n))).Ob D S:=h;cases hst:q33 c s with
   | true=>rw [hst] at h; exact ⟨m,.refl _ _,.inr ⟨s,h,hM⟩⟩
   | false =>
     rw [hst] at h;obtain ⟨m1,hs,⟨s',h',hM'⟩ | ⟨v,H,hD,hM'⟩⟩:=qxp hc hP hgl hM h
     . obtain ⟨m2,hs2,hr⟩:=ih s' m1 hM' h';exact ⟨m2,hs.trans hs2,hr⟩
     . exact ⟨m1,hs,.inl ⟨v,H,hD,hM'⟩⟩
theorem q74 (hc:zaC c) (hP:B.P=c.P) (hgl:B.glob=c.glob) {n:Nat} {s:SS} {m:Machine} (hM:zdH B s m) (h:(za9 c n s).Ob D S):Ends B D S m:=by
 obtain ⟨m1,hs,⟨s',h',hM'⟩ | ⟨v,H,hD,hM'⟩⟩:=qxp hc hP hgl hM h
 . obtain ⟨m2,hs2,hr⟩:=q6n hc hP hgl n s' m1 hM' h';exact ⟨m2,hs.trans hs2,hr⟩
 . exact ⟨m1,hs,.inl ⟨v,H,hD,hM'⟩⟩
end
end
noncomputable section
variable {α:Type}
def qka (c:Cfg) (n:Nat) (f:FuncId) (args:List SV) (H:List SO):Tree:=zah (qge c.P f args) (.stuck 500) fun g=>sim c n ⟨[g],H⟩
def Came (P:Program) (O:Nat->Prop) (w0:World) (β:Val) (D:SV->List SO->Prop) (e:Ending) (w':World):Prop :=
 ∃ v H x β',e=.returned x/\D v H/\β.le β'/\v.den β'=some x/\zac P O w0 β' H w'
theorem q7r {c:Cfg} {O:Nat->Prop} {w0 w:World} {β:Val} {H:List SO} {f:FuncId} {args:List SV} {vs:List Value} {g:SF} (hH:zac c.P O w0 β H w) (hG:zaD c.glob β) (ha:SV.zal β args=some vs) (hg:qge c.P f args=some g) (cs:List Frame) :
  zdH ⟨c.P,c.glob,O,w0,cs,f,β⟩ ⟨[g],H⟩ (lone (Frame.enter c.P f vs.toArray .normal) cs w):=by
 obtain ⟨h1,_⟩:=qfu hg ha;exact ⟨β,_,[],w,rfl,⟨h1,trivial⟩,hH,⟨hG,Val.le_refl β⟩,rfl⟩
theorem qky {c:Cfg} (hc:zaC c) {n:Nat} {O:Nat->Prop} {w0 w:World} {β:Val} {H:List SO} {f:FuncId} {args:List SV} {vs:List Value} (hH:zac c.P O w0 β H w) (hG:zaD c.glob β) (ha:SV.zal β args=some vs) {D:SV->List SO->Prop}
  (hob:(qka c n f args H).Ob D fun _=>False):Calls c.P f vs.toArray w (Came c.P O w0 β D):=by
 intro cs;unfold qka at hob;cases hg:qge c.P f args with
 | none=>rw [hg] at hob; exact hob.elim
 | some g =>
   rw [hg] at hob;obtain ⟨m',hs,⟨v,H',hD,hdone⟩ | ⟨s,hS,_⟩⟩:=q6n (B:=⟨c.P,c.glob,O,w0,cs,f,β⟩) hc rfl rfl n _ _ (q7r hH hG ha hg cs) hob
   . obtain ⟨β',fr,x,w',rfl,hfn,hleave,hv,hH',hG'⟩:=hdone.ex;exact ⟨.returned x,w',fr,⟨v,H',x,β',rfl,hD,hG'.fix,hv,hH'⟩,hs,hfn,hleave⟩
   . exact hS.elim
theorem Keep.below {w w':World} (h:Keep (fun _=>False) w w'):Go.RowKit.Below w.heap.size w w' :=
 ⟨h.os,h.tape,h.output,h.size,fun k hk=>h.block k hk fun f=>f⟩
def jcf:Val:=fun _=>none
theorem zac.start (P:Program) (O:Nat->Prop) (w:World):zac P O w jcf [] w :=
 ⟨⟨by simp,by simp,by simp,⟨rfl,rfl,rfl,Nat.le_refl _,Nat.le_refl _,fun _ _ _=>rfl⟩,by simp,by simp⟩,fun _ _=>rfl⟩
theorem zaD.none (β:Val):zaD (fun _=>Option.none) β:=fun _ _ h=>by cases h
end
noncomputable section
variable {α:Type}
def SA.ren (f:Nat->Nat) (a:SA):SA:=⟨f a.nm,a.off⟩
def SC.ren (f:Nat->Nat):SC->SC
 | .lit n=>.lit n
 | .sym n=>.sym n
 | .rest nm k=>.rest (f nm) k
def SFn.ren (f:Nat->Nat):SFn->SFn
 | .fn g=>.fn g
 | .yield nm=>.yield (f nm)
mutual
def SV.ren (f:Nat->Nat):SV->SV
 | .int k n=>.int k n
 | .bool b=>.bool b
 | .str s=>.str s
 | .ptr a=>.ptr (a.ren f)
 | .nilPtr=>.nilPtr
 | .slice a l c=>.slice (a.ren f) l (c.ren f)
 | .zad=>.zad
 | .map nm=>.map (f nm)
 | .zau=>.zau
 | .func g xs ys=>.func (g.ren f) (SV.zbJ f xs) (SV.zbJ f ys)
 | .nilFunc=>.nilFunc
 | .iface t v=>.iface t (v.ren f)
 | .nilIface=>.nilIface
 | .agg l=>.agg (SV.zbJ f l)
 | .tuple l=>.tuple (SV.zbJ f l)
 | .val v=>.val v
 | .tail a n l c=>.tail (a.ren f) n l (c.ren f)
def SV.zbJ (f:Nat->Nat):List SV->List SV
 | []=>[]
 | v::l=>v.ren f::SV.zbJ f l
end
theorem SC.zaF (f:Nat->Nat) (β:Val) (c:SC):(c.ren f).den β=c.den (fun n=>β (f n)):=by cases c <;> rfl
theorem SFn.zaF (f:Nat->Nat) (β:Val) (c:SFn):(c.ren f).den β=c.den (fun n=>β (f n)):=by cases c <;> rfl
mutual
theorem SV.zaF (f:Nat->Nat) (β:Val):(v:SV)->(v.ren f).den β=v.den (fun n=>β (f n))
 | .int _ _=>rfl
 | .bool _=>rfl
 | .str _=>rfl
 | .ptr _=>rfl
 | .nilPtr=>rfl
 | .slice a l c=>by simp only [SV.ren,SV.den,SC.zaF]; rfl
 | .zad=>rfl
 | .map _=>rfl
 | .zau=>rfl
 | .func g xs ys=>by simp only [SV.ren,SV.den,SFn.zaF,SV.zaJ f β xs,SV.zaJ f β ys]
 | .nilFunc=>rfl
 | .iface t v=>by simp only [SV.ren,SV.den,SV.zaF f β v]
 | .nilIface=>rfl
 | .agg l=>by simp only [SV.ren,SV.den,SV.zaJ f β l]
 | .tuple l=>by simp only [SV.ren,SV.den,SV.zaJ f β l]
 | .val _=>rfl
 | .tail a n l c=>by simp only [SV.ren,SV.den,SC.zaF]; rfl
theorem SV.zaJ (f:Nat->Nat) (β:Val):(l:List SV)->SV.zal β (SV.zbJ f l)=SV.zal (fun n=>β (f n)) l
 | []=>rfl
 | v::l=>by simp only [SV.zbJ,SV.zal,SV.zaF f β v,SV.zaJ f β l]
end
def SC.uses (p:Nat->Bool):SC->Bool
 | .rest nm _=>p nm
 | _=>true
def SFn.uses (p:Nat->Bool):SFn->Bool
 | .yield nm=>p nm
 | _=>true
mutual
def SV.uses (p:Nat->Bool):SV->Bool
 | .ptr a=>p a.nm
 | .slice a _ c=>p a.nm && c.uses p
 | .tail a _ _ c=>p a.nm && c.uses p
 | .map nm=>p nm
 | .func g xs ys=>g.uses p && (SV.zbi p xs && SV.zbi p ys)
 | .iface _ v=>v.uses p
 | .agg l=>SV.zbi p l
 | .tuple l=>SV.zbi p l
 | _=>true
def SV.zbi (p:Nat->Bool):List SV->Bool
 | []=>true
 | v::l=>v.uses p && SV.zbi p l
end
theorem SC.zaM {p:Nat->Bool} {β β':Val} (hp:∀ n,p n=true->β n=β' n) {c:SC} (h:c.uses p=true):c.den β=c.den β':=by
 cases c with
 | rest nm k=>simp only [SC.den,hp nm h]
 | _=>rfl
theorem SFn.zaM {p:Nat->Bool} {β β':Val} (hp:∀ n,p n=true->β n=β' n) {c:SFn} (h:c.uses p=true):c.den β=c.den β':=by
 cases c with
 | yield nm=>simp only [SFn.den,hp nm h]
 | _=>rfl
mutual
theorem SV.zaM {p:Nat->Bool} {β β':Val} (hp:∀ n,p n=true->β n=β' n):(v:SV)->v.uses p=true->v.den β=v.den β'
 | .int _ _,_=>rfl
 | .bool _,_=>rfl
 | .str _,_=>rfl
 | .ptr a,h=>by simp only [SV.den,SA.den,hp a.nm h]
 | .nilPtr,_=>rfl
 | .slice a l c,h=>by
   simp only [SV.uses,Bool.and_eq_true] at h;simp only [SV.den,SA.den,hp a.nm h.1,SC.zaM hp h.2]
 | .zad,_=>rfl
 | .map nm,h=>by simp only [SV.den,hp nm h]
 | .zau,_=>rfl
 | .func g xs ys,h=>by
   simp only [SV.uses,Bool.and_eq_true] at h;simp only [SV.den,SFn.zaM hp h.1,SV.zaY hp xs h.2.1,SV.zaY hp ys h.2.2]
 | .nilFunc,_=>rfl
 | .iface t v,h=>by simp only [SV.den,SV.zaM hp v h]
 | .nilIface,_=>rfl
 | .agg l,h=>by simp only [SV.den,SV.zaY hp l h]
 | .tuple l,h=>by simp only [SV.den,SV.zaY hp l h]
 | .val _,_=>rfl
 | .tail a n l c,h=>by
   simp only [SV.uses,Bool.and_eq_true] at h;simp only [SV.den,SA.den,hp a.nm h.1,SC.zaM hp h.2]
theorem SV.zaY {p:Nat->Bool} {β β':Val} (hp:∀ n,p n=true->β n=β' n):(l:List SV)->SV.zbi p l=true->SV.zal β l=SV.zal β' l
 | [],_=>rfl
 | v::l,h=>by
   simp only [SV.zbi,Bool.and_eq_true] at h;simp only [SV.zal,SV.zaM hp v h.1,SV.zaY hp l h.2]
end
def Cells.ren (f:Nat->Nat):Cells->Cells
 | .lst l=>.lst (SV.zbJ f l)
 | .fn g n=>.fn (fun i=>(g i).ren f) n
 | .raw V n=>.raw V n
def Cells.Uses (p:Nat->Bool):Cells->Prop
 | .lst l=>SV.zbi p l=true
 | .fn g _=>∀ i,(g i).uses p=true
 | .raw _ _=>True
theorem zaj.ren {f:Nat->Nat} {β β':Val} {p:Nat->Bool} {c:Cells} (hu:c.Uses p) (hp:∀ n,p n=true->β (f n)=β' n) {vs:List Value}:zaj β (c.ren f) vs↔zaj β' c vs:=by
 cases c with
 | lst l =>
   show SV.zal β (SV.zbJ f l)=some vs↔SV.zal β' l=some vs;rw [SV.zaJ,SV.zaY hp l hu]
 | fn g n =>
   show (vs.length=n/\∀ i x,vs[i]? = some x->((g i).ren f).den β=some x)↔(vs.length=n/\∀ i x,vs[i]? = some x->(g i).den β'=some x);have:∀ i,((g i).ren f).den β=(g i).den β':=fun i=>by rw [SV.zaF,SV.zaM hp _ (hu i)]
   simp only [this]
 | raw V n=>exact Iff.rfl
def q9v (f:Nat->Nat) (es:List (SV × SV × Nat)):List (SV × SV × Nat):=zas (fun e=>(e.1.ren f,e.2.1.ren f,e.2.2)) es
def zaW.ren (f:Nat->Nat) (o:zaW):zaW:=zaW.rec (motive:=fun _=>zaW) (fun es clock=>.map (q9v f es) clock) (fun m since seen last=>.iter (zah m none fun n=>some (f n)) since seen last) (fun s pos=>.str s pos) (fun ks vs es c=>.zaU ks vs es c) o
theorem qyp (f:Nat->Nat) (β:Val):∀ es:List (SV × SV × Nat),qma β (q9v f es)=qma (fun n=>β (f n)) es
 | []=>rfl
 | e::r=>by
   show qma β ((e.1.ren f,e.2.1.ren f,e.2.2)::q9v f r)=_;simp only [qma,SV.zaF,qyp f β r]
theorem zaW.zaF (f:Nat->Nat) (β:Val) (o:zaW):(o.ren f).den β=o.den (fun n=>β (f n)):=by
 cases o with
 | map es clock =>
   show (qma β (q9v f es)).map _=(qma _ es).map _;rw [qyp]
 | iter m since seen last=>cases m <;> rfl
 | str s pos=>rfl
 | zaU=>rfl
def zaW.Imp (a b:zaW):Prop:=∀ β x,a.den β=some x->b.den β=some x
def qly (p:Nat->Bool) (es:List (SV × SV × Nat)):Bool:=List.rec (motive:=fun _=>Bool) true (fun e _ ih=>zab (e.1.uses p) (zab (e.2.1.uses p) ih false) false) es
def zaW.uses (p:Nat->Bool) (o:zaW):Bool:=zaW.rec (motive:=fun _=>Bool) (fun es _=>qly p es) (fun m _ _ _=>zah m true p) (fun _ _=>true) (fun _ _ _ _=>true) o
theorem q8r {a b:Bool} (h:zab a b false=true):a=true/\b=true:=by cases a <;> first | (cases h; done) | exact ⟨rfl,h⟩
theorem q7n {p:Nat->Bool} {β β':Val} (hp:∀ n,p n=true->β n=β' n):(es:List (SV × SV × Nat))->qly p es=true->qma β es=qma β' es
 | [],_=>rfl
 | e::r,h=>by
   obtain ⟨h1,h2⟩:=q8r (show zab (e.1.uses p) (zab (e.2.1.uses p) (qly p r) false) false=true from h)
   obtain ⟨h2,h3⟩:=q8r h2;simp only [qma,SV.zaM hp _ h1,SV.zaM hp _ h2,q7n hp r h3]
theorem zaW.zaM {p:Nat->Bool} {β β':Val} (hp:∀ n,p n=true->β n=β' n) {o:zaW} (h:o.uses p=true):o.den β=o.den β':=by
 cases o with
 | map es c =>
   show (qma β es).map _=(qma β' es).map _;rw [q7n hp es h]
 | iter m since seen last =>
   cases m with
   | none=>rfl
   | some m =>
     have h:p m=true:=h;show (β m).map _=(β' m).map _;rw [hp m h]
 | str s pos=>rfl
 | zaU=>rfl
structure Ifc where
 names:List Nat
 ents:List SO
 args:List SV
def Ifc.big (I:Ifc) (j:Nat):Nat:=(nth I.names j).getD 0
def Ifc.known (I:Ifc) (j:Nat):Bool:=Nat.blt j (zay I.names)
def SO.placed:SO->Bool
 | .own _ _ _=>true
 | .row _=>true
 | _=>false
def SV.Imp (v u:SV):Prop:=∀ β x,v.den β=some x->u.den β=some x
def SV.zge (l m:List SV):Prop:=∀ β vs,SV.zal β l=some vs->SV.zal β m=some vs
theorem SV.zge.refl (l:List SV):SV.zge l l:=fun _ _ h=>h
def Cells.Imp (c d:Cells):Prop:=∀ β vs,zaj β c vs->zaj β d vs
def Cells.zfo (c d:Cells):Prop:=∀ β vs,zaj β c vs->∃ k,zaj β d (vs.take k)
theorem SV.Imp.refl (v:SV):v.Imp v:=fun _ _ h=>h
theorem Cells.Imp.refl (c:Cells):c.Imp c:=fun _ _ h=>h
theorem Cells.Imp.front {c d:Cells} (h:c.Imp d):c.zfo d:=fun β vs x=>⟨vs.length,by rw [List.take_length]; exact h β vs x⟩
def Taken (f:Nat->Nat) (E e:SO):Prop :=
 match E with
 | .own c w el=>∃ c0,e=.own c0 w el/\c0.Imp (c.ren f)
 | .row c=>∃ c0,(e=.row c0\/∃ w el,e=.own c0 w el)/\c0.zfo (c.ren f)
 | .gone=>e.placed=true
 | _=>False
def SO.zdg (p:Nat->Bool):SO->Prop
 | .own c _ _=>c.Uses p
 | .row c=>c.Uses p
 | .gone=>True
 | _=>False
structure Ifc.Fits (I:Ifc) (H:List SO):Prop where
 len:I.ents.length=I.names.length
 nodup:∀ (i j nm:Nat),I.names[i]? = some nm->I.names[j]? = some nm->i=j
 zeB:SV.zbi I.known I.args=true
 ent:∀ (j:Nat) (E:SO),I.ents[j]? = some E->∃ e,H[I.big j]? = some e/\Taken I.big E e
 zco:∀ (j:Nat) (E:SO),I.ents[j]? = some E->E.zdg I.known
def Ifc.val (I:Ifc) (β:Val):Val:=fun j=>if I.known j then β (I.big j) else none
def Ifc.owns (I:Ifc) (β:Val) (b:Nat):Prop:=∃ (j:Nat) (c:Cells) (w:Bool) (el:TypeId) (l:Loc),I.ents[j]? = some (.own c w el)/\β (I.big j)=some l/\l.blk=b
theorem Ifc.zaI (I:Ifc) (j:Nat):I.known j=true↔j<I.names.length:=by
 unfold Ifc.known;rw [qha];constructor
 . intro h; have:=Nat.le_of_ble_eq_true h; omega
 . intro h; exact Nat.ble_eq_true_of_le h
theorem Ifc.zaw {I:Ifc} {β:Val}:∀ n,I.known n=true->β (I.big n)=I.val β n:=fun n h=>by unfold Ifc.val; rw [if_pos h]
theorem Ifc.zbA {I:Ifc} {j:Nat} (h:j<I.names.length):I.names[j]? = some (I.big j):=by
 unfold Ifc.big;rw [qda,List.getElem?_eq_getElem h]; rfl
theorem World.cell_of_block {w w':World} {a:Addr} (h:w'.heap[a.block]? = w.heap[a.block]?):w'.cell? a=w.cell? a:=by
 unfold World.cell?;rw [h]
theorem Ifc.heap {P:Program} {O:Nat->Prop} {w0 w:World} {β:Val} {H:List SO} {I:Ifc} (h:HeapRel0 P O w0 β H w) (hI:I.Fits H):zac P (I.owns β) w (I.val β) I.ents w:=by
 have hj:∀ (j:Nat) (E:SO),I.ents[j]? = some E->j<I.names.length:=fun j E he=>by
  rw [← hI.len]; exact (List.getElem?_eq_some_iff.1 he).1
 have hval:∀ (j:Nat) (E:SO),I.ents[j]? = some E->I.val β j=β (I.big j):=fun j E he=>by
  exact (Ifc.zaw j ((I.zaI j).2 (hj j E he))).symm
 have hne:∀ (i j:Nat) (E E':SO),I.ents[i]? = some E->I.ents[j]? = some E'->i≠j->I.big i≠I.big j:=fun i j E E' h1 h2 hij heq =>
  hij (hI.nodup i j (I.big i) (Ifc.zbA (hj i E h1)) (by rw [heq]; exact Ifc.zbA (hj j E' h2)))
 refine ⟨⟨fun n E hn => ?_,fun n m E E' l l' hn hm ho ho' hnm hl hl' => ?_,fun n E l hn ho hl => ?_,⟨rfl,rfl,rfl,Nat.le_refl _,Nat.le_refl _,fun _ _ _=>rfl⟩,fun n m hn=>(hI.zco n _ hn).elim,fun n _ m _ hn=>(hI.zco n _ hn).elim⟩,fun n hn => ?_⟩
 . obtain ⟨e,he,ht⟩:=hI.ent n E hn;have hu:=hI.zco n E hn;have hv:=hval n E hn;have h0:=h.entries _ e he;cases E with
   | own c wh el =>
     obtain ⟨c0,rfl,himp⟩:=ht;obtain ⟨l,vs,rest,lo,hi,hl,h0',hc,hh,hfz,hw,hcap⟩:=h0;exact ⟨l,vs,rest,lo,hi,hv.trans hl,h0',(zaj.ren hu Ifc.zaw).1 (himp _ _ hc),hh,hfz,hw,hcap⟩
   | row c =>
     have htake:∀ (vs:List Value) (k i:Nat) (x:Value),(vs.take k)[i]? = some x->vs[i]? = some x:=by
      intro vs k i x h;rw [List.getElem?_take] at h;split at h
      . exact h
      . cases h
     obtain ⟨c0,ht,himp⟩:=ht;rcases ht with rfl | ⟨wh,el,rfl⟩
     . obtain ⟨l,vs,hl,hc,hx⟩:=h0;obtain ⟨kk,hc⟩:=himp _ _ hc;refine ⟨l,vs.take kk,hv.trans hl,(zaj.ren hu Ifc.zaw).1 hc,fun i x hi => ?_⟩;obtain ⟨h1,h2,h3⟩:=hx i x (htake _ _ _ _ hi);refine ⟨Nat.lt_of_lt_of_le h1 h.keep.size,?_,?_⟩
       . rintro ⟨j,c',w',el',l',hj',hl',hb⟩;obtain ⟨e',he',ht'⟩:=hI.ent j _ hj';obtain ⟨c1,rfl,_⟩:=ht';rcases h.fresh _ _ l' he' rfl hl' with h4 | h4
         . omega
         . exact h2 (hb▸h4)
       . rw [World.cell_of_block (h.keep.block _ h1 h2)]; exact h3
     . obtain ⟨l,vs,rest,lo,hi,hl,h0',hc,hh,hfz,hw,hcap⟩:=h0;obtain ⟨kk,hc⟩:=himp _ _ hc;refine ⟨l,vs.take kk,hv.trans hl,(zaj.ren hu Ifc.zaw).1 hc,fun i x hi0=>⟨(Array.getElem?_eq_some_iff.1 hh).1,?_,?_⟩⟩
       . rintro ⟨j,c',w',el',l',hj',hl',hb⟩;obtain ⟨e',he',ht'⟩:=hI.ent j _ hj';obtain ⟨c1,rfl,_⟩:=ht';by_cases hnj:n=j
         . subst hnj; rw [hn] at hj'; cases hj'
         . exact h.sep _ _ _ _ l l' he he' rfl rfl (hne n j _ _ hn hj' hnj) hl hl' hb.symm
       . unfold World.cell?;rw [hh,h0',Nat.zero_add];have hi':=htake _ _ _ _ hi0;have hlt:=(List.getElem?_eq_some_iff.1 hi').1;simp only [List.getElem?_toArray,List.getElem?_append_left hlt,hi'];rfl
   | loop=>exact hu.elim
   | deferred=>exact hu.elim
   | gone=>trivial
   | mem=>trivial
   | obj=>exact hu.elim
 . obtain ⟨e,he,ht⟩:=hI.ent n E hn;obtain ⟨e',he',ht'⟩:=hI.ent m E' hm;rw [hval n E hn] at hl;rw [hval m E' hm] at hl';cases E with
   | own c wh el =>
     cases E' with
     | own c' wh' el' =>
       obtain ⟨c1,rfl,_⟩:=ht;obtain ⟨c2,rfl,_⟩:=ht';exact h.sep _ _ _ _ l l' he he' rfl rfl (hne n m _ _ hn hm hnm) hl hl'
     | row=>cases ho'
     | loop=>exact (hI.zco m _ hm).elim
     | deferred=>exact (hI.zco m _ hm).elim
     | gone=>cases ho'
     | mem=>exact ht'.elim
     | obj=>exact (hI.zco m _ hm).elim
   | row=>cases ho
   | loop=>exact (hI.zco n _ hn).elim
   | deferred=>exact (hI.zco n _ hn).elim
   | gone=>cases ho
   | mem=>exact ht.elim
   | obj=>exact (hI.zco n _ hn).elim
 . rw [hval n E hn] at hl;cases E with
   | own c wh el=>exact .inr ⟨n,c,wh,el,l,hn,hl,rfl⟩
   | row=>cases ho
   | loop=>exact (hI.zco n _ hn).elim
   | deferred=>exact (hI.zco n _ hn).elim
   | gone=>cases ho
   | mem=>exact (hI.zco n _ hn).elim
   | obj=>exact (hI.zco n _ hn).elim
 . unfold Ifc.val;rw [if_neg];rw [I.zaI,← hI.len]; omega
def zcZ (k:Nat) (l:List Nat):Nat:=List.rec (motive:=fun _=>Nat) 0 (fun a _ ih=>zab (Nat.beq a k) 0 (Nat.succ ih)) l
def Ifc.out (I:Ifc) (base:Nat) (keep:List Nat) (j:Nat):Nat:=zab (I.known j) (I.big j) (base+zcZ j keep)
def Ifc.seen (I:Ifc) (keep:List Nat) (j:Nat):Bool:=zab (I.known j) true (zbD j keep)
def Given (p:Nat->Bool) (g:Nat->Nat) (E:Option SO) (e:SO):Prop:=∃ c w el c',E=some (.own c w el)/\c.Uses p/\(c.ren g).Imp c'/\e=.own c' w el
theorem Given.notMem {p:Nat->Bool} {g:Nat->Nat} {E:Option SO} {e:SO} (h:Given p g E e):∀ m,e≠.mem m:=fun m hm=>by
 obtain ⟨_,_,_,_,_,_,_,h⟩:=h;rw [h] at hm; cases hm
structure Ifc.Out (I:Ifc) (base:Nat) (turn keep:List Nat) (r:zaH) (v:SV) (H:List SO):Prop where
 val:(v.ren (I.out base keep)).Imp r.v
 uv:v.uses (I.seen keep)=true
 zcK:r.sets.length=turn.length
 sets:∀ (i j:Nat),turn[i]? = some j->∃ e,r.sets[i]? = some (I.big j,e)/\Given (I.seen keep) (I.out base keep) H[j]? e
 newsLen:r.news.length=keep.length
 news:∀ (i j:Nat),keep[i]? = some j->∃ e,r.news[i]? = some e/\Given (I.seen keep) (I.out base keep) H[j]? e
theorem q3e {k:Nat} {l:List Nat} (h:k∈l):l[zcZ k l]? = some k:=by
 induction l with
 | nil=>cases h
 | cons a l ih =>
   show (a::l)[zab (Nat.beq a k) 0 (Nat.succ (zcZ k l))]? = _;by_cases ha:a=k
   . subst ha; rw [show Nat.beq a a=true from Nat.beq_refl a]; rfl
   . rw [show Nat.beq a k=false from Bool.eq_false_iff.2 fun h=>ha (Nat.eq_of_beq_eq_true h)]
     simpa using ih ((List.mem_cons.1 h).resolve_left fun e=>ha e.symm)
theorem zch {n:Nat} {l:List Nat}:zbD n l=true↔n∈l:=by
 constructor
 . intro h;induction l with
   | nil=>cases h
   | cons a l ih =>
     have h':zab (Nat.beq a n) true (zbD n l)=true:=h;by_cases ha:a=n
     . subst ha; exact List.mem_cons_self
     . rw [show Nat.beq a n=false from Bool.eq_false_iff.2 fun h=>ha (Nat.eq_of_beq_eq_true h)] at h'
       exact List.mem_cons_of_mem _ (ih h')
 . exact q9f
theorem q84 {c:Cfg} {O:Nat->Prop} {w0 w:World} {β:Val} {H:List SO} {base:Nat} {f:FuncId} {vs:List Value} (hH:HeapRel0 c.P O w0 β H w)
  (I:Ifc) (hgl:∀ g j,c.glob g=some j->I.known j=true/\∃ l,β (I.big j)=some l/\l.blk=g/\l.off=0) (ha:SV.zal β (SV.zbJ I.big I.args)=some vs) (hI:I.Fits H) {r:zaH} (turn keep:List Nat) (ht1:∀ (j:Nat) c w el,I.ents[j]? = some (.own c w el)->j∈turn) (ht2:∀ j∈turn,∃ c w el,I.ents[j]? = some (.own c w el)) (hk:∀ j∈keep,I.names.length<=j) (hkn:keep.Nodup) (htn:turn.Nodup:=by simp)
  (hbody:∃ fn,c.P.funcs[f]? = some fn/\fn.body.isSome=true)
  (hrun:zac c.P (I.owns β) w (I.val β) I.ents w->zaD c.glob (I.val β)->SV.zal (I.val β) I.args=some vs->Calls c.P f vs.toArray w (Came c.P (I.owns β) w (I.val β) (I.Out base turn keep r))):qtb c.P H β w base f vs r:=by
 intro hfree;have hH':=Ifc.heap hH hI;have ha':SV.zal (I.val β) I.args=some vs:=by
  rw [SV.zaJ,SV.zaY Ifc.zaw _ hI.zeB] at ha; exact ha
 have zcs:=hrun hH' (fun g j hg=>let ⟨hk,l,h1,h2⟩:=hgl g j hg; ⟨l,by rw [← Ifc.zaw j hk]; exact h1,h2⟩) ha'
 have hown:∀ j∈turn,∃ cb wb el l vs rest lo hi,H[I.big j]? = some (.own cb wb el)/\β (I.big j)=some l/\I.val β j=some l/\j<I.names.length/\w.heap[l.blk]? = some (.cells (vs++rest:List Value).toArray el (lo,hi)):=by
  intro j hj;obtain ⟨cc,ww,el,he⟩:=ht2 j hj;obtain ⟨e,he',ht⟩:=hI.ent j _ he;obtain ⟨c1,rfl,_⟩:=ht;obtain ⟨l,vs,rest,lo,hi,hl,_,_,hh,_⟩:=hH.entries _ _ he';have hjl:j<I.names.length:=by rw [← hI.len]; exact (List.getElem?_eq_some_iff.1 he).1
  exact ⟨_,_,_,l,vs,rest,lo,hi,he',hl,by rw [← Ifc.zaw j ((I.zaI j).2 hjl)]; exact hl,hjl,hh⟩
 have zci:∀ (v:SV) (H'':List SO),I.Out base turn keep r v H''->∀ m e,(m,e)∈r.sets->∃ j∈turn,m=I.big j/\Given (I.seen keep) (I.out base keep) H''[j]? e/\∃ i:Nat,turn[i]? = some j/\r.sets[i]? = some (m,e):=by
  intro v H'' hout m e hm;obtain ⟨i,hi⟩:=List.mem_iff_getElem?.1 hm;have hil:=(List.getElem?_eq_some_iff.1 hi).1;rw [hout.zcK] at hil;obtain ⟨e',h1,h2⟩:=hout.sets i _ (List.getElem?_eq_getElem hil);rw [hi] at h1;cases h1;exact ⟨_,List.getElem_mem hil,rfl,h2,i,List.getElem?_eq_getElem hil,hi⟩
 refine ⟨?_,.inl ⟨hbody,?_⟩⟩
 . intro m e hm;obtain ⟨e',w',fr,zbL,_⟩:=zcs [];obtain ⟨v,H'',x,β'',_,hout,_⟩:=zbL;obtain ⟨j,hj,rfl,hg,_⟩:=zci v H'' hout m e hm;obtain ⟨cb,wb,el,l,vs,rest,lo,hi,h1,_⟩:=hown j hj;exact ⟨_,h1,rfl,.not hg.notMem⟩
 . intro cs;obtain ⟨e',w',fr,zbL,hst⟩:=zcs cs;refine ⟨e',w',fr,?_,hst⟩;obtain ⟨v,H'',x,β'',rfl,hout,hle,hv,hH2⟩:=zbL
   let βb:Val:=fun n=>if base<=n/\n<base+keep.length then (keep[n - base]?).bind β'' else β n
   have zcj:r.news.length=keep.length:=hout.newsLen;have hfree':∀ i,i<keep.length->β (base+i)=none:=fun i hi=>hfree i (by rw [zcj]; exact hi)
   have hβle:β.le βb:=by
    intro n l hn;show (if _ then _ else _)=_
    rw [if_neg]
    . exact hn
    . rintro ⟨h1,h2⟩;have:=hfree' (n - base) (by omega)
      rw [show base+(n - base)=n from by omega,hn] at this; cases this
   have zbb:∀ j,I.seen keep j=true->βb (I.out base keep j)=β'' j:=by
    intro j hj;unfold Ifc.seen at hj;unfold Ifc.out;cases hkn':I.known j with
    | true =>
      rw [zak];have hjl:=(I.zaI j).1 hkn';obtain ⟨E,hE⟩:∃ E,I.ents[j]? = some E:=⟨_,List.getElem?_eq_getElem (by rw [hI.len]; exact hjl)⟩
      obtain ⟨e,he,htk⟩:=hI.ent j E hE;have hsome:∃ l,β (I.big j)=some l:=by
       have h0:=hH.entries _ e he;have hu:=hI.zco j E hE;have zcN:e.placed=true:=by
        cases E with
        | own cc ww el=>obtain ⟨c1,rfl,_⟩:=htk; rfl
        | row cc=>obtain ⟨c1,rfl | ⟨ww,el,rfl⟩,_⟩:=htk <;> rfl
        | loop=>exact hu.elim
        | deferred=>exact hu.elim
        | gone=>exact htk
        | mem=>exact htk.elim
        | obj=>exact hu.elim
       cases e with
       | own cc ww el=>obtain ⟨l,_,_,_,_,hl,_⟩:=h0; exact ⟨l,hl⟩
       | row cc=>obtain ⟨l,_,hl,_⟩:=h0; exact ⟨l,hl⟩
       | loop=>cases zcN
       | deferred=>cases zcN
       | gone=>cases zcN
       | mem=>cases zcN
       | obj=>cases zcN
      obtain ⟨l,hl⟩:=hsome;rw [hβle _ _ hl];have:I.val β j=some l:=by rw [← Ifc.zaw j hkn']; exact hl
      rw [hle _ _ this]
    | false =>
      rw [hkn',zam,zch] at hj;rw [zam];have h1:=q3e hj;have h2:=(List.getElem?_eq_some_iff.1 h1).1;show (if _ then _ else _)=_
      rw [if_pos (by omega),show base+zcZ j keep - base=zcZ j keep from by omega,h1]; rfl
   have zb2:∀ (j:Nat) (e:SO),Given (I.seen keep) (I.out base keep) H''[j]? e->I.seen keep j=true->e.owned=true/\zaz c.P βb w' (I.out base keep j) e:=by
    intro j e hg hs;obtain ⟨cc,ww,el,c',he,hu,himp,rfl⟩:=hg;obtain ⟨l,vs,rest,lo,hi,hl,h0,hcl,hh,hfz,hw,hcap⟩:=hH2.entries j _ he;exact ⟨rfl,l,vs,rest,lo,hi,(zbb j hs).trans hl,h0,himp _ _ ((zaj.ren hu zbb).2 hcl),hh,hfz,hw,hcap⟩
   have zdq:∀ j∈turn,I.seen keep j=true/\I.out base keep j=I.big j:=by
    intro j hj;obtain ⟨_,_,_,_,_,_,_,_,_,_,_,hjl,_⟩:=hown j hj;have:=(I.zaI j).2 hjl;unfold Ifc.seen Ifc.out;rw [this]; exact ⟨rfl,rfl⟩
   have zdr:∀ j∈keep,I.seen keep j=true/\I.known j=false:=by
    intro j hj;have hnk:I.known j=false:=by
     cases hx:I.known j with
     | false=>rfl
     | true=>have:=(I.zaI j).1 hx; have:=hk j hj; omega
    unfold Ifc.seen;rw [hnk]; exact ⟨q9f hj,rfl⟩
   have zcO:∀ (i:Nat) (e:SO),r.news[i]? = some e->∃ j,keep[i]? = some j/\Given (I.seen keep) (I.out base keep) H''[j]? e:=by
    intro i e hi;have hil:=(List.getElem?_eq_some_iff.1 hi).1;rw [zcj] at hil;obtain ⟨e',h1,h2⟩:=hout.news i _ (List.getElem?_eq_getElem hil);rw [hi] at h1; cases h1;exact ⟨_,List.getElem?_eq_getElem hil,h2⟩
   refine ⟨x,βb,rfl,?_,⟨hβle,hH2.keep.os,hH2.keep.tape,hH2.keep.output,hH2.keep.drawn,hH2.keep.size,?_,?_,?_,?_,?_,?_⟩⟩
   . refine hout.val _ _ ?_
     rw [SV.zaF,SV.zaM zbb _ hout.uv]; exact hv
   . intro n hn;rw [zcj] at hn;show (if _ then _ else _)=_
     rw [if_neg (by omega)]
   . intro b hb hno _;refine hH2.keep.block b hb ?_
     rintro ⟨j,cc,ww,el,l,hj,hl,rfl⟩;have hjt:=ht1 j cc ww el hj;obtain ⟨i,hi⟩:=List.mem_iff_getElem?.1 hjt;obtain ⟨e,he,_⟩:=hout.sets i j hi;exact hno (I.big j) e l (List.mem_of_getElem? he) hl rfl
   . intro m e e' h1 h2;obtain ⟨j,hj,hm1,hg1,i1,ht1',hs1⟩:=zci v H'' hout m e h1;obtain ⟨k,hk',hm2,hg2,i2,zgX,hs2⟩:=zci v H'' hout m e' h2;obtain ⟨_,_,_,_,_,_,_,_,_,_,_,hjl,_⟩:=hown j hj;obtain ⟨_,_,_,_,_,_,_,_,_,_,_,hkl,_⟩:=hown k hk';have hjk:k=j:=hI.nodup k j (I.big k) (Ifc.zbA hkl) (by rw [← hm2,hm1]; exact Ifc.zbA hjl)
     subst hjk;have:i1=i2:=(List.getElem?_inj (List.getElem?_eq_some_iff.1 ht1').1 htn).1 (ht1'.trans zgX.symm);subst this;rw [hs1] at hs2;exact (Prod.mk.inj (Option.some.inj hs2)).2
   . intro m e hm;obtain ⟨j,hj,rfl,hg,_⟩:=zci v H'' hout m e hm;obtain ⟨hs,hb⟩:=zdq j hj;rw [← hb];exact (zb2 j e hg hs).2
   . intro i e hi;obtain ⟨j,hj,hg⟩:=zcO i e hi;have hjm:=List.mem_of_getElem? hj;obtain ⟨hs,hnk⟩:=zdr j hjm;have zds:I.out base keep j=base+i:=by
      unfold Ifc.out;rw [hnk,zam];have h1:=q3e hjm;have:zcZ j keep=i:=(List.getElem?_inj (List.getElem?_eq_some_iff.1 h1).1 hkn).1 (h1.trans hj.symm);rw [this]
     obtain ⟨ho,hor⟩:=zb2 j e hg hs;refine ⟨ho,zds▸hor,?_⟩;obtain ⟨cc,ww,el,c',he,_⟩:=hg;obtain ⟨l,vs2,rest,lo,hi2,hl,_⟩:=hH2.entries j _ he;refine ⟨l,by rw [← zds,zbb j hs]; exact hl,.inl ?_⟩
     rcases hH2.fresh j _ l he rfl hl with h1 | ⟨k,ck,wk,ek,lk,hk1,hk2,hk3⟩
     . exact h1
     . exfalso;have hkt:=ht1 k ck wk ek hk1;obtain ⟨i3,hi3⟩:=List.mem_iff_getElem?.1 hkt;obtain ⟨_,_,c2,w2,e2,_,he2,_⟩:=hout.sets i3 k hi3;obtain ⟨_,_,_,l2,_,_,_,_,_,hb2,hv2,hkl,_⟩:=hown k hkt;rw [hb2] at hk2; cases hk2;refine hH2.sep k j _ _ lk l he2 he rfl rfl ?_ (hle _ _ hv2) hl hk3;have:=hk j hjm; omega
   . intro i j l l' hij hi hj hl hl';rw [zcj] at hi hj;have hone:∀ i,i<keep.length->∀ l,βb (base+i)=some l->∃ k,keep[i]? = some k/\β'' k=some l:=by
      intro i hi l hl;have hl:(if base<=base+i/\base+i<base+keep.length then (keep[base+i - base]?).bind β'' else β (base+i))=some l:=hl
      rw [if_pos (by omega),show base+i - base=i from by omega,List.getElem?_eq_getElem hi] at hl
      exact ⟨_,List.getElem?_eq_getElem hi,hl⟩
     obtain ⟨k1,hk1,hb1⟩:=hone i hi l hl;obtain ⟨k2,hk2,hb2⟩:=hone j hj l' hl';obtain ⟨_,_,c1,w1,e1,_,he1,_⟩:=hout.news i k1 hk1;obtain ⟨_,_,c2,w2,e2,_,he2,_⟩:=hout.news j k2 hk2;refine hH2.sep k1 k2 _ _ l l' he1 he2 rfl rfl (fun h => ?_) hb1 hb2;subst h;exact hij ((List.getElem?_inj (List.getElem?_eq_some_iff.1 hk1).1 hkn).1 (hk1.trans hk2.symm))
theorem qfk {P:Program} {f:FuncId} {args:List SV} {g:SF} (h:qge P f args=some g):∃ fn,P.funcs[f]? = some fn/\fn.body.isSome=true:=by
 unfold qge at h;rw [qda,Array.getElem?_toList] at h;cases hf:P.funcs[f]? with
 | none=>rw [hf] at h; cases h
 | some fn =>
   refine ⟨fn,rfl,?_⟩;rw [hf] at h;cases hb:fn.body with
   | none=>simp only [zao,hb,zeI] at h; cases h
   | some b=>rfl
theorem q77 {c:Cfg} (hc:zaC c) {n:Nat} {O:Nat->Prop} {w0 w:World} {β:Val} {H:List SO} {base:Nat} {f:FuncId} {vs:List Value} (hH:HeapRel0 c.P O w0 β H w)
  (I:Ifc) (hgl:∀ g j,c.glob g=some j->I.known j=true/\∃ l,β (I.big j)=some l/\l.blk=g/\l.off=0) (ha:SV.zal β (SV.zbJ I.big I.args)=some vs) (hI:I.Fits H) {r:zaH} (turn keep:List Nat) (ht1:∀ (j:Nat) c w el,I.ents[j]? = some (.own c w el)->j∈turn) (ht2:∀ j∈turn,∃ c w el,I.ents[j]? = some (.own c w el)) (hk:∀ j∈keep,I.names.length<=j) (hkn:keep.Nodup) (htn:turn.Nodup:=by simp)
  (hob:(qka c n f I.args I.ents).Ob (I.Out base turn keep r) fun _=>False):qtb c.P H β w base f vs r:=by
 refine q84 hH I hgl ha hI turn keep ht1 ht2 hk hkn htn ?_ fun hH' hG ha'=>qky hc hH' hG ha' hob;unfold qka at hob;cases hg:qge c.P f I.args with
 | none=>rw [hg] at hob; exact hob.elim
 | some g=>exact qfk hg
theorem Cells.zaR {c d:Cells} (h:c=d):c.Imp d:=h▸.refl c
theorem SV.zaR {c d:SV} (h:c=d):c.Imp d:=h▸.refl c
end
noncomputable section
variable {α:Type}
def zcx (f:Nat->Nat) (p:Nat->Bool) (H:List SO):List Nat->List SO->Prop
 | n::ns,E::Es=>((∃ e,H[n]? = some e/\Taken f E e)/\E.zdg p)/\zcx f p H ns Es
 | [],[]=>True
 | _,_=>False
theorem zcx.length {f:Nat->Nat} {p:Nat->Bool} {H:List SO}:∀ {ns:List Nat} {Es:List SO},zcx f p H ns Es->Es.length=ns.length
 | [],[],_=>rfl
 | _::_,_::_,h=>by simp only [List.length_cons]; rw [zcx.length h.2]
 | [],_::_,h=>h.elim
 | _::_,[],h=>h.elim
theorem zcx.get {f:Nat->Nat} {p:Nat->Bool} {H:List SO}:∀ {ns:List Nat} {Es:List SO},zcx f p H ns Es->∀ (j:Nat) (E:SO),Es[j]? = some E->(∃ e,H[(nth ns j).getD 0]? = some e/\Taken f E e)/\E.zdg p
 | [],[],_,j,E,h=>by simp at h
 | n::ns,E'::Es,h,0,E,hE=>by simp at hE; subst hE; exact h.1
 | n::ns,E'::Es,h,j+1,E,hE=>by
   have:=zcx.get h.2 j E (by simpa using hE)
   rw [qda] at this ⊢;simpa using this
 | [],_::_,h,_,_,_=>h.elim
 | _::_,[],h,_,_,_=>h.elim
theorem Ifc.fits {I:Ifc} {H:List SO} (hn:I.names.Nodup) (hu:SV.zbi I.known I.args=true) (he:zcx I.big I.known H I.names I.ents):I.Fits H :=
 ⟨he.length,fun _ _ _ hi hj=>(List.getElem?_inj (List.getElem?_eq_some_iff.1 hi).1 hn).1 (hi.trans hj.symm),hu,fun j E hE=>(he.get j E hE).1,fun j E hE=>(he.get j E hE).2⟩
def SO.zjF:SO->Bool
 | .own _ _ _=>true
 | _=>false
def q4e:List SO->Nat->List Nat
 | [],_=>[]
 | E::Es,k=>if E.zjF then k::q4e Es (k+1) else q4e Es (k+1)
theorem qoh:∀ (Es:List SO) (k j:Nat),j∈q4e Es k↔∃ i c w el,j=k+i/\Es[i]? = some (.own c w el)
 | [],k,j=>by simp [q4e]
 | E::Es,k,j=>by
   have ih:=qoh Es (k+1) j;have hstep:(∃ i c w el,j=k+1+i/\Es[i]? = some (SO.own c w el))->∃ i c w el,j=k+i/\(E::Es)[i]? = some (SO.own c w el):=fun ⟨i,c,w,el,h,h'⟩=>⟨i+1,c,w,el,by omega,by simpa using h'⟩
   unfold q4e;split
   . rename_i ho;rw [List.mem_cons,ih];constructor
     . rintro (rfl | h)
       . cases E <;> first | (cases ho; done) | exact ⟨0,_,_,_,rfl,rfl⟩
       . exact hstep h
     . rintro ⟨i,c,w,el,h,h'⟩;cases i with
       | zero=>exact .inl h
       | succ i=>exact .inr ⟨i,c,w,el,by omega,by simpa using h'⟩
   . rename_i ho;rw [ih];constructor
     . exact hstep
     . rintro ⟨i,c,w,el,h,h'⟩;cases i with
       | zero=>simp at h'; subst h'; exact absurd rfl ho
       | succ i=>exact ⟨i,c,w,el,by omega,by simpa using h'⟩
theorem qfj:∀ (Es:List SO) (k:Nat),(q4e Es k).Nodup
 | [],k=>by simp [q4e]
 | E::Es,k=>by
   unfold q4e;split
   . refine List.nodup_cons.2 ⟨fun h => ?_,qfj Es (k+1)⟩;obtain ⟨i,_,_,_,h,_⟩:=(qoh Es (k+1) k).1 h;omega
   . exact qfj Es (k+1)
def zcv (big:Nat->Nat) (p:Nat->Bool) (g:Nat->Nat) (H:List SO):List Nat->List (Nat × SO)->Prop
 | j::js,x::rs=>(x.1=big j/\Given p g H[j]? x.2)/\zcv big p g H js rs
 | [],[]=>True
 | _,_=>False
def zcw (p:Nat->Bool) (g:Nat->Nat) (H:List SO):List Nat->List SO->Prop
 | j::js,e::rs=>Given p g H[j]? e/\zcw p g H js rs
 | [],[]=>True
 | _,_=>False
theorem zcv.length {big p g H}:∀ {js:List Nat} {rs:List (Nat × SO)},zcv big p g H js rs->rs.length=js.length
 | [],[],_=>rfl
 | _::_,_::_,h=>by simp only [List.length_cons]; rw [zcv.length h.2]
 | [],_::_,h=>h.elim
 | _::_,[],h=>h.elim
theorem zcv.get {big p g H}:∀ {js:List Nat} {rs:List (Nat × SO)},zcv big p g H js rs->∀ (i j:Nat),js[i]? = some j->∃ e,rs[i]? = some (big j,e)/\Given p g H[j]? e
 | [],[],_,i,j,h=>by simp at h
 | j'::js,x::rs,h,0,j,hE=>by simp at hE; subst hE; exact ⟨x.2,by simp [← h.1.1],h.1.2⟩
 | j'::js,x::rs,h,i+1,j,hE=>by
   obtain ⟨e,a,b⟩:=zcv.get h.2 i j (by simpa using hE)
   exact ⟨e,by simpa using a,b⟩
 | [],_::_,h,_,_,_=>h.elim
 | _::_,[],h,_,_,_=>h.elim
theorem zcw.length {p g H}:∀ {js:List Nat} {rs:List SO},zcw p g H js rs->rs.length=js.length
 | [],[],_=>rfl
 | _::_,_::_,h=>by simp only [List.length_cons]; rw [zcw.length h.2]
 | [],_::_,h=>h.elim
 | _::_,[],h=>h.elim
theorem zcw.get {p g H}:∀ {js:List Nat} {rs:List SO},zcw p g H js rs->∀ (i j:Nat),js[i]? = some j->∃ e,rs[i]? = some e/\Given p g H[j]? e
 | [],[],_,i,j,h=>by simp at h
 | j'::js,x::rs,h,0,j,hE=>by simp at hE; subst hE; exact ⟨x,by simp,h.1⟩
 | j'::js,x::rs,h,i+1,j,hE=>by
   obtain ⟨e,a,b⟩:=zcw.get h.2 i j (by simpa using hE)
   exact ⟨e,by simpa using a,b⟩
 | [],_::_,h,_,_,_=>h.elim
 | _::_,[],h,_,_,_=>h.elim
structure Ifc.Ends (I:Ifc) (base:Nat) (keep:List Nat) (r:zaH) (v:SV) (H:List SO):Prop where
 val:(v.ren (I.out base keep)).Imp r.v
 uv:v.uses (I.seen keep)=true
 sets:zcv I.big (I.seen keep) (I.out base keep) H (q4e I.ents 0) r.sets
 news:zcw (I.seen keep) (I.out base keep) H keep r.news
theorem Tree.Ob.mono {t:Tree} {D D':SV->List SO->Prop} {S:SS->Prop} (h:t.Ob D S) (hd:∀ v H,D v H->D' v H):t.Ob D' S:=by
 induction t with
 | done v H=>exact hd v H h
 | stop s=>exact h
 | need p t ih=>exact ⟨h.1,ih h.2⟩
 | fork b t f iht ihf=>exact ⟨fun hb=>iht (h.1 hb),fun hb=>ihf (h.2 hb)⟩
 | stuck n=>exact h
 | any k ih=>exact fun z=>ih z (h z)
theorem qmy {c:Cfg} (hc:zaC c) (n:Nat) {O:Nat->Prop} {w0 w:World} {β:Val} {H:List SO} {base:Nat} {f:FuncId} {vs:List Value} (hH:HeapRel0 c.P O w0 β H w)
  (I:Ifc) (hgl:∀ g j,c.glob g=some j->I.known j=true/\∃ l,β (I.big j)=some l/\l.blk=g/\l.off=0) (ha:SV.zal β (SV.zbJ I.big I.args)=some vs) (hI:I.Fits H) {r:zaH} (keep:List Nat) (hk:∀ j∈keep,I.names.length<=j) (hkn:keep.Nodup)
  (hob:(qka c n f I.args I.ents).Ob (I.Ends base keep r) fun _=>False):qtb c.P H β w base f vs r:=by
 refine q77 hc (n:=n) hH I hgl ha hI (q4e I.ents 0) keep (fun j c w el h=>(qoh _ _ _).2 ⟨j,c,w,el,by omega,h⟩) (fun j hj => ?_) hk hkn (qfj _ _) ?_
 . obtain ⟨i,c,w,el,h,h'⟩:=(qoh _ _ _).1 hj;exact ⟨c,w,el,by rw [h,Nat.zero_add]; exact h'⟩
 . refine hob.mono fun v H' h=>⟨h.val,h.uv,h.sets.length,h.sets.get,h.news.length,h.news.get⟩
theorem jdf {c:Cfg} (hc:zaC c) (hgl:c.glob=fun _=>none) (n:Nat) {O:Nat->Prop} {w0 w:World} {β:Val} {H:List SO} {base:Nat} {f:FuncId} {vs:List Value} (hH:HeapRel0 c.P O w0 β H w)
  (I:Ifc) (ha:SV.zal β (SV.zbJ I.big I.args)=some vs) (hI:I.Fits H) {r:zaH} (keep:List Nat) (hk:∀ j∈keep,I.names.length<=j) (hkn:keep.Nodup)
  (hob:(qka c n f I.args I.ents).Ob (I.Ends base keep r) fun _=>False):qtb c.P H β w base f vs r :=
 qmy hc n hH I (fun g j h=>by rw [hgl] at h; cases h) ha hI keep hk hkn hob
theorem q0j {f:Nat->Nat} {c c0:Cells} {e:SO} (h:e=.row c0\/∃ w el,e=.own c0 w el) (hi:c0.zfo (c.ren f)):Taken f (.row c) e:=⟨c0,h,hi⟩
end
noncomputable section
variable {α β:Type}
theorem q87 {b:Bool} {f g:R α} {φ:α->Prop} (h:b=true->f.Sat φ) (h':b=false->g.Sat φ):(zab b f g).Sat φ:=by cases b <;> first | exact h rfl | exact h' rfl
theorem qgb {b:Bool} {f:R α} {n:Nat} {φ:α->Prop} (h:b=true->f.Sat φ):(zab b f (.stuck n)).Sat φ:=q87 h fun _=>trivial
theorem qfa {o:Option β} {f:β->R α} {n:Nat} {φ:α->Prop} (h:∀ a,o=some a->(f a).Sat φ):(zah o (.stuck n) f).Sat φ:=by
 cases o with
 | none=>trivial
 | some a=>exact h a rfl
theorem qiu {b:Bool} {f:Option α} {s:α} (h:zab b f none=some s):b=true/\f=some s:=by
 cases b with
 | true=>exact ⟨rfl,h⟩
 | false=>cases h
theorem zhy {o:Option β} {f:β->Option α} {s:α} (h:zah o none f=some s):∃ a,o=some a/\f a=some s:=by
 cases o with
 | none=>cases h
 | some a=>exact ⟨a,rfl,h⟩
theorem q94 {b:Bool} {f g:Option α} {s:α} (h:zab b f g=some s):(b=true/\f=some s)\/g=some s:=by
 cases b with
 | true=>exact .inl ⟨rfl,h⟩
 | false=>exact .inr h
theorem zhN {x y:Int} (h:eqI x y=true):x=y:=by rw [qqk] at h; simpa using h
theorem jta {x y:Nat} (h:Nat.beq x y=true):x=y:=Nat.eq_of_beq_eq_true h
theorem qny {k k':IntKind} (h:eqK k k'=true):k=k':=by cases k <;> cases k' <;> first | rfl | cases h
def bx (l:List (BitVec 8)):List SV:=zas (fun x=>.int .u8 (.b8 x)) l
def lx (l:List Int):List SV:=zas (fun x=>.int .u8 (.lit x)) l
theorem jua {v:SV} {x:BitVec 8} (h:zcJ v=some x):∃ n,v=.int .u8 n/\si8 n=some x:=by
 unfold zcJ at h;rcases qle v with ⟨k,n,rfl⟩ | hv
 . obtain ⟨hk,h⟩:=qiu (show zab (eqK k .u8) (si8 n) none=some x from h)
   rw [qny hk]; exact ⟨n,rfl,h⟩
 . rw [hv] at h; cases h
theorem jva {v:SV} {x:BitVec 8} (h:zcJ v=some x):v.Imp (.int .u8 (.b8 x)):=by
 obtain ⟨n,rfl,hn⟩:=jua h;intro γ y hy;have hy:some (Value.int .u8 n.den)=some y:=hy;rw [q7p hn] at hy; exact hy
theorem qoa {v u:SV} {l m:List SV} (h:v.Imp u) (h':SV.zge l m):SV.zge (v::l) (u::m):=by
 intro γ vs hv;obtain ⟨x,ys,a,b,rfl⟩:=zae.1 hv;exact zae.2 ⟨x,ys,h _ _ a,h' _ _ b,rfl⟩
theorem qdc:SV.zge [] []:=.refl _
def zgg (v:SV):Option Int:=v.asInt none fun k n=>zab (eqK k .u8) (n.za6 none some) none
theorem j1l {v:SV} {x:Int} (h:zgg v=some x):v=.int .u8 (.lit x):=by
 unfold zgg at h;rcases qle v with ⟨k,n,rfl⟩ | hv
 . obtain ⟨hk,h⟩:=qiu (show zab (eqK k .u8) (n.za6 none some) none=some x from h)
   rw [qny hk];cases n <;> first | (cases h; rfl) | cases h
 . rw [hv] at h; cases h
def preLit (T:List Int):List SV->Bool :=
 List.rec (motive:=fun _=>List SV->Bool) (fun _=>true) (fun t _ ih l=>List.rec (motive:=fun _=>Bool) false (fun v r _=>zah (zgg v) false fun x=>zab (eqI x t) (ih r) false) l) T
def qrg (args:List SV) (f:SV->R α):R α:=List.rec (motive:=fun _=>R α) (.stuck 700) (fun v r _=>List.rec (motive:=fun _=>R α) (f v) (fun _ _ _=>.stuck 700) r) args
def quf (args:List SV) (f:SV->SV->R α):R α:=List.rec (motive:=fun _=>R α) (.stuck 700) (fun v r _=>qrg r (f v)) args
def q4o (args:List SV) (f:SV->SV->SV->R α):R α:=List.rec (motive:=fun _=>R α) (.stuck 700) (fun v r _=>quf r (f v)) args
theorem qdd {args:List SV} {f:SV->R α} {φ:α->Prop} (h:∀ v,args=[v]->(f v).Sat φ):(qrg args f).Sat φ:=by
 match args,h with
 | [],_=>trivial
 | [v],h=>exact h v rfl
 | _::_::_,_=>trivial
theorem qed {args:List SV} {f:SV->SV->R α} {φ:α->Prop} (h:∀ v u,args=[v,u]->(f v u).Sat φ):(quf args f).Sat φ:=by
 cases args with
 | nil=>trivial
 | cons v r=>exact qdd fun u hu=>h v u (by rw [hu])
theorem q1h {args:List SV} {f:SV->SV->SV->R α} {φ:α->Prop} (h:∀ v u x,args=[v,u,x]->(f v u x).Sat φ):(q4o args f).Sat φ:=by
 cases args with
 | nil=>trivial
 | cons v r=>exact qed fun u x hu=>h v u x (by rw [hu])
theorem qkd {H:List SO} {args:List SV} (hu:SV.zbi (Ifc.known ⟨[],[],args⟩) args=true):Ifc.Fits ⟨[],[],args⟩ H:=Ifc.fits (by simp) hu trivial
theorem jmd {I:Ifc} {base:Nat} {v:SV} {H:List SO} (ho:q4e I.ents 0=[]) (h:v=v.ren (I.out base [])) (hu:v.uses (I.seen [])=true):I.Ends base [] ⟨v,[],[]⟩ v H :=
 ⟨SV.zaR h.symm,hu,by rw [ho]; trivial,trivial⟩
end
noncomputable section
variable {α:Type}
def q9r (v:SV) (nil:R α) (f:SA->SN->R α):R α :=
 SV.rec (motive_1:=fun _=>R α) (motive_2:=fun _=>Unit) (fun _ _=>.stuck 713) (fun _=>.stuck 713) (fun _=>.stuck 713) (fun _=>.stuck 713) (.stuck 713) (fun a l _=>f a l) nil (fun _=>.stuck 713) (.stuck 713) (fun _ _ _ _ _=>.stuck 713) (.stuck 713) (fun _ _ _=>.stuck 713) (.stuck 713) (fun _ _=>.stuck 713) (fun _ _=>.stuck 713) (fun _=>.stuck 713) (fun _ _ _ _=>.stuck 713) () (fun _ _ _ _=>()) v
theorem qju {γ:Val} {a:SA} {l:SN} {c:SC} {x:Value} (h:(SV.slice a l c).den γ=some x):∃ m,l.den<=m/\(SV.slice ⟨a.nm,.sym a.off.den⟩ (.sym l.den) (.sym m)).den γ=some x/\(SV.slice ⟨a.nm,.sym a.off.den⟩ l (.sym m)).den γ=some x/\(SV.slice a l (.sym m)).den γ=some x:=by
 simp only [SV.den,Option.bind_eq_some_iff] at h;obtain ⟨y,hy,m,hm,hs⟩:=h;unfold qzm at hs;have hl:l.den<=m:=by
  by_cases h:l.den<=m
  . exact h
  . rw [if_neg h] at hs; cases hs
 have hy':(⟨a.nm,.sym a.off.den⟩:SA).den γ=some y:=hy;refine ⟨m,hl,?_,?_,?_⟩
 . simp only [SV.den,Option.bind_eq_some_iff];exact ⟨y,hy',m,rfl,hs⟩
 . simp only [SV.den,Option.bind_eq_some_iff];exact ⟨y,hy',m,rfl,hs⟩
 . simp only [SV.den,Option.bind_eq_some_iff];exact ⟨y,hy,m,rfl,hs⟩
theorem qdm {v:SV} {nil:R α} {f:SA->SN->R α} {φ:α->Prop} (h0:v=.zad->nil.Sat φ) (h:∀ a l c,v=.slice a l c->(f a l).Sat φ):(q9r v nil f).Sat φ:=by
 cases v <;> first | trivial | exact h0 rfl | exact h _ _ _ rfl
end
end Go.Sim
namespace Go.Proofs.YtbhlngmhgplepaaDoor.Aes
noncomputable section
open Go.Sim
open Go.Proofs
variable {α:Type}
theorem q97:zdD Tryd.prog:=by
 refine ⟨?_,by kernel_rfl⟩
 have h:(Tryd.prog.funcs.all fun fn => !(fn.body.isSome && fn.name == "runtime.NumGoroutine"))=true:=by kernel_rfl
 intro f fn hf hb;have:=Array.all_eq_true'.1 h fn (Array.mem_of_getElem? hf);rw [hb] at this;simpa using this
def cfgG (glob:Nat->Option Nat) (s:FuncId->Option za3):Cfg:={ P:=Tryd.prog,glob:=glob,sums:=s,zeE:=none }
def qhc (s:FuncId->Option za3):Cfg:=cfgG (fun _=>none) s
def qkc (l:List (FuncId × za3)):FuncId->Option za3:=List.rec (motive:=fun _=>FuncId->Option za3) (fun _=>none) (fun a _ ih f=>zab (Nat.beq f a.1) (some a.2) (ih f)) l
theorem qoy {glob:Nat->Option Nat}:∀ {l:List (FuncId × za3)},(∀ x∈l,q04 Tryd.prog glob x.1 x.2)->zaC (cfgG glob (qkc l))
 | [],_=>⟨q97,fun _ _ h=>(by cases h),fun _ _ h=>by cases h⟩
 | a::l,hl=>⟨q97,fun f s h=>by
   rcases q94 (show zab (Nat.beq f a.1) (some a.2) (qkc l f)=some s from h) with ⟨hf,h⟩ | h
   . cases h; rw [jta hf]; exact hl a List.mem_cons_self
   . exact (qoy (l:=l) fun x hx=>hl x (List.mem_cons_of_mem _ hx)).sums f s h,fun _ _ h=>by cases h⟩
theorem qpc {l:List (FuncId × za3)} (h:∀ x∈l,qeb Tryd.prog x.1 x.2):zaC (qhc (qkc l)):=qoy fun x hx=>h x hx _
theorem all1 {x:FuncId × za3} (h:qeb Tryd.prog x.1 x.2):∀ y∈[x],qeb Tryd.prog y.1 y.2:=by simpa using h
theorem zcu {x:FuncId × za3} {l:List (FuncId × za3)} (h:qeb Tryd.prog x.1 x.2) (h':∀ y∈l,qeb Tryd.prog y.1 y.2):∀ y∈x::l,qeb Tryd.prog y.1 y.2:=by
 intro y hy;rcases List.mem_cons.1 hy with rfl | hy
 . exact h
 . exact h' y hy
def cfg0:Cfg:=qhc (qkc [])
theorem qa8:zaC cfg0:=qpc (by simp)
end
noncomputable section
open Go.Sim
open Go.Proofs
variable {α:Type}
def zb0 (v:SV):Option za8 :=
 SV.rec (motive_1:=fun _=>Option za8) (motive_2:=fun _=>Unit) (fun _ _=>none) (fun _=>none) (fun s=>some s) (fun _=>none) none (fun _ _ _=>none) none (fun _=>none) none (fun _ _ _ _ _=>none) none (fun _ _ _=>none) none (fun _ _=>none) (fun _ _=>none) (fun _=>none) (fun _ _ _ _=>none) () (fun _ _ _ _=>()) v
theorem q8a {v:SV} {s:za8} (h:zb0 v=some s):v=.str s:=by
 cases v <;> first | (cases h; done) | (cases h; rfl)
def zhD (s:za8) (v:SV) (n:Int):SI:=za8.rec (motive:=fun _=>SI) (fun _=>zah (zgg v) (.sym n) fun _=>.lit n) (fun _=>.sym n) (fun _=>.sym n) s
theorem jwa (s:za8) (v:SV) (n:Int):(zhD s v n).den=n:=by
 unfold zhD;cases s with
 | lit s =>
   show (zah (zgg v) (SI.sym n) fun _=>.lit n).den=n;cases zgg v <;> rfl
 | sym=>rfl
 | bytes=>rfl
def zes:za3:=fun args _ _=>quf args fun s v=>zah (zb0 s) (.stuck 680) fun s=>zah (zcJ v) (.stuck 680) fun x=>.ok ⟨.int .i64 (zhD s v (firstIdx s.den x.toNat.toUInt8)),[],[]⟩
set_option maxRecDepth 1000000
theorem jxa:∃ fn,Tryd.prog.funcs[109]? = some fn/\(fn.name == "runtime.NumGoroutine")=false/\fn.body.isNone=true/\Extern.findNext fn=none/\Extern.find fn=some Extern.BytealgIndexByte.indexByte:=⟨_,rfl,by kernel_rfl,by kernel_rfl,by kernel_rfl,by kernel_rfl⟩
theorem qaw:qeb Tryd.prog 109 zes:=by
 intro glob O w0 β H w base args vs hH hG ha;refine qed fun v1 v2 hv=>qfa fun s hs=>qfa fun x hx => ?_
 rw [hv,q8a hs] at ha;have ha:=qoa (.refl _) (qoa (jva hx) qdc) _ _ ha;cases ha;intro hfree;refine ⟨by simp,.inr ?_⟩
 obtain ⟨fn,h1,h2,h3,h4,h5⟩:=jxa;refine ⟨.int .i64 (firstIdx s.den x.toNat.toUInt8),w,β,?_,by show some (Value.int .i64 (zhD s v2 _).den)=_; rw [jwa],Eff.refl _ _ _ _⟩
 rw [run_callFunc_extern h1 h2 h3 h4 h5];show ((Extern.BytealgIndexByte.indexByte #[.string s.den,.int .u8 (x.toNat:Int)]).run Tryd.prog w).andThen _=_;rw [run_indexByte_string];rfl
def zb6:Cfg:=qhc (qkc [(109,zes)])
theorem q2h:zaC zb6:=qpc (all1 qaw)
end
end Go.Proofs.YtbhlngmhgplepaaDoor.Aes
namespace Go.Sim
noncomputable section
open Go.RowKit
variable {α:Type}
theorem zfO {P:Program} {w:World} {r:Reach} {base t e:Nat} {a:Option Addr} {len cap:Nat} (ht:P.underlying t=some (.slice e)) (h:Value.okWide P w r base t (.slice a len cap)):∀ x,a=some x->x.spot=none:=by
 rintro x rfl;simp only [Value.okWide,ht,Cell.okWide,Cell.ok] at h;exact h.2.2.2.1
def za4 (js:List Nat) (t:Tree):List Bool->List Prop × Option (SV × List (Option SO)) :=
 Tree.rec (motive:=fun _=>List Bool->List Prop × Option (SV × List (Option SO))) (fun v H _=>([],some (v,zas (fun j=>nth H j) js))) (fun _ _=>([],none)) (fun p _ ih ds=>(p::(ih ds).1,(ih ds).2))
  (fun b _ _ iht ihf ds=>List.rec (motive:=fun _=>List Prop × Option (SV × List (Option SO))) ([],none) (fun d r _=>((b=d)::(zab d (iht r) (ihf r)).1,(zab d (iht r) (ihf r)).2)) ds) (fun _ _=>([],none)) (fun _ _ _=>([],none)) t
theorem q0a {js:List Nat} {t:Tree} {ds:List Bool} {ps:List Prop} {v:SV} {es:List (Option SO)} (h:za4 js t ds=(ps,some (v,es))) (hp:∀ p∈ps,p) {D:SV->List SO->Prop} {S:SS->Prop} (hD:∀ H:List SO,js.map (fun j=>H[j]?)=es->D v H):t.Ob D S:=by
 induction t generalizing ps ds with
 | done v' H =>
   have h':([],some (v',zas (fun j=>nth H j) js))=(ps,some (v,es)):=h;have h1:=Option.some.inj (Prod.mk.inj h').2;obtain ⟨h2,h3⟩:=Prod.mk.inj h1;subst h2;refine hD H ?_
   rw [qxa] at h3;rw [← h3];exact List.map_congr_left fun j _=>(qda H j).symm
 | stop=>cases (Prod.mk.inj (show ([],none)=(ps,some (v,es)) from h)).2
 | need p t ih =>
   have h':(p::(za4 js t ds).1,(za4 js t ds).2)=(ps,some (v,es)):=h;obtain ⟨h1,h2⟩:=Prod.mk.inj h';subst h1;exact ⟨hp p List.mem_cons_self,ih (ds:=ds) (ps:=(za4 js t ds).1) (by rw [← h2]) fun q hq=>hp q (List.mem_cons_of_mem _ hq)⟩
 | fork b t f iht ihf =>
   cases ds with
   | nil=>cases (Prod.mk.inj (show ([],none)=(ps,some (v,es)) from h)).2
   | cons d r =>
     have h':((b=d)::(zab d (za4 js t r) (za4 js f r)).1,(zab d (za4 js t r) (za4 js f r)).2)=(ps,some (v,es)):=h;obtain ⟨h1,h2⟩:=Prod.mk.inj h';subst h1;have hb:=hp _ List.mem_cons_self;cases d with
     | true=>exact ⟨fun _=>iht (ds:=r) (ps:=(za4 js t r).1) (by rw [← h2]; rfl) fun q hq=>hp q (List.mem_cons_of_mem _ hq),fun hf=>by rw [hf] at hb; cases hb⟩
     | false=>exact ⟨fun ht=>(by rw [ht] at hb; cases hb),fun _=>ihf (ds:=r) (ps:=(za4 js f r).1) (by rw [← h2]; rfl) fun q hq=>hp q (List.mem_cons_of_mem _ hq)⟩
 | stuck=>cases (Prod.mk.inj (show ([],none)=(ps,some (v,es)) from h)).2
 | any=>cases (Prod.mk.inj (show ([],none)=(ps,some (v,es)) from h)).2
def zcL (js:List Nat) (t:Tree):List Bool->(Nat->Nat->Nat)->List Prop × Option (SV × List (Option SO)) :=
 Tree.rec (motive:=fun _=>List Bool->(Nat->Nat->Nat)->List Prop × Option (SV × List (Option SO))) (fun v H _ _=>([],some (v,zas (fun j=>nth H j) js))) (fun _ _ _=>([],none)) (fun p _ ih ds z=>(p::(ih ds z).1,(ih ds z).2))
  (fun b _ _ iht ihf ds z=>List.rec (motive:=fun _=>List Prop × Option (SV × List (Option SO))) ([],none) (fun d r _=>((b=d)::(zab d (iht r z) (ihf r z)).1,(zab d (iht r z) (ihf r z)).2)) ds) (fun _ _ _=>([],none)) (fun _ ih ds z=>ih (z 0) ds fun i=>z (i+1)) t
theorem qud {c:Cfg} (hc:zaC c) (hgl:c.glob=fun _=>none) (n:Nat) {O:Nat->Prop} {w0 w:World} {β:Val} {H:List SO} {base:Nat} {f:FuncId} {vs:List Value} (hH:HeapRel0 c.P O w0 β H w)
  (I:Ifc) (ha:SV.zal β (SV.zbJ I.big I.args)=some vs) (hI:I.Fits H) {r:zaH} (keep:List Nat) (hk:∀ j∈keep,I.names.length<=j) (hkn:keep.Nodup)
  {js:List Nat} {ds:List Bool} {ps:List Prop} {v:SV} {es:List (Option SO)} (h:za4 js (qka c n f I.args I.ents) ds=(ps,some (v,es))) (hp:∀ p∈ps,p) (hD:∀ H2:List SO,js.map (fun j=>H2[j]?)=es->I.Ends base keep r v H2):qtb c.P H β w base f vs r :=
 jdf hc hgl n hH I ha hI keep hk hkn (q0a h hp hD)
theorem qaa:∀ p∈([]:List Prop),p:=by simp
theorem zaa {p:Prop} {ps:List Prop} (h:p) (hs:∀ q∈ps,q):∀ q∈p::ps,q:=by
 intro q hq;rcases List.mem_cons.1 hq with rfl | hq
 . exact h
 . exact hs q hq
theorem qb8:∀ n k:Nat,qqa n k=List.range' k n:=by
 intro n;induction n with
 | zero=>intro k; rfl
 | succ n ih=>intro k; show k::qqa n (k+1)=_; rw [ih]; rfl
end
noncomputable section
variable {α:Type}
structure SP where
 fn:FuncId
 tmps:List (Option SV)
 todo:List zaK
 defers:List SD
 roundOf:Option Nat
inductive HP where
 | ent (e:SO)
 | loop (state:LoopState) (pending:Option Code) (fn:FuncId) (tmps:List (Option SV)) (params:Array Tmp) (assign body:Code) (defers:Nat)
structure Cut where
 frames:List SP
 heap:List HP
structure zaQ where
 fr:Nat->Nat->Value
 hp:Nat->Nat->Value
def qa5 (js:Nat->Value) (T:List (Option SV)):Nat->List SV :=
 List.rec (motive:=fun _=>Nat->List SV) (fun _=>[]) (fun o _ ih k=>zah o (.val (js k)) (fun v=>v)::ih (Nat.succ k)) T
def SP.fill (js:Nat->Value) (p:SP):SF:=⟨p.fn,qa5 js p.tmps 0,p.todo,p.defers,p.roundOf⟩
def qc8 (J:Nat->Nat->Value) (l:List SP):Nat->List SF:=List.rec (motive:=fun _=>Nat->List SF) (fun _=>[]) (fun p _ ih i=>p.fill (J i)::ih (Nat.succ i)) l
def HP.fill (js:Nat->Value) (E:HP):SO:=HP.rec (motive:=fun _=>SO) (fun e=>e) (fun s p f T ps a b d=>.loop s p f (qa5 js T 0) ps a b d) E
def qgj (J:Nat->Nat->Value) (l:List HP):Nat->List SO:=List.rec (motive:=fun _=>Nat->List SO) (fun _=>[]) (fun p _ ih i=>p.fill (J i)::ih (Nat.succ i)) l
def Cut.fill (J:zaQ) (C:Cut):SS:=⟨qc8 J.fr C.frames 0,qgj J.hp C.heap 0⟩
def zaK.ren (f:Nat->Nat):zaK->zaK
 | .ze1 n=>.ze1 (f n)
 | .zd1 n=>.zd1 (f n)
 | x=>x
def SD.ren (f:Nat->Nat):SD->SD
 | .coll n=>.coll (f n)
 | .call g xs ys=>.call (g.ren f) (SV.zbJ f xs) (SV.zbJ f ys)
theorem zb7.ren {β:Val} (f:Nat->Nat) {x:zaK} {y:Item} (h:zb7 β (x.ren f) y):zb7 (fun n=>β (f n)) x y:=by
 cases x <;> cases y <;> exact h
theorem za0.ren {β:Val} (f:Nat->Nat):∀ {x:List zaK} {y:List Item},za0 β (x.map (zaK.ren f)) y->za0 (fun n=>β (f n)) x y
 | [],[],_=>trivial
 | _::_,_::_,h=>⟨zb7.ren f h.1,za0.ren f h.2⟩
 | [],_::_,h=>h.elim
 | _::_,[],h=>h.elim
theorem SD.zaF (f:Nat->Nat) (β:Val) (d:SD):(d.ren f).den β=d.den (fun n=>β (f n)):=by
 cases d with
 | coll n=>rfl
 | call g xs ys=>simp only [SD.ren,SD.den,SFn.zaF,SV.zaJ]
theorem SD.zaJ (f:Nat->Nat) (β:Val):∀ l:List SD,SD.zal β (l.map (SD.ren f))=SD.zal (fun n=>β (f n)) l
 | []=>rfl
 | d::l=>by simp only [List.map_cons,SD.zal,SD.zaF,SD.zaJ f β l]
def zgC (f:Nat->Nat):List SV->List (Option SV)->Prop
 | v::vs,some u::us=>v.Imp (u.ren f)/\zgC f vs us
 | _::vs,none::us=>zgC f vs us
 | [],[]=>True
 | _,_=>False
structure GenF (f:Nat->Nat) (s:SF) (p:SP):Prop where
 fn:s.fn=p.fn
 tmps:zgC f s.tmps p.tmps
 todo:s.todo=p.todo.map (zaK.ren f)
 defers:s.defers=p.defers.map (SD.ren f)
 roundOf:s.roundOf=p.roundOf.map f
def qbw (f:Nat->Nat):List SF->List SP->Prop
 | s::ss,p::ps=>GenF f s p/\qbw f ss ps
 | [],[]=>True
 | _,_=>False
def zhW (f:Nat->Nat) (e:Option SO) (E:HP):Prop :=
 match E with
 | .ent (.own c w el)=>∃ c0,e=some (.own c0 w el)/\c0.Imp (c.ren f)
 | .ent (.row c)=>∃ c0,e=some (.row c0)/\c0.Imp (c.ren f)
 | .ent (.deferred ds)=>e=some (.deferred (ds.map (List.map (SD.ren f))))
 | .ent (.obj o)=>∃ o0,e=some (.obj o0)/\o0.Imp (o.ren f)
 | .ent .gone=>True
 | .ent (.mem m)=>∃ m0,e=some (.mem m0)/\m.le m0
 | .ent (.loop ..)=>False
 | .loop s p g T ps a b d=>∃ T0,e=some (.loop s p g T0 ps a b (f d))/\zgC f T0 T
def q4b (names:List Nat) (N j:Nat):Nat:=zah (nth names j) (Nat.add N j) fun n=>n
structure Gen (k0:Nat) (s:SS) (C:Cut) (names:List Nat):Prop where
 keep:∀ j,j<k0->names[j]? = some j
 nodup:names.Nodup
 len:names.length=C.heap.length
 frames:qbw (q4b names s.heap.length) s.frames C.frames
 heap:∀ j E,C.heap[j]? = some E->zhW (q4b names s.heap.length) s.heap[q4b names s.heap.length j]? E
structure zeh (k0:Nat) (B:Base):Prop where
 fix:∀ n,k0<=n->B.fix n=none
 glob:∀ g nm,B.glob g=some nm->nm<k0
theorem q1j {β β':Val} {f:Nat->Nat} (hβ:β'=fun n=>β (f n)) {js:Nat->Value}:∀ {vs:List SV} {T:List (Option SV)} {xs:List Value} {o:Nat},SV.zal β vs=some xs->zgC f vs T->(∀ k x,xs[k]? = some x->js (o+k)=x)->SV.zal β' (qa5 js T o)=some xs
 | [],[],xs,o,h,_,_=>h
 | v::vs,u::us,xs,o,h,hg,hj=>by
   obtain ⟨y,ys,hy,hys,rfl⟩:=zae.1 h;have hj':∀ k x,ys[k]? = some x->js (o+1+k)=x:=fun k x hk=>by
    rw [show o+1+k=o+(k+1) from by omega]; exact hj (k+1) x (by simpa using hk)
   cases u with
   | some u =>
     refine zae.2 ⟨y,ys,?_,q1j hβ hys hg.2 hj',rfl⟩;show u.den β'=_;rw [hβ,← SV.zaF]; exact hg.1 _ _ hy
   | none =>
     refine zae.2 ⟨y,ys,?_,q1j hβ hys hg hj',rfl⟩;show some (js o)=_;rw [show o=o+0 from rfl,hj 0 y rfl]
 | [],_::_,_,_,_,h,_=>h.elim
 | _::_,[],_,_,_,h,_=>h.elim
theorem qku {names:List Nat} {N j:Nat} (h:j<names.length):names[j]? = some (q4b names N j):=by
 unfold q4b;rw [qda,List.getElem?_eq_getElem h]; rfl
theorem qd8 {names:List Nat} {N j:Nat} (h:names.length<=j):q4b names N j=N+j:=by
 unfold q4b;rw [qda,List.getElem?_eq_none h]; rfl
theorem qas (J:Nat->Nat->Value):∀ (l:List HP) (o i:Nat),(qgj J l o)[i]? = l[i]?.map (HP.fill (J (o+i)))
 | [],_,_=>by simp [qgj]
 | _::_,_,0=>rfl
 | _::l,o,i+1=>by
   show (qgj J l (o+1))[i]? = _;rw [qas J l (o+1) i,show o+1+i=o+(i+1) from by omega]; simp
theorem qym (J:Nat->Nat->Value):∀ (l:List HP) (o:Nat),(qgj J l o).length=l.length
 | [],_=>rfl
 | _::l,o=>congrArg (· + 1) (qym J l (o+1))
theorem HP.zb8 {f:Nat->Nat} {js:Nat->Value} {e:Option SO} {E:HP} (h:zhW f e E) (ho:(E.fill js).owned=true):∃ e0,e=some e0/\e0.owned=true:=by
 cases E with
 | ent E =>
   cases E with
   | own c w el=>obtain ⟨c0,rfl,_⟩:=h; exact ⟨_,rfl,rfl⟩
   | row c=>cases ho
   | loop=>exact h.elim
   | deferred ds=>have h:e=_:=h; subst h; exact ⟨_,rfl,rfl⟩
   | gone=>cases ho
   | mem m=>obtain ⟨m0,rfl,_⟩:=h; exact ⟨_,rfl,rfl⟩
   | obj o=>obtain ⟨o0,rfl,_⟩:=h; exact ⟨_,rfl,rfl⟩
 | loop s p g T ps a b d=>obtain ⟨T0,rfl,_⟩:=h; exact ⟨_,rfl,rfl⟩
theorem q1k {β β':Val} {f:Nat->Nat} (hβ:β'=fun n=>β (f n)) {J:Nat->Nat->Value}:∀ {ss:List SF} {ps:List SP} {fs:List Frame} {o:Nat},zat β ss fs->qbw f ss ps->(∀ i fr,fs[i]? = some fr->∀ k x,fr.tmps.toList[k]? = some x->J (o+i) k=x)->zat β' (qc8 J ps o) fs
 | [],[],[],o,_,_,_=>trivial
 | s::ss,p::ps,fr::fs,o,h,hg,hj=>by
   have h0:=hj 0 fr rfl;refine ⟨?_,q1k hβ h.2 hg.2 fun i fr' hi k x hk => ?_⟩
   . obtain ⟨h1,h2,h3,h4,h5,h6,h7⟩:=h.1;obtain ⟨g1,g2,g3,g4,g5⟩:=hg.1;refine ⟨h1.trans g1,?_,?_,?_,h5,h6,?_⟩
     . exact q1j hβ h2 g2 fun k x hk=>by rw [Nat.zero_add]; exact h0 k x hk
     . rw [hβ]; rw [g3] at h3; exact za0.ren f h3
     . show SD.zal β' p.defers=_;rw [hβ,← SD.zaJ,← g4]; exact h4
     . show zcm β' p.roundOf fr.roundOf;rw [hβ];rw [g5] at h7;cases hp:p.roundOf <;> cases hr:fr.roundOf <;> rw [hp,hr] at h7 <;> exact h7
   . rw [show o+1+i=o+(i+1) from by omega]
     exact hj (i+1) fr' (by simpa using hi) k x hk
 | [],_::_,_,_,_,h,_=>h.elim
 | _::_,[],_,_,_,h,_=>h.elim
 | [],[],_::_,_,h,_,_=>h.elim
 | _::_,_::_,[],_,h,_,_=>h.elim
theorem Cells.zaF (f:Nat->Nat) {β:Val} {c:Cells} {vs:List Value} (h:zaj β (c.ren f) vs):zaj (fun n=>β (f n)) c vs:=by
 cases c with
 | lst l =>
   have h:SV.zal β (SV.zbJ f l)=some vs:=h;rw [SV.zaJ] at h; exact h
 | fn g n =>
   obtain ⟨h1,h2⟩:=h;refine ⟨h1,fun i x hx => ?_⟩;have:=h2 i x hx;rw [SV.zaF] at this; exact this
 | raw V n=>exact h
theorem jef {B:Base} {k0:Nat} (hB:zeh k0 B) {s:SS} {C:Cut} {names:List Nat} (h:Gen k0 s C names) {m:Machine} (hM:zdH B s m):∃ J,zdH B (C.fill J) m:=by
 obtain ⟨β,fr,frs,w,rfl,hFs,hH,hG,hl⟩:=hM.ex;obtain ⟨hkeep,hnd,hlen,hgf,hgh⟩:=h;generalize hf:q4b names s.heap.length=f at hgf hgh;have hlt:∀ j,j<names.length->names[j]? = some (f j):=fun j hj=>by rw [← hf]; exact qku hj
 have hge:∀ j,names.length<=j->f j=s.heap.length+j:=fun j hj=>by rw [← hf]; exact qd8 hj
 have hid:∀ j,j<k0->f j=j:=fun j hj=>by
  have h1:=hkeep j hj;have h2:=(List.getElem?_eq_some_iff.1 h1).1;rw [hlt j h2] at h1; exact Option.some.inj h1
 have hinj:∀ i j,i<names.length->j<names.length->f i=f j->i=j:=fun i j hi hj he=>by
  have h1:=hlt i hi;have h2:=hlt j hj;rw [he] at h1;exact (List.getElem?_inj hi hnd).1 (h1.trans h2.symm)
 let J:zaQ:=⟨fun i k=>(((fr::frs)[i]?).bind fun g=>g.tmps.toList[k]?).getD undef,fun j k=>((β (f j)).bind fun l=>match w.heap[l.blk]? with | some (.loop r)=>r.tmps.toList[k]? | _=>none).getD undef⟩
 have hent:∀ j e,(qgj J.hp C.heap 0)[j]? = some e->∃ E:HP,C.heap[j]? = some E/\e=E.fill (J.hp j):=fun j e he=>by
  rw [qas,Nat.zero_add] at he;cases hE:C.heap[j]? with
  | none=>rw [hE] at he; cases he
  | some E=>rw [hE] at he; exact ⟨E,rfl,(Option.some.inj he).symm⟩
 have hjl:∀ j E,C.heap[j]? = some E->j<names.length:=fun j E h=>by rw [hlen]; exact (List.getElem?_eq_some_iff.1 h).1
 refine ⟨J,⟨fun n=>β (f n),fr,frs,w,rfl,?_,⟨⟨?_,?_,?_,hH.keep,?_,?_⟩,?_⟩,⟨?_,?_⟩,hl⟩⟩
 . refine q1k rfl hFs hgf fun i g hi k x hk => ?_
   show (((fr::frs)[0+i]?).bind fun g=>g.tmps.toList[k]?).getD undef=x;rw [Nat.zero_add,hi];show (g.tmps.toList[k]?).getD undef=x;rw [hk]; rfl
 . intro j e he;obtain ⟨E,hE,rfl⟩:=hent j e he;have hg:=hgh j E hE;have hold:=hH.entries (f j);cases E with
   | ent E =>
     cases E with
     | own c wh el =>
       obtain ⟨c0,h1,hi⟩:=hg;obtain ⟨l,vs,rest,lo,hi2,hl2,h0,hc,hh,hz,hw,hcap⟩:=hold _ h1;exact ⟨l,vs,rest,lo,hi2,hl2,h0,Cells.zaF f (hi _ _ hc),hh,hz,hw,hcap⟩
     | row c =>
       obtain ⟨c0,h1,hi⟩:=hg;obtain ⟨l,vs,hl2,hc,hx⟩:=hold _ h1;exact ⟨l,vs,hl2,Cells.zaF f (hi _ _ hc),hx⟩
     | loop=>exact hg.elim
     | deferred ds =>
       obtain ⟨l,ds',hl2,hd,hh⟩:=hold _ hg;refine ⟨l,ds',hl2,?_,hh⟩;cases ds with
       | none=>exact hd
       | some ds =>
         have hd:(SD.zal β (ds.map (SD.ren f))).map some=some ds':=hd;rw [SD.zaJ] at hd; exact hd
     | gone=>trivial
     | mem m=>obtain ⟨m0,h1,_⟩:=hg; exact hold _ h1
     | obj o =>
       obtain ⟨o0,h1,hi⟩:=hg;obtain ⟨l,x,hl2,h0,hd,hh⟩:=hold _ h1;refine ⟨l,x,hl2,h0,?_,hh⟩;rw [← zaW.zaF];exact hi _ _ hd
   | loop st p g T ps a b d =>
     obtain ⟨T0,h1,hT⟩:=hg;obtain ⟨l,ld,Ts,hl2,hd,hTs,hh⟩:=hold _ h1;refine ⟨l,ld,Ts,hl2,hd,?_,hh⟩;refine q1j rfl hTs hT fun k x hk => ?_
     show ((β (f j)).bind fun l=>_).getD undef=x;rw [hl2];simp only [Option.bind_some,hh,Nat.zero_add,hk];rfl
 . intro i j e e' l l' hi hj ho ho' hij hl1 hl2;obtain ⟨E,hE,rfl⟩:=hent i e hi;obtain ⟨E',hE',rfl⟩:=hent j e' hj;obtain ⟨e0,h1,h2⟩:=HP.zb8 (hgh i E hE) ho;obtain ⟨e1,h3,h4⟩:=HP.zb8 (hgh j E' hE') ho';exact hH.sep (f i) (f j) e0 e1 l l' h1 h3 h2 h4 (fun he=>hij (hinj i j (hjl i E hE) (hjl j E' hE') he)) hl1 hl2
 . intro j e l he ho hl1;obtain ⟨E,hE,rfl⟩:=hent j e he;obtain ⟨e0,h1,h2⟩:=HP.zb8 (hgh j E hE) ho;exact hH.fresh (f j) e0 l h1 h2 hl1
 . intro j m he;obtain ⟨E,hE,hEe⟩:=hent j _ he;have hg:=hgh j E hE;cases E with
   | loop=>cases hEe
   | ent E =>
     obtain rfl:E=SO.mem m:=hEe.symm;obtain ⟨m0,h1,h2⟩:=hg;refine ((hH.zcG (f j) m0 h1).less h2).names fun b _ h4 k e l hk ho hl1 => ?_
     obtain ⟨E',hE',rfl⟩:=hent k e hk;obtain ⟨e0,h5,h6⟩:=HP.zb8 (hgh k E' hE') ho;exact h4 (f k) e0 l h5 h6 hl1
 . intro n k m m' hn hk;have old:∀ (n:Nat) (m:Mem),(C.fill J).heap[n]? = some (SO.mem m)->n<names.length/\∃ m0,s.heap[f n]? = some (SO.mem m0):=fun n m hn=>by
    obtain ⟨E,hE,hEe⟩:=hent n _ hn;have hg:=hgh n E hE;cases E with
    | loop=>cases hEe
    | ent E =>
      obtain rfl:E=SO.mem m:=hEe.symm;obtain ⟨m0,h1,_⟩:=hg;exact ⟨hjl n _ hE,m0,h1⟩
   obtain ⟨h1,m1,h2⟩:=old n m hn;obtain ⟨h3,m2,h4⟩:=old k m' hk;exact hinj n k h1 h3 (hH.zbC _ _ _ _ h2 h4)
 . intro n hn;have hn:(qgj J.hp C.heap 0).length<=n:=hn;rw [qym,← hlen] at hn;show β (f n)=none;rw [hge n hn];exact hH.bound _ (Nat.le_add_right _ _)
 . intro g nm hg;obtain ⟨l,h1,h2⟩:=hG.glob g nm hg;exact ⟨l,by show β (f nm)=some l; rw [hid nm (hB.glob g nm hg)]; exact h1,h2⟩
 . intro n l hn;show β (f n)=some l;by_cases hk:n<k0
   . rw [hid n hk]; exact hG.fix n l hn
   . rw [hB.fix n (by omega)] at hn; cases hn
def q2j {A:Type} (k0:Nat) (C:A->Cut) (Q:A->Prop) (s:SS):Prop:=∀ B m,zeh k0 B->zdH B s m->∃ a J,Q a/\zdH B ((C a).fill J) m
theorem qiq {A:Type} {k0:Nat} {C:A->Cut} {Q:A->Prop} {s:SS} (a:A) (hq:Q a) (names:List Nat) (h:Gen k0 s (C a) names):q2j k0 C Q s :=
 fun _ _ hB hM=>let ⟨J,hJ⟩:=jef hB h hM; ⟨a,J,hq,hJ⟩
def Cfg.at (c:Cfg) (st:Option (Nat × Nat)):Cfg:={ P:=c.P,glob:=c.glob,sums:=c.sums,zeE:=st,zet:=c.zet,zej:=c.zej,each:=c.each }
theorem zaC.at {c:Cfg} (hc:zaC c) (st:Option (Nat × Nat)):zaC (c.at st):=⟨hc.prog,hc.sums,hc.zet⟩
theorem qe8 {c:Cfg} (hc:zaC c) {B:Base} {k0:Nat} (hB:zeh k0 B) (hP:B.P=c.P) (hgl:B.glob=c.glob) {A:Type} (C:A->Cut) (OK:A->Prop) (μ:A->Nat) {D:SV->List SO->Prop}
  (hs:∀ a,OK a->∀ J,∃ st n,(za9 (c.at st) n ((C a).fill J)).Ob D (q2j k0 C fun a'=>OK a'/\μ a'<μ a)) :
  ∀ (k:Nat) (a:A) (J:zaQ) (m:Machine),μ a<k->OK a->zdH B ((C a).fill J) m->∃ m' v H,Steps B.P m m'/\D v H/\zdf B v H m':=by
 intro k;induction k with
 | zero=>intro a J m h; omega
 | succ k ih =>
   intro a J m hk ha hM;obtain ⟨st,n,hs'⟩:=hs a ha J;obtain ⟨m1,hst,⟨v,H,hD,hdone⟩ | ⟨s,hS,hM1⟩⟩:=q74 (B:=B) (hc.at st) hP hgl hM hs'
   . exact ⟨m1,v,H,hst,hD,hdone⟩
   . obtain ⟨a',J',⟨ha',hμ⟩,hM2⟩:=hS B m1 hB hM1;obtain ⟨m2,v,H,zdT,hD,hdone⟩:=ih a' J' m1 (by omega) ha' hM2
     exact ⟨m2,v,H,hst.trans zdT,hD,hdone⟩
def Runs (c:Cfg) (f:FuncId) (args:List SV) (H:List SO) (D:SV->List SO->Prop):Prop :=
 (∃ fn,c.P.funcs[f]? = some fn/\fn.body.isSome=true)/\∀ (O:Nat->Prop) (w0 w:World) (β:Val) (vs:List Value),zac c.P O w0 β H w->zaD c.glob β->SV.zal β args=some vs->Calls c.P f vs.toArray w (Came c.P O w0 β D)
theorem q5d {c:Cfg} (hc:zaC c) {n:Nat} {f:FuncId} {args:List SV} {H:List SO} {D:SV->List SO->Prop} (hob:(qka c n f args H).Ob D fun _=>False):Runs c f args H D:=by
 refine ⟨?_,fun O w0 w β vs hH hG ha=>qky hc hH hG ha hob⟩;unfold qka at hob;cases hg:qge c.P f args with
 | none=>rw [hg] at hob; exact hob.elim
 | some g=>exact qfk hg
theorem qf8 {c:Cfg} (hc:zaC c) {A:Type} (C:A->Cut) (OK:A->Prop) (μ:A->Nat) {D:SV->List SO->Prop} {f:FuncId} {args:List SV} {H:List SO} (hgl:∀ g nm,c.glob g=some nm->nm<H.length)
  (h0:∃ st n,(qka (c.at st) n f args H).Ob D (q2j H.length C OK))
  (hs:∀ a,OK a->∀ J,∃ st n,(za9 (c.at st) n ((C a).fill J)).Ob D (q2j H.length C fun a'=>OK a'/\μ a'<μ a)):Runs c f args H D:=by
 obtain ⟨st0,n0,h0⟩:=h0;unfold qka at h0;cases hg:qge (c.at st0).P f args with
 | none=>rw [hg] at h0; exact h0.elim
 | some g =>
   rw [hg] at h0;refine ⟨qfk hg,fun O w0 w β vs hH hG ha cs => ?_⟩;have hB:zeh H.length ⟨c.P,c.glob,O,w0,cs,f,β⟩:=⟨hH.bound,hgl⟩;have hend:∀ m v H',Steps c.P (lone (Frame.enter c.P f vs.toArray .normal) cs w) m->D v H'->zdf ⟨c.P,c.glob,O,w0,cs,f,β⟩ v H' m ->
     ∃ e w' b,Came c.P O w0 β D e w'/\Comes c.P (lone (Frame.enter c.P f vs.toArray .normal) cs w) (lone b cs w') e/\b.fn=f/\b.leaving c.P w' e:=by
    intro m v H' hst hD hdone;obtain ⟨β',fr,x,w',rfl,hfn,hleave,hv,hH',hG'⟩:=hdone.ex;exact ⟨.returned x,w',fr,⟨v,H',x,β',rfl,hD,hG'.fix,hv,hH'⟩,hst,hfn,hleave⟩
   obtain ⟨m1,hst,⟨v,H',hD,hdone⟩ | ⟨s,hS,hM1⟩⟩:=q6n (B:=⟨c.P,c.glob,O,w0,cs,f,β⟩) (hc.at st0) rfl rfl n0 _ _ (q7r (c:=c) hH hG ha hg cs) h0
   . exact hend m1 v H' hst hD hdone
   . obtain ⟨a,J,ha',hM2⟩:=hS _ _ hB hM1;obtain ⟨m2,v,H',zdT,hD,hdone⟩:=qe8 hc hB rfl rfl C OK μ hs (μ a+1) a J m1 (Nat.lt_succ_self _) ha' hM2;exact hend m2 v H' (hst.trans zdT) hD hdone
end
noncomputable section
variable {α:Type}
def zfr (vs:List SV):List (Option SV)->List (Option SV) :=
 List.rec (motive:=fun _=>List (Option SV)->List (Option SV)) (fun _=>[]) (fun v _ ih T=>List.rec (motive:=fun _=>List (Option SV)) (some v::ih []) (fun o r _=>zah o none (fun _=>some v)::ih r) T) vs
def seeF (s:SF) (p:SP):SP:=⟨s.fn,zfr s.tmps p.tmps,s.todo,s.defers,s.roundOf⟩
def qcw (ss:List SF):List SP->List SP :=
 List.rec (motive:=fun _=>List SP->List SP) (fun _=>[]) (fun s _ ih ps=>List.rec (motive:=fun _=>List SP) (⟨s.fn,zfr s.tmps [],s.todo,s.defers,s.roundOf⟩::ih []) (fun p r _=>seeF s p::ih r) ps) ss
def zio (e:SO) (T:List (Option SV)):HP:=SO.rec (motive:=fun _=>HP) (fun c w el=>.ent (.own c w el)) (fun c=>.ent (.row c)) (fun s p f T0 ps a b d=>.loop s p f (zfr T0 T) ps a b d) (fun ds=>.ent (.deferred ds)) (.ent .gone) (fun o=>.ent (.obj o)) (fun m=>.ent (.mem m)) e
def qbs (e:SO):Bool:=SO.rec (motive:=fun _=>Bool) (fun _ _ _=>false) (fun _=>false) (fun _ _ _ _ _ _ _ _=>false) (fun _=>false) true (fun _=>false) (fun _=>false) e
def zho (e:Option SO) (E:HP):Option HP:=HP.rec (motive:=fun _=>Option HP) (fun E0=>zab (qbs E0) (some (.ent .gone)) (zah e none fun e=>some (.ent e))) (fun _ _ _ T _ _ _ _=>zah e none fun e=>some (zio e T)) E
def qb5 (H:List SO) (names:List Nat):List HP->List (Option HP) :=
 List.rec (motive:=fun _=>List HP->List (Option HP)) (fun _=>[]) (fun n _ ih Es=>List.rec (motive:=fun _=>List (Option HP)) [] (fun E r _=>zho (nth H n) E::ih r) Es) names
abbrev Seen:=List SP × Nat × List (Option HP)
def q3j (M:Cut) (names:List Nat) (s:SS):Seen:=(qcw s.frames M.frames,zay s.heap,qb5 s.heap names M.heap)
def ziO (f:Nat->Nat) (T:List (Option SV)):List (Option SV):=zas (fun o=>zah o none fun v=>some (v.ren f)) T
def SP.ren (f:Nat->Nat) (p:SP):SP:=⟨p.fn,ziO f p.tmps,zas (zaK.ren f) p.todo,zas (SD.ren f) p.defers,zah p.roundOf none fun n=>some (f n)⟩
def HP.ren (f:Nat->Nat) (E:HP):HP :=
 HP.rec (motive:=fun _=>HP) (fun e=>SO.rec (motive:=fun _=>HP) (fun c w el=>.ent (.own (c.ren f) w el)) (fun c=>.ent (.row (c.ren f))) (fun s p g T ps a b d=>.ent (.loop s p g T ps a b d)) (fun ds=>.ent (.deferred (zah ds none fun l=>some (zas (SD.ren f) l)))) (.ent .gone) (fun o=>.ent (.obj (o.ren f))) (fun m=>.ent (.mem m)) e)
  (fun s p g T ps a b d=>.loop s p g (ziO f T) ps a b (f d)) E
def qja (names:List Nat) (N:Nat) (C:Cut):Seen:=(zas (SP.ren (q4b names N)) C.frames,N,zas (fun E=>some (E.ren (q4b names N))) C.heap)
def ze5 (f:Nat->Nat):List (Option SV)->List (Option SV)->Prop
 | some v::vs,some u::us=>v.Imp (u.ren f)/\ze5 f vs us
 | none::vs,none::us=>ze5 f vs us
 | [],[]=>True
 | _,_=>False
structure ImpF (f:Nat->Nat) (s p:SP):Prop where
 fn:s.fn=p.fn
 tmps:ze5 f s.tmps p.tmps
 todo:s.todo=p.todo.map (zaK.ren f)
 defers:s.defers=p.defers.map (SD.ren f)
 roundOf:s.roundOf=p.roundOf.map f
def qsg (f:Nat->Nat):List SP->List SP->Prop
 | s::ss,p::ps=>ImpF f s p/\qsg f ss ps
 | [],[]=>True
 | _,_=>False
def zew (f:Nat->Nat) (e:Option HP) (E:HP):Prop :=
 match E with
 | .ent (.own c w el)=>∃ c0,e=some (.ent (.own c0 w el))/\c0.Imp (c.ren f)
 | .ent (.row c)=>∃ c0,e=some (.ent (.row c0))/\c0.Imp (c.ren f)
 | .ent (.deferred ds)=>e=some (.ent (.deferred (ds.map (List.map (SD.ren f)))))
 | .ent (.obj o)=>∃ o0,e=some (.ent (.obj o0))/\o0.Imp (o.ren f)
 | .ent .gone=>True
 | .ent (.mem m)=>∃ m0,e=some (.ent (.mem m0))/\m.le m0
 | .ent (.loop ..)=>False
 | .loop s p g T ps a b d=>∃ T0,e=some (.loop s p g T0 ps a b (f d))/\ze5 f T0 T
def qii (f:Nat->Nat):List (Option HP)->List HP->Prop
 | e::es,E::Es=>zew f e E/\qii f es Es
 | [],[]=>True
 | _,_=>False
theorem q7g {f:Nat->Nat}:∀ {vs:List SV} {Tm T:List (Option SV)},ze5 f (zfr vs Tm) T->zgC f vs T
 | [],_,[],_=>trivial
 | [],_,_::_,h=>by cases h
 | v::vs,[],T,h=>by
   have h:ze5 f (some v::zfr vs []) T:=h;cases T with
   | nil=>exact h.elim
   | cons u us=>cases u with
     | none=>exact h.elim
     | some u=>exact ⟨h.1,q7g h.2⟩
 | v::vs,o::Tm,T,h=>by
   have h:ze5 f (zah o none (fun _=>some v)::zfr vs Tm) T:=h;cases T with
   | nil=>cases o <;> exact h.elim
   | cons u us =>
     cases o with
     | none=>cases u with
       | none=>exact q7g (Tm:=Tm) (T:=us) h
       | some u=>exact h.elim
     | some o=>cases u with
       | none=>exact h.elim
       | some u=>exact ⟨h.1,q7g (Tm:=Tm) (T:=us) h.2⟩
theorem q8n {f:Nat->Nat}:∀ {ss:List SF} {pm ps:List SP},qsg f (qcw ss pm) ps->qbw f ss ps
 | [],_,[],_=>trivial
 | [],_,_::_,h=>by cases h
 | s::ss,[],ps,h=>by
   have h:qsg f (⟨s.fn,zfr s.tmps [],s.todo,s.defers,s.roundOf⟩::qcw ss []) ps:=h;cases ps with
   | nil=>exact h.elim
   | cons p ps =>
     obtain ⟨⟨h1,h2,h3,h4,h5⟩,hr⟩:=h;exact ⟨⟨h1,q7g h2,h3,h4,h5⟩,q8n hr⟩
 | s::ss,q::pm,ps,h=>by
   have h:qsg f (seeF s q::qcw ss pm) ps:=h;cases ps with
   | nil=>exact h.elim
   | cons p ps =>
     obtain ⟨⟨h1,h2,h3,h4,h5⟩,hr⟩:=h;exact ⟨⟨h1,q7g h2,h3,h4,h5⟩,q8n hr⟩
theorem jya {f:Nat->Nat} {e:Option SO} {Em E:HP} (h:zew f (zho e Em) E):zhW f e E:=by
 have hent:∀ {e:Option SO} {e0:SO},e0≠.gone->(∀ s p g T ps a b d,e0≠.loop s p g T ps a b d)->zho e Em=some (.ent e0)->e=some e0:=by
  intro e e0 hng hnl h;cases Em with
  | ent Em =>
    have h:zab (qbs Em) (some (.ent .gone)) (zah e none fun e=>some (HP.ent e))=some (.ent e0):=h;cases hb:qbs Em with
    | true=>rw [hb] at h; exact absurd (HP.ent.inj (Option.some.inj h)).symm hng
    | false =>
      rw [hb] at h;cases e with
      | none=>cases h
      | some e=>rw [(HP.ent.inj (Option.some.inj h))]
  | loop s p g T ps a b d =>
    cases e with
    | none=>cases h
    | some e =>
      have h:some (zio e T)=some (HP.ent e0):=h;have h:=Option.some.inj h;cases e with
      | loop=>cases h
      | gone=>exact absurd (HP.ent.inj h).symm hng
      | mem=>rw [← HP.ent.inj h]
      | own=>rw [← HP.ent.inj h]
      | row=>rw [← HP.ent.inj h]
      | deferred=>rw [← HP.ent.inj h]
      | obj=>rw [← HP.ent.inj h]
 cases E with
 | ent E =>
   cases E with
   | own c w el=>obtain ⟨c0,h1,h2⟩:=h; exact ⟨c0,hent (by simp) (by simp) h1,h2⟩
   | row c=>obtain ⟨c0,h1,h2⟩:=h; exact ⟨c0,hent (by simp) (by simp) h1,h2⟩
   | deferred ds=>exact hent (by simp) (by simp) h
   | obj o=>obtain ⟨o0,h1,h2⟩:=h; exact ⟨o0,hent (by simp) (by simp) h1,h2⟩
   | gone=>trivial
   | mem m=>obtain ⟨m0,h1,h2⟩:=h; exact ⟨m0,hent (by simp) (by simp) h1,h2⟩
   | loop=>exact h.elim
 | loop s p g T ps a b d =>
   obtain ⟨T0,h1,h2⟩:=h;cases Em with
   | ent Em =>
     have h:zab (qbs Em) (some (.ent .gone)) (zah e none fun e=>some (HP.ent e))=some (.loop s p g T0 ps a b (f d)):=h1;cases hb:qbs Em with
     | true=>rw [hb] at h; cases h
     | false=>rw [hb] at h; cases e <;> cases h
   | loop s' p' g' Tm ps' a' b' d' =>
     cases e with
     | none=>cases h1
     | some e =>
       have h1:some (zio e Tm)=some (HP.loop s p g T0 ps a b (f d)):=h1;have h1:=Option.some.inj h1;cases e with
       | loop s1 p1 g1 T1 ps1 a1 b1 d1 =>
         have h1:HP.loop s1 p1 g1 (zfr T1 Tm) ps1 a1 b1 d1=.loop s p g T0 ps a b (f d):=h1;injection h1 with e1 e2 e3 e4 e5 e6 e7 e8
         subst e1 e2 e3 e4 e5 e6 e7 e8;exact ⟨T1,rfl,q7g h2⟩
       | own=>cases h1
       | row=>cases h1
       | deferred=>cases h1
       | gone=>cases h1
       | mem=>cases h1
       | obj=>cases h1
theorem qlu {f:Nat->Nat} {H:List SO}:∀ {names:List Nat} {Em Es:List HP},qii f (qb5 H names Em) Es->Em.length=names.length->∀ (j:Nat) (E:HP) (n:Nat),Es[j]? = some E->names[j]? = some n->zhW f H[n]? E
 | [],_,[],_,_,_,_,_,h,_=>by simp at h
 | [],_,_::_,h,_,_,_,_,_,_=>h.elim
 | n::names,[],_,_,hl,_,_,_,_,_=>by simp at hl
 | n::names,Em::Ems,Es,h,hl,j,E,m,hE,hm=>by
   have h:qii f (zho (nth H n) Em::qb5 H names Ems) Es:=h;cases Es with
   | nil=>exact h.elim
   | cons E0 Es =>
     cases j with
     | zero =>
       simp at hE hm;subst hE hm;have:=jya h.1
       rwa [qda] at this
     | succ j=>exact qlu h.2 (by simpa using hl) j E m (by simpa using hE) (by simpa using hm)
theorem qem (f:Nat->Nat):∀ T:List (Option SV),ze5 f (ziO f T) T
 | []=>trivial
 | some _::T=>⟨.refl _,qem f T⟩
 | none::T=>qem f T
theorem q9n (f:Nat->Nat):∀ ps:List SP,qsg f (zas (SP.ren f) ps) ps
 | []=>trivial
 | p::ps=>⟨⟨rfl,qem f _,by show zas _ _=_; rw [qxa],by show zas _ _=_; rw [qxa],by show zah p.roundOf none _=_; cases p.roundOf <;> rfl⟩,q9n f ps⟩
theorem jza (f:Nat->Nat) (E:HP) (h:∀ s p g T ps a b d,E≠.ent (.loop s p g T ps a b d)):zew f (some (E.ren f)) E:=by
 cases E with
 | ent e =>
   cases e with
   | own c w el=>exact ⟨_,rfl,.refl _⟩
   | row c=>exact ⟨_,rfl,.refl _⟩
   | deferred ds =>
     show some (HP.ent (.deferred (zah ds none fun l=>some (zas (SD.ren f) l))))=_;cases ds with
     | none=>rfl
     | some l=>rw [zao,qxa]; rfl
   | gone=>trivial
   | mem m=>exact ⟨_,rfl,m.le_refl⟩
   | obj o=>exact ⟨_,rfl,fun _ _ h=>h⟩
   | loop=>exact absurd rfl (h _ _ _ _ _ _ _ _)
 | loop s p g T ps a b d=>exact ⟨_,rfl,qem f T⟩
def qpa (E:HP):Bool:=HP.rec (motive:=fun _=>Bool) (fun e=>SO.rec (motive:=fun _=>Bool) (fun _ _ _=>true) (fun _=>true) (fun _ _ _ _ _ _ _ _=>false) (fun _=>true) true (fun _=>true) (fun _=>true) e) (fun _ _ _ _ _ _ _ _=>true) E
theorem qao (f:Nat->Nat):∀ Es:List HP,zaO qpa Es=true->qii f (zas (fun E=>some (E.ren f)) Es) Es
 | [],_=>trivial
 | E::Es,h=>by
   have h':=qxe _ _ h;refine ⟨jza f E fun s p g T ps a b d he => ?_,qao f Es ?_⟩
   . have:=h' E List.mem_cons_self;rw [he] at this; cases this
   . have h:zab (qpa E) (zaO qpa Es) false=true:=h;cases hb:qpa E with
     | true=>rw [hb] at h; exact h
     | false=>rw [hb] at h; cases h
def qhj (l:List Nat):Bool:=List.rec (motive:=fun _=>Bool) true (fun a r ih=>zab (zbD a r) false ih) l
def qc5 (l:List Nat):Nat->Nat->Bool:=List.rec (motive:=fun _=>Nat->Nat->Bool) (fun k i=>Nat.ble k i) (fun a _ ih k i=>zab (Nat.ble k i) true (zab (Nat.beq a i) (ih k (Nat.succ i)) false)) l
def qua (k0:Nat) (names:List Nat) (M C:Cut):Bool:=zab (qhj names) (zab (qc5 names k0 0) (zab (Nat.beq (zay names) (zay C.heap)) (Nat.beq (zay names) (zay M.heap)) false) false) false
theorem qph:∀ l:List Nat,qhj l=true->l.Nodup
 | [],_=>by simp
 | a::r,h=>by
   have h:zab (zbD a r) false (qhj r)=true:=h;cases hm:zbD a r with
   | true=>rw [hm] at h; cases h
   | false =>
     rw [hm] at h;refine List.nodup_cons.2 ⟨fun hin => ?_,qph r h⟩;rw [zch.2 hin] at hm; cases hm
theorem qcs:∀ (l:List Nat) (k i:Nat),qc5 l k i=true->∀ j,i+j<k->l[j]? = some (i+j)
 | [],k,i,h,j,hj=>by
   have:=Nat.le_of_ble_eq_true (show Nat.ble k i=true from h)
   omega
 | a::r,k,i,h,j,hj=>by
   have h:zab (Nat.ble k i) true (zab (Nat.beq a i) (qc5 r k (i+1)) false)=true:=h;cases hk:Nat.ble k i with
   | true=>have:=Nat.le_of_ble_eq_true hk; omega
   | false =>
     rw [hk,zam] at h;cases ha:Nat.beq a i with
     | false=>rw [ha] at h; cases h
     | true =>
       rw [ha] at h;have:=Nat.eq_of_beq_eq_true ha;subst this;cases j with
       | zero=>rfl
       | succ j =>
         have:=qcs r k (a+1) h j (by omega)
         rw [List.getElem?_cons_succ,this];congr 1; omega
theorem qij {b:Bool} {t:Bool} (h:zab b t false=true):b=true/\t=true:=by cases b <;> first | exact ⟨rfl,h⟩ | cases h
theorem qpy {k0:Nat} {s:SS} {C M:Cut} {names:List Nat} {F:List SP} {N:Nat} {es:List (Option HP)} (hv:q3j M names s=(F,N,es)) (hn:qua k0 names M C=true) (hF:qsg (q4b names N) F C.frames) (hE:qii (q4b names N) es C.heap):Gen k0 s C names:=by
 obtain ⟨h1,h2⟩:=Prod.mk.inj (show (_,_,_)=(F,N,es) from hv)
 obtain ⟨h2,h3⟩:=Prod.mk.inj h2;rw [qha] at h2;obtain ⟨n1,n2⟩:=qij hn;obtain ⟨n2,n3⟩:=qij n2;obtain ⟨n3,n4⟩:=qij n3;have l1:=Nat.eq_of_beq_eq_true n3;have l2:=Nat.eq_of_beq_eq_true n4;rw [qha,qha] at l1 l2;subst h2;refine ⟨fun j hj => ?_,qph _ n1,l1,?_,fun j E hj => ?_⟩
 . have:=qcs names k0 0 n2 j (by omega)
   rwa [Nat.zero_add] at this
 . rw [← h1] at hF; exact q8n hF
 . rw [← h3] at hE;have hlt:j<names.length:=by rw [l1]; exact (List.getElem?_eq_some_iff.1 hj).1
   exact qlu hE l2.symm j E _ hj (qku hlt)
theorem j0a {k0:Nat} {s:SS} {C M:Cut} {names:List Nat} {N:Nat} (hv:q3j M names s=qja names N C) (hn:zab (qua k0 names M C) (zaO qpa C.heap) false=true):Gen k0 s C names :=
 qpy hv (qij hn).1 (q9n _ _) (qao _ _ (qij hn).2)
def q2k (i:Nat) (E:HP) (V:Seen):Seen:=(V.1,V.2.1,zbv V.2.2 i (some E))
theorem qmu {f:Nat->Nat}:∀ {es:List (Option HP)} {Es:List HP} (i:Nat) {E:HP},qii f es Es->(∀ E0,Es[i]? = some E0->zew f (some E) E0)->qii f (zbv es i (some E)) Es
 | [],[],_,_,_,_=>trivial
 | e::es,E0::Es,0,E,h,h0=>⟨h0 E0 rfl,h.2⟩
 | e::es,E0::Es,i+1,E,h,h0=>⟨h.1,qmu i h.2 fun E1 h1=>h0 E1 (by simpa using h1)⟩
 | [],_::_,_,_,h,_=>h.elim
 | _::_,[],_,_,h,_=>h.elim
def zin (p:SP) (j:Nat) (v:SV):SP:=⟨p.fn,zbv p.tmps j (some v),p.todo,p.defers,p.roundOf⟩
def qtg (i j:Nat) (v:SV) (V:Seen):Seen:=(zah (nth V.1 i) V.1 fun p=>zbv V.1 i (zin p j v),V.2.1,V.2.2)
def qva (ms:List (Nat × Nat × SV)) (es:List (Nat × HP)) (V:Seen):Seen :=
 List.rec (motive:=fun _=>Seen) (List.rec (motive:=fun _=>Seen) V (fun m _ ih=>qtg m.1 m.2.1 m.2.2 ih) ms) (fun e _ ih=>q2k e.1 e.2 ih) es
theorem qjq {f:Nat->Nat}:∀ {vs us:List (Option SV)} (j:Nat) {v:SV},ze5 f vs us->(∀ u,us[j]? = some u->∃ w,u=some w/\v.Imp (w.ren f))->ze5 f (zbv vs j (some v)) us
 | some _::vs,some u::us,0,v,h,h0=>let ⟨w,e,hw⟩:=h0 _ rfl; ⟨by cases e; exact hw,h.2⟩
 | none::vs,none::us,0,v,h,h0=>let ⟨_,e,_⟩:=h0 _ rfl; by cases e
 | some _::vs,some u::us,j+1,v,h,h0=>⟨h.1,qjq j h.2 fun w hw=>h0 w (by simpa using hw)⟩
 | none::vs,none::us,j+1,v,h,h0=>qjq (vs:=vs) (us:=us) j h fun w hw=>h0 w (by simpa using hw)
 | [],[],_,_,_,_=>trivial
 | some _::_,none::_,_,_,h,_=>h.elim
 | none::_,some _::_,_,_,h,_=>h.elim
 | [],_::_,_,_,h,_=>h.elim
 | some _::_,[],_,_,h,_=>False.elim h
 | none::_,[],_,_,h,_=>False.elim h
theorem qnu {f:Nat->Nat}:∀ {ss ps:List SP} (i j:Nat) {v:SV} {s:SP},qsg f ss ps->ss[i]? = some s->(∀ p u,ps[i]? = some p->p.tmps[j]? = some u->∃ w,u=some w/\v.Imp (w.ren f))->qsg f (zbv ss i (zin s j v)) ps
 | s0::ss,p::ps,0,j,v,s,h,hs,h0=>by
   simp at hs; subst hs;obtain ⟨⟨h1,h2,h3,h4,h5⟩,hr⟩:=h;exact ⟨⟨h1,qjq j h2 fun u hu=>h0 p u rfl hu,h3,h4,h5⟩,hr⟩
 | s0::ss,p::ps,i+1,j,v,s,h,hs,h0=>⟨h.1,qnu i j h.2 (by simpa using hs) fun q u hq hu=>h0 q u (by simpa using hq) hu⟩
 | [],_,_,_,_,_,_,hs,_=>by simp at hs
 | _::_,[],_,_,_,_,h,_,_=>h.elim
theorem qz1 {k0:Nat} {s:SS} {C M:Cut} {names:List Nat} {N:Nat} (ms:List (Nat × Nat × SV)) (es:List (Nat × HP)) (hv:q3j M names s=qva ms es (qja names N C)) (hn:zab (qua k0 names M C) (zaO qpa C.heap) false=true)
  (hT:∀ m∈ms,∀ p u,C.frames[m.1]? = some p->p.tmps[m.2.1]? = some u->∃ w,u=some w/\m.2.2.Imp (w.ren (q4b names N))) (hE:∀ e∈es,∀ E0,C.heap[e.1]? = some E0->zew (q4b names N) (some e.2) E0):Gen k0 s C names:=by
 have key:∀ ms:List (Nat × Nat × SV),(∀ m∈ms,∀ p u,C.frames[m.1]? = some p->p.tmps[m.2.1]? = some u->∃ w,u=some w/\m.2.2.Imp (w.ren (q4b names N))) ->
   qsg (q4b names N) (List.rec (motive:=fun _=>Seen) (qja names N C) (fun m _ ih=>qtg m.1 m.2.1 m.2.2 ih) ms:Seen).1 C.frames/\(List.rec (motive:=fun _=>Seen) (qja names N C) (fun m _ ih=>qtg m.1 m.2.1 m.2.2 ih) ms:Seen).2=(qja names N C).2:=by
  intro ms;induction ms with
  | nil=>intro _; exact ⟨q9n _ _,rfl⟩
  | cons m ms ih =>
    intro h;obtain ⟨h1,h2⟩:=ih fun x hx=>h x (List.mem_cons_of_mem _ hx);generalize hV:(List.rec (motive:=fun _=>Seen) (qja names N C) (fun m _ ih=>qtg m.1 m.2.1 m.2.2 ih) ms:Seen)=V at h1 h2;show qsg _ (qtg m.1 m.2.1 m.2.2 (List.rec (motive:=fun _=>Seen) (qja names N C) (fun m _ ih=>qtg m.1 m.2.1 m.2.2 ih) ms:Seen)).1 _/\(qtg m.1 m.2.1 m.2.2 (List.rec (motive:=fun _=>Seen) (qja names N C) (fun m _ ih=>qtg m.1 m.2.1 m.2.2 ih) ms:Seen)).2=_;rw [hV];refine ⟨?_,h2⟩;show qsg _ (zah (nth V.1 m.1) V.1 fun p=>zbv V.1 m.1 (zin p m.2.1 m.2.2)) _;cases hp:nth V.1 m.1 with
    | none=>exact h1
    | some p =>
      rw [qda] at hp;exact qnu m.1 m.2.1 h1 hp fun q u hq hu=>h m List.mem_cons_self q u hq hu
 obtain ⟨k1,k2⟩:=key ms hT;have key2:∀ es:List (Nat × HP),(∀ e∈es,∀ E0,C.heap[e.1]? = some E0->zew (q4b names N) (some e.2) E0)->∀ V:Seen,V.2=(qja names N C).2 ->
   (List.rec (motive:=fun _=>Seen) V (fun e _ ih=>q2k e.1 e.2 ih) es:Seen).1=V.1/\(List.rec (motive:=fun _=>Seen) V (fun e _ ih=>q2k e.1 e.2 ih) es:Seen).2.1=N/\qii (q4b names N) (List.rec (motive:=fun _=>Seen) V (fun e _ ih=>q2k e.1 e.2 ih) es:Seen).2.2 C.heap:=by
  intro es;induction es with
  | nil =>
    intro _ V hV;refine ⟨rfl,?_,?_⟩
    . show V.2.1=N; rw [hV]; rfl
    . show qii _ V.2.2 _; rw [hV]; exact qao _ _ (qij hn).2
  | cons e es ih =>
    intro h V hV;obtain ⟨h1,h2,h3⟩:=ih (fun x hx=>h x (List.mem_cons_of_mem _ hx)) V hV;exact ⟨h1,h2,qmu e.1 h3 (h e List.mem_cons_self)⟩
 obtain ⟨j1,j2,j3⟩:=key2 es hE _ k2;unfold qva at hv;generalize (List.rec (motive:=fun _=>Seen) (List.rec (motive:=fun _=>Seen) (qja names N C) (fun m _ ih=>qtg m.1 m.2.1 m.2.2 ih) ms) (fun e _ ih=>q2k e.1 e.2 ih) es:Seen)=V at hv j1 j2 j3;obtain ⟨F,N',es'⟩:=V;have j2:N'=N:=j2;subst j2;exact qpy hv (qij hn).1 (by rw [show F=_ from j1]; exact k1) j3
abbrev zgA:=List Prop × Option ((SV × List (Option SO)) ⊕ Seen)
def zaq (js:List Nat) (M:Cut) (names:List Nat) (t:Tree):List Bool->(Nat->Nat->Nat)->zgA :=
 Tree.rec (motive:=fun _=>List Bool->(Nat->Nat->Nat)->zgA) (fun v H _ _=>([],some (.inl (v,zas (fun j=>nth H j) js)))) (fun s _ _=>([],some (.inr (q3j M names s)))) (fun p _ ih ds z=>(p::(ih ds z).1,(ih ds z).2))
  (fun b _ _ iht ihf ds z=>List.rec (motive:=fun _=>zgA) ([],none) (fun d r _=>((b=d)::(zab d (iht r z) (ihf r z)).1,(zab d (iht r z) (ihf r z)).2)) ds) (fun _ _ _=>([],none)) (fun _ ih ds z=>ih (z 0) ds fun i=>z (i+1)) t
theorem qbt {js:List Nat} {M:Cut} {names:List Nat} {t:Tree} {ds:List Bool} {ps:(Nat->Nat->Nat)->List Prop} {r:(Nat->Nat->Nat)->(SV × List (Option SO)) ⊕ Seen} (h:∀ z,zaq js M names t ds z=(ps z,some (r z))) (hp:∀ z,∀ p∈ps z,p) {D:SV->List SO->Prop} {S:SS->Prop}
  (hD:∀ z v es,r z=.inl (v,es)->∀ H:List SO,js.map (fun j=>H[j]?)=es->D v H) (hS:∀ z V,r z=.inr V->∀ s,q3j M names s=V->S s):t.Ob D S:=by
 have z0:Nat->Nat->Nat:=fun _ _=>0;induction t generalizing ps r ds with
 | done v' H =>
   have h':([],some (.inl (v',zas (fun j=>nth H j) js)))=(ps z0,some (r z0)):=h z0;have h1:=Option.some.inj (Prod.mk.inj h').2;refine hD z0 v' _ h1.symm H ?_
   rw [qxa];exact List.map_congr_left fun j _=>(qda H j).symm
 | stop s =>
   have h':([],some (.inr (q3j M names s)))=(ps z0,some (r z0)):=h z0;have h1:=Option.some.inj (Prod.mk.inj h').2;exact hS z0 _ h1.symm s rfl
 | need p t ih =>
   have h':∀ z,(p::(zaq js M names t ds z).1,(zaq js M names t ds z).2)=(ps z,some (r z)):=h;refine ⟨?_,ih (ds:=ds) (ps:=fun z=>(zaq js M names t ds z).1) (r:=r) (fun z=>by rw [← (Prod.mk.inj (h' z)).2]) (fun z q hq=>hp z q ?_) hD hS⟩
   . have:=(Prod.mk.inj (h' z0)).1;exact hp z0 p (by rw [← this]; exact List.mem_cons_self)
   . rw [← (Prod.mk.inj (h' z)).1]; exact List.mem_cons_of_mem _ hq
 | fork b t f iht ihf =>
   cases ds with
   | nil=>cases (Prod.mk.inj (show ([],none)=(ps z0,some (r z0)) from h z0)).2
   | cons d rs =>
     have h':∀ z,((b=d)::(zab d (zaq js M names t rs z) (zaq js M names f rs z)).1,(zab d (zaq js M names t rs z) (zaq js M names f rs z)).2)=(ps z,some (r z)):=h;have hb:b=d:=hp z0 _ (by rw [← (Prod.mk.inj (h' z0)).1]; exact List.mem_cons_self)
     have hq:∀ z,∀ q∈(zab d (zaq js M names t rs z) (zaq js M names f rs z)).1,q:=fun z q hq=>hp z q (by rw [← (Prod.mk.inj (h' z)).1]; exact List.mem_cons_of_mem _ hq)
     cases d with
     | true=>exact ⟨fun _=>iht (ds:=rs) (ps:=fun z=>(zaq js M names t rs z).1) (r:=r) (fun z=>by rw [← (Prod.mk.inj (h' z)).2]; rfl) hq hD hS,fun hf=>by rw [hf] at hb; cases hb⟩
     | false=>exact ⟨fun ht=>(by rw [ht] at hb; cases hb),fun _=>ihf (ds:=rs) (ps:=fun z=>(zaq js M names f rs z).1) (r:=r) (fun z=>by rw [← (Prod.mk.inj (h' z)).2]; rfl) hq hD hS⟩
 | stuck=>cases (Prod.mk.inj (show ([],none)=(ps z0,some (r z0)) from h z0)).2
 | any k ih =>
   have h':∀ z,zaq js M names (k (z 0)) ds (fun i=>z (i+1))=(ps z,some (r z)):=h;intro y
   let c:(Nat->Nat->Nat)->Nat->Nat->Nat:=fun z i=>Nat.rec (motive:=fun _=>Nat->Nat) y (fun j _=>z j) i
   exact ih y (ds:=ds) (ps:=fun z=>ps (c z)) (r:=fun z=>r (c z)) (fun z=>h' (c z)) (fun z=>hp (c z)) (fun z=>hD (c z)) (fun z=>hS (c z))
theorem qou {A:Type} {k0:Nat} {C:A->Cut} {Q:A->Prop} {js:List Nat} {M:Cut} {names:List Nat} {t:Tree} {ds:List Bool} {ps:List Prop} {N:Nat} {D:SV->List SO->Prop} (a:A) (hq:Q a)
  (h:∀ z,zaq js M names t ds z=(ps,some (.inr (qja names N (C a))))) (hn:zab (qua k0 names M (C a)) (zaO qpa (C a).heap) false=true) (hp:∀ p∈ps,p):t.Ob D (q2j k0 C Q) :=
 qbt h (fun _=>hp) (fun _ v es h=>by cases h) fun _ V h s hv=>qiq a hq names (j0a (N:=N) (by cases h; exact hv) hn)
theorem qds {A:Type} {k0:Nat} {C:A->Cut} {Q:A->Prop} {js:List Nat} {M:Cut} {names:List Nat} {t:Tree} {ds:List Bool} {ps:List Prop} {N:Nat} {ms:List (Nat × Nat × SV)} {es:List (Nat × HP)} {D:SV->List SO->Prop} (a:A) (hq:Q a)
  (h:∀ z,zaq js M names t ds z=(ps,some (.inr (qva ms es (qja names N (C a)))))) (hn:zab (qua k0 names M (C a)) (zaO qpa (C a).heap) false=true)
  (hT:∀ m∈ms,∀ p u,(C a).frames[m.1]? = some p->p.tmps[m.2.1]? = some u->∃ w,u=some w/\m.2.2.Imp (w.ren (q4b names N))) (hE:∀ e∈es,∀ E0,(C a).heap[e.1]? = some E0->zew (q4b names N) (some e.2) E0) (hp:∀ p∈ps,p):t.Ob D (q2j k0 C Q) :=
 qbt h (fun _=>hp) (fun _ v es h=>by cases h) fun _ V h s hv=>qiq a hq names (qz1 (N:=N) ms es (by cases h; exact hv) hn hT hE)
theorem qqy {js:List Nat} {M:Cut} {names:List Nat} {t:Tree} {ds:List Bool} {ps:List Prop} {v:SV} {es:List (Option SO)} {D:SV->List SO->Prop} {S:SS->Prop}
  (h:∀ z,zaq js M names t ds z=(ps,some (.inl (v,es)))) (hp:∀ p∈ps,p) (hD:∀ H:List SO,js.map (fun j=>H[j]?)=es->D v H):t.Ob D S :=
 qbt h (fun _=>hp) (fun _ v' es' h=>by cases h; exact hD) fun _ V h=>by cases h
def qlb {A:Type} (c:Cfg) (k0:Nat) (C:A->Cut) (Q:A->Prop) (D:SV->List SO->Prop) (s:SS):Prop:=∃ st n,(za9 (c.at st) n s).Ob D (q2j k0 C Q)
theorem q1a {A:Type} {c:Cfg} {k0:Nat} {C:A->Cut} {Q:A->Prop} {D:SV->List SO->Prop} {s:SS} (st:Option (Nat × Nat)) (n:Nat) {M:Cut} {names:List Nat} {ds:List Bool} {ps:List Prop} {N:Nat} (a:A) (hq:Q a)
  (h:∀ z,zaq [] M names (za9 (c.at st) n s) ds z=(ps,some (.inr (qja names N (C a))))) (hn:zab (qua k0 names M (C a)) (zaO qpa (C a).heap) false=true) (hp:∀ p∈ps,p):qlb c k0 C Q D s:=⟨st,n,qou a hq h hn hp⟩
theorem qza {A:Type} {c:Cfg} {k0:Nat} {C:A->Cut} {Q:A->Prop} {D:SV->List SO->Prop} {s:SS} (st:Option (Nat × Nat)) (n:Nat) {M:Cut} {names js:List Nat} {ds:List Bool} {ps:List Prop} {v:SV} {es:List (Option SO)}
  (h:∀ z,zaq js M names (za9 (c.at st) n s) ds z=(ps,some (.inl (v,es)))) (hp:∀ p∈ps,p) (hD:∀ H:List SO,js.map (fun j=>H[j]?)=es->D v H):qlb c k0 C Q D s:=⟨st,n,qqy h hp hD⟩
theorem qzb {A:Type} {c:Cfg} {k0:Nat} {C:A->Cut} {Q:A->Prop} {D:SV->List SO->Prop} {s:SS} (st:Option (Nat × Nat)) (n:Nat) {M:Cut} {names:List Nat} {ds:List Bool} {ps:List Prop} {N:Nat} {ms:List (Nat × Nat × SV)} {es:List (Nat × HP)} (a:A) (hq:Q a)
  (h:∀ z,zaq [] M names (za9 (c.at st) n s) ds z=(ps,some (.inr (qva ms es (qja names N (C a)))))) (hn:zab (qua k0 names M (C a)) (zaO qpa (C a).heap) false=true)
  (hT:∀ m∈ms,∀ p u,(C a).frames[m.1]? = some p->p.tmps[m.2.1]? = some u->∃ w,u=some w/\m.2.2.Imp (w.ren (q4b names N))) (hE:∀ e∈es,∀ E0,(C a).heap[e.1]? = some E0->zew (q4b names N) (some e.2) E0) (hp:∀ p∈ps,p):qlb c k0 C Q D s:=⟨st,n,qds a hq h hn hT hE hp⟩
def q3k {A:Type} (c:Cfg) (k0:Nat) (C:A->Cut) (Q:A->Prop) (D:SV->List SO->Prop) (f:FuncId) (args:List SV) (H:List SO):Prop:=∃ st n,(qka (c.at st) n f args H).Ob D (q2j k0 C Q)
theorem qfm {A:Type} {c:Cfg} {k0:Nat} {C:A->Cut} {Q:A->Prop} {D:SV->List SO->Prop} {f:FuncId} {args:List SV} {H:List SO} (st:Option (Nat × Nat)) (n:Nat) {M:Cut} {names:List Nat} {ds:List Bool} {ps:List Prop} {N:Nat} (a:A) (hq:Q a)
  (h:∀ z,zaq [] M names (qka (c.at st) n f args H) ds z=(ps,some (.inr (qja names N (C a))))) (hn:zab (qua k0 names M (C a)) (zaO qpa (C a).heap) false=true) (hp:∀ p∈ps,p):q3k c k0 C Q D f args H:=⟨st,n,qou a hq h hn hp⟩
theorem qfd {A:Type} {c:Cfg} {k0:Nat} {C:A->Cut} {Q:A->Prop} {D:SV->List SO->Prop} {f:FuncId} {args:List SV} {H:List SO} (st:Option (Nat × Nat)) (n:Nat) {M:Cut} {names:List Nat} {ds:List Bool} {ps:List Prop} {N:Nat} {ms:List (Nat × Nat × SV)} {es:List (Nat × HP)} (a:A) (hq:Q a)
  (h:∀ z,zaq [] M names (qka (c.at st) n f args H) ds z=(ps,some (.inr (qva ms es (qja names N (C a)))))) (hn:zab (qua k0 names M (C a)) (zaO qpa (C a).heap) false=true)
  (hT:∀ m∈ms,∀ p u,(C a).frames[m.1]? = some p->p.tmps[m.2.1]? = some u->∃ w,u=some w/\m.2.2.Imp (w.ren (q4b names N))) (hE:∀ e∈es,∀ E0,(C a).heap[e.1]? = some E0->zew (q4b names N) (some e.2) E0) (hp:∀ p∈ps,p):q3k c k0 C Q D f args H:=⟨st,n,qds a hq h hn hT hE hp⟩
theorem qg8 {A:Type} {c:Cfg} {k0:Nat} {C:A->Cut} {Q:A->Prop} {D:SV->List SO->Prop} {f:FuncId} {args:List SV} {H:List SO} (st:Option (Nat × Nat)) (n:Nat) {M:Cut} {names js:List Nat} {ds:List Bool} {ps:List Prop} {v:SV} {es:List (Option SO)}
  (h:∀ z,zaq js M names (qka (c.at st) n f args H) ds z=(ps,some (.inl (v,es)))) (hp:∀ p∈ps,p) (hD:∀ H:List SO,js.map (fun j=>H[j]?)=es->D v H):q3k c k0 C Q D f args H:=⟨st,n,qqy h hp hD⟩
theorem q6d {c:Cfg} (hc:zaC c) {A:Type} (C:A->Cut) (OK:A->Prop) (μ:A->Nat) {D:SV->List SO->Prop} {f:FuncId} {args:List SV} {H:List SO} (hgl:∀ g nm,c.glob g=some nm->nm<H.length)
  (h0:q3k c H.length C OK D f args H) (hs:∀ a,OK a->∀ J,qlb c H.length C (fun a'=>OK a'/\μ a'<μ a) D ((C a).fill J)):Runs c f args H D:=qf8 hc C OK μ hgl h0 hs
def qub (t:Tree):List Bool->SS :=
 Tree.rec (motive:=fun _=>List Bool->SS) (fun _ _ _=>⟨[],[]⟩) (fun s _=>s) (fun _ _ ih ds=>ih ds) (fun _ _ _ iht ihf ds=>List.rec (motive:=fun _=>SS) ⟨[],[]⟩ (fun d r _=>zab d (iht r) (ihf r)) ds) (fun _ _=>⟨[],[]⟩) (fun _ ih ds=>ih (fun _=>0) ds) t
def jnd (T:List (Option SV)) (l:List (Nat × SV)):List (Option SV):=List.rec (motive:=fun _=>List (Option SV)->List (Option SV)) (fun T=>T) (fun a _ ih T=>ih (zbv T a.1 (some a.2))) l T
def qdw (s:SF) (l:List (Nat × SV)):SP:=⟨s.fn,jnd (zba none (zay s.tmps)) l,s.todo,s.defers,s.roundOf⟩
def q0b (ss:List SF):List (List (Nat × SV))->List SP:=List.rec (motive:=fun _=>List (List (Nat × SV))->List SP) (fun _=>[]) (fun s _ ih ls=>List.rec (motive:=fun _=>List SP) (qdw s []::ih []) (fun l r _=>qdw s l::ih r) ls) ss
def qes (e:Option SO) (l:List (Nat × SV)):HP:=zah e (.ent .gone) fun e=>SO.rec (motive:=fun _=>HP) (fun c w el=>.ent (.own c w el)) (fun c=>.ent (.row c)) (fun s p f T ps a b d=>.loop s p f (jnd (zba none (zay T)) l) ps a b d) (fun ds=>.ent (.deferred ds)) (.ent .gone) (fun o=>.ent (.obj o)) (fun m=>.ent (.mem m)) e
theorem qry {c:Cfg} {w:World} {β:Val} {H:List SO} {f:FuncId} {args:List SV} {vs:List Value} (hH:zac c.P (fun _=>False) w β H w) (hG:zaD c.glob β) (ha:SV.zal β args=some vs)
  (hr:Runs c f args H fun v _=>v=.bool (.lit true)):Calls c.P f vs.toArray w fun e w'=>e=.returned (.bool true)/\Go.RowKit.Below w.heap.size w w':=by
 refine (hr.2 _ _ _ _ _ hH hG ha).mono fun e w' zbL => ?_
 obtain ⟨v,H',x,β',rfl,rfl,_,hv,hH'⟩:=zbL;cases hv;exact ⟨rfl,hH'.keep.below⟩
end
noncomputable section
variable {α:Type}
def SO.keeps (p:Nat->Bool) (e:SO):Bool:=SO.rec (motive:=fun _=>Bool) (fun c _ _=>Cells.rec (motive:=fun _=>Bool) (fun l=>SV.zbi p l) (fun _ _=>false) (fun _ _=>true) c) (fun c=>Cells.rec (motive:=fun _=>Bool) (fun l=>SV.zbi p l) (fun _ _=>false) (fun _ _=>true) c) (fun _ _ _ _ _ _ _ _=>false) (fun _=>false) false (fun o=>o.uses p) (fun _=>false) e
def maskH (M:List Nat) (H:List SO):Nat->List SO:=List.rec (motive:=fun _=>Nat->List SO) (fun _=>[]) (fun e _ ih i=>zab (zbD i M) e .gone::ih (Nat.succ i)) H
def atE (o:Option SO):SO:=zah o .gone fun e=>e
end
end Go.Sim
