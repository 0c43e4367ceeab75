/-
  zcS behind one another: the symbolic simulator and what it is told of the program.
-/
import Derived.Test.YtbhlngmhgplepaaDoorPh2
import Derived.Laws.Append
import Derived.MapKept
import Derived.WideKeyRuns
import Derived.Laws.NewFold
namespace Go.Sim
noncomputable section
variable {α:Type}
section
variable {P:Program} {O:Nat->Prop} {w0:World} {β:Val} {H:List SO} {w:World} {base:Nat}
variable {ev:Operand->SV} {ρ:Operand->Value} {dst:Option Tmp} {t:TypeId} {pos:String} {af:Array Edge} {g:Option (Nat × Bool)}
def zgc (β:Val) (v:Option SV) (x:Option Value):Prop :=
 match v,x with
 | none,none=>True
 | some v,some x=>v.den β=some x
 | _,_=>False
def qsi (x:Option Value) (y d j:Nat):Prop :=
 match x with
 | some x=>∃ k i,x=.int k i/\0<=i/\i<=(y:Int)/\j=i.toNat
 | none=>j=d
theorem qgc {k:IntKind} {i:Int} {y:Nat} {c:BoundsCode} (h0:0<=i) (h1:i<=(y:Int)):(Instr.sliceBound (.int k i) y c).run P w=.ok i.toNat w:=by
 unfold Instr.sliceBound asIntOf;simp only [Sem.run_bind,Sem.run_pure,Result.andThen_ok];rw [if_pos ⟨h0,h1⟩]; rfl
theorem qdb {v:Option SV} {x:Option Value} (hv:zgc β v x) {y d:SN} {f:SN->R α} {φ:α->Prop}
  (hf:∀ j:SN,qsi x y.den d.den j.den->(f j).Sat φ):(qrb v y d f).Sat φ:=by
 unfold qrb;split
 . cases x with
   | none=>exact hf d rfl
   | some x=>exact hv.elim
 . rename_i k i;cases x with
   | none=>exact hv.elim
   | some x =>
     have hx:x=.int k i.den:=by
      have:(SV.int k i).den β=some x:=hv;simpa [SV.den,eq_comm] using this
     exact qw9 fun j h0 h1 hj=>hf j ⟨k,i.den,hx,h0,h1,hj⟩
 . trivial
theorem qxc {zcH:Bool} {len cap l h m:Nat} {lo hi mx:Option Value} (hm:qsi mx cap cap m) (hhi:mx.isSome=true->hi.isSome=true) (hh:qsi hi m len h)
  (hl:qsi lo h 0 l):(Instr.sliceBounds zcH len cap lo hi mx).run P w=.ok (l,h,m) w:=by
 unfold Instr.sliceBounds;cases mx with
 | none =>
   have hm:m=cap:=hm;subst hm;cases hi with
   | none =>
     have hh:h=len:=hh;subst hh;cases lo with
     | none=>have hl:l=0:=hl; subst hl; rfl
     | some z =>
       obtain ⟨k,i,rfl,h0,h1,rfl⟩:=hl;simp [qgc h0 h1]
   | some y =>
     obtain ⟨k,i,rfl,h0,h1,rfl⟩:=hh;cases lo with
     | none=>have hl:l=0:=hl; subst hl; simp [qgc h0 h1]
     | some z =>
       obtain ⟨k',i',rfl,h0',h1',rfl⟩:=hl;simp [qgc h0 h1,qgc h0' h1']
 | some x =>
   obtain ⟨k'',i'',rfl,h0'',h1'',rfl⟩:=hm;cases hi with
   | none=>cases hhi rfl
   | some y =>
     obtain ⟨k,i,rfl,h0,h1,rfl⟩:=hh;cases lo with
     | none=>have hl:l=0:=hl; subst hl; simp [qgc h0 h1,qgc h0'' h1'']
     | some z =>
       obtain ⟨k',i',rfl,h0',h1',rfl⟩:=hl;simp [qgc h0 h1,qgc h0' h1',qgc h0'' h1'']
theorem q3s {a:SA} {A:Addr} (ha:a.den β=some A) {m l:Nat} (n:SN) (hn:n.den=l * m) (c:Prop) [Decidable c] :
  (if c then a else a.plus n).den β=some (if c then A else A.add (l * m)):=by
 split
 . exact ha
 . rw [SA.za7 ha,hn]
theorem qjn (A:Addr):A.add 0=A:=by simp [Addr.add]
theorem qpx {a:SA} {n h:SN} {c:SC} {m l:Nat} {φ:zai->Prop} (hk:(vR (.slice (if m=l then a else a.plus n) h c)).Sat φ):(zif a n h c (decide (m=l))).Sat φ:=by
 refine ⟨fun he => ?_,fun he => ?_⟩
 . have:=of_decide_eq_true he;rw [if_pos this] at hk; exact hk
 . have:=of_decide_eq_false he;rw [if_neg this] at hk; exact hk
theorem qu1 (n:SN):n.toC.den β=some n.den:=by cases n <;> rfl
theorem qi4 {c:SC} {n:SN} (h:qwv c=some n):c.den β=some n.den:=by
 cases c <;> simp [qwv] at h <;> subst h <;> rfl
theorem qkn {c c':SC} {n:SN} (h:c.less n=some c') {x:Nat} (hc:c.den β=some x):c'.den β=some (x - n.den):=by
 cases c with
 | lit m=>cases n <;> simp [SC.less] at h <;> subst h <;> simp [SC.den] at hc ⊢ <;> subst hc <;> rfl
 | sym m=>simp [SC.less] at h; subst h; simp [SC.den] at hc ⊢; subst hc; rfl
 | rest nm k =>
   cases n with
   | byt o x=>simp [SC.less] at h
   | sym m =>
     simp [SC.less] at h; subst h;simp only [SC.den,Option.map_eq_some_iff] at hc ⊢;obtain ⟨l,hl,rfl⟩:=hc;exact ⟨l,hl,by simp only [SN.den]; omega⟩
   | lit m =>
     simp [SC.less] at h; subst h;simp only [SC.den,Option.map_eq_some_iff] at hc ⊢;obtain ⟨l,hl,rfl⟩:=hc;exact ⟨l,hl,by simp only [SN.den]; omega⟩
theorem zgc.isSome {v:Option SV} {x:Option Value} (h:zgc β v x):v.isSome=x.isSome:=by
 cases v <;> cases x <;> first | rfl | exact h.elim
theorem qj4 {ty:TypeId} {x:Operand} {lo hi mx:Option Operand} (hx:(ev x).den β=some (ρ x)) (hlo:zgc β (lo.map ev) (lo.map ρ)) (hhi:zgc β (hi.map ev) (hi.map ρ)) (hmx:zgc β (mx.map ev) (mx.map ρ)) :
  (qsw ty x lo hi mx P ev H base).Sat (qea P H β w base ((execOp ρ ⟨dst,.slice ty x lo hi mx,t,pos,af,g⟩).run P w)):=by
 unfold qsw;generalize hlo':lo.map ev=slo at hlo;generalize zel:hi.map ev=shi at hhi;generalize zeO:mx.map ev=smx at hmx;have hrun:(execOp ρ ⟨dst,.slice ty x lo hi mx,t,pos,af,g⟩).run P w=((Instr.sliceAt ty (ρ x) (lo.map ρ) (hi.map ρ) (mx.map ρ)).run P w).andThen fun v w'=>.ok (.value v) w':=by
  simp [execOp]
 rw [hrun];generalize lo.map ρ=vlo at hlo;generalize hi.map ρ=vhi at hhi;generalize mx.map ρ=vmx at hmx;clear hrun hlo' zel zeO;refine R.Sat.opt fun d hd=>R.Sat.zab (fun hok => ?_) fun _=>trivial;have hu:=qba (w:=w) hd;have zel:vmx.isSome=true->vhi.isSome=true:=by
  intro h;rw [← hmx.isSome] at h;rw [← hhi.isSome];cases smx with
  | none=>cases h
  | some m=>cases shi with
    | none=>cases hok
    | some h=>rfl
 have hraw:∀ (elem:TypeId) (A:Addr) (L C:Nat) (e:TypeInfo),(underlying ty).run P w=.ok (.slice elem) w->ρ x=.slice (some A) L C->L<=C->P.info? elem=some e ->
   (jwc A L C e slo shi smx).Sat (qea P H β w base (((Instr.sliceAt ty (ρ x) vlo vhi vmx).run P w).andThen fun v w'=>.ok (.value v) w')):=by
  intro elem A L C e hu hρ hLC he;have hfin:∀ (m h l:Nat),(Instr.sliceBounds true L C vlo vhi vmx).run P w=.ok (l,h,m) w ->
    (q2m A e m h l).Sat (qea P H β w base (((Instr.sliceAt ty (ρ x) vlo vhi vmx).run P w).andThen fun v w'=>.ok (.value v) w')):=by
   intro m h l hb;refine qga (x:=.slice (some (if m=l then A else A.add (l * e.size))) (h - l) (m - l)) ?_ rfl
   simp only [Instr.sliceAt,Instr.slice,Sem.run_bind,hu,Result.andThen_ok,hρ,hb,qya he,Sem.run_pure];congr 2;split <;> rfl
  cases smx with
  | some sm =>
    show (qrb (some sm) (.sym C) (.sym C) fun m=>qrb shi m m fun h=>qrb slo h (.lit 0) fun l=>q2m A e m.den h.den l.den).Sat _;refine qdb hmx fun m hm=>qdb hhi fun h hh=>qdb hlo fun l hl => ?_
    have zeO:=hmx.isSome;cases vmx with
    | none=>cases zeO
    | some xm =>
      obtain ⟨k,i,h1,h2,h3,h4⟩:=hm;have h3:i<=(C:Int):=h3;exact hfin _ _ _ (qxc (P:=P) (w:=w) (zcH:=true) (len:=L) (cap:=C) (mx:=some xm) ⟨k,i,h1,h2,by omega,h4⟩ zel (h:=h.den) (by
       cases vhi with
       | none=>cases zel rfl
       | some y=>exact hh) hl)
  | none =>
    have zeO:=hmx.isSome;cases vmx with
    | some xm=>cases zeO
    | none =>
      show (qrb shi (.sym L) (.sym L) fun h=>qrb slo h (.lit 0) fun l=>q2m A e C h.den l.den).Sat _;refine qdb hhi fun h hh=>qdb hlo fun l hl => ?_
      exact hfin _ _ _ (qxc (P:=P) (w:=w) (zcH:=true) (len:=L) (cap:=C) (m:=C) (mx:=none) rfl zel (h:=h.den) (by
       cases vhi with
       | none=>exact hh
       | some y =>
         obtain ⟨k,i,h0,h1,h2,h3⟩:=hh;have h2:i<=(L:Int):=h2;exact ⟨k,i,h0,h1,by omega,h3⟩) hl)
 have hsl:∀ (elem:TypeId) (a:SA) (len:SN) (cap:SC) (A:Addr) (C:Nat) (e:TypeInfo),(underlying ty).run P w=.ok (.slice elem) w->a.den β=some A->cap.den β=some C->len.den<=C->.slice (some A) len.den C=ρ x->P.info? elem=some e ->
   (zah smx (sl2 a len cap e slo shi) fun _=>sl3 a len cap e slo shi smx).Sat (qea P H β w base (((Instr.sliceAt ty (ρ x) vlo vhi vmx).run P w).andThen fun v w'=>.ok (.value v) w')):=by
  intro elem a len cap A C e hu hA hC hLC hρ he;have hfin:∀ (m h l:Nat),(Instr.sliceBounds true len.den C vlo vhi vmx).run P w=.ok (l,h,m) w ->
    ∀ v:SV,v.den β=some (.slice (some (if m=l then A else A.add (l * e.size))) (h - l) (m - l))->(vR v).Sat (qea P H β w base (((Instr.sliceAt ty (ρ x) vlo vhi vmx).run P w).andThen fun v w'=>.ok (.value v) w')):=by
   intro m h l hb v hv;refine qga ?_ hv;simp only [Instr.sliceAt,Instr.slice,Sem.run_bind,hu,Result.andThen_ok,← hρ,hb,qya he,Sem.run_pure];congr 2;split <;> rfl
  cases smx with
  | some sm =>
    have key3:∀ c:SN,c.den<=C->(zih a c e slo shi (some sm)).Sat (qea P H β w base (((Instr.sliceAt ty (ρ x) vlo vhi vmx).run P w).andThen fun v w'=>.ok (.value v) w')):=by
     intro c hcC;refine qdb hmx fun m hm=>qdb hhi fun h hh=>qdb hlo fun l hl => ?_
     have zeO:=hmx.isSome;cases vmx with
     | none=>cases zeO
     | some xm =>
       obtain ⟨k,i,h1,h2,h3,h4⟩:=hm;have hb:=qxc (P:=P) (w:=w) (zcH:=true) (len:=len.den) (cap:=C) (mx:=some xm) ⟨k,i,h1,h2,by omega,h4⟩ zel (h:=h.den) (by
        cases vhi with
        | none=>cases zel rfl
        | some y=>exact hh) hl
       have hhm:h.den<=m.den:=by
        cases vhi with
        | none=>cases zel rfl
        | some x=>obtain ⟨k,i,_,_,h1,h2⟩:=hh; omega
       have key:∀ (n':SN) (c:SC),n'.den=l.den * e.size->c.den β=some (m.den - l.den)->(vR (.slice (if m.den=l.den then a else a.plus n') (h.sub l) c)).Sat (qea P H β w base
         (((Instr.sliceAt ty (ρ x) vlo vhi (some xm)).run P w).andThen fun v w'=>.ok (.value v) w')):=by
        intro n' c hn' hc;refine hfin _ _ _ hb _ ?_
        rw [zaf];exact ⟨_,_,q3s hA n' hn' _,hc,by rw [SN.zbj]; omega,by rw [SN.zbj]⟩
       have zjA:∀ (c:SC),c.den β=some m.den->l.den=0->(vR (.slice a h c)).Sat (qea P H β w base
         (((Instr.sliceAt ty (ρ x) vlo vhi (some xm)).run P w).andThen fun v w'=>.ok (.value v) w')):=by
        intro c hc h0;refine hfin _ _ _ hb _ ?_
        rw [zaf];refine ⟨A,_,hA,hc,hhm,?_⟩;simp only [h0,Nat.zero_mul,qjn,Nat.sub_zero];congr 2;split <;> rfl
       split
       . exact key _ _ rfl rfl
       . exact zjA _ (qu1 _) rfl
       . exact qpx (key _ _ (SN.zbK _ _) rfl)
    show (sl3 a len cap e slo shi (some sm)).Sat _;unfold sl3;cases hc:qwv cap with
    | none=>exact key3 len hLC
    | some c=>exact key3 c (by have:=qi4 (β:=β) hc; rw [hC] at this; exact Nat.le_of_eq (Option.some.inj this).symm)
  | none =>
    have zeO:=hmx.isSome;cases vmx with
    | some xm=>cases zeO
    | none =>
      show (sl2 a len cap e slo shi).Sat _;refine qdb hhi fun h hh=>qdb hlo fun l hl => ?_
      have hhl:h.den<=len.den:=by
       cases vhi with
       | none=>rw [show h.den=len.den from hh]; exact Nat.le_refl _
       | some x=>obtain ⟨k,i,_,_,h1,h2⟩:=hh; omega
      have hb:=qxc (P:=P) (w:=w) (zcH:=true) (len:=len.den) (cap:=C) (m:=C) (mx:=none) rfl zel (h:=h.den) (by
       cases vhi with
       | none=>exact hh
       | some y=>obtain ⟨k,i,h0,h1,h2,h3⟩:=hh; exact ⟨k,i,h0,h1,by omega,h3⟩) hl
      have hlh:l.den<=h.den:=by
       cases vlo with
       | none=>rw [show l.den=0 from hl]; exact Nat.zero_le _
       | some x=>obtain ⟨k,i,_,_,h1,h2⟩:=hl; omega
      split
      . refine hfin _ _ _ hb _ ?_
        rw [zaf];refine ⟨A,C,hA,hC,by omega,?_⟩
        simp only [SN.den,Nat.zero_mul,qjn,Nat.sub_zero];congr 2;split <;> rfl
      . split
        . rename_i c l' _;simp only [SC.den,Option.some.injEq] at hC;subst hC;refine hfin _ _ _ hb _ ?_
          rw [zaf];exact ⟨_,_,q3s hA (.lit (l' * e.size)) rfl _,rfl,by rw [SN.zbj]; simp only [SN.den] at *; omega,by rw [SN.zbj]; rfl⟩
        . refine R.Sat.opt fun c' hc' => ?_
          have zg3:l.den<len.den->(vR (.slice (a.plus (l.mul e.size)) (h.sub l) c')).Sat (qea P H β w base (((Instr.sliceAt ty (ρ x) vlo vhi none).run P w).andThen fun v w'=>.ok (.value v) w')):=by
           intro hlt;refine hfin _ _ _ hb _ ?_
           rw [zaf];refine ⟨_,_,SA.za7 hA _,qkn hc' hC,by rw [SN.zbj]; omega,?_⟩
           rw [SN.zbj,SN.zbK,if_neg (by omega)]
          have htail:(vR (.tail a (l.mul e.size) (h.sub l) c')).Sat (qea P H β w base (((Instr.sliceAt ty (ρ x) vlo vhi none).run P w).andThen fun v w'=>.ok (.value v) w')):=by
           refine hfin _ _ _ hb _ ?_
           rw [q1c];refine ⟨A,_,hA,qkn hc' hC,by rw [SN.zbj]; omega,?_⟩
           rw [SN.zbj,SN.zbK];congr 2;by_cases hCl:C=l.den
           . rw [if_pos (by omega),if_pos hCl]
           . rw [if_neg (by omega),if_neg hCl]
          have h0:(qnw a len e.size h l c').Sat (qea P H β w base (((Instr.sliceAt ty (ρ x) vlo vhi none).run P w).andThen fun v w'=>.ok (.value v) w')) :=
           SN.zaT (fun x hx=>SN.zaT (fun y hy=>R.Sat.zab (fun hlt=>zg3 (by rw [hx,hy]; exact Nat.le_of_ble_eq_true hlt)) fun _=>htail) fun _=>htail) fun _=>htail
          refine SN.zaT (fun d hd=>R.Sat.zab (fun hpos => ?_) fun _=>h0) fun _=>h0;have hd':h.den - l.den=d:=by rw [← SN.zbj,hd]; rfl
          have hp:0<d:=Nat.le_of_ble_eq_true hpos;refine hfin _ _ _ hb _ ?_
          rw [zaf];refine ⟨_,_,SA.za7 hA _,qkn hc' hC,by rw [SN.zbj]; omega,?_⟩
          rw [SN.zbj,SN.zbK,if_neg (by omega)]
 split
 ·
  rename_i n elem a h;rw [h] at hx;simp only [SV.den,Option.map_eq_some_iff] at hx;obtain ⟨A,hA,hρ⟩:=hx;refine R.Sat.opt fun e he=>qdb hmx fun m hm=>qdb hhi fun h hh=>qdb hlo fun l hl => ?_
  have hb:=qxc (P:=P) (w:=w) (zcH:=false) (len:=n) (cap:=n) hm zel hh hl;have hmn:m.den<=n:=by
   cases vmx with
   | none=>rw [show m.den=n from hm]; exact Nat.le_refl _
   | some x=>obtain ⟨k,i,_,_,h1,h2⟩:=hm; simp only [SN.den] at h1; omega
  have hhm:h.den<=m.den:=by
   cases vhi with
   | none =>
     cases vmx with
     | none=>rw [show h.den=n from hh,show m.den=n from hm]; exact Nat.le_refl _
     | some x=>cases zel rfl
   | some x=>obtain ⟨k,i,_,_,h1,h2⟩:=hh; omega
  have key:∀ (n':SN) (c:SC),n'.den=l.den * e.size->c.den β=some (m.den - l.den)->(vR (.slice (if m.den=l.den then a else a.plus n') (h.sub l) c)).Sat (qea P H β w base
    (((Instr.sliceAt ty (ρ x) vlo vhi vmx).run P w).andThen fun v w'=>.ok (.value v) w')):=by
   intro n' c hn' hc;refine qga (x:=.slice (some (if m.den=l.den then A else A.add (l.den * e.size))) (h.den - l.den) (m.den - l.den)) ?_ ?_
   . simp only [Instr.sliceAt,Sem.run_bind,hu,Result.andThen_ok,← hρ,Instr.sureAddr,Sem.run_pure,hb,qya he]
   . rw [zaf];exact ⟨_,_,q3s hA n' hn' _,hc,by rw [SN.zbj]; omega,by rw [SN.zbj]⟩
  have zjA:∀ (c:SC),c.den β=some m.den->l.den=0->(vR (.slice a h c)).Sat (qea P H β w base
    (((Instr.sliceAt ty (ρ x) vlo vhi vmx).run P w).andThen fun v w'=>.ok (.value v) w')):=by
   intro c hc h0;refine qga (x:=.slice (some (if m.den=l.den then A else A.add (l.den * e.size))) (h.den - l.den) (m.den - l.den)) ?_ ?_
   . simp only [Instr.sliceAt,Sem.run_bind,hu,Result.andThen_ok,← hρ,Instr.sureAddr,Sem.run_pure,hb,qya he]
   . rw [zaf];refine ⟨A,_,hA,hc,hhm,?_⟩;simp only [h0,Nat.zero_mul,qjn,Nat.sub_zero];congr 2;split <;> rfl
  unfold jvc at *;split
  . exact key _ _ rfl rfl
  . exact zjA _ (qu1 _) rfl
  . exact qpx (key _ _ (SN.zbK _ _) rfl)
 . rename_i elem a len cap h;rw [h,zaf] at hx;obtain ⟨A,C,hA,hC,hLC,hρ⟩:=hx;exact R.Sat.opt fun e he=>hsl elem a len cap A C e hu hA hC hLC hρ he
 . rename_i elem a n len cap h;rw [h,q1c] at hx;obtain ⟨A,C,hA,hC,hLC,hρ⟩:=hx;intro hpos;rw [if_neg (by omega)] at hρ
   exact R.Sat.opt fun e he=>hsl elem (a.plus n) len cap _ C e hu (SA.za7 hA n) hC hLC hρ he
 . rename_i elem y h;rw [h] at hx;have hx:y=ρ x:=Option.some.inj hx;refine R.Sat.opt fun e he=>fun hs=>hraw elem (zaV y) (zaL y) (zbY y) e hu ?_ hs.2 he;rw [← hx];exact hs.1
 . rename_i elem h;rw [h] at hx;simp only [SV.den,Option.some.injEq] at hx;refine R.Sat.opt fun e he=>qdb hmx fun m hm=>qdb hhi fun h hh=>qdb hlo fun l hl => ?_
   have hb:=qxc (P:=P) (w:=w) (zcH:=true) (len:=0) (cap:=0) hm zel hh hl;have hm0:m.den=0:=by
    cases vmx with
    | none=>exact hm
    | some x=>obtain ⟨k,i,_,_,h1,h2⟩:=hm; simp only [SN.den] at h1; omega
   have hh0:h.den=0:=by
    cases vhi with
    | none=>exact hh
    | some x=>obtain ⟨k,i,_,_,h1,h2⟩:=hh; omega
   have hl0:l.den=0:=by
    cases vlo with
    | none=>exact hl
    | some x=>obtain ⟨k,i,_,_,h1,h2⟩:=hl; omega
   refine qga (x:=.slice none 0 0) ?_ rfl;simp only [Instr.sliceAt,Instr.slice,Sem.run_bind,hu,Result.andThen_ok,← hx,hb,qya he,Sem.run_pure];rw [hm0,hl0,hh0]; rfl
 . rename_i s h;rw [h] at hx;simp only [SV.den,Option.some.injEq] at hx;cases smx with
   | some sm=>trivial
   | none =>
     have zeO:=hmx.isSome;cases vmx with
     | some xm=>cases zeO
     | none =>
       show (qf3 s slo shi).Sat _;have key:∀ (y:SN),y.den=s.den.size->∀ h l:SN,qsi vhi y.den y.den h.den->qsi vlo h.den 0 l.den->h.den<=s.den.size/\l.den<=h.den/\∀ v:za8,v.den=s.den.extract l.den h.den->(vR (.str v)).Sat (qea P H β w base (((Instr.sliceAt ty (ρ x) vlo vhi none).run P w).andThen fun v w'=>.ok (.value v) w')):=by
        intro y hy h l hh hl;have hb:=qxc (P:=P) (w:=w) (zcH:=false) (len:=s.den.size) (cap:=s.den.size) (m:=s.den.size) (mx:=none) rfl zel (h:=h.den) (by rw [hy] at hh; exact hh) hl
        refine ⟨?_,?_,fun v hv => ?_⟩
        . cases vhi with
          | none=>rw [show h.den=y.den from hh,hy]; exact Nat.le_refl _
          | some x=>obtain ⟨k,i,_,_,h1,h2⟩:=hh; omega
        . cases vlo with
          | none=>rw [show l.den=0 from hl]; exact Nat.zero_le _
          | some x=>obtain ⟨k,i,_,_,h1,h2⟩:=hl; omega
        . refine qga (x:=.string (s.den.extract l.den h.den)) ?_ (by simp [SV.den,hv])
          simp only [Instr.sliceAt,Instr.slice,Sem.run_bind,hu,Result.andThen_ok,← hx,Option.isSome_none,Bool.false_eq_true,if_false,hb,Sem.run_pure]
       unfold qf3;split
       . rename_i s';refine qdb hhi fun h hh=>qdb hlo fun l hl => ?_
         obtain ⟨_,_,k⟩:=key _ rfl h l hh hl;split
         . exact k _ rfl
         . exact k _ rfl
       . rename_i b;have hsz:(SN.lit (zay b)).den=(za8.bytes b).den.size:=by
          show zay b=(b.map fun i=>UInt8.ofNat i.den.toNat).toArray.size;rw [qha]; simp
         refine qdb hhi fun h hh=>qdb hlo fun l hl => ?_
         obtain ⟨h1,h2,k⟩:=key _ hsz h l hh hl;split
         . refine k _ ?_
           rename_i l' h';simp only [za8.den,qfc,SN.den] at *;rw [qsc,qad];apply ByteArray.ext;apply Array.ext';rw [ByteArray.data_extract,Array.toList_extract,List.extract_eq_take_drop];simp
         . trivial
       . rename_i s';refine qdb hhi fun h hh=>qdb hlo fun l hl => ?_
         obtain ⟨_,_,k⟩:=key _ rfl h l hh hl;exact k _ rfl
 . trivial
end
end
noncomputable section
variable {α:Type}
section
variable {P:Program} {O:Nat->Prop} {w0:World} {β:Val} {H:List SO} {w:World} {base:Nat}
variable {ev:Operand->SV} {ρ:Operand->Value} {dst:Option Tmp} {t:TypeId} {pos:String} {af:Array Edge} {g:Option (Nat × Bool)}
theorem qe7 (ns:List Int):∀ r:ByteArray,ns.foldl (fun (r:ByteArray) n=>r.push (UInt8.ofNat n.toNat)) r=⟨r.data++(ns.map fun n=>UInt8.ofNat n.toNat).toArray⟩:=by
 induction ns with
 | nil=>intro r; simp
 | cons n ns ih=>intro r; rw [List.foldl_cons,ih]; simp [ByteArray.push]
theorem qln {A:Addr} {len cap:Nat} {ns:List Int} (hn:ns.length=len) (h:∀ (j:Nat) (x:Value),(ns.map (Value.int .u8))[j]? = some x->w.cell? (A.add j)=some x) :
  (Conv.bytesToString (.slice (some A) len cap)).run P w=.ok (.string ⟨(ns.map fun n=>UInt8.ofNat n.toNat).toArray⟩) w:=by
 have:=run_bytesToString (P:=P) w A len cap ns (qhe (by simpa using hn) h)
 rw [this,qe7];show Result.ok (Value.string ⟨#[]++_⟩) w=_;simp
theorem qav {l:List SV} {b:List SI} (h:qgl l=some b):l=b.map fun i=>.int .u8 i:=by
 induction l generalizing b with
 | nil=>simp [qgl] at h; subst h; rfl
 | cons v l ih =>
   have h':(match zhn v with | some n=>(qgl l).map (n :: ·) | none=>none)=some b:=h
   cases hv:zhn v with
   | none=>rw [hv] at h'; cases h'
   | some n =>
     rw [hv] at h';simp only [Option.map_eq_some_iff] at h';obtain ⟨b',hb',rfl⟩:=h';rw [ih hb',List.map_cons];congr 1;unfold zhn at hv;split at hv
     . cases hv; rfl
     . cases hv
theorem qmn (β:Val) (b:List SI):SV.zal β (b.map fun i=>.int .u8 i)=some (b.map fun i=>.int .u8 i.den):=by
 induction b with
 | nil=>rfl
 | cons i b ih=>exact zae.2 ⟨_,_,rfl,ih,rfl⟩
theorem q79 {α β:Type} {o:Option β} {f:β->R α} {n:Nat} {φ:α->Prop} (h:∀ a,o=some a->(f a).Sat φ):(zah o (.stuck n) f).Sat φ:=by
 cases o with
 | none=>trivial
 | some a=>exact h a rfl
theorem qqr (hr:HeapRel0 P O w0 β H w) {a:SA} {A:Addr} {len:SN} (hA:a.den β=some A) {res:Result Next}
  (hfin:∀ (ns:List Int) (s:za8),ns.length=len.den->(∀ (j:Nat) (x:Value),(ns.map (Value.int .u8))[j]? = some x->w.cell? (A.add j)=some x)->s.den=⟨(ns.map fun n=>UInt8.ofNat n.toNat).toArray⟩->(vR (.str s)).Sat (qea P H β w base res))
  {e:SO} (he:H[a.nm]? = some e):(qow e a.off len).Sat (qea P H β w base res):=by
 have key:∀ c,e.cells? = some c->(qwq c a.off len).Sat (qea P H β w base res):=by
  intro c hc;obtain ⟨l,vs,hl,hcr,hcell⟩:=q1b hr he hc;obtain ⟨l',hl',rfl⟩:=SA.zaB hA;rw [hl] at hl'; cases hl';cases c with
  | lst ls =>
    unfold qwq;simp only;split
    . rename_i o n ho;split
      . rename_i hn;refine R.Sat.opt fun b hb => ?_
        have hb':=qav hb;rw [qsc,qad] at hb' hn;rw [qha] at hn;have hd:=q3f (quh hcr o) n;rw [hb',qmn] at hd;have hd':b.map (fun i=>Value.int .u8 i.den)=(vs.drop o).take n:=Option.some.inj hd;refine hfin (b.map SI.den) _ ?_ ?_ ?_
        . have:=congrArg List.length hb';simp only [List.length_map] at this ⊢;simp only [SN.den]; omega
        . intro j x hx;rw [List.map_map] at hx;have hx':(b.map (fun i=>Value.int .u8 i.den))[j]? = some x:=hx;rw [hd',List.getElem?_take] at hx';split at hx'
          . rw [List.getElem?_drop] at hx';rw [q9a,Nat.add_assoc,ho];exact hcell _ _ hx'
          . cases hx'
        . rw [qvq]; simp [qfc]
      . trivial
    . rename_i zff _ _ _;refine q79 fun xs hx => ?_
      obtain ⟨hl1,hl2⟩:=q5f hx hcr;rw [qha];intro hle;refine hfin ((List.range zff.den).map fun i=>((qgd xs (a.off.den+i)).toNat:Int)) _ (by simp) ?_ ?_
      . intro j x hx';simp only [List.map_map,List.getElem?_map,Option.map_eq_some_iff] at hx';obtain ⟨j',hj',rfl⟩:=hx';have hj:j<zff.den:=by
         have:=(List.getElem?_eq_some_iff.1 hj').1; simpa using this
        rw [List.getElem?_range hj] at hj';cases hj';rw [q9a,Nat.add_assoc];exact hcell _ _ (hl2 (a.off.den+j) (by omega))
      . simp [za8.den,qpo,qdh,SV.num,SI.den]
  | raw V n=>trivial
  | fn f n =>
    rintro ⟨hle,hb⟩;obtain ⟨hlen,hf⟩:=hcr;have hint:∀ i,i<n->f i=.int .u8 (.sym (f i).num)\/(f i).den β=some (.int .u8 (f i).num):=by
     intro i hi;right;have:=hb i hi;cases hfi:f i <;> rw [hfi] at this <;> first | exact this.elim | skip
     rename_i k m;cases k <;> first | exact this.elim | rfl
    refine hfin ((List.range len.den).map fun i=>(f (a.off.den+i)).num) _ (by simp) ?_ ?_
    . intro j x hx;simp only [List.map_map,List.getElem?_map,Option.map_eq_some_iff] at hx;obtain ⟨j',hj',rfl⟩:=hx;have hj:j<len.den:=by
       have:=(List.getElem?_eq_some_iff.1 hj').1; simpa using this
      rw [List.getElem?_range hj] at hj';cases hj';have hlt:a.off.den+j<vs.length:=by omega
      have h1:=hf _ _ (List.getElem?_eq_getElem hlt);have h2:(f (a.off.den+j)).den β=some (.int .u8 (f (a.off.den+j)).num):=by
       rcases hint (a.off.den+j) (by omega) with h | h
       . rw [h]; rfl
       . exact h
      rw [h2] at h1;rw [q9a,Nat.add_assoc];show _=some (Value.int .u8 (f (a.off.den+j)).num);rw [h1];exact hcell _ _ (List.getElem?_eq_getElem hlt)
    . simp [za8.den,qpo]
 cases e with
 | own c wh el=>exact key c rfl
 | row c=>exact key c rfl
 | loop=>trivial
 | deferred=>trivial
 | gone=>trivial
 | mem=>trivial
 | obj=>trivial
theorem qk4 (hr:HeapRel0 P O w0 β H w) {v:SV} {x:Value} (hv:v.den β=some x) {res:Result Next} (hres:∀ s,(Conv.bytesToString x).run P w=.ok (.string s) w->res=.ok (.value (.string s)) w) :
  (qpw H v).Sat (qea P H β w base res):=by
 unfold qpw;split
 . simp only [SV.den,Option.some.injEq] at hv;subst hv;exact qga (hres _ rfl) rfl
 . rename_i a len cap;rw [zaf] at hv;obtain ⟨A,C,hA,hC,hLC,rfl⟩:=hv;refine qkb fun e he=>qqr hr hA ?_ he;intro ns s h1 h2 h3;exact qga (hres _ (qln h1 h2)) (by simp [SV.den,h3])
 . rename_i a n len cap;rw [q1c] at hv;obtain ⟨A,C,hA,hC,hLC,rfl⟩:=hv;refine qkb fun e he=>qqr hr (SA.za7 hA n) ?_ he;intro ns s h1 h2 h3;by_cases hC0:C=0
   . have hn0:ns=[]:=List.eq_nil_of_length_eq_zero (by omega)
     exact qga (hres _ (qln h1 (by rw [hn0]; intro j x hx; simp at hx))) (by simp [SV.den,h3])
   . rw [if_neg hC0] at hres;exact qga (hres _ (qln h1 h2)) (by simp [SV.den,h3])
 . trivial
theorem qlp (w:World) (need old:Nat) (e:TypeId):need<=grownCap w need old e:=by
 unfold grownCap Question.cut;exact Nat.le_add_right _ _
theorem q3t (β:Val) (l:List UInt8):SV.zal β (zas (fun (b:UInt8)=>SV.int .u8 (.lit (b.toNat:Int))) l)=some (l.map fun b=>Value.int .u8 (b.toNat:Int)):=by
 rw [qxa];induction l with
 | nil=>rfl
 | cons b l ih=>exact zae.2 ⟨_,_,rfl,ih,rfl⟩
theorem qmp (β:Val) (s:ByteArray) (i:Nat) (x:Value) (h:(s.data.toList.map fun b=>Value.int .u8 (b.toNat:Int))[i]? = some x):(qro s i).den β=some x:=by
 simp only [List.getElem?_map,Option.map_eq_some_iff] at h;obtain ⟨b,hb,rfl⟩:=h;have hb':s.data[i]? = some b:=by rw [← hb]; simp
 have:s.data.getD i 0=b:=by rw [Array.getD_eq_getD_getElem?,hb']; rfl
 simp only [qro,SV.den,SI.den,this]; rfl
theorem qqx {elem:TypeId} {s:za8} {res:Result Next}
  (hres:res=.ok (.value (.slice (some ⟨w.heap.size,0,none⟩) s.den.size (grownCap w s.den.size 0 elem)))
   (w.drew.alloc (.cells (bytesRow s.den (grownCap w s.den.size 0 elem)) elem ((bytesRow s.den (grownCap w s.den.size 0 elem)).size,(bytesRow s.den (grownCap w s.den.size 0 elem)).size+1)))) :
  (qqw P base elem s).Sat (qea P H β w base res):=by
 refine R.Sat.opt fun i hi=>R.Sat.zab (fun h1 => ?_) fun _=>trivial;have hsz:i.size=1:=Nat.eq_of_beq_eq_true h1;have hcap:=qlp w s.den.size 0 elem;have hfin:∀ (c:Cells) (n:SN),n.den=s.den.size->zaj β c (s.den.data.toList.map fun b=>Value.int .u8 (b.toNat:Int)) ->
   (R.ok (zai.val (.slice ⟨base,.lit 0⟩ n (.rest base 0)) [] [.own c false elem])).Sat (qea P H β w base res):=by
  intro c n hn hc;refine fun hb=>⟨_,_,_,β.upd base ⟨w.heap.size,0,grownCap w s.den.size 0 elem⟩,hres,rfl,?_,?_,by simp⟩
  . rw [zaf];exact ⟨⟨w.heap.size,0,none⟩,grownCap w s.den.size 0 elem,by simp [SA.den,Val.upd_same,SN.den],by simp [SC.den,Val.upd_same],by rw [hn]; exact hcap,by rw [hn]⟩
  . have hl:(s.den.data.toList.map fun (b:UInt8)=>Value.int .u8 (b.toNat:Int)).length=s.den.size:=by simp
    refine Eff.alloc (vs:=s.den.data.toList.map fun (b:UInt8)=>Value.int .u8 (b.toNat:Int)) (rest:=List.replicate (grownCap w s.den.size 0 elem - s.den.size) (Value.int .u8 0))
     (lo:=(bytesRow s.den (grownCap w s.den.size 0 elem)).size) (hi:=(bytesRow s.den (grownCap w s.den.size 0 elem)).size+1) hb.hd ?_ rfl rfl rfl hc ?_ (by simp) ?_
    . show w.heap.push _=_;congr 2;apply Array.ext';simp [bytesRow]
    . have:(bytesRow s.den (grownCap w s.den.size 0 elem)).size=(s.den.data.toList.map (fun (b:UInt8)=>Value.int .u8 (b.toNat:Int))++List.replicate (grownCap w s.den.size 0 elem - s.den.size) (Value.int .u8 0)).length:=by
       simp [bytesRow]
      exact .inr (Nat.le_of_eq this.symm)
    . intro i' hi';rw [hi] at hi'; cases hi';rw [hsz,List.length_append,hl,List.length_replicate]; omega
 cases s with
 | lit s=>exact hfin _ _ rfl (q3t β _)
 | sym s =>
   refine hfin _ _ rfl ⟨?_,fun i x hx=>qmp β s i x hx⟩;simp [za8.den]
 | bytes l =>
   intro zhI;have hsz:(za8.bytes l).den.size=l.length:=by
    show (l.map fun i=>UInt8.ofNat i.den.toNat).toArray.size=_;simp
   refine hfin _ _ (by rw [hsz]; exact qha l) ?_
   show SV.zal β (zas (fun i=>SV.int .u8 i) l)=_;rw [qxa,qmn];simp only [za8.den,qfc,List.map_map,Option.some.injEq];refine List.map_congr_left fun i hi => ?_
   have:=zhI i hi;simp only [Function.comp,UInt8.toNat_ofNat'];rw [Nat.mod_eq_of_lt (by omega)]
   congr 1; omega
theorem qf7 (hr:HeapRel0 P O w0 β H w) {src dt e e':TypeId} {a:SA} {l:SN} {c:SC} (hs:P.underlying src=some (.slice e')) (hd:P.underlying dt=some (.slice e)) {v:Value} (hv:(SV.slice a l c).den β=some v) {res:Result Next}
  (hres:∀ v' w',(convert src dt v).run P w=.ok v' w'->res=.ok (.value v') w'):(jxc P H src dt e a l c).Sat (qea P H β w base res):=by
 refine R.Sat.zab (fun hsd=>R.Sat.opt fun d he => ?_) fun _=>trivial;split
 . refine qkb fun e0 h0 => ?_
   cases e0 with
   | row=>trivial
   | loop=>trivial
   | deferred=>trivial
   | gone=>trivial
   | mem=>trivial
   | obj=>trivial
   | own cl wh el =>
     obtain ⟨ll,vs,rest,lo,hi,hbl,h0',hc,hh,hfz,hw,hcap⟩:=hr.entries _ _ h0;have hv':=hv;rw [zaf] at hv;obtain ⟨A,C,hA,hC,hLC,rfl⟩:=hv;obtain ⟨l',hl',hAe⟩:=SA.zaB hA;rw [hbl] at hl'; cases hl';have hAb:A.block=ll.blk:=by rw [hAe]
     have hlt:ll.blk<w.heap.size:=(Array.getElem?_eq_some_iff.1 hh).1;have hus:=fun w=>qba (P:=P) (w:=w) hs;have hud:=fun w=>qba (P:=P) (w:=w) hd;have hue:=fun w=>qba (P:=P) (w:=w) he;obtain ⟨lo',hi',hm,hfz'⟩:∃ lo' hi',w.freeze ⟨ll.blk,(vs++rest).toArray.size,none⟩ 1={ w with heap:=w.heap.setIfInBounds ll.blk (.cells (vs++rest).toArray el (lo',hi')) }/\zfG lo' hi' (vs++rest).length:=by
      refine ⟨if lo == hi then (vs++rest).toArray.size else min lo (vs++rest).toArray.size,if lo == hi then (vs++rest).toArray.size+1 else max hi ((vs++rest).toArray.size+1),?_,?_⟩
      . unfold World.freeze;rw [if_neg (by decide)]
        congr 1;apply Array.ext_getElem?;intro j;rw [Array.getElem?_modify,Array.getElem?_setIfInBounds];split
        . rename_i h; subst h;rw [hh];show some (Obj.cells (vs++rest).toArray el (if lo == hi then _ else _))=_
          cases (lo == hi) <;> rfl
        . rfl
      . by_cases hlh:lo=hi
        . subst hlh; simp only [beq_self_eq_true,if_true]; exact .inr (by simp)
        . have:(lo == hi)=false:=by simpa using hlh
          rw [this];rcases hfz with h | h
          . exact absurd h hlh
          . exact .inr (by simp only [Bool.false_eq_true,if_false,List.size_toArray]; omega)
     have hsh:w.shape? ll.blk=some (el,(vs++rest).toArray.size):=by unfold World.shape?; rw [hh]
     have hrun:(convert src dt (.slice (some A) l.den C)).run P w=.ok (.slice (some A) l.den C) { w with heap:=w.heap.setIfInBounds ll.blk (.cells (vs++rest).toArray el (lo',hi')) }:=by
      rw [← hm];have hb:(src == dt)=true:=by rw [Nat.eq_of_beq_eq_true hsd]; exact beq_self_eq_true _
      simp only [convert,Sem.run_bind,hus,hud,Result.andThen_ok,hue,hb,markStringish,hAb,run_shape,hsh,run_freeze,Sem.run_pure]
     refine ⟨.value _,_,_,_,hres _ _ hrun,rfl,hv',h0,rfl,Eff.turn hbl ?_⟩;exact ⟨ll,vs,rest,lo',hi',hbl,h0',hc,by simp [hlt],hfz',hw,hcap⟩
 . trivial
theorem qg7 (hr:HeapRel0 P O w0 β H w) {src dt:TypeId} {x:Operand} (hx:(ev x).den β=some (ρ x)) :
  (j9c src dt x P ev H base).Sat (qea P H β w base ((execOp ρ ⟨dst,.convert src dt x,t,pos,af,g⟩).run P w)):=by
 refine R.Sat.opt fun s hs=>R.Sat.opt fun d hd => ?_
 have hus:=qba (w:=w) hs;have hud:=qba (w:=w) hd;split
 . rename_i k' _ n h;rw [h] at hx;simp only [SV.den,Option.some.injEq] at hx;exact qga (x:=.int k' (k'.wrap n.den)) (by simp [execOp,← hx,convert,hus,hud,Conv.intToInt]) (by simp [SV.den,q16])
 . rename_i s h;rw [h] at hx;simp only [SV.den,Option.some.injEq] at hx;exact qga (x:=.string s.den) (by simp [execOp,← hx,convert,hus,hud]) rfl
 . rename_i e s h;rw [h] at hx;simp only [SV.den,Option.some.injEq] at hx;refine R.Sat.opt fun ed hed => ?_
   split
   . refine qqx ?_
     have:=run_bytes_of_string w src dt e s.den hs hd hed;simp only [execOp,← hx,Sem.run_bind,this,Result.andThen_ok,Sem.run_pure]
   . trivial
 . rename_i e' e a l c h;rw [h] at hx;refine qf7 hr hs hd hx fun v' w' h => ?_
   simp only [execOp,Sem.run_bind,h,Result.andThen_ok,Sem.run_pure]
 . rename_i e;refine R.Sat.opt fun ed hed => ?_
   split
   . refine qk4 hr hx fun s hs' => ?_
     have hue:=qba (w:=w) hed;have zgZ:(∃ a l c,ρ x=.slice a l c)\/¬ ∃ a l c,ρ x=.slice a l c:=Classical.em _;rcases zgZ with ⟨a,l,c,hρ⟩ | hno
     . simp only [execOp,hρ] at hs' ⊢;simp only [convert,Sem.run_bind,hus,hud,Result.andThen_ok,hue,hs',Sem.run_pure]
     . exfalso;cases hρ:ρ x <;> rw [hρ] at hs' hno <;> first | (exact hno ⟨_,_,_,rfl⟩) | (simp [Conv.bytesToString] at hs')
   . trivial
 . trivial
theorem q2g {v:SV} {x:Value} (hv:v.den β=some x) {f:SN->R α} {φ:α->Prop}
  (hf:∀ n:SN,(∀ (P:Program) (w':World),(Builtin.lenOf x).run P w'=.ok n.den w')->(f n).Sat φ):(zfv v f).Sat φ:=by
 unfold zfv;split
 . simp only [SV.den,Option.some.injEq] at hv; subst hv; exact hf _ fun _ _=>rfl
 . rw [zaf] at hv; obtain ⟨A,C,_,_,_,rfl⟩:=hv; exact hf _ fun _ _=>rfl
 . rw [q1c] at hv; obtain ⟨A,C,_,_,_,rfl⟩:=hv; exact hf _ fun _ _=>rfl
 . simp only [SV.den,Option.some.injEq] at hv; subst hv; exact hf _ fun _ _=>rfl
 . rename_i l;simp only [SV.den,Option.some.injEq] at hv; subst hv;refine hf _ fun P w' => ?_
   show Result.ok (za8.bytes l).den.size w'=_;congr 1;show (l.map fun i=>UInt8.ofNat i.den.toNat).toArray.size=zay l;rw [qha]; simp
 . simp only [SV.den,Option.some.injEq] at hv; subst hv; exact hf _ fun _ _=>rfl
 . intro hs;obtain rfl:_=x:=Option.some.inj hv;refine hf _ fun P w' => ?_
   rw [hs]; rfl
 . trivial
end
end
noncomputable section
variable {α:Type}
section
variable {P:Program} {O:Nat->Prop} {w0:World} {β:Val} {H:List SO} {w:World} {base:Nat}
variable {ev:Operand->SV} {ρ:Operand->Value} {dst:Option Tmp} {t:TypeId} {pos:String} {af:Array Edge} {g:Option (Nat × Bool)}
theorem q89 {tys:Array TypeId} {v:SV} {x:Value} (hv:v.den β=some x) {xs:List Value} {ty:TypeId} {res:Result Next} (hres:∀ n:Nat,(Builtin.len_ tys ty (x::xs).toArray).run P w=.ok (goInt n) w->res=.ok (.value (goInt n)) w) :
  (zdn P tys v).Sat (qea P H β w base res):=by
 refine R.Sat.opt fun t ht=>R.Sat.opt fun d hd => ?_
 have hu:=qba (w:=w) hd;split
 . rename_i s;simp only [SV.den,Option.some.injEq] at hv;subst hv;refine q2g (β:=β) (v:=.str s) rfl fun n hn=>qga (hres n.den ?_) (by simp [SV.den,q0o,goInt])
   have:s.den.size=n.den:=by
    have:=hn P w;simp only [Builtin.lenOf,Sem.run_pure,Result.ok.injEq] at this;exact this.1
   simp [Builtin.len_,ht,hu,this]
 . rename_i n e;refine qga (hres n ?_) rfl;simp [Builtin.len_,ht,hu]
 . rename_i e a n c;rw [zaf] at hv;obtain ⟨A,C,hA,hC,_,rfl⟩:=hv;exact qga (hres n.den (by simp [Builtin.len_,ht,hu])) (by simp [SV.den,q0o,goInt])
 . rename_i e a k n c;rw [q1c] at hv;obtain ⟨A,C,hA,hC,_,rfl⟩:=hv;exact qga (hres n.den (by simp [Builtin.len_,ht,hu])) (by simp [SV.den,q0o,goInt])
 . rename_i e y;simp only [SV.den,Option.some.injEq] at hv;subst hv;intro hs;have hs:y=.slice (zez y) (zaL y) (zbY y):=hs;exact qga (hres (zaL y) (by rw [hs]; simp [Builtin.len_,ht,hu,zaL])) rfl
 . simp only [SV.den,Option.some.injEq] at hv;subst hv;exact qga (hres 0 (by simp [Builtin.len_,ht,hu])) rfl
 . simp only [SV.den,Option.some.injEq] at hv;subst hv;exact qga (hres 0 (by simp [Builtin.len_,ht,hu])) rfl
 . trivial
theorem q99 {a b:SV} {x y:Value} (ha:a.den β=some x) (hb:b.den β=some y):(min2 a b).Sat fun v=>∃ z,v.den β=some z/\(Builtin.min2 x y).run P w=.ok z w:=by
 unfold min2;split
 . simp only [SV.den,Option.some.injEq] at ha hb; subst ha; subst hb; exact ⟨_,rfl,rfl⟩
 . rename_i k a k' b _;simp only [SV.den,Option.some.injEq] at ha hb; subst ha; subst hb;have hr:(Builtin.min2 (.int k a.den) (.int k' b.den)).run P w=.ok (.int k (if b.den<a.den then b.den else a.den)) w:=rfl
   refine ⟨fun he=>⟨_,rfl,?_⟩,fun he=>⟨_,rfl,?_⟩⟩
   . rw [hr,if_pos (of_decide_eq_true he)]
   . rw [hr,if_neg (of_decide_eq_false he)]
 . trivial
theorem jaa {a b:SV} {x y:Value} (ha:a.den β=some x) (hb:b.den β=some y):(max2 a b).Sat fun v=>∃ z,v.den β=some z/\(Builtin.max2 x y).run P w=.ok z w:=by
 unfold max2;split
 . simp only [SV.den,Option.some.injEq] at ha hb; subst ha; subst hb; exact ⟨_,rfl,rfl⟩
 . rename_i k a k' b _;simp only [SV.den,Option.some.injEq] at ha hb; subst ha; subst hb;exact ⟨_,rfl,rfl⟩
 . trivial
theorem q8h {ty elem:TypeId} {l c:Int} {i:TypeInfo} {z:Value} (hd:P.underlying ty=some (.slice elem)) (hi:P.info? elem=some i) (hz:i.zero=some z) (hzl:z.cells.size=i.size)
  (h0:0<=l) (h1:l<=c) (h2:c<=9223372036854775807) (h3:i.bytes * c<=2 ^ 48) :
  (Instr.makeSlice ty (.int .i64 l) (.int .i64 c)).run P w=.ok (.slice (some ⟨w.heap.size,0,none⟩) l.toNat c.toNat) { w with heap:=w.heap.push (.cells (List.replicate c.toNat z.cells.toList).flatten.toArray elem) }:=by
 have hwl:IntKind.i64.wrap l=l:=wrap_i64 ⟨by omega,by omega⟩
 have hwc:IntKind.i64.wrap c=c:=wrap_i64 ⟨by omega,by omega⟩
 have ht:(decide (c<0) || decide (i.bytes * c > 2 ^ 48))=false:=by simp; omega
 unfold Instr.makeSlice;simp only [asInt,asIntOf,Sem.run_bind,qba hd,Result.andThen_ok,Sem.run_pure,q3d hi,hwl,hwc];rw [if_neg (by rw [ht]; simp; omega)]
 simp only [Sem.run_bind,run_askRoom,Result.andThen_ok,qya hi];by_cases hn:c.toNat * i.size=0
 . rw [if_pos hn];simp only [Sem.run_pure,Result.andThen_ok,newRow,Sem.run_bind,run_newObj];rw [hn];have:(List.replicate c.toNat z.cells.toList).flatten=[]:=List.eq_nil_of_length_eq_zero (by simp [hzl,hn])
   rw [this,show (Array.range 0).map (fun i=>(#[]:Array Value)[i % (#[]:Array Value).size]!) = #[] from Array.eq_empty_of_size_eq_zero (by simp)]
 . rw [if_neg hn];simp only [Sem.run_bind,qzc hi hz,Sem.run_pure,Result.andThen_ok,newRow,run_newObj];rw [qrk hzl hn]
theorem qrx (xs:List Value) (h:0<xs.length):∀ (n j:Nat) (x:Value),(List.replicate n xs).flatten[j]? = some x->x=atV xs (j % xs.length)
 | 0,j,x,hx=>by simp at hx
 | n+1,j,x,hx=>by
   rw [List.replicate_succ,List.flatten_cons,List.getElem?_append] at hx;by_cases hj:j<xs.length
   . rw [if_pos hj] at hx;rw [Nat.mod_eq_of_lt hj];unfold atV;rw [hx]; rfl
   . rw [if_neg hj] at hx;rw [qrx xs h n _ x hx];exact congrArg (atV xs) (Nat.mod_eq_sub_mod (by omega)).symm
theorem qh7 {z:SV} {x:Value} (h:z.den β=some x) (j:Nat):(q72 z j).den β=some x:=by
 unfold q72;cases hz:zcJ z with
 | none=>exact h
 | some b=>rw [q7i hz h]; rfl
theorem q4s {ty:TypeId} {l c:Operand} (hl:(ev l).den β=some (ρ l)) (hc:(ev c).den β=some (ρ c)) :
  (q2q ty l c P ev H base).Sat (qea P H β w base ((execOp ρ ⟨dst,.makeSlice ty l c,t,pos,af,g⟩).run P w)):=by
 refine R.Sat.opt fun d hd => ?_
 split
 . rename_i elem;refine R.Sat.opt fun i hi=>R.Sat.opt fun z hz => ?_
   obtain ⟨i',zv,hi',hzv,hden⟩:=q9d hz;rw [hi] at hi'; cases hi';have hzl:zay z=zv.cells.size:=by rw [qha]; have:=qra (hden β); simpa using this.symm
   split
   . rename_i ln cn h1 h2;rw [h1] at hl; rw [h2] at hc;simp only [SV.den,SI.den,Option.some.injEq] at hl hc;split
     . rename_i hcond;obtain ⟨h0,hle,hlt,hby⟩:=hcond;split
       . trivial
       . rename_i hsz;have hsz':zv.cells.size=i.size:=by rw [← hzl]; exact Classical.not_not.1 hsz
         have hrun:=q8h (w:=w) hd hi hzv hsz' h0 hle (by omega) (by
          have h5:(i.bytes:Int) * cn<=65536 * 1048576:=Int.mul_le_mul (by omega) (by omega) (by omega) (by decide)
          exact Int.le_trans h5 (by decide))
         refine fun hb=>⟨.value _,_,_,β.upd base ⟨w.heap.size,0,0⟩,by simp only [execOp,← hl,← hc,Sem.run_bind,hrun,Result.andThen_ok,Sem.run_pure]; rfl,rfl,?_,?_,by simp⟩
         . rw [zaf];exact ⟨⟨w.heap.size,0,none⟩,cn.toNat,by simp [SA.den,Val.upd_same,SN.den],rfl,by simp only [SN.den]; omega,rfl⟩
         . exact Eff.alloc (vs:=(List.replicate cn.toNat zv.cells.toList).flatten) (rest:=[]) (lo:=0) (hi:=0) hb.hd (by simp) rfl rfl rfl (q0t (hden β) _) (by simp) (by simp) (by simp)
     . trivial
   . rename_i ln cn _ h1 h2;rw [h1] at hl; rw [h2] at hc;simp only [SV.den,Option.some.injEq] at hl hc;split
     . rename_i z1;rintro ⟨h0,hle,hby,hmax,hsz⟩;obtain ⟨zx,zs,hzx,hzs,zeJ⟩:=zae.1 (hden β);rw [zaN] at hzs; subst hzs;have hsz':zv.cells.size=i.size:=by
        have:=congrArg List.length zeJ;simp at this; omega
       have hrun:=q8h (w:=w) hd hi hzv hsz' h0 hle (by omega) (by rw [Int.mul_comm]; exact hby)
       refine fun hb=>⟨.value _,_,_,β.upd base ⟨w.heap.size,0,0⟩,by simp only [execOp,← hl,← hc,Sem.run_bind,hrun,Result.andThen_ok,Sem.run_pure]; rfl,rfl,?_,?_,by simp⟩
       . rw [zaf];exact ⟨⟨w.heap.size,0,none⟩,cn.den.toNat,by simp [SA.den,Val.upd_same,SN.den],rfl,by rw [qri]; omega,by rw [qri]⟩
       . have hfl:(List.replicate cn.den.toNat [zx]).flatten=List.replicate cn.den.toNat zx:=by
          generalize cn.den.toNat=m;induction m with
          | zero=>rfl
          | succ m ih=>rw [List.replicate_succ,List.flatten_cons,ih]; rfl
         refine Eff.alloc (vs:=List.replicate cn.den.toNat zx) (rest:=[]) (lo:=0) (hi:=0) hb.hd (by simp [zeJ,hfl]) rfl rfl rfl ⟨by simp,fun j x hx => ?_⟩ (by simp) (by simp) (by simp)
         have:x=zx:=by
          have:=List.eq_of_mem_replicate (List.mem_of_getElem? hx);exact this
         rw [this]; exact qh7 hzx j
     . refine R.Sat.opt fun xs hxs => ?_
       rintro ⟨h0,hle,hby,hmax,hsz,hpos⟩;have hxe:zv.cells.toList=xs:=qwh hxs (hden β);have hxl:zv.cells.size=zay xs:=by rw [qha,← hxe]; simp
       have hrun:=q8h (w:=w) hd hi hzv (by omega) h0 hle (by omega) (by rw [Int.mul_comm]; exact hby)
       rw [hxe] at hrun;refine fun hb=>⟨.value _,_,_,β.upd base ⟨w.heap.size,0,0⟩,by simp only [execOp,← hl,← hc,Sem.run_bind,hrun,Result.andThen_ok,Sem.run_pure]; rfl,rfl,?_,?_,by simp⟩
       . rw [zaf];exact ⟨⟨w.heap.size,0,none⟩,cn.den.toNat,by simp [SA.den,Val.upd_same,SN.den],rfl,by rw [qri]; omega,by rw [qri]⟩
       . refine Eff.alloc (vs:=(List.replicate cn.den.toNat xs).flatten) (rest:=[]) (lo:=0) (hi:=0) hb.hd (by simp) rfl rfl rfl ⟨by simp [qha],fun j x hx => ?_⟩ (by simp) (by simp) (by simp)
         rw [qha] at hsz;rw [qha];exact qrx xs (by omega) cn.den.toNat j x hx
   . trivial
 . trivial
theorem qla {x:Value} {size n:Nat} {xs:List Value} (w':World) (hh:w'.heap=w.heap)
  (h:(∃ c,x=.slice none 0 c/\xs=[])\/(∃ A l c,x=.slice (some A) l c/\xs.length=n * size/\∀ (j:Nat) (y:Value),xs[j]? = some y->w.cell? (A.add j)=some y)\/(∃ s,x=.string s/\xs=(s.data.toList.take n).map fun b=>Value.int .u8 (b.toNat:Int))) :
  (Builtin.firstCells size n x).run P w'=.ok xs.toArray w':=by
 rcases h with ⟨c,rfl,rfl⟩ | ⟨A,l,c,rfl,h1,h2⟩ | ⟨s,rfl,rfl⟩
 . rfl
 . have hc:∀ a,w'.cell? a=w.cell? a:=fun a=>by simp [World.cell?,hh]
   exact qhe h1 fun j y hy=>by rw [hc]; exact h2 j y hy
 . simp only [Builtin.firstCells,Sem.run_pure,Result.ok.injEq,and_true];apply Array.ext';simp [ByteArray.data_extract,List.extract_eq_take_drop]
theorem ql4 (need:Nat) (hn:256<=need):∀ (r c:Nat),c<=2 * need->Builtin.growBy need r c<=2 * need:=by
 intro r;induction r with
 | zero=>intro c h; exact h
 | succ r ih =>
   intro c h;unfold Builtin.growBy;split
   . exact h
   . exact ih _ (by omega)
theorem qnp {need cap:Nat} (h:cap<need):Builtin.nextslicecap need cap<=2 * need:=by
 unfold Builtin.nextslicecap;split
 . omega
 . split
   . omega
   . exact ql4 need (by omega) 4 cap (by omega)
theorem qop {P:Program} {tys:Array TypeId} (h:qve P tys=true):tys[1]? = none\/∃ xt,tys[1]? = some xt/\((∃ e,P.underlying xt=some (.slice e))\/P.underlying xt=some .string):=by
 unfold qve at h;split at h
 . rename_i xt hxt;split at h
   . rename_i e he; exact .inr ⟨xt,hxt,.inl ⟨e,he⟩⟩
   . rename_i he; exact .inr ⟨xt,hxt,.inr he⟩
   . cases h
 . rename_i h1; exact .inl h1
theorem qab {tys:Array TypeId} {st elem ty:TypeId} {i:TypeInfo} {bs:Option Addr} {sLen sCap n:Nat} {x:Value} {xs:List Value} (ht:tys[0]? = some st) (hd:P.underlying st=some (.slice elem)) (hi:P.info? elem=some i)
  (hm:qve P tys=true) (hn:(Builtin.lenOf x).run P w=.ok n w) (hx:(Builtin.firstCells i.size n x).run P w=.ok xs.toArray w) (hle:sLen+n<=sCap) {w':World}
  (hst:(match bs with | some a=>storeCells (a.add (sLen * i.size)) xs | none=>pure ():Sem Unit).run P w=.ok () w') :
  (Builtin.append_ tys ty #[.slice bs sLen sCap,x]).run P w=.ok (.slice bs (sLen+n) sCap) w':=by
 have hu:=fun w=>qba (P:=P) (w:=w) hd;have hs:=fun w=>qya (P:=P) (w:=w) hi;have key:∀ h1:(match tys[1]? with
   | some xType=>do pure ((← underlying xType) matches .int _)
   | none=>pure false:Sem Bool).run P w=.ok false w,True:=fun _=>trivial
 rcases qop hm with h1 | ⟨xt,h1,⟨e,h2⟩ | h2⟩
 . cases bs with
   | none=>simp at hst; subst hst; simp [Builtin.append_,ht,h1,hu,hs,hn,hle,hx]
   | some a=>simp at hst; simp [Builtin.append_,ht,h1,hu,hs,hn,hle,hx,hst]
 . have hu2:=fun w=>qba (P:=P) (w:=w) h2;cases bs with
   | none=>simp at hst; subst hst; simp [Builtin.append_,ht,h1,hu,hu2,hs,hn,hle,hx]
   | some a=>simp at hst; simp [Builtin.append_,ht,h1,hu,hu2,hs,hn,hle,hx,hst]
 . have hu2:=fun w=>qba (P:=P) (w:=w) h2;cases bs with
   | none=>simp at hst; subst hst; simp [Builtin.append_,ht,h1,hu,hu2,hs,hn,hle,hx]
   | some a=>simp at hst; simp [Builtin.append_,ht,h1,hu,hu2,hs,hn,hle,hx,hst]
theorem qfb {tys:Array TypeId} {st elem ty:TypeId} {i:TypeInfo} {z:Value} {bs:Option Addr} {sLen sCap n:Nat} {x:Value} {xs os:List Value} (ht:tys[0]? = some st) (hd:P.underlying st=some (.slice elem)) (hi:P.info? elem=some i)
  (hz:i.zero=some z) (hm:qve P tys=true) (hn:(Builtin.lenOf x).run P w=.ok n w) (hx:∀ w':World,w'.heap=w.heap->(Builtin.firstCells i.size n x).run P w'=.ok xs.toArray w')
  (ho:∀ w':World,w'.heap=w.heap->(Builtin.firstCells i.size sLen (.slice bs sLen sCap)).run P w'=.ok os.toArray w') (hgt:sCap<sLen+n) (hb:(sLen+n) * i.bytes<140737488355328) (hb2:sLen+n<140737488355328) :
  ∃ cap,sLen+n<=cap/\(Builtin.append_ tys ty #[.slice bs sLen sCap,x]).run P w=.ok (.slice (some ⟨w.heap.size,0,none⟩) (sLen+n) cap)
    (w.drew.alloc (.cells (os.toArray++xs.toArray++Builtin.zeroCells z.cells (cap - (sLen+n))) elem)):=by
 refine ⟨grownCap w (sLen+n) sCap elem,qlp _ _ _ _,?_⟩;have hsmall:¬ (281474976710656<Builtin.nextslicecap (sLen+n) sCap * i.bytes):=by
  have h2:=Nat.mul_le_mul_right i.bytes (qnp hgt);rw [Nat.mul_assoc] at h2;omega
 have h63':¬ (9223372036854775807<((sLen:Int)+(n:Int))):=by omega
 have hng:¬ (sLen+n<=sCap):=by omega
 have hu:=fun w=>qba (P:=P) (w:=w) hd;have hs:=fun w=>qya (P:=P) (w:=w) hi;have hti:=fun w=>q3d (P:=P) (w:=w) hi;have hzv:=fun w=>qzc (P:=P) (w:=w) hi hz;have hx':=hx w.drew rfl;have ho':=ho w.drew rfl;have fin:∀ c:Array Value,w.drew.alloc (.cells (os.toArray++(xs.toArray++c)) elem)=w.drew.alloc (.cells ((os++xs).toArray++c) elem):=fun c=>by
  congr 2; apply Array.ext'; simp
 rcases qop hm with h1 | ⟨xt,h1,⟨e,h2⟩ | h2⟩
 . simp [Builtin.append_,ht,h1,hu,hs,hn,hng,hsmall,h63',hti,hzv,Question.forced,hx',ho',newRow,grownCap];exact fin _
 . have hu2:=fun w=>qba (P:=P) (w:=w) h2;simp [Builtin.append_,ht,h1,hu,hu2,hs,hn,hng,hsmall,h63',hti,hzv,Question.forced,hx',ho',newRow,grownCap];exact fin _
 . have hu2:=fun w=>qba (P:=P) (w:=w) h2;simp [Builtin.append_,ht,h1,hu,hu2,hs,hn,hng,hsmall,h63',hti,hzv,Question.forced,hx',ho',newRow,grownCap];exact fin _
theorem qsx (z:Array Value) (n:Nat):∃ l:List Value,Builtin.zeroCells z n=l.toArray/\l.length=n * z.size :=
 ⟨(Builtin.zeroCells z n).toList,by simp,by simp [Builtin.zeroCells]⟩
theorem qnf {elem:TypeId} {i:TypeInfo} {z:Value} {cap len:Nat} {c:Cells} {vs:List Value} {n:SN} (hi:P.info? elem=some i) (hz:z.cells.size=i.size) (hc:zaj β c vs) (hl:vs.length=len * i.size) (hle:len<=cap) (hn:n.den=len) {res:Result Next}
  (hres:res=.ok (.value (.slice (some ⟨w.heap.size,0,none⟩) len cap)) (w.drew.alloc (.cells (vs.toArray++Builtin.zeroCells z.cells (cap - len)) elem))) :
  (R.ok (zai.val (.slice ⟨base,.lit 0⟩ n (.rest base 0)) [] [.own c false elem])).Sat (qea P H β w base res):=by
 obtain ⟨zs,hzs,hzl⟩:=qsx z.cells (cap - len);refine fun hb=>⟨.value _,_,_,β.upd base ⟨w.heap.size,0,cap⟩,hres,rfl,?_,?_,by simp⟩
 . rw [zaf];exact ⟨⟨w.heap.size,0,none⟩,cap,by simp [SA.den,Val.upd_same,SN.den],by simp [SC.den,Val.upd_same],by rw [hn]; exact hle,by rw [hn]⟩
 . refine Eff.alloc (vs:=vs) (rest:=zs) (lo:=0) (hi:=0) hb.hd (by show w.heap.push _=_; rw [hzs]; simp) rfl rfl rfl hc (by simp) (by simp) ?_
   intro i' hi';rw [hi] at hi'; cases hi';rw [List.length_append,hl,hzl,hz,← Nat.add_mul];exact Nat.le_of_eq (by rw [Nat.add_sub_cancel' hle])
theorem qkh {elem:TypeId} {i:TypeInfo} {z:Value} {cap len m:Nat} {c:Cells} {vs:List Value} {n:SN} {e0:SO} (hm:H[m]? = some e0) (hm0:e0.owned=true) (hi:P.info? elem=some i) (hz:z.cells.size=i.size) (hc:zaj β c vs) (hl:vs.length=len * i.size) (hle:len<=cap) (hn:n.den=len) {res:Result Next}
  (hres:res=.ok (.value (.slice (some ⟨w.heap.size,0,none⟩) len cap)) (w.drew.alloc (.cells (vs.toArray++Builtin.zeroCells z.cells (cap - len)) elem))) :
  (R.ok (zai.val (.slice ⟨base,.lit 0⟩ n (.rest base 0)) [(m,.gone)] [.own c false elem])).Sat (qea P H β w base res):=by
 refine fun hb => ?_
 obtain ⟨nx,v',w',β',h1,h2,h3,hE,_⟩:=qnf (H:=H) hi hz hc hl hle hn hres hb;refine ⟨nx,v',w',β',h1,h2,h3,?_,fun k e hk => ?_⟩
 . exact ⟨hE.le,hE.os,hE.tape,hE.output,hE.drawn,hE.size,hE.dom,fun b hb' _ _=>hE.frame b hb' (by simp) (.nil b),fun k a b ha hb'=>by simp at ha hb'; rw [ha.2,hb'.2],
    fun k a ha=>by simp at ha; rw [ha.2]; trivial,fun j e he=>by
     obtain ⟨a,b,l,hl,hor⟩:=hE.made j e he;exact ⟨a,b,l,hl,.inl (hor.resolve_right (by simp))⟩,hE.apart⟩
 . simp at hk; obtain ⟨rfl,rfl⟩:=hk; exact ⟨e0,hm,hm0,.not⟩
theorem q4d {β:Val} {l r:List SV} {xs ys:List Value} (h:SV.zal β l=some xs) (k:SV.zal β r=some ys):SV.zal β (app l r)=some (xs++ys):=by
 rw [q7a]; exact qqd h k
end
end
noncomputable section
variable {α:Type}
section
variable {P:Program} {O:Nat->Prop} {w0:World} {β:Val} {H:List SO} {w:World} {base:Nat}
theorem qnn {a b:Nat} (h:Nat.blt a b=true):a<b:=Nat.le_of_ble_eq_true h
theorem q6b {A:Option Addr} {l c n:Nat} (h:∀ (P:Program) (w':World),(Builtin.lenOf (.slice A l c)).run P w'=.ok n w') (P:Program) (w:World):n=l:=by
 have:=h P w;simp only [Builtin.lenOf,Sem.run_pure,Result.ok.injEq,and_true] at this;exact this.symm
structure zeW (P:Program) (w:World) (tys:Array TypeId) (st elem:TypeId) (i:TypeInfo) (z:Value) (x:Value) (xs:List Value) (n:Nat):Prop where
 ht:tys[0]? = some st
 hd:P.underlying st=some (.slice elem)
 hi:P.info? elem=some i
 hz:i.zero=some z
 hzl:z.cells.size=i.size
 hm:qve P tys=true
 hn:(Builtin.lenOf x).run P w=.ok n w
 hx:∀ w':World,w'.heap=w.heap->(Builtin.firstCells i.size n x).run P w'=.ok xs.toArray w'
 hxl:xs.length=n * i.size
theorem qi7 (hr:HeapRel0 P O w0 β H w) {tys:Array TypeId} {st elem ty:TypeId} {i:TypeInfo} {z x:Value} {xs:List Value} {n:Nat} (S:zeW P w tys st elem i z x xs n) {new:List SV} (hnew:SV.zal β new=some xs)
  {a:SA} {A:Addr} {len c:Nat} (hA:a.den β=some A) (hlc:len<=c) (hb1:(len+n) * i.bytes<140737488355328) (hb2:len+n<140737488355328) {res:Result Next}
  (hres:∀ v w',(Builtin.append_ tys ty #[.slice (some A) len c,x]).run P w=.ok v w'->res=.ok (.value v) w') :
  (j3c H base elem i.size a len c n new).Sat (qea P H β w base res):=by
 refine R.Sat.zab (fun hle=>R.Sat.zab (fun h0 => ?_) fun h0=>R.Sat.zab (fun hsc=>qkb fun e he => ?_) fun _=>trivial) fun hgt => ?_
 . have hn0:n=0:=Nat.eq_of_beq_eq_true h0;subst hn0;have hxs:xs=[]:=List.eq_nil_of_length_eq_zero (by rw [S.hxl]; simp)
   subst hxs;have:=qab (ty:=ty) (bs:=some A) (sLen:=len) (sCap:=c) (w':=w) S.ht S.hd S.hi S.hm S.hn (S.hx w rfl) (by omega) rfl
   refine qga (hres _ _ this) ?_
   rw [zaf];exact ⟨A,c,hA,rfl,hlc,rfl⟩
 . have hle':len+n<=c:=Nat.le_of_ble_eq_true hle;cases e with
   | row=>trivial
   | loop=>trivial
   | deferred=>trivial
   | gone=>trivial
   | mem=>trivial
   | obj=>trivial
   | own cl wh el =>
     obtain ⟨ll,vs,rest,lo,hi,hbl,h0',hc,hh,hfz,hw,hcap⟩:=hr.entries _ _ he;obtain ⟨l',hl',rfl⟩:=SA.zaB hA;rw [hbl] at hl'; cases hl';refine q8j hc hnew fun c' hc' hle2 => ?_
     rw [SN.zaZ] at hc' hle2;replace hc':zaj β c' (qib vs (a.off.den+len * i.size) xs):=hc';replace hle2:a.off.den+len * i.size+xs.length<=vs.length:=hle2;have hoff:a.off.den+len * i.size+xs.length<=vs.length:=hle2;have hrun:=q5b (P:=P) xs (vs++rest) (ll.off+a.off.den+len * i.size) 0 w hh (q8p hnew hsc) hfz.at (by rw [h0']; simp; omega)
     rw [Nat.add_zero,h0',Nat.zero_add,qye hoff] at hrun;have zaX:=qab (ty:=ty) (bs:=some ⟨ll.blk,ll.off+a.off.den,none⟩) (sLen:=len) (sCap:=c) S.ht S.hd S.hi S.hm S.hn (S.hx w rfl) hle' (by simp only [q9a]; rw [h0',Nat.zero_add]; exact hrun)
     refine fun hb=>⟨.value _,_,_,β,hres _ _ zaX,rfl,?_,Eff.turn hbl ?_,?_⟩
     . rw [zaf];exact ⟨_,c,hA,rfl,hle',rfl⟩
     . have hlt:ll.blk<w.heap.size:=(Array.getElem?_eq_some_iff.1 hh).1;refine ⟨ll,_,rest,lo,hi,hbl,h0',hc',by simp [hlt],?_,hw,?_⟩
       . simp only [List.length_append,q4a hle2] at hfz ⊢; exact hfz
       . intro j hj;have:=hcap j hj;simp only [List.length_append,q4a hle2] at this ⊢; exact this
     . intro m e hm;simp at hm;obtain ⟨rfl,rfl⟩:=hm;exact ⟨_,he,rfl,.not⟩
 . have zg6:c<len+n:=by
    rcases Nat.lt_or_ge c (len+n) with h | h
    . exact h
    . rw [Nat.ble_eq_true_of_le h] at hgt; cases hgt
   refine qyh hr hA fun old os h1 h2 h3 => ?_
   obtain ⟨cap,hcap,hrun⟩:=qfb (ty:=ty) (bs:=some A) (sLen:=len) (sCap:=c) (os:=os) S.ht S.hd S.hi S.hz S.hm S.hn S.hx
    (fun w' hw'=>qla w' hw' (.inr (.inl ⟨A,len,c,rfl,h2,h3⟩))) zg6 hb1 hb2
   refine qnf (c:=.lst (app old new)) (vs:=os++xs) (len:=len+n) S.hi S.hzl (q4d h1 hnew) (by rw [List.length_append,h2,S.hxl,Nat.add_mul]) hcap rfl (hres _ _ ?_)
   rw [hrun]; congr 3; simp
theorem qm4 (hr:HeapRel0 P O w0 β H w) {tys:Array TypeId} {st elem ty:TypeId} {i:TypeInfo} {z x:Value} {xs:List Value} {n:Nat} (S:zeW P w tys st elem i z x xs n) {new:List SV} (hnew:SV.zal β new=some xs)
  {a:SA} {A:Addr} {len nm k C:Nat} (hA:a.den β=some A) (hC:(SC.rest nm k).den β=some C) (hlc:len<=C) (hb1:(len+n) * i.bytes<140737488355328) (hb2:len+n<140737488355328) {res:Result Next}
  (hres:∀ v w',(Builtin.append_ tys ty #[.slice (some A) len C,x]).run P w=.ok v w'->res=.ok (.value v) w') :
  (qg6 H base elem i.size a len nm k n new).Sat (qea P H β w base res):=by
 refine R.Sat.zab (fun h0 => ?_) fun h0=>R.Sat.zab (fun hsc=>R.Sat.zab (fun hnm=>R.Sat.zab (fun hk=>SN.zaT (fun o ho=>R.Sat.zab (fun ho0=>qkb fun e he => ?_) fun _=>trivial) fun _=>trivial) fun _=>trivial) fun _=>trivial) fun _=>trivial
 . have hn0:n=0:=Nat.eq_of_beq_eq_true h0;subst hn0;have hxs:xs=[]:=List.eq_nil_of_length_eq_zero (by rw [S.hxl]; simp)
   subst hxs;have:=qab (ty:=ty) (bs:=some A) (sLen:=len) (sCap:=C) (w':=w) S.ht S.hd S.hi S.hm S.hn (S.hx w rfl) (by omega) rfl
   refine qga (hres _ _ this) ?_
   rw [zaf];exact ⟨A,C,hA,hC,hlc,rfl⟩
 . obtain rfl:=Nat.eq_of_beq_eq_true hnm;obtain rfl:=Nat.eq_of_beq_eq_true hk;obtain rfl:=Nat.eq_of_beq_eq_true ho0;cases e with
   | row=>trivial
   | loop=>trivial
   | deferred=>trivial
   | gone=>trivial
   | mem=>trivial
   | obj=>trivial
   | own cl wh el =>
     cases cl with
     | fn=>trivial
     | raw=>trivial
     | lst l =>
       refine R.Sat.zab (fun hel=>R.Sat.zab (fun hll => ?_) fun _=>trivial) fun _=>trivial;obtain rfl:=Nat.eq_of_beq_eq_true hel;obtain ⟨ll,vs,rest,lo,hi,hbl,h0',hc,hh,hfz,hw,hcap⟩:=hr.entries _ _ he;obtain ⟨l',hl',hAe⟩:=SA.zaB hA;rw [hbl] at hl'; cases hl';have zd0:A=⟨ll.blk,0,none⟩:=by rw [hAe,h0',ho]; rfl
       have hCe:C=ll.cap:=by
        simp only [SC.den,hbl,Option.map_some,Option.some.injEq] at hC; omega
       have hvl:vs.length=l.length:=qra hc;have hle:len * i.size<=vs.length:=by rw [hvl,← qha]; exact Nat.le_of_ble_eq_true hll
       have zcP:SV.zal β (app (qta l (len * i.size)) new)=some (vs.take (len * i.size)++xs):=by
        rw [qsc]; exact q4d (q3f hc _) hnew
       have zeN:(vs.take (len * i.size)++xs).length=(len+n) * i.size:=by
        rw [List.length_append,List.length_take,S.hxl,Nat.add_mul]; omega
       have hcells:∀ (j:Nat) (y:Value),(vs.take (len * i.size))[j]? = some y->w.cell? (A.add j)=some y:=by
        intro j y hy;rw [zd0,q9a,cell?_of hh,Nat.zero_add];rw [List.getElem?_take] at hy;split at hy
        . have:=(List.getElem?_eq_some_iff.1 hy).1;simp [List.getElem?_append_left this,hy]
        . cases hy
       rcases Nat.lt_or_ge C (len+n) with hgt | hfit
       . obtain ⟨cap,zdW,hrun⟩:=qfb (ty:=ty) (bs:=some A) (sLen:=len) (sCap:=C) (os:=vs.take (len * i.size)) S.ht S.hd S.hi S.hz S.hm S.hn S.hx
          (fun w' hw'=>qla w' hw' (.inr (.inl ⟨A,len,C,rfl,by rw [List.length_take]; omega,hcells⟩))) hgt hb1 hb2
         exact qkh (c:=.lst _) he rfl S.hi S.hzl zcP zeN zdW rfl (hres _ _ (by rw [hrun]; congr 3; simp))
       . have hroom:len * i.size+xs.length<=(vs++rest).length:=by
          have h1:=hcap i S.hi;have h2:=Nat.mul_le_mul_right i.size hfit;rw [Nat.add_mul] at h2;rw [S.hxl]; rw [← hCe] at h1; omega
         have hrun:=q5b (P:=P) xs (vs++rest) (0+len * i.size) 0 w hh (q8p hnew hsc) hfz.at (by omega)
         rw [Nat.add_zero,Nat.zero_add] at hrun;have zaX:=qab (ty:=ty) (bs:=some A) (sLen:=len) (sCap:=C) S.ht S.hd S.hi S.hm S.hn (S.hx w rfl) hfit (by rw [zd0]; simp only [q9a,Nat.zero_add]; exact hrun)
         have hover:qib (vs++rest) (len * i.size) xs=(vs.take (len * i.size)++xs)++(vs++rest).drop (len * i.size+xs.length):=by
          unfold qib; rw [List.take_append_of_le_length hle]
         have hlt:ll.blk<w.heap.size:=(Array.getElem?_eq_some_iff.1 hh).1;have hlen':((vs.take (len * i.size)++xs)++(vs++rest).drop (len * i.size+xs.length)).length=(vs++rest).length:=by
          rw [← hover,q4a hroom]
         refine fun hb=>⟨.value _,_,_,β.upd base ll,hres _ _ zaX,rfl,?_,?_,?_⟩
         . rw [zaf];refine ⟨⟨ll.blk,0,none⟩,C,by simp [SA.den,Val.upd_same,h0',SN.den],by simp [SC.den,Val.upd_same,hCe],hfit,by rw [zd0]; rfl⟩
         . refine ⟨Val.zbh hb.hd,rfl,rfl,rfl,Nat.le_refl _,by simp,?_,?_,?_,?_,?_,?_⟩
           . intro m hm;unfold Val.upd;rw [if_neg]; simp at hm; omega
           . intro b _ hn;have:=hn a.nm .gone ll (by simp) hbl
             simp [this]
           . intro m e1 e2 h1 h2; simp at h1 h2; rw [h1.2,h2.2]
           . intro m e h1; simp at h1; rw [h1.2]; trivial
           . intro j e hj;cases j with
             | succ j=>simp at hj
             | zero =>
               simp at hj; subst hj;refine ⟨rfl,⟨ll,_,(vs++rest).drop (len * i.size+xs.length),lo,hi,Val.upd_same _ _ _,h0',SV.zan (Val.zbh hb.hd) _ zcP,?_,?_,by simp,?_⟩,ll,Val.upd_same _ _ _,.inr ⟨a.nm,ll,by simp,hbl,rfl⟩⟩
               . rw [← hover]; simp [hlt]
               . rw [hlen']; exact hfz
               . intro j hj; rw [hlen']; exact hcap j hj
           . intro j k l l' hjk hj hk; simp at hj hk; omega
         . intro m e hm;simp at hm;obtain ⟨rfl,rfl⟩:=hm;exact ⟨_,he,rfl,.not⟩
theorem qtx (hr:HeapRel0 P O w0 β H w) {a:SA} {n:SN} {A':Addr} {C:Nat} (hA:n.den=0\/a.den β=some A') {f:(Nat->SV)->R α} {φ:α->Prop}
  (hf:∀ g,(∀ (m:Nat),(∀ w':World,(Builtin.lenOf (.slice (some A') n.den C)).run P w'=.ok m w')->∃ xs:List Value,xs.length=m/\(∀ (j:Nat) (y:Value),xs[j]? = some y->(g j).den β=some y)/\∀ w':World,w'.heap=w.heap->(Builtin.firstCells 1 m (.slice (some A') n.den C)).run P w'=.ok xs.toArray w')->(f g).Sat φ):(zhJ H a n f).Sat φ:=by
 unfold zhJ;refine qkb fun e he => ?_
 have key:∀ (cl:Cells) (g:Nat->SV) (vs:List Value),e.cells? = some cl->zaj β cl vs->(∃ l,β a.nm=some l/\∀ (i:Nat) (x:Value),vs[i]? = some x->w.cell? ⟨l.blk,l.off+i,none⟩=some x)->a.off.den+n.den<=vs.length ->
   (∀ i y,vs[a.off.den+i]? = some y->(g i).den β=some y)->(f g).Sat φ:=by
  rintro cl g vs _ hcr ⟨l,hl,hcell⟩ hle hg;refine hf g fun m hm=>⟨(vs.drop a.off.den).take n.den,?_,fun j y hy => ?_,fun w' hw' => ?_⟩
  . have:=hm w;simp only [Builtin.lenOf,Sem.run_pure,Result.ok.injEq,and_true] at this;simp; omega
  . rw [List.getElem?_take] at hy;split at hy
    . rw [List.getElem?_drop] at hy; exact hg j y hy
    . cases hy
  . refine qla w' hw' (.inr (.inl ⟨_,_,_,rfl,?_,fun j y hy => ?_⟩))
    . have:=hm w;simp only [Builtin.lenOf,Sem.run_pure,Result.ok.injEq,and_true] at this;simp; omega
    . rw [List.getElem?_take] at hy;split at hy
      . rename_i hjn;rw [List.getElem?_drop] at hy;obtain ⟨l',hl',rfl⟩:=SA.zaB (hA.resolve_left (by omega))
        rw [hl] at hl'; cases hl';rw [q9a,Nat.add_assoc]; exact hcell _ _ hy
      . cases hy
 split
 . rename_i g m _ _;obtain ⟨l,vs,hl,hcr,hcell⟩:=q1b hr he rfl;intro hle;exact key _ _ vs rfl hcr ⟨l,hl,hcell⟩ (by rw [hcr.1]; exact hle) fun i y hy=>hcr.2 _ _ hy
 . rename_i g m;obtain ⟨l,vs,hl,hcr,hcell⟩:=q1b hr he rfl;intro hle;exact key _ _ vs rfl hcr ⟨l,hl,hcell⟩ (by rw [hcr.1]; exact hle) fun i y hy=>hcr.2 _ _ hy
 . rename_i ls _ _;obtain ⟨l,vs,hl,hcr,hcell⟩:=q1b hr he rfl;cases hun:unb ls with
   | none =>
     intro hle;have hvl:vs.length=ls.length:=qra hcr;rw [qha] at hle;refine key _ _ vs rfl hcr ⟨l,hl,hcell⟩ (by omega) fun i y hy => ?_
     have hlt:=(List.getElem?_eq_some_iff.1 hy).1;obtain ⟨y',hy',hd⟩:=qlc hcr (List.getElem?_eq_getElem (show a.off.den+i<ls.length by omega))
     rw [hy] at hy'; cases hy';rw [qda,List.getElem?_eq_getElem (show a.off.den+i<ls.length by omega)]; exact hd
   | some xs =>
     intro hle;rw [qha] at hle;obtain ⟨hb1,hb2⟩:=q5f hun hcr;refine key _ _ vs rfl hcr ⟨l,hl,hcell⟩ (by omega) fun i y hy => ?_
     have hlt:=(List.getElem?_eq_some_iff.1 hy).1;rw [hb2 _ (by omega)] at hy
     rw [← Option.some.inj hy]; rfl
 . rename_i ls;obtain ⟨l,vs,hl,hcr,hcell⟩:=q1b hr he rfl;cases hun:unb ls with
   | none =>
     intro hle;have hvl:vs.length=ls.length:=qra hcr;rw [qha] at hle;refine key _ _ vs rfl hcr ⟨l,hl,hcell⟩ (by omega) fun i y hy => ?_
     have hlt:=(List.getElem?_eq_some_iff.1 hy).1;obtain ⟨y',hy',hd⟩:=qlc hcr (List.getElem?_eq_getElem (show a.off.den+i<ls.length by omega))
     rw [hy] at hy'; cases hy';rw [qda,List.getElem?_eq_getElem (show a.off.den+i<ls.length by omega)]; exact hd
   | some xs =>
     intro hle;rw [qha] at hle;obtain ⟨hb1,hb2⟩:=q5f hun hcr;refine key _ _ vs rfl hcr ⟨l,hl,hcell⟩ (by omega) fun i y hy => ?_
     have hlt:=(List.getElem?_eq_some_iff.1 hy).1;rw [hb2 _ (by omega)] at hy
     rw [← Option.some.inj hy]; rfl
 . trivial
theorem jba (hr:HeapRel0 P O w0 β H w) {v:SV} {x:Value} (hv:v.den β=some x) {f:(Nat->SV)->R α} {φ:α->Prop}
  (hf:∀ g,(∀ (n:Nat),(∀ w':World,(Builtin.lenOf x).run P w'=.ok n w')->∃ xs:List Value,xs.length=n/\(∀ (j:Nat) (y:Value),xs[j]? = some y->(g j).den β=some y)/\∀ w':World,w'.heap=w.heap->(Builtin.firstCells 1 n x).run P w'=.ok xs.toArray w')->(f g).Sat φ):(zkg H v f).Sat φ:=by
 unfold zkg;split
 . simp only [SV.den,Option.some.injEq] at hv; subst hv;refine hf _ fun n hn=>⟨[],?_,by simp,fun w' hw'=>qla (w:=w) w' hw' (.inl ⟨0,rfl,rfl⟩)⟩
   have:=hn w;simp only [Builtin.lenOf,Sem.run_pure,Result.ok.injEq,and_true] at this;exact this
 . rename_i a n c;rw [zaf] at hv;obtain ⟨A,C,hA,hC,_,rfl⟩:=hv;exact qtx hr (.inr hA) hf
 . rename_i a k n c;rw [q1c] at hv;obtain ⟨A,C,hA,hC,hle,rfl⟩:=hv;refine qtx hr ?_ hf;by_cases h0:C=0
   . left; omega
   . right; rw [if_neg h0]; exact SA.za7 hA k
 . rename_i s;simp only [SV.den,Option.some.injEq] at hv; subst hv;refine hf _ fun n hn=>⟨s.den.data.toList.map fun b=>Value.int .u8 (b.toNat:Int),?_,fun j y hy=>qmp β _ j y hy,fun w' hw' => ?_⟩
   . have:=hn w;simp only [Builtin.lenOf,Sem.run_pure,Result.ok.injEq,and_true] at this;simp; exact this
   . have:=hn w;simp only [Builtin.lenOf,Sem.run_pure,Result.ok.injEq,and_true] at this;refine qla (w:=w) w' hw' (.inr (.inr ⟨s.den,rfl,?_⟩));rw [List.take_of_length_le];simp; exact Nat.le_of_eq this
 . trivial
theorem qrr (hr:HeapRel0 P O w0 β H w) {v:SV} {x:Value} (hv:v.den β=some x) {n:SN} (hn:(Builtin.lenOf x).run P w=.ok n.den w) {f:(Nat->BitVec 8)->R α} {φ:α->Prop}
  (hf:∀ (X:Nat->BitVec 8) (xs:List Value),xs.length=n.den->(∀ j,j<n.den->xs[j]? = some (.int .u8 ((X j).toNat:Int)))->(∀ w':World,w'.heap=w.heap->(Builtin.firstCells 1 n.den x).run P w'=.ok xs.toArray w')->(f X).Sat φ):(qzi H v n f).Sat φ:=by
 unfold qzi;split
 . simp only [SV.den,Option.some.injEq] at hv; subst hv;simp only [Builtin.lenOf,Sem.run_pure,Result.ok.injEq,and_true] at hn;refine hf _ [] hn (fun j hj=>by omega) fun w' hw'=>qla (w:=w) w' hw' (.inl ⟨0,rfl,rfl⟩)
 . rename_i a l c;rw [zaf] at hv;obtain ⟨A,C,hA,hC,_,rfl⟩:=hv;simp only [Builtin.lenOf,Sem.run_pure,Result.ok.injEq,and_true] at hn;refine qkb fun e he => ?_
   have key:∀ cl:Cells,e.cells? = some cl->(qqj cl a.off.den n.den f).Sat φ:=by
    intro cl hcl;obtain ⟨ll,vs,hl,hcr,hcell⟩:=q1b hr he hcl;obtain ⟨l',hl',rfl⟩:=SA.zaB hA;rw [hl] at hl'; cases hl';refine qxh hcr fun X hle hX=>hf X ((vs.drop a.off.den).take n.den) (by simp; omega) (fun j hj => ?_) fun w' hw' => ?_
    . rw [List.getElem?_take,if_pos hj,List.getElem?_drop]; exact hX j hj
    . refine qla w' hw' (.inr (.inl ⟨_,_,_,rfl,by simp; omega,fun j y hy => ?_⟩))
      rw [List.getElem?_take] at hy;split at hy
      . rw [List.getElem?_drop] at hy;rw [q9a,Nat.add_assoc]; exact hcell _ _ hy
      . cases hy
   cases e with
   | own c w el=>exact key c rfl
   | row c=>exact key c rfl
   | loop=>trivial
   | deferred=>trivial
   | gone=>trivial
   | mem=>trivial
   | obj=>trivial
 . rename_i a k l c;rw [q1c] at hv;obtain ⟨A,C,hA,hC,hle,rfl⟩:=hv;simp only [Builtin.lenOf,Sem.run_pure,Result.ok.injEq,and_true] at hn;refine qkb fun e he => ?_
   have key:∀ cl:Cells,e.cells? = some cl->(qqj cl (a.off.den+k.den) n.den f).Sat φ:=by
    intro cl hcl;obtain ⟨ll,vs,hl,hcr,hcell⟩:=q1b hr he hcl;obtain ⟨l',hl',rfl⟩:=SA.zaB hA;rw [hl] at hl'; cases hl';refine qxh hcr fun X hle hX=>hf X ((vs.drop (a.off.den+k.den)).take n.den) (by simp; omega) (fun j hj => ?_) fun w' hw' => ?_
    . rw [List.getElem?_take,if_pos hj,List.getElem?_drop]; exact hX j hj
    . refine qla w' hw' (.inr (.inl ⟨_,_,_,rfl,by simp; omega,fun j y hy => ?_⟩))
      rw [List.getElem?_take] at hy;split at hy
      . rename_i hj;rw [List.getElem?_drop] at hy;have hn':l.den=n.den:=hn;rw [if_neg (by omega),q9a,q9a,Nat.add_assoc,Nat.add_assoc,← Nat.add_assoc a.off.den]; exact hcell _ _ hy
      . cases hy
   cases e with
   | own c w el=>exact key c rfl
   | row c=>exact key c rfl
   | loop=>trivial
   | deferred=>trivial
   | gone=>trivial
   | mem=>trivial
   | obj=>trivial
 . rename_i s;simp only [SV.den,Option.some.injEq] at hv; subst hv;simp only [Builtin.lenOf,Sem.run_pure,Result.ok.injEq,and_true] at hn;have hsz:s.den.data.toList.length=n.den:=by simp; exact hn
   refine hf _ (s.den.data.toList.map fun b=>Value.int .u8 (b.toNat:Int)) (by simpa using hsz) (fun j hj => ?_) fun w' hw'=>qla (w:=w) w' hw' (.inr (.inr ⟨s.den,rfl,?_⟩))
   . have hlt:j<s.den.data.size:=by simpa [← hsz] using hj
     rw [List.getElem?_map,List.getElem?_eq_getElem (by simpa using hlt)]
     simp only [Option.map_some,Array.getElem_toList];rw [Array.getD_eq_getD_getElem?,Array.getElem?_eq_getElem hlt];rfl
   . rw [List.take_of_length_le (by omega)]
 . trivial
theorem qh0 (hr:HeapRel0 P O w0 β H w) {v:SV} {x:Value} (hv:v.den β=some x) {n:SN} {L:Nat} (hn:(Builtin.lenOf x).run P w=.ok L w) (hL:n.den<=L) {f:(Nat->BitVec 8)->R α} {φ:α->Prop}
  (hf:∀ (X:Nat->BitVec 8) (xs:List Value),xs.length=n.den->(∀ j,j<n.den->xs[j]? = some (.int .u8 ((X j).toNat:Int)))->(∀ w':World,w'.heap=w.heap->(Builtin.firstCells 1 n.den x).run P w'=.ok xs.toArray w')->(f X).Sat φ):(qzi H v n f).Sat φ:=by
 unfold qzi;split
 . simp only [SV.den,Option.some.injEq] at hv; subst hv;simp only [Builtin.lenOf,Sem.run_pure,Result.ok.injEq,and_true] at hn;have hz:0=L:=hn;refine hf _ [] (by simp; omega) (fun j hj=>by omega) fun w' hw'=>qla (w:=w) w' hw' (.inl ⟨0,rfl,rfl⟩)
 . rename_i a l c;rw [zaf] at hv;obtain ⟨A,C,hA,hC,_,rfl⟩:=hv;simp only [Builtin.lenOf,Sem.run_pure,Result.ok.injEq,and_true] at hn;refine qkb fun e he => ?_
   have key:∀ cl:Cells,e.cells? = some cl->(qqj cl a.off.den n.den f).Sat φ:=by
    intro cl hcl;obtain ⟨ll,vs,hl,hcr,hcell⟩:=q1b hr he hcl;obtain ⟨l',hl',rfl⟩:=SA.zaB hA;rw [hl] at hl'; cases hl';refine qxh hcr fun X hle hX=>hf X ((vs.drop a.off.den).take n.den) (by simp; omega) (fun j hj => ?_) fun w' hw' => ?_
    . rw [List.getElem?_take,if_pos hj,List.getElem?_drop]; exact hX j hj
    . refine qla w' hw' (.inr (.inl ⟨_,_,_,rfl,by simp; omega,fun j y hy => ?_⟩))
      rw [List.getElem?_take] at hy;split at hy
      . rw [List.getElem?_drop] at hy;rw [q9a,Nat.add_assoc]; exact hcell _ _ hy
      . cases hy
   cases e with
   | own c w el=>exact key c rfl
   | row c=>exact key c rfl
   | loop=>trivial
   | deferred=>trivial
   | gone=>trivial
   | mem=>trivial
   | obj=>trivial
 . rename_i a k l c;rw [q1c] at hv;obtain ⟨A,C,hA,hC,hle,rfl⟩:=hv;simp only [Builtin.lenOf,Sem.run_pure,Result.ok.injEq,and_true] at hn;refine qkb fun e he => ?_
   have key:∀ cl:Cells,e.cells? = some cl->(qqj cl (a.off.den+k.den) n.den f).Sat φ:=by
    intro cl hcl;obtain ⟨ll,vs,hl,hcr,hcell⟩:=q1b hr he hcl;obtain ⟨l',hl',rfl⟩:=SA.zaB hA;rw [hl] at hl'; cases hl';refine qxh hcr fun X hle hX=>hf X ((vs.drop (a.off.den+k.den)).take n.den) (by simp; omega) (fun j hj => ?_) fun w' hw' => ?_
    . rw [List.getElem?_take,if_pos hj,List.getElem?_drop]; exact hX j hj
    . refine qla w' hw' (.inr (.inl ⟨_,_,_,rfl,by simp; omega,fun j y hy => ?_⟩))
      rw [List.getElem?_take] at hy;split at hy
      . rename_i hj;rw [List.getElem?_drop] at hy;have hn':l.den=L:=hn;rw [if_neg (by omega),q9a,q9a,Nat.add_assoc,Nat.add_assoc,← Nat.add_assoc a.off.den]; exact hcell _ _ hy
      . cases hy
   cases e with
   | own c w el=>exact key c rfl
   | row c=>exact key c rfl
   | loop=>trivial
   | deferred=>trivial
   | gone=>trivial
   | mem=>trivial
   | obj=>trivial
 . rename_i s;simp only [SV.den,Option.some.injEq] at hv; subst hv;simp only [Builtin.lenOf,Sem.run_pure,Result.ok.injEq,and_true] at hn;have hsz:n.den<=s.den.data.toList.length:=by have:s.den.data.size=L:=hn; simp; omega
   refine hf _ ((s.den.data.toList.map fun b=>Value.int .u8 (b.toNat:Int)).take n.den) (by rw [List.length_take,List.length_map]; omega) (fun j hj => ?_) fun w' hw'=>qla (w:=w) w' hw' (.inr (.inr ⟨s.den,rfl,?_⟩))
   . have hlt:j<s.den.data.size:=by have:s.den.data.toList.length=s.den.data.size:=by simp
                                    omega
     rw [List.getElem?_take,if_pos hj,List.getElem?_map,List.getElem?_eq_getElem (by simpa using hlt)]
     simp only [Option.map_some,Array.getElem_toList];rw [Array.getD_eq_getD_getElem?,Array.getElem?_eq_getElem hlt];rfl
   . rw [List.map_take]
 . trivial
theorem qv1 {X Y:Nat->BitVec 8} {os xs:List Value} {l n:Nat} (h1:os.length=l) (h2:xs.length=n) (hX:∀ j,j<l->os[j]? = some (.int .u8 ((X j).toNat:Int))) (hY:∀ j,j<n->xs[j]? = some (.int .u8 ((Y j).toNat:Int))) :
  zaj β (.fn (qdh (zgx X l Y)) (l+n)) (os++xs):=by
 refine ⟨by simp [h1,h2],fun i y hy => ?_⟩
 show some (Value.int .u8 ((zgx X l Y i).toNat:Int))=some y;unfold zgx;by_cases hi:i<l
 . rw [if_pos hi];rw [List.getElem?_append_left (by omega),hX i hi] at hy
   exact hy
 . rw [if_neg hi];rw [List.getElem?_append_right (by omega),h1] at hy
   have hlt:=(List.getElem?_eq_some_iff.1 hy).1;rw [hY (i - l) (by omega)] at hy
   exact hy
end
end
noncomputable section
variable {α:Type}
section
variable {P:Program}
def qyb (v:Value):List Value:=match v with | .agg a=>a.toList | v=>[v]
def zen (v:Value):Bool:=match v with | .agg _=>true | _=>false
theorem qi0 (v:SV):(∃ l,v=.agg l)\/∀ {γ:Type} (d:γ) (f:List SV->γ),v.asAgg d f=d:=by
 cases v <;> first | exact .inl ⟨_,rfl⟩ | exact .inr fun _ _=>rfl
theorem q5s {β:Val} {v:SV} {x:Value} (h:v.den β=some x) (hn:∀ y,v≠.val y):SV.zal β (qfe v)=some (qyb x)/\zfE v=zen x:=by
 cases v
 case agg l =>
  simp only [SV.den,Option.map_eq_some_iff] at h;obtain ⟨l,hl,rfl⟩:=h;exact ⟨hl,rfl⟩
 case val y=>exact absurd rfl (hn y)
 all_goals
  have hx:qyb x=[x]/\zen x=false:=by
   simp only [SV.den,Option.map_eq_some_iff,Option.bind_eq_some_iff,Option.some.injEq] at h
   first
    | (subst h; exact ⟨rfl,rfl⟩)
    | (obtain ⟨_,_,rfl⟩:=h; exact ⟨rfl,rfl⟩)
    | (obtain ⟨_,_,_,_,h⟩:=h; rw [qth] at h; obtain ⟨_,rfl⟩:=h; exact ⟨rfl,rfl⟩)
    | (obtain ⟨_,_,_,_,h⟩:=h; rw [q3i] at h; obtain ⟨_,rfl⟩:=h; exact ⟨rfl,rfl⟩)
    | (obtain ⟨_,_,_,_,_,_,rfl⟩:=h; exact ⟨rfl,rfl⟩)
  refine ⟨?_,hx.2.symm⟩;rw [hx.1];exact zae.2 ⟨x,[],h,rfl,rfl⟩
def qof (ks:List CK) (x y:Value):Option Bool:=if zen x=zen y then zbk ks (qyb x) (qyb y) else none
theorem qsr {k:CK} {a:SV} {y:Value}:q4m k a (.val y)=none:=by cases k <;> cases a <;> rfl
theorem qj0 {k:CK} {a:SV} {y:Value}:q4m k (.val y) a=none:=by cases k <;> rfl
theorem q4t {β:Val} {ks:List CK} {a b:SV} {c:SB} {x y:Value} (h:qkl ks a b=some c) (ha:a.den β=some x) (hb:b.den β=some y):qof ks x y=some c.den:=by
 unfold qkl at h;cases hab:(zfE a == zfE b) with
 | false=>rw [hab] at h; cases h
 | true =>
   rw [hab] at h;have h:q0d ks (qfe a) (qfe b)=some c:=h;have hna:∀ y,a≠.val y:=by
    rintro y rfl;have h:q0d ks [SV.val y] (qfe b)=some c:=h;cases ks with
    | nil=>cases hc:qfe b <;> rw [hc] at h <;> cases h
    | cons k ks =>
      cases hc:qfe b with
      | nil=>rw [hc] at h; cases h
      | cons b' bs=>rw [hc] at h; simp [q0d,qj0] at h
   have hnb:∀ y,b≠.val y:=by
    rintro y rfl;have h:q0d ks (qfe a) [SV.val y]=some c:=h;cases ks with
    | nil=>cases hc:qfe a <;> rw [hc] at h <;> cases h
    | cons k ks =>
      cases hc:qfe a with
      | nil=>rw [hc] at h; cases h
      | cons b' bs=>rw [hc] at h; simp [q0d,qsr] at h
   obtain ⟨h1,h2⟩:=q5s ha hna;obtain ⟨h3,h4⟩:=q5s hb hnb;unfold qof;rw [if_pos (by rw [← h2,← h4]; simpa using hab)]
   exact q9j h h1 h3
theorem qpp {x y:Value} (h:zen x=zen y) (hc:qyb x=qyb y):x=y:=by
 cases x <;> cases y <;> first | (simp [qyb] at hc; first | exact hc | (rw [hc.1,hc.2]; done) | skip) | (cases h; done)
 all_goals first | (simp_all; done) | (cases h; done) | skip
theorem qk0 {ks:List CK} {x y:Value} (h:qof ks x y=some true):x=y:=by
 unfold qof at h;split at h
 . rename_i ha; exact qpp ha (q2t h)
 . cases h
def quk (v:Value):Prop:=match v with | .int _ _=>True | .bool _=>True | .string _=>True | _=>False
theorem qtr:∀ {ks:List CK} {xs ys:List Value} {r:Bool},zbk ks xs ys=some r->∀ x∈xs,quk x
 | [],[],[],_,_=>by simp
 | k::ks,x::xs,y::ys,r,h=>by
   simp only [zbk,Option.bind_eq_some_iff,Option.map_eq_some_iff] at h;obtain ⟨a,ha,b,hb,_⟩:=h;intro z hz;rcases List.mem_cons.1 hz with rfl | hz
   . unfold zcW at ha;split at ha <;> first | trivial | (cases ha; done)
   . exact qtr hb z hz
 | [],[],_::_,_,h=>by simp [zbk] at h
 | [],_::_,_,_,h=>by simp [zbk] at h
 | _::_,[],_,_,h=>by simp [zbk] at h
 | _::_,_::_,[],_,h=>by simp [zbk] at h
theorem qvk {v:Value} (h:quk v) (n:Nat):Instr.sameBits n v v=true:=by
 cases v <;> first | (cases h; done) | (cases n <;> simp [Instr.sameBits,MapKept.bytes_beq])
theorem qux {v:Value} (h:∀ x∈qyb v,quk x) (n:Nat):Instr.sameBits (n+1) v v=true:=by
 cases v
 case agg a =>
  simp only [Instr.sameBits,beq_self_eq_true,Bool.true_and,List.all_eq_true];rintro ⟨x,y⟩ hxy;have hz:∀ (l:List Value),(∀ x∈l,quk x)->∀ p∈l.zip l,Instr.sameBits n p.1 p.2=true:=by
   intro l;induction l with
   | nil=>intro _ p hp; cases hp
   | cons c l ih =>
     intro hl p hp;rcases List.mem_cons.1 hp with rfl | hp
     . exact qvk (hl c List.mem_cons_self) n
     . exact ih (fun x hx=>hl x (List.mem_cons_of_mem _ hx)) p hp
  exact hz a.toList h (x,y) hxy
 all_goals exact qvk (h _ List.mem_cons_self) (n+1)
theorem q5t {w:World} {v:Value} (h:∀ x∈qyb v,quk x):(Instr.keyThatStays v v).run P w=.ok v w:=by
 unfold Instr.keyThatStays;rw [qux h 9999];rfl
def qjc (ks:List CK) (x:Value):List MapEntry->Nat->Option (Option (Nat × MapEntry))
 | [],_=>some none
 | e::es,i=>(qof ks x e.key).bind fun b=>if b=true then some (some (i,e)) else qjc ks x es (i+1)
def zcU (P:Program) (t:TypeId) (x:Value):Prop:=∀ d,P.underlying t=some d->qcc d=zen x
theorem zcU.toV {t:TypeId} {x:Value} (h:zcU P t x):qie P t x (qyb x):=by
 intro d hd;have:=h d hd;rw [this];cases x <;> simp [zen,qyb]
theorem qqp {w:World} {kt:TypeId} {ks:List CK} (hk:q2b P 8 kt=some ks) {x:Value} (hx:zcU P kt x):∀ (vs:List MapEntry) (i:Nat) (r:Option (Nat × MapEntry)),qjc ks x vs i=some r->(Instr.findAsking kt x vs i).run P w=.ok (r.map fun p=>(p.1,p.2.val)) w
 | [],i,r,h=>by cases h; rfl
 | e::es,i,r,h=>by
   simp only [qjc,Option.bind_eq_some_iff] at h;obtain ⟨b,hb,h⟩:=h;have hb':=hb;unfold qof at hb';split at hb'
   . rename_i ha;have hy:zcU P kt e.key:=fun d hd=>(hx d hd).trans ha;have hrun:=qhn (w:=w) 8 kt ks hk 10000 (by omega) _ _ _ _ _ hx.toV hy.toV hb'
     have hrun:(Op.equal kt x e.key).run P w=.ok b w:=hrun;simp only [Instr.findAsking,Sem.run_bind,hrun,Result.andThen_ok];cases b
     . rw [if_neg (by simp)] at h
       simpa using qqp hk hx es (i+1) r h
     . rw [if_pos rfl] at h;cases h;rfl
   . cases hb'
theorem ql0 {kt:TypeId} {ks:List CK} {d:TypeDesc} (hk:q2b P 8 kt=some ks) (hd:P.underlying kt=some d) (ha:qcc d=false):(d=.bool/\ks=[.b])\/(∃ q,d=.int q/\ks=[.i])\/(d=.string/\ks=[.s]):=by
 simp only [q2b,Option.bind_eq_some_iff] at hk;obtain ⟨k,hk',h⟩:=hk;rw [hd] at hk'; cases hk';cases d <;> first | (cases h; done) | (cases ha; done) | skip
 . cases h; exact .inl ⟨rfl,rfl⟩
 . cases h; exact .inr (.inl ⟨_,rfl,rfl⟩)
 . cases h; exact .inr (.inr ⟨rfl,rfl⟩)
theorem qn4 {d:TypeDesc} {ks:List CK} (hc:(d=.bool/\ks=[.b])\/(∃ q,d=.int q/\ks=[.i])\/(d=.string/\ks=[.s])) {x y:Value} {b:Bool} (h:zbk ks [x] [y]=some b):Instr.sameNow d x y=some b:=by
 rcases hc with ⟨rfl,rfl⟩ | ⟨q,rfl,rfl⟩ | ⟨rfl,rfl⟩
 . simp only [zbk,Option.bind_eq_some_iff,Option.map_eq_some_iff,Option.some.injEq] at h;obtain ⟨a,h1,b',rfl,rfl⟩:=h;cases x <;> cases y <;> simp only [zcW,reduceCtorEq,Option.some.injEq] at h1
   subst h1;simp [Instr.sameNow]
 . simp only [zbk,Option.bind_eq_some_iff,Option.map_eq_some_iff,Option.some.injEq] at h;obtain ⟨a,h1,b',rfl,rfl⟩:=h;cases x <;> cases y <;> simp only [zcW,reduceCtorEq] at h1
   split at h1
   . rename_i hk;cases h1;simp [Instr.sameNow,hk]
   . cases h1
 . simp only [zbk,Option.bind_eq_some_iff,Option.map_eq_some_iff,Option.some.injEq] at h;obtain ⟨a,h1,b',rfl,rfl⟩:=h;cases x <;> cases y <;> simp only [zcW,reduceCtorEq,Option.some.injEq] at h1
   subst h1;simp only [Instr.sameNow,Bool.and_true,Option.some.injEq];rw [Bool.eq_iff_iff,MapKept.bytes_beq,decide_eq_true_iff]
theorem qvx {kt:TypeId} {ks:List CK} {d:TypeDesc} (hk:q2b P 8 kt=some ks) (hd:P.underlying kt=some d) (ha:qcc d=false) {x:Value} (hx:zcU P kt x):∀ (vs:List MapEntry) (i:Nat) (r:Option (Nat × MapEntry)),qjc ks x vs i=some r->Instr.findNow d x vs i=some (r.map fun p=>(p.1,p.2.val))
 | [],i,r,h=>by cases h; rfl
 | e::es,i,r,h=>by
   simp only [qjc,Option.bind_eq_some_iff] at h;obtain ⟨b,hb,h⟩:=h;have hsame:Instr.sameNow d x e.key=some b:=by
    unfold qof at hb;split at hb
    . rename_i hag;have hxa:zen x=false:=(hx d hd).symm.trans ha;have hea:zen e.key=false:=hag.symm.trans hxa;have c1:qyb x=[x]:=by cases x <;> first | rfl | (cases hxa; done)
      have c2:qyb e.key=[e.key]:=by
       generalize e.key=y at hea;cases y <;> first | rfl | (cases hea; done)
      rw [c1,c2] at hb;exact qn4 (ql0 hk hd ha) hb
    . cases hb
   unfold Instr.findNow;rw [hsame];cases b
   . rw [if_neg (by simp)] at h
     exact qvx hk hd ha hx es (i+1) r h
   . rw [if_pos rfl] at h; cases h; rfl
theorem q3c {w:World} {kt:TypeId} {ks:List CK} (hk:q2b P 8 kt=some ks) {x:Value} (hx:zcU P kt x) {vs:List MapEntry} {r:Option (Nat × MapEntry)} (h:qjc ks x vs 0=some r) :
  (Instr.findKey kt x vs).run P w=.ok (r.map fun p=>(p.1,p.2.val)) w:=by
 obtain ⟨d,hd,_⟩:=qfn hk;cases ha:qcc d with
 | false =>
   have:=qvx hk hd ha hx vs 0 r h;simp [Instr.findKey,qba hd,this]
 | true =>
   rw [run_findKey_eq w (by rw [hd]; cases d <;> first | rfl | (cases ha; done))]
   exact qqp hk hx vs 0 r h
theorem qrp {w:World} {em:Bool} {D:Nat} {e:TypeId} {ks:List CK} {d:Nat} (hk:q2b P d e=some ks) (hc:∀ x xs,qie P e x xs->xs.length=ks.length->(Instr.checkKey em D e x).run P w=.ok () w) {i:TypeInfo} (hi:P.info? e=some i) (hs:i.size=ks.length) {xs:List Value} :
  ∀ (m s:Nat),(s+m) * ks.length<=xs.length->((forIn (List.range' s m) PUnit.unit fun j (_:PUnit)=>do
    let c ← sizeOf e
    let a ← part e xs.toArray (j * c)
    Instr.checkKey em D e a
    pure (ForInStep.yield PUnit.unit)):Sem PUnit).run P w=.ok PUnit.unit w
 | 0,s,_=>by simp
 | m+1,s,hle=>by
   have hl:((xs.drop (s * ks.length)).take ks.length).length=ks.length:=by
    rw [List.length_take,List.length_drop];have:(s+(m+1)) * ks.length=s * ks.length+m * ks.length+ks.length:=by rw [Nat.add_mul,Nat.add_mul]; omega
    omega
   obtain ⟨a,ha,sa⟩:=qbf (w:=w) hk hl;have ih:=qrp hk hc hi hs (xs:=xs) m (s+1) (by rw [show s+1+m=s+(m+1) from by omega]; exact hle)
   rw [List.range'_succ,List.forIn_cons];simp only [Sem.run_bind,qya hi,hs,Result.andThen_ok,ha,hc _ _ sa hl,Sem.run_pure];exact ih
theorem qon {w:World} {em:Bool} {D d:Nat} (hc:∀ e ks,q2b P d e=some ks->∀ x xs,qie P e x xs->xs.length=ks.length->(Instr.checkKey em D e x).run P w=.ok () w) {xs:List Value} :
  ∀ (fs:List Field) (off:Nat) (ks:List CK),q1f (fun e=>q2b P d e) fs off=some ks->off+ks.length<=xs.length->((forIn fs PUnit.unit fun f (_:PUnit)=>do
    if f.name ≠ "_" then
     let a ← part f.type xs.toArray f.offset
     Instr.checkKey em D f.type a
     pure (ForInStep.yield PUnit.unit)
    else pure (ForInStep.yield PUnit.unit)):Sem PUnit).run P w=.ok PUnit.unit w
 | [],off,ks,_,_=>by simp
 | f::fs,off,ks,hk,hle=>by
   simp only [q1f,Option.bind_eq_some_iff] at hk;obtain ⟨ls,hls,hk⟩:=hk;split at hk
   . rename_i hcn;obtain ⟨ho,hn⟩:=hcn;simp only [Option.map_eq_some_iff] at hk;obtain ⟨ms,hms,rfl⟩:=hk;rw [q7a,List.length_append] at hle;rw [qha] at hms;have hl:((xs.drop f.offset).take ls.length).length=ls.length:=by
      rw [List.length_take,List.length_drop,ho]; omega
     obtain ⟨a,ha,sa⟩:=qbf (w:=w) hls hl;have ih:=qon hc (xs:=xs) fs _ ms hms (by omega)
     rw [List.forIn_cons];simp only [Sem.run_bind,ne_eq,hn,not_false_eq_true,if_true,ha,Result.andThen_ok,hc _ _ hls _ _ sa hl,Sem.run_pure];exact ih
   . cases hk
theorem qo4 {w:World} {em:Bool}:∀ (d:Nat) (t:TypeId) (ks:List CK),q2b P d t=some ks->∀ D,d<=D->∀ (x:Value) (xs:List Value),qie P t x xs->xs.length=ks.length->(Instr.checkKey em D t x).run P w=.ok () w:=by
 intro d;induction d with
 | zero=>intro t ks h; cases h
 | succ d ih =>
   intro t ks h D hD x xs hx hl;obtain ⟨D,rfl⟩:∃ D',D=D'+1:=⟨D - 1,by omega⟩
   simp only [q2b,Option.bind_eq_some_iff] at h;obtain ⟨k,hk,h⟩:=h;have hx:=hx k hk;have hu:=qba (w:=w) hk;unfold Instr.checkKey;simp only [Sem.run_bind,hu,Result.andThen_ok];cases k <;> first | (cases h; done) | skip
   case bool=>rfl
   case int=>rfl
   case string=>rfl
   case array n e =>
    simp only [Option.bind_eq_some_iff] at h;obtain ⟨ls,hls,i,hi,h⟩:=h;split at h
    . rename_i hsz;obtain ⟨rfl,_⟩:=qme h;rw [if_pos (by simp [qcc])] at hx
      subst hx;rw [qha] at hsz;have hlen:∀ n:Nat,(zgj ls n).length=n * ls.length:=by
       intro n;induction n with
       | zero=>show ([]:List CK).length=_; simp
       | succ n ihn =>
         show (app ls (zgj ls n)).length=_;rw [q7a,List.length_append,ihn,Nat.add_mul]; omega
      rw [hlen] at hl;have:=qrp (w:=w) (em:=em) (D:=D) hls (fun x xs sx hxl=>ih e ls hls D (by omega) x xs sx hxl) hi hsz (xs:=xs) n 0 (by rw [Nat.zero_add]; omega)
      simp only [Std.Legacy.Range.forIn_eq_forIn_range',Std.Legacy.Range.size,Nat.sub_zero,Nat.add_one_sub_one,Nat.div_one];simpa using this
    . cases h
   case struct fs =>
    simp only at h;split at h
    . cases h
    . simp only [Option.bind_eq_some_iff] at h;obtain ⟨ls,hls,h⟩:=h;obtain ⟨rfl,_⟩:=qme h;rw [if_pos (by simp [qcc])] at hx
      subst hx;have:=qon (w:=w) (em:=em) (D:=D) (fun e ks he x xs sx hxl=>ih e ks he D (by omega) x xs sx hxl) (xs:=xs) fs.toList 0 _ hls (by omega)
      dsimp only
      rw [← Array.forIn_toList];simpa using this
end
end
noncomputable section
variable {α:Type}
theorem Eff.zeD {P:Program} {β:Val} {w:World} {base n:Nat} {l:Loc} {o:zaW} {x y:Obj} (hl:β n=some l) (h0:l.off=0) (hb:w.heap[l.blk]? = some y) (hd:o.den β=some x) :
  Eff P β w base [(n,.obj o)] [] β { w with heap:=w.heap.setIfInBounds l.blk x }:=by
 have hlt:l.blk<w.heap.size:=(Array.getElem?_eq_some_iff.1 hb).1;exact Eff.turn hl ⟨l,x,hl,h0,hd,by simp [hlt]⟩
theorem zaz.drew {P:Program} {β:Val} {w:World} {n:Nat} {e:SO} (h:zaz P β w n e) (d:Nat):zaz P β { w with drawn:=d } n e:=by cases e <;> exact h
theorem Eff.drew {P:Program} {β β':Val} {w w':World} {base:Nat} {sets:List (Nat × SO)} {news:List SO} (h:Eff P β w base sets news β' w') (d:Nat) (hd:w'.drawn<=d):Eff P β w base sets news β' { w' with drawn:=d } :=
 ⟨h.le,h.os,h.tape,h.output,Nat.le_trans h.drawn hd,h.size,h.dom,h.frame,h.one,fun n e hn=>(h.turned n e hn).drew d,fun i e he=>let ⟨a,b,c⟩:=h.made i e he; ⟨a,b.drew d,c⟩,h.apart⟩
theorem Eff.zfD {P:Program} {β:Val} {w w':World} {base:Nat} {o:zaW} {x:Obj} (hb:β base=Option.none)
  (hh:w'.heap=w.heap.push x) (ho:w'.os=w.os) (ht:w'.tape=w.tape) (hu:w'.output=w.output) (hd:o.den β=some x) (hdr:w.drawn<=w'.drawn:=by first | exact Nat.le_refl _ | exact Nat.le_succ _ | exact Nat.le_succ_of_le (Nat.le_succ _)) :
  Eff P β w base [] [.obj o] (β.upd base ⟨w.heap.size,0,0⟩) w' where
 le:=Val.zbh hb
 os:=ho
 tape:=ht
 output:=hu
 drawn:=hdr
 size:=by rw [hh]; simp
 dom:=fun n hn=>by
  unfold Val.upd;rw [if_neg]; simp at hn; omega
 frame:=fun b hb _ _=>by rw [hh,Array.getElem?_push,if_neg (by omega)]
 one:=by simp
 turned:=by simp
 made:=fun i e he=>by
  cases i with
  | zero =>
    simp at he; subst he;refine ⟨rfl,⟨⟨w.heap.size,0,0⟩,x,Val.upd_same _ _ _,rfl,zaW.zav (Val.zbh hb) hd,?_⟩,_,Val.upd_same _ _ _,.inl (Nat.le_refl _)⟩;rw [hh]; simp
  | succ i=>simp at he
 apart:=fun i j l l' hij hi hj=>by simp at hi hj; omega
section
variable {P:Program} {O:Nat->Prop} {w0:World} {β:Val} {H:List SO} {w:World} {base:Nat}
variable {ev:Operand->SV} {ρ:Operand->Value} {dst:Option Tmp} {t:TypeId} {pos:String} {af:Array Edge} {g:Option (Nat × Bool)}
theorem qaq (hr:HeapRel0 P O w0 β H w) {v:SV} {x:Value} (hv:v.den β=some x) {nil:R α} {f:Nat->List (SV × SV × Nat)->Nat->R α} {φ:α->Prop} (h0:x=.map none->nil.Sat φ)
  (h:∀ nm es c l vs,v=.map nm->x=.map (some l.blk)->β nm=some l->l.off=0->H[nm]? = some (.obj (.map es c))->qma β es=some vs->w.heap[l.blk]? = some (.map vs.toArray c)->(f nm es c).Sat φ):(zgS H v nil f).Sat φ:=by
 unfold zgS;split
 . cases hv; exact h0 rfl
 . rename_i nm;split
   . rename_i es c he;rw [qda] at he;obtain ⟨l,o,hl,hz,hd,hh⟩:=hr.entries _ _ he;simp only [zaW.den,Option.map_eq_some_iff] at hd;obtain ⟨vs,hvs,rfl⟩:=hd;simp only [SV.den,hl,Option.map_some,Option.some.injEq] at hv;exact h nm es c l vs rfl hv.symm hl hz he hvs hh
   . trivial
 . trivial
theorem qaj (hr:HeapRel0 P O w0 β H w) {v:SV} {x:Value} (hv:v.den β=some x) {nil:R α} {f:Nat->List (SV × SV × Nat)->Nat->R α} {g:Nat->MSh->MSh->List MapEntry->Nat->R α} {φ:α->Prop} (h0:x=.map none->nil.Sat φ)
  (h:∀ nm es c l vs,v=.map nm->x=.map (some l.blk)->β nm=some l->l.off=0->H[nm]? = some (.obj (.map es c))->qma β es=some vs->w.heap[l.blk]? = some (.map vs.toArray c)->(f nm es c).Sat φ)
  (hA:∀ nm kS vS es c l,v=.map nm->x=.map (some l.blk)->β nm=some l->l.off=0->H[nm]? = some (.obj (.zaU kS vS es c))->(∀ e∈es,kS.fit e.key/\vS.fit e.val)->w.heap[l.blk]? = some (.map es.toArray c)->(g nm kS vS es c).Sat φ):(zfV H v nil f g).Sat φ:=by
 unfold zfV;split
 . cases hv; exact h0 rfl
 . rename_i nm;split
   . rename_i es c he;rw [qda] at he;obtain ⟨l,o,hl,hz,hd,hh⟩:=hr.entries _ _ he;simp only [zaW.den,Option.map_eq_some_iff] at hd;obtain ⟨vs,hvs,rfl⟩:=hd;simp only [SV.den,hl,Option.map_some,Option.some.injEq] at hv;exact h nm es c l vs rfl hv.symm hl hz he hvs hh
   . rename_i kS vS es c he;rw [qda] at he;obtain ⟨l,o,hl,hz,hd,hh⟩:=hr.entries _ _ he;obtain ⟨hfit,rfl⟩:=zaW.za2.1 hd;simp only [SV.den,hl,Option.map_some,Option.some.injEq] at hv;exact hA nm kS vS es c l rfl hv.symm hl hz he hfit hh
   . trivial
 . trivial
theorem qwx (b:BitVec 8):BitVec.ofInt 8 (b.toNat:Int)=b:=by simp
theorem qbv (b:BitVec 32):BitVec.ofInt 32 (b.toNat:Int)=b:=by simp
theorem qcv (b:BitVec 64):BitVec.ofInt 64 (b.toNat:Int)=b:=by simp
theorem q6t {k:SK} {v:SV} {y:Value} (h:ze3 k v=true) (hv:zcX v=some y):zdb k y:=by
 unfold ze3 at h;split at h
 . rename_i n;cases hn:si8 n with
   | none=>rw [hn] at h; cases h
   | some b =>
     cases hv;intro β;show some (Value.int .u8 ((BitVec.ofInt 8 n.den).toNat:Int))=_;rw [q7p hn,qwx]
 . rename_i b;cases hv;intro β;show some (Value.int .u32 ((BitVec.ofInt 32 (b.toNat:Int)).toNat:Int))=_;rw [qbv]; rfl
 . rename_i b;cases hv;intro β;show some (Value.int .u64 ((BitVec.ofInt 64 (b.toNat:Int)).toNat:Int))=_;rw [qcv]; rfl
 . cases hv; exact fun _=>rfl
 . cases hv; exact fun _=>rfl
 . cases hv; exact fun _=>rfl
 . cases h
theorem qj7 {v:SV} (h:ze3 .v v=true):False:=by
 unfold ze3 at h;split at h <;> first | (rename_i h1 _; cases h1; done) | (rename_i h1; cases h1; done) | (cases h; done) | skip
theorem qxx {q:IntKind} {x:Value} (h:zdb (.i q) x):x=.int q (siK q (zfK x)).den:=(Option.some.inj (show some (Value.int q (siK q (zfK x)).den)=some x from h fun _=>none)).symm
theorem qyx {x:Value} (h:zdb .b x):x=.bool (zeA x):=(Option.some.inj (show some (Value.bool (zeA x))=some x from h fun _=>none)).symm
theorem qzx {x:Value} (h:zdb .s x):x=.string (zd5 x):=(Option.some.inj (show some (Value.string (zd5 x))=some x from h fun _=>none)).symm
theorem jca {k:SK} {c:CK} {a b:Value} (hk:k≠.v) (ha:zdb k a) (hb:zdb k b) {r:Bool} (h:zcW c a a=some r):zcW c a b=some (@decide (a=b) (Classical.propDecidable _)):=by
 cases k with
 | v=>exact absurd rfl hk
 | i q =>
   have ha:=qxx ha;have hb:=qxx hb;generalize (siK q (zfK a)).den=m at ha;generalize (siK q (zfK b)).den=n at hb;subst ha hb;cases c <;> simp only [zcW,reduceCtorEq] at h
   simp only [zcW,if_true,Option.some.injEq];rw [Bool.eq_iff_iff];simp
 | b =>
   have ha:=qyx ha;have hb:=qyx hb;generalize zeA a=m at ha;generalize zeA b=n at hb;subst ha hb;cases c <;> simp only [zcW,reduceCtorEq] at h
   simp only [zcW,Option.some.injEq];rw [Bool.eq_iff_iff];simp
 | s =>
   have ha:=qzx ha;have hb:=qzx hb;generalize zd5 a=m at ha;generalize zd5 b=n at hb;subst ha hb;cases c <;> simp only [zcW,reduceCtorEq] at h
   simp only [zcW,Option.some.injEq];rw [Bool.eq_iff_iff];simp
def qyl:List SK->List Value->Prop
 | [],[]=>True
 | k::ks,x::xs=>zdb k x/\qyl ks xs
 | _,_=>False
theorem qur:∀ {ks:List SK} {l:List SV} {xs:List Value},qrj ks l=true->qnc l=some xs->qyl ks xs/\.v ∉ ks
 | [],[],xs,_,h=>by cases h; exact ⟨trivial,by simp⟩
 | k::ks,v::l,xs,hf,h=>by
   have hf:zab (ze3 k v) (qrj ks l) false=true:=hf;cases h1:ze3 k v with
   | false=>rw [h1] at hf; cases hf
   | true =>
     rw [h1] at hf;have hf:qrj ks l=true:=hf;have h:(zah (zcX v) none fun x=>zah (qnc l) none fun xs=>some (x::xs))=some xs:=h;cases h2:zcX v with
     | none=>rw [h2] at h; cases h
     | some x =>
       rw [h2] at h;have h:(zah (qnc l) none fun xs=>some (x::xs))=some xs:=h;cases h3:qnc l with
       | none=>rw [h3] at h; cases h
       | some us =>
         rw [h3] at h; cases h;obtain ⟨h4,h5⟩:=qur hf h3;refine ⟨⟨q6t h1 h2,h4⟩,?_⟩;simp only [List.mem_cons,not_or];exact ⟨fun e=>qj7 (e▸h1),h5⟩
 | [],_::_,_,h,_=>by cases h
 | _::_,[],_,h,_=>by cases h
theorem q7t {xs:List Value} {j:Nat}:qnq (.agg xs.toArray) j=xs.getD j undef:=rfl
theorem q8t {β:Val} {xs:List Value}:∀ {ks:List SK} {ys:List Value} {j:Nat},qyl ks ys->(∀ i,xs.getD (j+i) undef=ys.getD i undef)->SV.zal β (qko (.agg xs.toArray) ks j)=some ys
 | [],[],_,_,_=>rfl
 | k::ks,y::ys,j,h,hx=>by
   refine zae.2 ⟨y,ys,?_,q8t h.2 fun i => ?_,rfl⟩
   . rw [q7t];have:=hx 0;rw [Nat.add_zero] at this;rw [this];exact h.1 β
   . have:=hx (i+1);rw [show j+1+i=j+(i+1) from by omega,this]; rfl
 | [],_::_,_,h,_=>h.elim
 | _::_,[],_,h,_=>h.elim
theorem q9t {xs:List Value}:∀ {ks:List SK} {ys:List Value} {j:Nat},(∀ β,SV.zal β (qko (.agg xs.toArray) ks j)=some ys)->(∀ i,xs.getD (j+i) undef=ys.getD i undef)->qyl ks ys
 | [],ys,_,h,_=>by
   have:=Option.some.inj (h fun _=>none);subst this; trivial
 | k::ks,ys,j,h,hx=>by
   obtain ⟨y,zs,hy,hzs,rfl⟩:=zae.1 (h fun _=>none);have hy':qnq (.agg xs.toArray) j=y:=by
    rw [q7t];have:=hx 0;rw [Nat.add_zero] at this;exact this
   refine ⟨fun β => ?_,q9t (xs:=xs) (j:=j+1) (fun β => ?_) fun i => ?_⟩
   . obtain ⟨y',zs',h1,h2,h3⟩:=zae.1 (h β);cases h3;rw [hy'] at h1; exact h1
   . obtain ⟨y',zs',h1,h2,h3⟩:=zae.1 (h β);cases h3;exact h2
   . have:=hx (i+1);rw [show j+1+i=j+(i+1) from by omega,this]; rfl
theorem MSh.zdz {s:MSh} {x:Value} (h:s.fit x) (hone:s.agg=false->∃ k,s.cells=[k]/\k≠.v):zen x=s.agg/\qyl s.cells (qyb x):=by
 obtain ⟨ag,ks⟩:=s;cases ag with
 | true =>
   have h0:=h fun _=>none;have h0:((SV.zal (fun _=>none) (qko x ks 0)).map fun l=>Value.agg l.toArray)=some x:=h0;rw [Option.map_eq_some_iff] at h0;obtain ⟨ys,hys,rfl⟩:=h0;refine ⟨rfl,?_⟩;refine q9t (xs:=ys) (ys:=ys) (j:=0) (fun β => ?_) fun i=>by rw [Nat.zero_add]
   have hb:((SV.zal β (qko (.agg ys.toArray) ks 0)).map fun l=>Value.agg l.toArray)=some (.agg ys.toArray):=h β;rw [Option.map_eq_some_iff] at hb;obtain ⟨zs,hzs,he⟩:=hb;have:zs=ys:=by
    have:=congrArg (fun v=>match v with | Value.agg a=>a.toList | _=>[]) he
    simpa using this
   rw [this] at hzs; exact hzs
 | false =>
   obtain ⟨k,hk,hv⟩:=hone rfl;have hk:ks=[k]:=hk;subst hk;have hf:zdb k x:=h;have key:zen x=false/\qyb x=[x]:=by
    cases k with
    | v=>exact absurd rfl hv
    | i q=>rw [qxx hf]; exact ⟨rfl,rfl⟩
    | b=>rw [qyx hf]; exact ⟨rfl,rfl⟩
    | s=>rw [qzx hf]; exact ⟨rfl,rfl⟩
   rw [key.2];exact ⟨key.1,hf,trivial⟩
theorem qzl {s:MSh} {v:SV} {K:Value} (h:qjl s v=some K):(∀ β,v.den β=some K)/\s.fit K/\.v ∉ s.cells/\(s.agg=false->∃ k,s.cells=[k]/\k≠.v):=by
 obtain ⟨ag,ks⟩:=s;cases ag with
 | true =>
   have h:(v.asAgg none fun l=>zab (qrj ks l) ((qnc l).map fun xs=>.agg xs.toArray) none)=some K:=h;rcases qi0 v with ⟨l,rfl⟩ | hno
   . have h:zab (qrj ks l) ((qnc l).map fun xs=>Value.agg xs.toArray) none=some K:=h;cases hf:qrj ks l with
     | false=>rw [hf] at h; cases h
     | true =>
       rw [hf] at h;have h:(qnc l).map (fun xs=>Value.agg xs.toArray)=some K:=h;rw [Option.map_eq_some_iff] at h;obtain ⟨xs,hxs,rfl⟩:=h;obtain ⟨h1,h2⟩:=qur hf hxs;refine ⟨fun β => ?_,fun β => ?_,h2,fun h=>by cases h⟩
       . show (SV.zal β l).map _=_;rw [qix hxs β]; rfl
       . show (SV.zal β (qko (.agg xs.toArray) ks 0)).map _=_;rw [q8t h1 fun i=>by rw [Nat.zero_add]]; rfl
   . rw [hno] at h; cases h
 | false =>
   cases ks with
   | nil=>cases h
   | cons k r =>
     cases r with
     | cons=>cases h
     | nil =>
       have h:zab (ze3 k v) (zcX v) none=some K:=h;cases hf:ze3 k v with
       | false=>rw [hf] at h; cases h
       | true =>
         rw [hf] at h;have h:zcX v=some K:=h;have hkv:k≠.v:=fun e=>qj7 (e▸hf);refine ⟨q0s h,q6t hf h,?_,fun _=>⟨k,rfl,hkv⟩⟩;simpa using fun e=>hkv e.symm
theorem qvr:∀ {ks:List SK} {cs:List CK} {xs ys:List Value},.v ∉ ks->qyl ks xs->qyl ks ys->∀ {r:Bool},zbk cs xs xs=some r->zbk cs xs ys=some (@decide (xs=ys) (Classical.propDecidable _))
 | [],cs,[],[],_,_,_,r,h=>by
   cases cs with
   | nil=>simp [zbk]
   | cons=>simp [zbk] at h
 | k::ks,cs,x::xs,y::ys,hv,hx,hy,r,h=>by
   cases cs with
   | nil=>simp [zbk] at h
   | cons c cs =>
     simp only [zbk,Option.bind_eq_some_iff,Option.map_eq_some_iff] at h ⊢;obtain ⟨a,ha,b,hb,_⟩:=h;simp only [List.mem_cons,not_or] at hv;refine ⟨_,jca (fun e=>hv.1 e.symm) hx.1 hy.1 ha,_,qvr hv.2 hx.2 hy.2 hb,?_⟩;rw [Bool.eq_iff_iff];simp
 | [],_,_::_,_,_,h,_,_,_=>h.elim
 | [],_,[],_::_,_,_,h,_,_=>h.elim
 | _::_,_,[],_,_,h,_,_,_=>h.elim
 | _::_,_,_::_,[],_,_,h,_,_=>h.elim
theorem qp4 {s:MSh} {cs:List CK} {x y:Value} (hv:.v ∉ s.cells) (hone:s.agg=false->∃ k,s.cells=[k]/\k≠.v) (hx:s.fit x) (hy:s.fit y) {r:Bool} (h:zbk cs (qyb x) (qyb x)=some r):qof cs x y=some (qvc x ⟨y,undef,0⟩):=by
 obtain ⟨h1,h2⟩:=MSh.zdz hx hone;obtain ⟨h3,h4⟩:=MSh.zdz hy hone;unfold qof;rw [if_pos (by rw [h1,h3]),qvr hv h2 h4 h]
 congr 1;unfold qvc;rw [Bool.eq_iff_iff];simp only [decide_eq_true_eq];constructor
 . intro e; exact (qpp (by rw [h1,h3]) e).symm
 . intro e; rw [e]
theorem qwr {s:MSh} {cs:List CK} {x:Value} (hv:.v ∉ s.cells) (hone:s.agg=false->∃ k,s.cells=[k]/\k≠.v) (hx:s.fit x) {r:Bool} (h:zbk cs (qyb x) (qyb x)=some r):∀ {es:List MapEntry} {i:Nat},(∀ e∈es,s.fit e.key)->qjc cs x es i=some ((es.findIdx? (qvc x)).bind fun j=>(es[j]?).map fun e=>(i+j,e))
 | [],i,_=>rfl
 | e::es,i,he=>by
   have h1:=qp4 hv hone hx (he e List.mem_cons_self) h;have h2:qvc x ⟨e.key,undef,0⟩=qvc x e:=rfl;rw [h2] at h1;simp only [qjc,h1,Option.bind_some,List.findIdx?_cons];cases qvc x e with
   | true=>simp
   | false =>
     simp only [Bool.false_eq_true,if_false];rw [qwr hv hone hx h (fun e' h'=>he e' (List.mem_cons_of_mem _ h'))];congr 1;cases hf:es.findIdx? (qvc x) with
     | none=>rfl
     | some j =>
       simp only [Option.bind_some,Option.map_some];rw [List.getElem?_cons_succ];cases es[j]? with
       | none=>rfl
       | some e=>simp; omega
structure zeU (P:Program) (t:TypeId) (x:Value) (kt et:TypeId) (ks:List CK):Prop where
 map:P.underlying t=some (.map kt et)
 kinds:q2b P 8 kt=some ks
 shape:zcU P kt x
 plain:∀ y∈qyb x,quk y
 len:(qyb x).length=ks.length
 self:∃ r,zbk ks (qyb x) (qyb x)=some r
theorem q0l {ty:TypeId} {k:SV} {x:Value} (hk:k.den β=some x) {f:TypeId->List CK->R α} {φ:α->Prop} (h:∀ kt et ks,zeU P ty x kt et ks->(f et ks).Sat φ):(zgU P ty k f).Sat φ:=by
 refine R.Sat.opt fun d hd => ?_
 split
 . rename_i kt et;refine R.Sat.opt fun kd hkd=>R.Sat.opt fun ks hks=>R.Sat.opt fun b hb=>R.Sat.zab (fun ha => ?_) fun _=>trivial;have hs:=q4t hb hk hk;unfold qof at hs;rw [if_pos rfl] at hs;have hag:zfE k=zen x:=by
    have hn:∀ y,k≠.val y:=by
     rintro y rfl;unfold qkl at hb;cases hks':ks with
     | nil=>rw [hks'] at hb; cases hb
     | cons c cs=>rw [hks'] at hb; simp [qfe,SV.asAgg,zfE,zab,q0d,qsr] at hb
    exact (q5s hk hn).2
   refine h kt et ks ⟨hd,hks,fun d hd' => ?_,qtr hs,(qjh hs).1,⟨_,hs⟩⟩;rw [hkd] at hd'; cases hd';rw [← hag]; simpa using ha
 . trivial
theorem zeU.check {ty:TypeId} {x:Value} {kt et:TypeId} {ks:List CK} (h:zeU P ty x kt et ks) (e:Bool):(Instr.checkKey e 10000 kt x).run P w=.ok () w :=
 qo4 8 kt ks h.kinds 10000 (by omega) x _ h.shape.toV h.len
theorem q3g {es:List (SV × SV × Nat)}:∀ {vs:List MapEntry},qma β es=some vs->vs.length=es.length:=by
 induction es with
 | nil=>intro vs h; cases h; rfl
 | cons a r ih =>
   intro vs h;simp only [qma,Option.bind_eq_some_iff,Option.map_eq_some_iff] at h;obtain ⟨k,hk,v,hv,rs,hr,rfl⟩:=h;simp [ih hr]
theorem qbk {es:List (SV × SV × Nat)}:∀ {vs:List MapEntry} (_:qma β es=some vs) {i:Nat} {e:SV × SV × Nat} {v:MapEntry} (_:e.1.den β=some v.key) (_:e.2.1.den β=some v.val) (_:v.born=e.2.2),qma β (es.set i e)=some (vs.set i v):=by
 induction es with
 | nil=>intro vs h i e v _ _ _; cases h; rfl
 | cons a r ih =>
   intro vs h i e v h1 h2 h3;simp only [qma,Option.bind_eq_some_iff,Option.map_eq_some_iff] at h;obtain ⟨k,hk,u,hv,rs,hr,rfl⟩:=h;obtain ⟨vk,vv,vb⟩:=v;cases i with
   | zero=>simp only [List.set_cons_zero,qma,h1,h2,hr,Option.bind_some,Option.map_some]; simp only at h3; rw [h3]
   | succ i=>simp only [List.set_cons_succ,qma,hk,hv,ih hr h1 h2 h3,Option.bind_some,Option.map_some]
theorem q4g {es fs:List (SV × SV × Nat)}:∀ {vs us:List MapEntry},qma β es=some vs->qma β fs=some us->qma β (es++fs)=some (vs++us):=by
 induction es with
 | nil=>intro vs us h k; cases h; exact k
 | cons a r ih =>
   intro vs us h k;simp only [qma,Option.bind_eq_some_iff,Option.map_eq_some_iff] at h;obtain ⟨x,hk,u,hv,rs,hr,rfl⟩:=h;simp only [List.cons_append,qma,hk,hv,ih hr k,Option.bind_some,Option.map_some]
theorem qk7 {γ:Type} (l:List γ) (n:Nat):qi6 l n=l.eraseIdx n:=by
 induction l generalizing n with
 | nil=>rfl
 | cons a t ih=>cases n with
   | zero=>rfl
   | succ n=>exact congrArg (a :: ·) (ih n)
theorem qdv {es:List (SV × SV × Nat)}:∀ {vs:List MapEntry} (_:qma β es=some vs) (i:Nat),qma β (es.eraseIdx i)=some (vs.eraseIdx i):=by
 induction es with
 | nil=>intro vs h i; cases h; rfl
 | cons a r ih =>
   intro vs h i;simp only [qma,Option.bind_eq_some_iff,Option.map_eq_some_iff] at h;obtain ⟨k,hk,u,hv,rs,hr,rfl⟩:=h;cases i with
   | zero=>simpa using hr
   | succ i=>simp only [List.eraseIdx_cons_succ,qma,hk,hv,ih hr i,Option.bind_some,Option.map_some]
theorem qzh {ks:List CK} {k:SV} {x:Value} (hk:k.den β=some x) {yes:Nat->SV × SV × Nat->R α} {no:R α} {φ:α->Prop}:∀ {es:List (SV × SV × Nat)} {vs:List MapEntry} (i:Nat),qma β es=some vs ->
  (∀ j e v,es[j]? = some e->vs[j]? = some v->e.1.den β=some v.key->e.2.1.den β=some v.val->v.born=e.2.2->v.key=x->qjc ks x vs i=some (some (i+j,v))->(yes (i+j) e).Sat φ)->(qjc ks x vs i=some none->no.Sat φ)->(qsj ks k yes no es i).Sat φ
 | [],vs,i,h,_,h0=>by cases h; exact h0 rfl
 | e::es,vs,i,h,h1,h0=>by
   simp only [qma,Option.bind_eq_some_iff,Option.map_eq_some_iff] at h;obtain ⟨ky,hky,u,hu,rs,hrs,rfl⟩:=h;show (zah (qkl ks k e.1) (R.stuck 852) fun b=>SB.rec (motive:=fun _=>R α) (fun b=>zab b (yes i e) (qsj ks k yes no es (i+1))) (fun b=>.fork b (yes i e) (qsj ks k yes no es (i+1))) b).Sat φ;cases hs:qkl ks k e.1 with
   | none=>trivial
   | some b =>
     have hv:=q4t hs hk hky;have hyes:b.den=true->(yes i e).Sat φ:=fun hb=>by
      rw [hb] at hv;have:=h1 0 e ⟨ky,u,e.2.2⟩ rfl rfl hky hu rfl (qk0 hv).symm (by simp [qjc,hv])
      simpa using this
     have hno:b.den=false->(qsj ks k yes no es (i+1)).Sat φ:=fun hb=>by
      rw [hb] at hv;have hstep:∀ r,qjc ks x rs (i+1)=some r->qjc ks x (⟨ky,u,e.2.2⟩::rs) i=some r:=fun r hr=>by simp [qjc,hv,hr]
      refine qzh hk (i+1) hrs (fun j e' v he hv' a1 a2 a3 a4 hf => ?_) fun hf=>h0 (hstep _ hf);have:=h1 (j+1) e' v (by simpa using he) (by simpa using hv') a1 a2 a3 a4 (by rw [show i+(j+1)=i+1+j from by omega]; exact hstep _ hf)
      rw [show i+1+j=i+(j+1) from by omega]; exact this
     cases b with
     | lit b=>exact R.Sat.zab hyes hno
     | sym b=>exact ⟨hyes,hno⟩
theorem qxr {ty:TypeId} {v:SV} (h:qyv P ty=some v):∃ x,(zeroValue ty).run P w=.ok x w/\∀ β,v.den β=some x:=by
 simp only [qyv,Option.map_eq_some_iff,Option.bind_eq_some_iff] at h;obtain ⟨x,⟨i,hi,hx⟩,rfl⟩:=h;exact ⟨x,qzc hi hx,fun β=>qog β x⟩
theorem qwk {ok b:Bool} {v:SV} {x:Value} (h:v.den β=some x):(okT ok v b).den β=some (if ok then .tuple #[x,.bool b] else x):=by
 cases ok with
 | true=>simp [okT,zab,SV.den,SV.zal,h,SB.den]
 | false=>exact h
theorem qob {r:Nat} {es:Array MapEntry} {c:Nat} (h:w.heap[r]? = some (.map es c)):(getObj r).run P w=.ok (.map es c) w:=MapKept.run_getObj_map h
theorem q4c {r:Nat} {es:Array MapEntry} {c:Nat} {o':Obj} (h:w.heap[r]? = some (.map es c)):(setObj r o').run P w=.ok () { w with heap:=w.heap.setIfInBounds r o' }:=MapKept.run_setObj_map o' h
theorem q0x {ty:TypeId} {r:Option Operand} (hev:∀ x,r=some x->(ev x).den β=some (ρ x)) :
  (q2p ty r P ev H base).Sat (qea P H β w base ((execOp ρ ⟨dst,.makeMap ty r,t,pos,af,g⟩).run P w)):=by
 have key:(execOp ρ ⟨dst,.makeMap ty r,t,pos,af,g⟩).run P w=.ok (.value (.map (some w.heap.size))) { w with heap:=w.heap.push (.map #[] 0) } ->
   (R.ok (zai.val (.map base) [] [.obj (.map [] 0)])).Sat (qea P H β w base ((execOp ρ ⟨dst,.makeMap ty r,t,pos,af,g⟩).run P w)):=by
  intro hrun hb;refine ⟨_,_,_,β.upd base ⟨w.heap.size,0,0⟩,hrun,rfl,?_,Eff.zfD hb.hd rfl rfl rfl rfl rfl,by simp⟩
  simp [SV.den,Val.upd_same]
 unfold q2p;cases r with
 | none=>exact key rfl
 | some h =>
   have hx:=hev h rfl
   dsimp only
   split
   . rename_i k n he;rw [he] at hx;simp only [SV.den,Option.some.injEq] at hx;refine R.Sat.opt fun d hd => ?_
     split
     . refine key ?_
       simp [execOp,Instr.makeMap,qba hd,← hx,asInt,asIntOf,newObj];rfl
     . trivial
   . trivial
theorem qau {es:List MapEntry} {K:Value} (h:za5 es K=true):∃ j e,es.findIdx? (qvc K)=some j/\es[j]? = some e/\e.key=K/\zbM es K=e.val/\e∈es:=by
 induction es with
 | nil=>cases h
 | cons a es ih =>
   unfold za5 at h;rw [List.any_cons] at h;by_cases ha:qvc K a=true
   . refine ⟨0,a,?_,rfl,?_,?_,List.mem_cons_self⟩
     . rw [List.findIdx?_cons,if_pos ha]
     . unfold qvc at ha; exact @of_decide_eq_true _ (Classical.propDecidable _) ha
     . unfold zbM;rw [List.find?_cons,ha]; rfl
   . have ha':qvc K a=false:=by simpa using ha
     rw [ha',Bool.false_or] at h;obtain ⟨j,e,h1,h2,h3,h4,h5⟩:=ih h;refine ⟨j+1,e,?_,by simpa using h2,h3,?_,List.mem_cons_of_mem _ h5⟩
     . rw [List.findIdx?_cons,if_neg ha,h1]; rfl
     . rw [← h4];unfold zbM;rw [List.find?_cons,ha']
theorem qq4 {es:List MapEntry} {K:Value} (h:za5 es K=false):es.findIdx? (qvc K)=none:=by
 rw [List.findIdx?_eq_none_iff];intro e he;unfold za5 at h;rw [List.any_eq_false] at h;simpa using h e he
theorem qck {ty:TypeId} {kt et:TypeId} {ks:List CK} {v:SV} {x K:Value} {kS:MSh} {es:List MapEntry} (hK:qjl kS v=some K) (hv:v.den β=some x) (ko:zeU P ty x kt et ks) (hfit:∀ e∈es,kS.fit e.key) :
  x=K/\kS.fit K/\(za5 es K=true->∃ j e,es.findIdx? (qvc K)=some j/\es[j]? = some e/\e.key=K/\zbM es K=e.val/\e∈es/\qjc ks x es 0=some (some (j,e)))/\(za5 es K=false->qjc ks x es 0=some none/\es.findIdx? (qvc K)=none):=by
 obtain ⟨h1,h2,h3,h4⟩:=qzl hK;have hx:x=K:=by rw [h1] at hv; exact (Option.some.inj hv).symm
 subst hx;obtain ⟨r,hr⟩:=ko.self;have hf:=qwr (i:=0) h3 h4 h2 hr hfit;refine ⟨rfl,h2,fun h => ?_,fun h => ?_⟩
 . obtain ⟨j,e,a1,a2,a3,a4,a5⟩:=qau h;refine ⟨j,e,a1,a2,a3,a4,a5,?_⟩;rw [hf,a1];simp [a2]
 . have a1:=qq4 h;rw [hf,a1];exact ⟨rfl,rfl⟩
theorem q1l {nm:Nat} {l:Loc} {kS vS:MSh} {es:List MapEntry} {c:Nat} {y:Obj} {e0:SO} {res:Result Next} {nx:Next} {z:Value} {v:SV} (hl:β nm=some l) (h0:l.off=0) (hb:w.heap[l.blk]? = some y) (hd:∀ e∈es,kS.fit e.key/\vS.fit e.val) (he:H[nm]? = some e0) (ho:e0.owned=true)
  (hres:res=.ok nx { w with heap:=w.heap.setIfInBounds l.blk (.map es.toArray c) }) (hnx:q1g nx=some z) (hz:v.den β=some z):(R.ok (zai.val v [(nm,.obj (.zaU kS vS es c))] [])).Sat (qea P H β w base res):=by
 intro _;refine ⟨nx,z,_,β,hres,hnx,hz,Eff.zeD hl h0 hb (zaW.za2.2 ⟨hd,rfl⟩),?_⟩;intro m e hm;simp at hm;obtain ⟨rfl,rfl⟩:=hm;exact ⟨_,he,ho,.not⟩
theorem qm0 (hr:HeapRel0 P O w0 β H w) {ty:TypeId} {x k:Operand} {ok:Bool} (hx:(ev x).den β=some (ρ x)) (hk:(ev k).den β=some (ρ k)) :
  (qj1 ty x k ok P ev H base).Sat (qea P H β w base ((execOp ρ ⟨dst,.lookup ty x k ok,t,pos,af,g⟩).run P w)):=by
 refine q0l hk fun kt et ks K=>R.Sat.opt fun z hz => ?_
 obtain ⟨zv,hzr,hzd⟩:=qxr (w:=w) hz;refine qaj hr hx (fun hnil => ?_) (fun nm es c l vs _ hm hl h0 he hvs hh => ?_) fun nm kS vS es c l _ hm hl h0 he hfit hh => ?_
 . refine qga ?_ (qwk (hzd β));have hf:=q3c (w:=w) K.kinds K.shape (vs:=[]) (r:=none) rfl;simp only [execOp,hnil,Instr.lookup,Sem.run_bind,qba K.map,Result.andThen_ok,Sem.run_pure,K.check];simp only [hf,Option.map_none,Result.andThen_ok,hzr,Sem.run_bind,Sem.run_pure]
 . have hrun:∀ r,qjc ks (ρ k) vs 0=some r->(Instr.lookup ty (ρ x) (ρ k) ok).run P w=.ok (if ok then .tuple #[(r.map fun p=>p.2.val).getD zv,.bool r.isSome] else (r.map fun p=>p.2.val).getD zv) w:=by
    intro r hfr;have hf:=q3c (w:=w) K.kinds K.shape hfr;simp only [hm,Instr.lookup,Sem.run_bind,qba K.map,Result.andThen_ok,Sem.run_pure,K.check,qob hh];simp only [hf];cases r with
    | none=>simp only [Option.map_none,Result.andThen_ok,hzr,Sem.run_bind,Sem.run_pure]; cases ok <;> rfl
    | some p=>simp only [Option.map_some,Result.andThen_ok]; cases ok <;> rfl
   refine qzh hk 0 hvs (fun j e v _ _ _ hv2 _ _ hf => ?_) fun hf => ?_
   . refine qga ?_ (qwk hv2);simp only [execOp,Sem.run_bind,hrun _ hf,Result.andThen_ok,Sem.run_pure];rfl
   . refine qga ?_ (qwk (hzd β));simp only [execOp,Sem.run_bind,hrun _ hf,Result.andThen_ok,Sem.run_pure];rfl
 . refine R.Sat.opt fun KV hK => ?_
   obtain ⟨hKe,_,hyes,hno⟩:=qck hK hk K fun e he=>(hfit e he).1;have hrun:∀ r,qjc ks (ρ k) es 0=some r->(Instr.lookup ty (ρ x) (ρ k) ok).run P w=.ok (if ok then .tuple #[(r.map fun p=>p.2.val).getD zv,.bool r.isSome] else (r.map fun p=>p.2.val).getD zv) w:=by
    intro r hfr;have hf:=q3c (w:=w) K.kinds K.shape hfr;simp only [hm,Instr.lookup,Sem.run_bind,qba K.map,Result.andThen_ok,Sem.run_pure,K.check,qob hh];simp only [hf];cases r with
    | none=>simp only [Option.map_none,Result.andThen_ok,hzr,Sem.run_bind,Sem.run_pure]; cases ok <;> rfl
    | some p=>simp only [Option.map_some,Result.andThen_ok]; cases ok <;> rfl
   refine ⟨fun hb => ?_,fun hb => ?_⟩
   . obtain ⟨j,e,a1,a2,a3,a4,a5,hf⟩:=hyes hb;refine qga (x:=if ok then .tuple #[e.val,.bool true] else e.val) ?_ (qwk (by rw [a4]; exact (hfit e a5).2 β))
     simp only [execOp,Sem.run_bind,hrun _ hf,Result.andThen_ok,Sem.run_pure];rfl
   . refine qga ?_ (qwk (hzd β));simp only [execOp,Sem.run_bind,hrun _ (hno hb).1,Result.andThen_ok,Sem.run_pure];rfl
theorem q2l {vs:List MapEntry} {i:Nat} {v:MapEntry} (h:vs[i]? = some v) (f:MapEntry->MapEntry):vs.toArray.modify i f=(vs.set i (f v)).toArray:=by
 apply Array.ext_getElem?;intro j;rw [Array.getElem?_modify];simp only [List.getElem?_toArray,List.getElem?_set];by_cases hij:i=j
 . subst hij;obtain ⟨hlt,heq⟩:=List.getElem?_eq_some_iff.1 h;simp [hlt,heq]
 . simp [hij]
theorem q1e {nm:Nat} {l:Loc} {es:List (SV × SV × Nat)} {c:Nat} {vs:List MapEntry} {y:Obj} {e0:SO} {res:Result Next} {nx:Next} {z:Value} {v:SV} (hl:β nm=some l) (h0:l.off=0) (hb:w.heap[l.blk]? = some y) (hd:qma β es=some vs) (he:H[nm]? = some e0) (ho:e0.owned=true)
  (hres:res=.ok nx { w with heap:=w.heap.setIfInBounds l.blk (.map vs.toArray c) }) (hnx:q1g nx=some z) (hz:v.den β=some z):(R.ok (zai.val v [(nm,.obj (.map es c))] [])).Sat (qea P H β w base res):=by
 intro _;refine ⟨nx,z,_,β,hres,hnx,hz,Eff.zeD hl h0 hb (by simp [zaW.den,hd]),?_⟩
 intro m e hm;simp at hm;obtain ⟨rfl,rfl⟩:=hm;exact ⟨_,he,ho,.not⟩
theorem qev {ty kt et:TypeId} {ks:List CK} {l:Loc} {vs:List MapEntry} {c:Nat} {x y:Value} (K:zeU P ty x kt et ks) (hh:w.heap[l.blk]? = some (.map vs.toArray c)) :
  (∀ j v,vs[j]? = some v->v.key=x->qjc ks x vs 0=some (some (j,v))->(Instr.mapUpdate ty (.map (some l.blk)) x y).run P w=.ok () { w with heap:=w.heap.setIfInBounds l.blk (.map (vs.set j ({ key:=x,val:=y,born:=v.born }:MapEntry)).toArray c) }) /\
  (qjc ks x vs 0=some none->(Instr.mapUpdate ty (.map (some l.blk)) x y).run P w=.ok () { w with heap:=w.heap.setIfInBounds l.blk (.map (vs++[({ key:=x,val:=y,born:=c }:MapEntry)]).toArray (c+1)) }):=by
 refine ⟨fun j v hj hv hf => ?_,fun hf => ?_⟩
 . have hfr:=q3c (w:=w) K.kinds K.shape hf;have hst:=q5t (P:=P) (w:=w) K.plain;simp only [Instr.mapUpdate,Sem.run_bind,qba K.map,Result.andThen_ok,qob hh,K.check,hfr,Option.map_some];have hj':vs.toArray[j]? = some v:=by simpa using hj
   simp only [hj',Option.map_some,Option.getD_some,hv,hst,Result.andThen_ok,q4c hh];rw [q2l hj]
 . have hfr:=q3c (w:=w) K.kinds K.shape hf;simp only [Instr.mapUpdate,Sem.run_bind,qba K.map,Result.andThen_ok,qob hh,K.check,hfr,Option.map_none,q4c hh];simp
theorem jda {nm:Nat} {l:Loc} {o:Obj} {e0:SO} {res:Result Next} {nx:Next} {z:Value} {v:SV} (hl:β nm=some l) (he:H[nm]? = some e0) (ho:e0.owned=true)
  (hres:res=.ok nx { w with heap:=w.heap.setIfInBounds l.blk o }) (hnx:q1g nx=some z) (hz:v.den β=some z):(R.ok (zai.val v [(nm,SO.gone)] [])).Sat (qea P H β w base res):=by
 intro _;refine ⟨nx,z,_,β,hres,hnx,hz,Eff.turn hl trivial,?_⟩;intro m e hm;simp at hm;obtain ⟨rfl,rfl⟩:=hm;exact ⟨_,he,ho,.not⟩
theorem ql7 {s:MSh} {v:SV} {K:Value} (h:zhB s v=some K):(∀ β,v.den β=some K)/\s.fit K:=by
 unfold zhB at h;cases hb:qjl s v with
 | some x=>rw [hb] at h; cases h; exact ⟨(qzl hb).1,(qzl hb).2.1⟩
 | none =>
   rw [hb] at h;obtain ⟨ag,ks⟩:=s;cases ag with
   | true=>cases h
   | false =>
     have h:zjy ks v=some K:=h;unfold zjy at h;split at h
     . exact ⟨q0s h,fun β=>rfl⟩
     . cases h
theorem qxk (hr:HeapRel0 P O w0 β H w) {ty:TypeId} {m k x:Operand} (hm:(ev m).den β=some (ρ m)) (hk:(ev k).den β=some (ρ k)) (hx:(ev x).den β=some (ρ x)) :
  (qig ty m k x P ev H base).Sat (qea P H β w base ((execOp ρ ⟨dst,.mapUpdate ty m k x,t,pos,af,g⟩).run P w)) /\
  (qig ty m k x P ev H base).Sat (qea P H β w base ((execOp ρ ⟨dst,.insert ty m k x,t,pos,af,g⟩).run P w)):=by
 have key:∀ res:Result Next,(∀ w',(Instr.mapUpdate ty (ρ m) (ρ k) (ρ x)).run P w=.ok () w'->res=.ok .skip w')->(qig ty m k x P ev H base).Sat (qea P H β w base res):=by
  intro res hres;refine q0l hk fun kt et ks K=>qaj hr hm (fun _=>trivial) (fun nm es c l vs _ hmv hl h0 he hvs hh => ?_) fun nm kS vS es c l _ hmv hl h0 he hfit hh => ?_
  all_goals obtain ⟨r1,r2⟩:=qev (y:=ρ x) K hh
  all_goals rw [← hmv] at r1 r2
  case refine_2 =>
   refine R.Sat.opt fun KV hK => ?_
   obtain ⟨hKe,hKf,hyes,hno⟩:=qck hK hk K fun e he=>(hfit e he).1;subst hKe;generalize hV:zhB vS (ev x)=o;cases o with
   | none =>
     have go:∀ o,res=.ok .skip { w with heap:=w.heap.setIfInBounds l.blk o }->(R.ok (zai.val qsa [(nm,SO.gone)] [])).Sat (qea P H β w base res):=fun o h=>jda hl he rfl h rfl rfl
     cases hb:za5 es (ρ k) with
     | true =>
       obtain ⟨j,e,a1,a2,a3,a4,a5,hf⟩:=hyes hb;exact go _ (hres _ (r1 j e a2 a3 hf))
     | false=>exact go _ (hres _ (r2 (hno hb).1))
   | some VV =>
   obtain ⟨v1,v2⟩:=ql7 hV;have hVe:ρ x=VV:=by rw [v1] at hx; exact (Option.some.inj hx).symm
   subst hVe;refine ⟨fun hb => ?_,fun hb => ?_⟩
   . obtain ⟨j,e,a1,a2,a3,a4,a5,hf⟩:=hyes hb;have hset:zdL es (ρ k) (ρ x)=es.set j ⟨ρ k,ρ x,e.born⟩:=by
      unfold zdL zi8;rw [a1,zao,a2,zao]
     rw [hset];refine q1l hl h0 hh (fun e' he' => ?_) he rfl (hres _ (r1 j e a2 a3 hf)) rfl rfl;rcases List.mem_or_eq_of_mem_set he' with h | h
     . exact hfit e' h
     . rw [h]; exact ⟨hKf,v2⟩
   . refine q1l hl h0 hh (fun e' he' => ?_) he rfl (hres _ (r2 (hno hb).1)) rfl rfl;unfold zcI at he';rcases List.mem_append.1 he' with h | h
     . exact hfit e' h
     . rw [List.mem_singleton.1 h]; exact ⟨hKf,v2⟩
  refine qzh hk 0 hvs (fun j e v hej hvj h1 h2 h3 h4 hf => ?_) fun hf => ?_
  . rw [Nat.zero_add] at hf ⊢;refine q1e (vs:=vs.set j ⟨ρ k,ρ x,v.born⟩) hl h0 hh ?_ he rfl (hres _ (r1 j v hvj h4 hf)) rfl rfl;rw [quc];exact qbk hvs hk hx h3
  . refine q1e (vs:=vs++[⟨ρ k,ρ x,c⟩]) hl h0 hh ?_ he rfl (hres _ (r2 hf)) rfl rfl;rw [q7a];exact q4g hvs (by simp [qma,hk,hx])
 exact ⟨key _ fun w' h=>by simp [execOp,h],key _ fun w' h=>by simp [execOp,h]⟩
theorem qfv (hr:HeapRel0 P O w0 β H w) {ty:TypeId} {m k:Operand} (hm:(ev m).den β=some (ρ m)) (hk:(ev k).den β=some (ρ k)) :
  (qqt ty m k P ev H base).Sat (qea P H β w base ((execOp ρ ⟨dst,.mapEntry ty m k,t,pos,af,g⟩).run P w)):=by
 refine q0l hk fun kt et ks K=>R.Sat.opt fun z hz => ?_
 obtain ⟨zv,hzr,hzd⟩:=qxr (w:=w) hz;refine qaq hr hm (fun _=>trivial) fun nm es c l vs _ hmv hl h0 he hvs hh => ?_
 refine qzh hk 0 hvs (fun j e v hej hvj h1 h2 h3 h4 hf => ?_) fun hf => ?_
 . rw [Nat.zero_add] at hf ⊢;have hfr:=q3c (w:=w) K.kinds K.shape hf;have hst:=q5t (P:=P) (w:=w) K.plain;have hj':vs.toArray[j]? = some v:=by simpa using hvj
   refine q1e (vs:=vs.set j ⟨ρ k,v.val,v.born⟩) (z:=.tuple #[v.val,goInt v.born]) (nx:=.value (.tuple #[v.val,goInt v.born])) hl h0 hh ?_ he rfl ?_ rfl ?_
   . rw [quc]; exact qbk hvs hk h2 h3
   . simp only [execOp,hmv,Instr.mapEntry,Sem.run_bind,qba K.map,Result.andThen_ok,qob hh,K.check,hfr,Option.map_some];simp only [hj',Option.map_some,Option.getD_some,h4,hst,Result.andThen_ok,q4c hh,Sem.run_pure];rw [q2l hvj]
   . simp [SV.den,SV.zal,h2,SI.den,goInt,h3]
 . have hfr:=q3c (w:=w) K.kinds K.shape hf;refine q1e (vs:=vs++[⟨ρ k,zv,c⟩]) (z:=.tuple #[zv,goInt c]) (nx:=.value (.tuple #[zv,goInt c])) hl h0 hh ?_ he rfl ?_ rfl ?_
   . rw [q7a]; exact q4g hvs (by simp [qma,hk,hzd β])
   . simp only [execOp,hmv,Instr.mapEntry,Sem.run_bind,qba K.map,Result.andThen_ok,qob hh,K.check,hfr,Option.map_none];simp only [hzr,Result.andThen_ok,q4c hh,Sem.run_pure];simp
   . simp [SV.den,SV.zal,hzd β,SI.den,goInt]
theorem qpn {b:Nat} {yes:Nat->SV × SV × Nat->R α} {φ:α->Prop}:∀ {es:List (SV × SV × Nat)} {vs:List MapEntry} (i:Nat),qma β es=some vs ->
  (∀ j e v,es[j]? = some e->vs[j]? = some v->e.1.den β=some v.key->v.born=e.2.2->vs.findIdx? (fun e=>e.born == b)=some j->(yes (i+j) e).Sat φ)->(q3p b yes es i).Sat φ
 | [],_,_,_,_=>trivial
 | e::es,vs,i,h,h1=>by
   simp only [qma,Option.bind_eq_some_iff,Option.map_eq_some_iff] at h;obtain ⟨ky,hky,u,hu,rs,hrs,rfl⟩:=h;show (zab (Nat.beq e.2.2 b) (yes i e) (q3p b yes es (i+1))).Sat φ;refine R.Sat.zab (fun hb => ?_) fun hb => ?_
   . have:=h1 0 e _ rfl rfl hky rfl (by simp [List.findIdx?_cons,Nat.eq_of_beq_eq_true hb])
     simpa using this
   . refine qpn (i+1) hrs fun j e' v a1 a2 a3 a4 hf => ?_
     have hne:e.2.2≠b:=fun h=>by subst h; rw [show Nat.beq e.2.2 e.2.2=true from Nat.beq_refl _] at hb; cases hb
     have:=h1 (j+1) e' v (by simpa using a1) (by simpa using a2) a3 a4 (by simp [List.findIdx?_cons,hne,hf])
     rw [show i+1+j=i+(j+1) from by omega]; exact this
theorem qyr (hr:HeapRel0 P O w0 β H w) {ty:TypeId} {m s x:Operand} (hm:(ev m).den β=some (ρ m)) (hs:(ev s).den β=some (ρ s)) (hx:(ev x).den β=some (ρ x)) :
  (qip ty m s x P ev H base).Sat (qea P H β w base ((execOp ρ ⟨dst,.entryStore ty m s x,t,pos,af,g⟩).run P w)):=by
 refine qaq hr hm (fun _=>trivial) fun nm es c l vs _ hmv hl h0 he hvs hh => ?_
 split
 . rename_i k b hb;rw [hb] at hs;simp only [SV.den,SI.den,Option.some.injEq] at hs;refine qpn 0 hvs fun j e v a1 a2 a3 a4 hf => ?_
   rw [Nat.zero_add];refine q1e (vs:=vs.set j ⟨v.key,ρ x,v.born⟩) (nx:=.skip) hl h0 hh ?_ he rfl ?_ rfl rfl
   . rw [quc]; exact qbk hvs a3 hx a4
   . have hf':vs.toArray.findIdx? (fun e=>(e.born:Int) == Int.ofNat b)=some j:=by
      rw [← List.findIdx?_toArray] at hf;rw [← hf];congr 1;funext e;rw [Bool.eq_iff_iff];simp;omega
     simp only [execOp,hmv,Instr.entryStore,Sem.run_bind,qob hh,Result.andThen_ok,← hs,asInt,asIntOf,Sem.run_pure];simp only [hf',q4c hh,Result.andThen_ok];rw [q2l a2]
 . trivial
theorem qn0 (hr:HeapRel0 P O w0 β H w) {tys:Array TypeId} {ty:TypeId} {m k:SV} {mv kv:Value} (hm:m.den β=some mv) (hk:k.den β=some kv) {res:Result Next}
  (hres:∀ v w',(Builtin.delete_ tys ty #[mv,kv]).run P w=.ok v w'->res=.ok (.value v) w'):(qk1 P H tys m k).Sat (qea P H β w base res):=by
 refine R.Sat.opt fun mt hmt=>q0l hk fun kt et ks K=>qaj hr hm (fun hnil => ?_) (fun nm es c l vs _ hmv hl h0 he hvs hh => ?_) fun nm kS vS es c l _ hmv hl h0 he hfit hh => ?_
 . refine qga (x:=.tuple #[]) (hres _ _ ?_) rfl;simp only [Builtin.delete_,hmt,hnil];simp [qba K.map,K.check]
 . have hrun:∀ r,qjc ks kv vs 0=some r->(Builtin.delete_ tys ty #[mv,kv]).run P w=.ok (.tuple #[]) { w with heap:=w.heap.setIfInBounds l.blk (.map (match r with | some p=>(vs.eraseIdx p.1).toArray | none=>vs.toArray) c) }:=by
    intro r hfr;have hf:=q3c (w:=w) K.kinds K.shape hfr;simp only [Builtin.delete_,hmt,hmv];simp only [List.getElem?_toArray,List.getElem?_cons_zero,List.getElem?_cons_succ,Sem.run_bind,qba K.map,Result.andThen_ok,qob hh,K.check,hf];cases r with
    | none =>
      simp only [Option.map_none];simp [q4c hh]
    | some p =>
      simp only [Option.map_some];simp [q4c hh]
   refine qzh hk 0 hvs (fun j e v hej hvj h1 h2 h3 h4 hf => ?_) fun hf => ?_
   . rw [Nat.zero_add] at hf ⊢;refine q1e (vs:=vs.eraseIdx j) hl h0 hh ?_ he rfl (hres _ _ (hrun _ hf)) rfl rfl;rw [qk7]; exact qdv hvs j
   . exact q1e (vs:=vs) hl h0 hh hvs he rfl (hres _ _ (hrun _ hf)) rfl rfl
 . refine R.Sat.opt fun KV hK => ?_
   obtain ⟨hKe,_,hyes,hno⟩:=qck hK hk K fun e he=>(hfit e he).1;have hrun:∀ r,qjc ks kv es 0=some r->(Builtin.delete_ tys ty #[mv,kv]).run P w=.ok (.tuple #[]) { w with heap:=w.heap.setIfInBounds l.blk (.map (match r with | some p=>(es.eraseIdx p.1).toArray | none=>es.toArray) c) }:=by
    intro r hfr;have hf:=q3c (w:=w) K.kinds K.shape hfr;simp only [Builtin.delete_,hmt,hmv];simp only [List.getElem?_toArray,List.getElem?_cons_zero,List.getElem?_cons_succ,Sem.run_bind,qba K.map,Result.andThen_ok,qob hh,K.check,hf];cases r with
    | none =>
      simp only [Option.map_none];simp [q4c hh]
    | some p =>
      simp only [Option.map_some];simp [q4c hh]
   have hfd:∀ e∈zkn es KV,kS.fit e.key/\vS.fit e.val:=fun e he'=>hfit e (List.mem_of_mem_eraseP he');have zeb:zkn es KV=match es.findIdx? (qvc KV) with | none=>es | some i=>es.eraseIdx i:=List.eraseP_eq_eraseIdx
   cases hb:za5 es KV with
   | true =>
     obtain ⟨j,e,a1,a2,a3,a4,a5,hf⟩:=hyes hb;rw [a1] at zeb;refine q1l hl h0 hh hfd he rfl (hres _ _ ?_) rfl rfl;rw [hrun _ hf,zeb]
   | false =>
     obtain ⟨hf,a1⟩:=hno hb;rw [a1] at zeb;refine q1l hl h0 hh hfd he rfl (hres _ _ ?_) rfl rfl;rw [hrun _ hf,zeb]
theorem qr4 (hr:HeapRel0 P O w0 β H w) {tys:Array TypeId} {ty:TypeId} {m:SV} {mv:Value} (hm:m.den β=some mv) {res:Result Next}
  (hres:∀ v w',(Builtin.clear_ tys ty #[mv]).run P w=.ok v w'->res=.ok (.value v) w'):(qj6 P H tys m).Sat (qea P H β w base res):=by
 refine R.Sat.opt fun mt hmt=>R.Sat.opt fun d hd => ?_
 split
 . refine qaq hr hm (fun hnil => ?_) fun nm es c l vs _ hmv hl h0 he hvs hh => ?_
   . refine qga (x:=.tuple #[]) (hres _ _ ?_) rfl;simp only [Builtin.clear_,hmt,hnil];simp [qba hd]
   . refine q1e (vs:=[]) hl h0 hh rfl he rfl (hres _ _ ?_) rfl rfl;simp only [Builtin.clear_,hmt,hmv];simp [qba hd,qob hh,q4c hh]
 . trivial
theorem jea (hr:HeapRel0 P O w0 β H w) {tys:Array TypeId} {v:SV} {x:Value} (hv:v.den β=some x) {xs:List Value} {ty:TypeId} {res:Result Next}
  (hres:∀ n:Nat,(Builtin.len_ tys ty (x::xs).toArray).run P w=.ok (goInt n) w->res=.ok (.value (goInt n)) w):(zjx P H tys v).Sat (qea P H β w base res):=by
 unfold zjx;split
 . rename_i nm;refine R.Sat.opt fun mt hmt=>R.Sat.opt fun d hd => ?_
   split
   . refine qaj hr hv (fun _=>trivial) (fun nm' es c l vs _ hmv hl h0 he hvs hh => ?_) fun nm' kS vS es c l _ hmv hl h0 he hfit hh => ?_
     case refine_2 =>
      refine qga (hres es.length ?_) rfl;simp only [Builtin.len_,hmt,hmv];simp [qba hd,qob hh]
     have hn:zay es=vs.length:=by rw [qha,q3g hvs]
     rw [hn];refine qga (hres vs.length ?_) rfl;simp only [Builtin.len_,hmt,hmv];simp [qba hd,qob hh]
   . trivial
 . exact q89 hv hres
theorem q3l {ox:zaW} {o:Obj} (hd:ox.den β=some o) {res:Result Next} (hres:res=.ok (.value (.pointer (some ⟨w.heap.size,0,none⟩))) { w with heap:=w.heap.push o }):(zgP base ox).Sat (qea P H β w base res):=by
 intro hb;refine ⟨_,_,_,β.upd base ⟨w.heap.size,0,0⟩,hres,rfl,?_,Eff.zfD hb.hd rfl rfl rfl rfl hd,by simp⟩
 simp [SV.den,SA.den,Val.upd_same,SN.den]
theorem qs4 (hr:HeapRel0 P O w0 β H w) {ty:TypeId} {x:Operand} (hx:(ev x).den β=some (ρ x)) :
  (qk6 ty x P ev H base).Sat (qea P H β w base ((execOp ρ ⟨dst,.range ty x,t,pos,af,g⟩).run P w)):=by
 refine R.Sat.opt fun d hd => ?_
 have hu:=qba (w:=w) hd;split
 . split
   . rename_i s hs;rw [hs] at hx;simp only [SV.den,Option.some.injEq] at hx;refine q3l (o:=.stringIter s.den 0) rfl ?_
     simp [execOp,Instr.range,hu,← hx,newObj];rfl
   . trivial
 . refine qaj hr hx (fun hnil => ?_) (fun nm es c l vs _ hmv hl h0 he hvs hh => ?_) fun nm kS vS es c l _ hmv hl h0 he hfit hh => ?_
   . refine q3l (o:=.mapIter none 0 #[] 0) rfl ?_
     simp [execOp,Instr.range,hu,hnil,newObj];rfl
   . refine q3l (o:=.mapIter (some l.blk) c #[] c) (by simp [zaW.den,hl]) ?_
     simp [execOp,Instr.range,hu,hmv,newObj,qob hh];rfl
   . refine q3l (o:=.mapIter (some l.blk) c #[] c) (by simp [zaW.den,hl]) ?_
     simp [execOp,Instr.range,hu,hmv,newObj,qob hh];rfl
 . trivial
end
end
noncomputable section
variable {α:Type}
section
variable {P:Program} {O:Nat->Prop} {w0:World} {β:Val} {H:List SO} {w:World} {base:Nat}
variable {ev:Operand->SV} {ρ:Operand->Value} {dst:Option Tmp} {t:TypeId} {pos:String} {af:Array Edge} {g:Option (Nat × Bool)}
theorem q4l {γ:Type} (f:γ->Bool) (l:List γ):qxg f l=l.filter f:=by
 induction l with
 | nil=>rfl
 | cons a l ih =>
   show zab (f a) (a::qxg f l) (qxg f l)=_;rw [ih];cases hf:f a <;> simp [zab,hf]
theorem q6s {γ:Type} (l:List γ):zfU l=l.isEmpty:=by cases l <;> rfl
theorem qgv (n:Nat) (l:List Nat):zbD n l=l.contains n:=by
 induction l with
 | nil=>rfl
 | cons a l ih =>
   show zab (Nat.beq a n) true (zbD n l)=_;rw [ih,List.contains_cons];by_cases h:a=n
   . subst h; simp [zab]
   . rw [show Nat.beq a n=false from Bool.eq_false_iff.2 fun h'=>h (Nat.eq_of_beq_eq_true h')]
     have:(n == a)=false:=by simpa using fun e:n=a=>h e.symm
     simp [zab,this]
theorem qcf {f:SV × SV × Nat->Bool} {F:MapEntry->Bool} (hf:∀ e v,v.born=e.2.2->f e=F v):∀ {es:List (SV × SV × Nat)} {vs:List MapEntry},qma β es=some vs->qma β (es.filter f)=some (vs.filter F)
 | [],vs,h=>by cases h; rfl
 | e::es,vs,h=>by
   simp only [qma,Option.bind_eq_some_iff,Option.map_eq_some_iff] at h;obtain ⟨k,hk,u,hu,rs,hr,rfl⟩:=h;have h1:=hf e ⟨k,u,e.2.2⟩ rfl;have ih:=qcf hf hr;simp only [List.filter_cons,← h1];cases f e with
   | true=>simp [qma,hk,hu,ih]
   | false=>simpa using ih
theorem qsp {f:SV × SV × Nat->Bool} {F:MapEntry->Bool} (hf:∀ e v,v.born=e.2.2->f e=F v):∀ {es:List (SV × SV × Nat)} {vs:List MapEntry},qma β es=some vs->zaO f es=vs.all F
 | [],vs,h=>by cases h; rfl
 | e::es,vs,h=>by
   simp only [qma,Option.bind_eq_some_iff,Option.map_eq_some_iff] at h;obtain ⟨k,hk,u,hu,rs,hr,rfl⟩:=h;have h1:=hf e ⟨k,u,e.2.2⟩ rfl;have ih:=qsp hf hr;show zab (f e) (zaO f es) false=_;rw [ih,h1,List.all_cons];cases F ⟨k,u,e.2.2⟩ <;> rfl
def zbx (β:Val):List (Option (SV × SV × Nat))->List (Option MapEntry)->Prop
 | [],[]=>True
 | a::az,b::bs=>(match a,b with
   | none,none=>True
   | some e,some v=>e.1.den β=some v.key/\e.2.1.den β=some v.val/\v.born=e.2.2
   | _,_=>False)/\zbx β az bs
 | _,_=>False
theorem zbx.map {es:List (SV × SV × Nat)} {vs:List MapEntry} (h:qma β es=some vs):zbx β (es.map some) (vs.map some):=by
 induction es generalizing vs with
 | nil=>cases h; trivial
 | cons e es ih =>
   simp only [qma,Option.bind_eq_some_iff,Option.map_eq_some_iff] at h;obtain ⟨k,hk,u,hu,rs,hr,rfl⟩:=h;exact ⟨⟨hk,hu,rfl⟩,ih hr⟩
theorem zbx.length {a:List (Option (SV × SV × Nat))}:∀ {b:List (Option MapEntry)},zbx β a b->a.length=b.length:=by
 induction a with
 | nil=>intro b h; cases b with
   | nil=>rfl
   | cons=>exact h.elim
 | cons x a ih=>intro b h; cases b with
   | nil=>exact h.elim
   | cons y b=>simp [ih h.2]
theorem qbu {f:Option (SV × SV × Nat)->R zai} {φ:zai->Prop} {n:Nat}:∀ {l:List (Option (SV × SV × Nat))} {bs:List (Option MapEntry)} (i:Nat),zbx β l bs->i<=n->n<i+l.length ->
  (∀ a b,bs[n - i]? = some b->zbx β [a] [b]->(f a).Sat φ)->(qi3 f l n i).Sat φ
 | [],_,i,_,h1,h2,_=>by simp at h2; omega
 | [a],[b],i,hc,h1,h2,h=>by
   have:n=i:=by simp at h2; omega
   subst this;exact h a b (by simp) hc
 | a::a'::l,b::bs,i,hc,h1,h2,h=>by
   show (R.fork (decide (n=i)) (f a) (qi3 f (a'::l) n (i+1))).Sat φ;refine ⟨fun hd => ?_,fun hd => ?_⟩
   . have:=of_decide_eq_true hd;subst this;exact h a b (by simp) ⟨hc.1,trivial⟩
   . have hne:=of_decide_eq_false hd;refine qbu (i+1) hc.2 (by omega) (by simp at h2 ⊢; omega) fun x y hy hxy=>h x y ?_ hxy
     rw [show n - i=(n - (i+1))+1 from by omega,List.getElem?_cons_succ]; exact hy
 | [_],[],_,hc,_,_,_=>hc.elim
 | [_],_::_::_,_,hc,_,_,_=>hc.2.elim
 | _::_::_,[],_,hc,_,_,_=>hc.elim
theorem jfa {f:Option (SV × SV × Nat)->R zai} {φ:zai->Prop} {n:Nat} {l:List (Option (SV × SV × Nat))} {bs:List (Option MapEntry)} (hc:zbx β l bs) (hn:n<l.length)
  (h:∀ a b,bs[n]? = some b->zbx β [a] [b]->(f a).Sat φ):(oneM f l).Sat φ:=by
 match l,bs,hc,hn with
 | [a],[b],hc,hn =>
   have:n=0:=by simp at hn; omega
   subst this;exact h a b rfl hc
 | a::a'::l,bs,hc,hn =>
   exact ⟨fun _=>n,qbu 0 hc (Nat.zero_le _) (by simpa using hn) fun x y hy hxy=>h x y (by simpa using hy) hxy⟩
theorem qm7 {es:List (SV × SV × Nat)} {vs:List MapEntry} (h:qma β es=some vs) (seen:List Nat) (since:Nat) :
  zbx β (qzv (qdi es seen) since) ((if (((vs.toArray.filter fun e => !seen.toArray.contains e.born).filter (·.born<since)).isEmpty) then [none] else [])++(((vs.filter fun e => !seen.toArray.contains e.born).filter (·.born<since))++((vs.filter fun e => !seen.toArray.contains e.born).filter (·.born>=since))).map some):=by
 have h1:qma β (qdi es seen)=some (vs.filter fun e => !seen.toArray.contains e.born):=by
  unfold qdi;rw [q4l];refine qcf (fun e v hv => ?_) h;rw [qgv,hv];simp only [List.contains_toArray];cases seen.contains e.2.2 <;> rfl
 have h2:qma β (zgp (qdi es seen) since)=some ((vs.filter fun e => !seen.toArray.contains e.born).filter (·.born<since)):=by
  unfold zgp;rw [q4l];refine qcf (fun e v hv => ?_) h1;rw [hv,Bool.eq_iff_iff];simp [Nat.blt_eq]
 have h3:qma β (zjk (qdi es seen) since)=some ((vs.filter fun e => !seen.toArray.contains e.born).filter (·.born>=since)):=by
  unfold zjk;rw [q4l];refine qcf (fun e v hv => ?_) h1;rw [hv,Bool.eq_iff_iff];simp [Nat.ble_eq]
 unfold qzv;have hemp:((vs.toArray.filter fun e => !seen.toArray.contains e.born).filter (·.born<since)).isEmpty=zfU (zgp (qdi es seen) since):=by
  rw [q6s];have hl:=q3g h2;simp only [List.filter_toArray,List.isEmpty_toArray];rw [Bool.eq_iff_iff,List.isEmpty_iff_length_eq_zero,List.isEmpty_iff_length_eq_zero,hl]
 rw [hemp,q7a,q7a,qxa];have hm:=zbx.map (q4g h2 h3);cases zfU (zgp (qdi es seen) since) with
 | true=>exact ⟨trivial,hm⟩
 | false=>exact hm
theorem choose_lt {n:Nat} (hn:0<n):∃ k d,k<n/\w.drawn<=d/\(choose (.mapNext n)).run P w=.ok k { w with drawn:=d }:=by
 by_cases hf:n<=1
 . exact ⟨0,w.drawn,hn,Nat.le_refl _,by simp [choose,Sem.run,Question.forced,hf]⟩
 . exact ⟨w.tape w.drawn (.mapNext n) % n,w.drawn+1,Nat.mod_lt _ hn,Nat.le_succ _,by simp [choose,Sem.run,Question.forced,hf,Question.cut]⟩
theorem jga {es:List (SV × SV × Nat)} {vs:List MapEntry} (h:qma β es=some vs) (seen:List Nat) (last:Nat):(!seen.toArray.isEmpty && !vs.toArray.isEmpty && vs.toArray.all (·.born>=last))=qj3 es seen last:=by
 unfold qj3;have hl:=q3g h;have h1:zfU es=vs.isEmpty:=by
  rw [q6s,Bool.eq_iff_iff,List.isEmpty_iff_length_eq_zero,List.isEmpty_iff_length_eq_zero,hl]
 have h2:zaO (fun e=>Nat.ble last e.2.2) es=vs.all (·.born>=last):=qsp (fun e v hv=>by rw [hv,Bool.eq_iff_iff]; simp [Nat.ble_eq]) h
 rw [h1,h2,q6s];simp only [List.isEmpty_toArray,List.all_toArray];cases seen.isEmpty <;> cases vs.isEmpty <;> rfl
theorem qyj {res:Result Next} {d:Nat} (hd:w.drawn<=d) (hres:res=.ok (.value (.tuple #[.bool false])) { w with drawn:=d }):zdN.Sat (qea P H β w base res) :=
 fun _=>⟨_,_,_,β,hres,rfl,rfl,(Eff.refl P β w base).drew d hd,by simp⟩
theorem q1x {vs:List MapEntry} {l lm:Loc} {since last c:Nat} {seen:List Nat} (hhi:w.heap[l.blk]? = some (.mapIter (some lm.blk) since seen.toArray last)) (hhm:w.heap[lm.blk]? = some (.map vs.toArray c)) {ty:TypeId}
  (hg':(!seen.toArray.isEmpty && !vs.toArray.isEmpty && vs.toArray.all (·.born>=last))=false) {bs:List (Option MapEntry)}
  (hA:((if (((vs.toArray.filter fun e => !seen.toArray.contains e.born).filter (·.born<since)).isEmpty) then #[none] else #[])++(((vs.toArray.filter fun e => !seen.toArray.contains e.born).filter (·.born<since))++((vs.toArray.filter fun e => !seen.toArray.contains e.born).filter (·.born>=since))).map some:Array (Option MapEntry))=bs.toArray) (hz:0<bs.length) :
  ∃ n d,n<bs.length/\w.drawn<=d/\∀ b,bs[n]? = some b->(Instr.next (.pointer (some ⟨l.blk,0,none⟩)) false ty).run P w=match b with
      | none=>.ok (.tuple #[.bool false]) { w with drawn:=d }
      | some e=>.ok (.tuple #[.bool true,e.key,e.val]) { w with drawn:=d,heap:=w.heap.setIfInBounds l.blk (.mapIter (some lm.blk) since (seen.toArray.push e.born) c) }:=by
 have hgi:(getObj l.blk).run P w=.ok (.mapIter (some lm.blk) since seen.toArray last) w:=by simp [getObj,Sem.run,hhi]
 obtain ⟨n,d,hn,hdr,hch⟩:=choose_lt (P:=P) (w:=w) (n:=bs.length) hz;refine ⟨n,d,hn,hdr,fun b hb => ?_⟩;have hgm:=qob (P:=P) hhm;simp only [Instr.next,Sem.run_bind,hgi,Result.andThen_ok,hgm,hg',Bool.false_eq_true,if_false,hA]
 have hsz:bs.toArray.size=bs.length:=by simp
 have hb':bs.toArray[n]? = some b:=by simpa using hb
 simp only [hsz,hch,Result.andThen_ok,hb'];cases b with
 | none=>rfl
 | some e =>
   have hs:(setObj l.blk (.mapIter (some lm.blk) since (seen.toArray.push e.born) c)).run P { w with drawn:=d }=.ok () { w with drawn:=d,heap:=w.heap.setIfInBounds l.blk (.mapIter (some lm.blk) since (seen.toArray.push e.born) c) }:=by
    simp [setObj,Sem.run,hhi]
   simp only [Sem.run_bind,hs,Result.andThen_ok,Sem.run_pure]
theorem qn7 (hr:HeapRel0 P O w0 β H w) {it m since last:Nat} {seen:List Nat} {l:Loc} (hl:β it=some l) (hI:H[it]? = some (.obj (.iter (some m) since seen last))) {ty:TypeId} {res:Result Next}
  (hres:∀ v w',(Instr.next (.pointer (some ⟨l.blk,0,none⟩)) false ty).run P w=.ok v w'->res=.ok (.value v) w'):(ql3 H it m since seen last).Sat (qea P H β w base res):=by
 unfold ql3;split
 . rename_i kS vS es c hm;rw [qda] at hm;obtain ⟨lm,o,hlm,_,hd,hhm⟩:=hr.entries _ _ hm;obtain ⟨hfit,rfl⟩:=zaW.za2.1 hd;obtain ⟨l',o,hl',h0,hd,hhi⟩:=hr.entries _ _ hI;rw [hl] at hl'; cases hl';simp only [zaW.den,hlm,Option.map_some,Option.some.injEq] at hd;subst hd;rintro ⟨zeQ,hold⟩;have hg':(!seen.toArray.isEmpty && !es.toArray.isEmpty && es.toArray.all (·.born>=last))=false:=by
    cases hb:(!seen.toArray.isEmpty && !es.toArray.isEmpty && es.toArray.all (·.born>=last)) with
    | false=>rfl
    | true =>
      exfalso;refine zeQ ⟨?_,?_,?_⟩
      . rintro rfl; simp at hb
      . rintro rfl; simp at hb
      . intro e he;simp only [Bool.and_eq_true,List.all_toArray,List.all_eq_true,decide_eq_true_eq] at hb;exact hb.2 e he
   have hleft:∀ e∈qwa es seen,e.born<since/\e∈es:=fun e he=>by
    unfold qwa at he;have:=(List.mem_filter.1 he).1;exact ⟨hold e this,this⟩
   have e1:(qwa es seen).filter (fun e=>decide (e.born<since))=qwa es seen:=List.filter_eq_self.2 fun e he=>by simp [(hleft e he).1]
   have e2:(qwa es seen).filter (fun e=>decide (e.born>=since))=[]:=List.filter_eq_nil_iff.2 fun e he=>by have:=(hleft e he).1; simp; omega
   have hA:((if (((es.toArray.filter fun e => !seen.toArray.contains e.born).filter (·.born<since)).isEmpty) then #[none] else #[])++(((es.toArray.filter fun e => !seen.toArray.contains e.born).filter (·.born<since))++((es.toArray.filter fun e => !seen.toArray.contains e.born).filter (·.born>=since))).map some:Array (Option MapEntry))=((if (qwa es seen).isEmpty then [none] else [])++(qwa es seen).map some).toArray:=by
    have e0:es.filter (fun e => !seen.contains e.born)=qwa es seen:=rfl;simp only [List.filter_toArray,List.contains_toArray,e0,e1,e2,List.isEmpty_toArray];split <;> simp
   cases hemp:(qwa es seen).isEmpty with
   | true =>
     refine ⟨fun _ => ?_,fun h=>(by cases h)⟩
     rw [hemp] at hA;obtain ⟨n,d,hn,hdr,hrun⟩:=q1x hhi hhm (ty:=ty) hg' hA (by simp)
     have hnil:qwa es seen=[]:=List.isEmpty_iff.1 hemp;rw [hnil] at hrun hn;have hn0:n=0:=by simp at hn; omega
     subst hn0;exact qyj hdr (hres _ _ (hrun none rfl))
   | false =>
     refine ⟨fun h=>(by cases h),fun _ => ?_⟩
     rw [hemp] at hA;have hne:qwa es seen≠[]:=fun h=>by rw [h] at hemp; cases hemp
     have hpos:0<(qwa es seen).length:=List.length_pos_iff.2 hne;obtain ⟨n,d,hn,hdr,hrun⟩:=q1x hhi hhm (ty:=ty) hg' hA (by simpa using hpos)
     have hn:n<(qwa es seen).length:=by simpa using hn
     have hpick:qwd (qwa es seen) n=(qwa es seen)[n]:=by
      unfold qwd;rw [Nat.mod_eq_of_lt hn,List.getElem?_eq_getElem hn]; rfl
     have hmem:qwd (qwa es seen) n∈qwa es seen:=by rw [hpick]; exact List.getElem_mem hn
     have hfe:=hfit _ (hleft _ hmem).2;have hrb:=hrun (some (qwd (qwa es seen) n)) (by
      rw [hpick];simp only [Bool.false_eq_true,if_false,List.nil_append,List.getElem?_map,List.getElem?_eq_getElem hn,Option.map_some])
     refine ⟨fun _=>n,?_⟩;intro _;refine ⟨_,_,_,β,hres _ _ hrb,rfl,?_,(Eff.zeD (o:=.iter (some m) since (app seen [(qwd (qwa es seen) n).born]) c) (x:=.mapIter (some lm.blk) since (seen.toArray.push (qwd (qwa es seen) n).born) c) hl h0 hhi ?_).drew d hdr,?_⟩
     . simp only [SV.den,SV.zal,hfe.1 β,hfe.2 β,SB.den];rfl
     . simp [zaW.den,hlm,q7a]
     . intro k e' hk;simp at hk;obtain ⟨rfl,rfl⟩:=hk;exact ⟨_,hI,rfl,.not⟩
 . rename_i es c hm;rw [qda] at hm;obtain ⟨lm,o,hlm,_,hd,hhm⟩:=hr.entries _ _ hm;simp only [zaW.den,Option.map_eq_some_iff] at hd;obtain ⟨vs,hvs,rfl⟩:=hd;obtain ⟨l',o,hl',h0,hd,hhi⟩:=hr.entries _ _ hI;rw [hl] at hl'; cases hl';simp only [zaW.den,hlm,Option.map_some,Option.some.injEq] at hd;subst hd;refine R.Sat.zab (fun _=>trivial) fun hg => ?_
   have zf1:=qm7 hvs seen since;have hgi:(getObj l.blk).run P w=.ok (.mapIter (some lm.blk) since seen.toArray last) w:=by simp [getObj,Sem.run,hhi]
   generalize hB:((if (((vs.toArray.filter fun e => !seen.toArray.contains e.born).filter (·.born<since)).isEmpty) then [none] else [])++(((vs.filter fun e => !seen.toArray.contains e.born).filter (·.born<since))++((vs.filter fun e => !seen.toArray.contains e.born).filter (·.born>=since))).map some:List (Option MapEntry))=bs at zf1
   have hlen:=zf1.length;have hA:((if (((vs.toArray.filter fun e => !seen.toArray.contains e.born).filter (·.born<since)).isEmpty) then #[none] else #[])++(((vs.toArray.filter fun e => !seen.toArray.contains e.born).filter (·.born<since))++((vs.toArray.filter fun e => !seen.toArray.contains e.born).filter (·.born>=since))).map some:Array (Option MapEntry))=bs.toArray:=by
    rw [← hB];split <;> simp
   by_cases hz:bs.length=0
   . have:qzv (qdi es seen) since=[]:=List.eq_nil_of_length_eq_zero (by omega)
     rw [this]; trivial
   obtain ⟨n,d,hn,hdr,hch⟩:=choose_lt (P:=P) (w:=w) (n:=bs.length) (by omega)
   have hrun:∀ b,bs[n]? = some b->(Instr.next (.pointer (some ⟨l.blk,0,none⟩)) false ty).run P w=match b with
     | none=>.ok (.tuple #[.bool false]) { w with drawn:=d }
     | some e=>.ok (.tuple #[.bool true,e.key,e.val]) { w with drawn:=d,heap:=w.heap.setIfInBounds l.blk (.mapIter (some lm.blk) since (seen.toArray.push e.born) c) }:=by
    intro b hb;have hgm:=qob (P:=P) hhm;have hg':=jga hvs seen last;rw [hg] at hg';simp only [Instr.next,Sem.run_bind,hgi,Result.andThen_ok,hgm,hg',Bool.false_eq_true,if_false,hA]
    have hsz:bs.toArray.size=bs.length:=by simp
    have hb':bs.toArray[n]? = some b:=by simpa using hb
    simp only [hsz,hch,Result.andThen_ok,hb'];cases b with
    | none=>rfl
    | some e =>
      have hs:(setObj l.blk (.mapIter (some lm.blk) since (seen.toArray.push e.born) c)).run P { w with drawn:=d }=.ok () { w with drawn:=d,heap:=w.heap.setIfInBounds l.blk (.mapIter (some lm.blk) since (seen.toArray.push e.born) c) }:=by
       simp [setObj,Sem.run,hhi]
      simp only [Sem.run_bind,hs,Result.andThen_ok,Sem.run_pure]
   refine jfa (n:=n) zf1 (by omega) fun a b hb hab => ?_
   have hrb:=hrun b hb;obtain ⟨hab,_⟩:=hab;cases a with
   | none =>
     cases b with
     | some v=>exact hab.elim
     | none=>exact qyj hdr (hres _ _ hrb)
   | some e =>
     cases b with
     | none=>exact hab.elim
     | some v =>
       obtain ⟨h1,h2,h3⟩:=hab;intro _;refine ⟨_,_,_,β,hres _ _ hrb,rfl,?_,(Eff.zeD (o:=.iter (some m) since (app seen [e.2.2]) c) (x:=.mapIter (some lm.blk) since (seen.toArray.push v.born) c) hl h0 hhi ?_).drew d hdr,?_⟩
       . simp [SV.den,SV.zal,h1,h2,SB.den]
       . simp [zaW.den,hlm,q7a,h3]
       . intro k e' hk;simp at hk;obtain ⟨rfl,rfl⟩:=hk;exact ⟨_,hI,rfl,.not⟩
 . trivial
theorem qo7 (hr:HeapRel0 P O w0 β H w) {it pos:Nat} {s:za8} {l:Loc} (hl:β it=some l) (hI:H[it]? = some (.obj (.str s pos))) {ty:TypeId} {res:Result Next}
  (hres:∀ v w',(Instr.next (.pointer (some ⟨l.blk,0,none⟩)) true ty).run P w=.ok v w'->res=.ok (.value v) w'):(qm3 it s pos).Sat (qea P H β w base res):=by
 obtain ⟨l',o,hl',h0,hd,hhi⟩:=hr.entries _ _ hI;rw [hl] at hl'; cases hl';simp only [zaW.den,Option.some.injEq] at hd;subst hd;have hgi:(getObj l.blk).run P w=.ok (.stringIter s.den pos) w:=by simp [getObj,Sem.run,hhi]
 have hover:¬ pos<s.den.size->zdN.Sat (qea P H β w base res):=by
  intro hlt;refine qyj (d:=w.drawn) (Nat.le_refl _) (hres _ _ ?_);simp only [Instr.next,Sem.run_bind,hgi,Result.andThen_ok,if_neg hlt,Sem.run_pure]
 have hgo:pos<s.den.size->∀ v:SV,v.den β=some (.tuple #[.bool true,goInt pos,.int .i32 (Utf8.decode s.den pos).1])->(R.ok (zai.val v [(it,.obj (.str s (pos+(Utf8.decode s.den pos).2)))] [])).Sat (qea P H β w base res):=by
  intro hlt v hv _;have hs:(setObj l.blk (.stringIter s.den (pos+(Utf8.decode s.den pos).2))).run P w=.ok () { w with heap:=w.heap.setIfInBounds l.blk (.stringIter s.den (pos+(Utf8.decode s.den pos).2)) }:=by
   simp [setObj,Sem.run,hhi]
  refine ⟨_,_,_,β,hres (.tuple #[.bool true,goInt pos,.int .i32 (Utf8.decode s.den pos).1]) _ ?_,rfl,hv,Eff.zeD (x:=.stringIter s.den (pos+(Utf8.decode s.den pos).2)) hl h0 hhi rfl,?_⟩
  . simp only [Instr.next,Sem.run_bind,hgi,Result.andThen_ok,if_pos hlt,hs,Sem.run_pure]
  . intro k e' hk;simp at hk;obtain ⟨rfl,rfl⟩:=hk;exact ⟨_,hI,rfl,.not⟩
 unfold qm3;split
 . rename_i b;refine R.Sat.zab (fun hb=>hgo (qnn hb) _ (by simp [SV.den,SV.zal,SB.den,SI.den,goInt,za8.den])) fun hb=>hover fun hlt => ?_
   have:Nat.blt pos b.size=true:=Nat.ble_eq_true_of_le hlt;rw [this] at hb; cases hb
 . exact ⟨fun hb=>hgo (of_decide_eq_true hb) _ (by simp [SV.den,SV.zal,SB.den,SI.den,goInt]),fun hb=>hover (of_decide_eq_false hb)⟩
theorem qp7 (hr:HeapRel0 P O w0 β H w) {x:Operand} {b:Bool} (hx:(ev x).den β=some (ρ x)) :
  (j7c x b P ev H base).Sat (qea P H β w base ((execOp ρ ⟨dst,.next x b,t,pos,af,g⟩).run P w)):=by
 refine q8i hx fun a A ha hA hxA=>SN.zaT (fun o ho=>R.Sat.zab (fun hz => ?_) fun _=>trivial) fun _=>trivial;have:=Nat.eq_of_beq_eq_true hz;subst this;obtain ⟨l,hl,rfl⟩:=SA.zaB hA;have hres:∀ e:zaW,H[a.nm]? = some (.obj e)->∀ v w',(Instr.next (.pointer (some ⟨l.blk,0,none⟩)) b t).run P w=.ok v w'->(execOp ρ ⟨dst,.next x b,t,pos,af,g⟩).run P w=.ok (.value v) w':=by
  intro e he v w' h;obtain ⟨l',o,hl',h0,_,_⟩:=hr.entries _ _ he;rw [hl] at hl'; cases hl';rw [ho,h0] at hxA;simp only [SN.den,Nat.add_zero] at hxA;simp [execOp,hxA,h]
 split
 . rename_i q1 q2 q3 he;rw [qda] at he;refine R.Sat.zab (fun _=>trivial) fun hb => ?_
   subst hb;obtain ⟨l',o,hl',h0,hd,hhi⟩:=hr.entries _ _ he;rw [hl] at hl'; cases hl';simp only [zaW.den,Option.some.injEq] at hd;subst hd;refine qyj (d:=w.drawn) (Nat.le_refl _) (hres _ he _ _ ?_);have hgi:(getObj l.blk).run P w=.ok (.mapIter none q1 q2.toArray q3) w:=by simp [getObj,Sem.run,hhi]
   simp only [Instr.next,Sem.run_bind,hgi,Result.andThen_ok,Sem.run_pure]
 . rename_i m since seen last he;rw [qda] at he;refine R.Sat.zab (fun _=>trivial) fun hb => ?_
   subst hb;exact qn7 hr hl he (ty:=t) (hres _ he)
 . rename_i s pos' he;rw [qda] at he;refine R.Sat.zab (fun hb => ?_) fun _=>trivial;subst hb;exact qo7 hr hl he (ty:=t) (hres _ he)
 . trivial
theorem q2x:∀ l:List Nat,qn3 l=l.getLast?
 | []=>rfl
 | [a]=>rfl
 | a::b::l=>by
   have:=q2x (b::l);rw [List.getLast?_cons_cons,← this]; rfl
theorem qcu {s:Nat} {f:SV × SV × Nat->R zai} {φ:zai->Prop}:∀ {es:List (SV × SV × Nat)} {vs:List MapEntry},qma β es=some vs ->
  (∀ e v,e.1.den β=some v.key->e.2.1.den β=some v.val->vs.find? (·.born == s)=some v->(f e).Sat φ)->(qo3 s f es).Sat φ
 | [],_,_,_=>trivial
 | e::es,vs,h,hf=>by
   simp only [qma,Option.bind_eq_some_iff,Option.map_eq_some_iff] at h;obtain ⟨k,hk,v,hv,rs,hr,rfl⟩:=h;show R.Sat (zab (Nat.beq e.2.2 s) (f e) (qo3 s f es)) φ;refine R.Sat.zab (fun hb => ?_) fun hb => ?_
   . refine hf e ⟨k,v,e.2.2⟩ hk hv ?_
     simp [Nat.eq_of_beq_eq_true hb]
   . refine qcu hr fun e' v' h1 h2 h3=>hf e' v' h1 h2 ?_
     have:(e.2.2 == s)=false:=by
      rw [beq_eq_false_iff_ne];intro h;rw [h,show Nat.beq s s=true from Nat.beq_refl s] at hb
      cases hb
     simp [this,h3]
theorem qt4 (hr:HeapRel0 P O w0 β H w) {x:Operand} (hx:(ev x).den β=some (ρ x)) :
  (qm6 x P ev H base).Sat (qea P H β w base ((execOp ρ ⟨dst,.entry x,t,pos,af,g⟩).run P w)):=by
 refine q8i hx fun a A ha hA hxA=>SN.zaT (fun o ho=>R.Sat.zab (fun hz => ?_) fun _=>trivial) fun _=>trivial;have:=Nat.eq_of_beq_eq_true hz;subst this;obtain ⟨l,hl,rfl⟩:=SA.zaB hA;split
 . rename_i m q seen stepped he;rw [qda] at he;unfold ql6;split
   . rename_i kS vS es c hm;rw [qda] at hm;rintro ⟨rfl,hne,hex⟩;obtain ⟨lm,o,hlm,_,hd,hhm⟩:=hr.entries _ _ hm;obtain ⟨hfit,rfl⟩:=zaW.za2.1 hd;obtain ⟨l',o,hl',h0,hd,hhi⟩:=hr.entries _ _ he;rw [hl] at hl'; cases hl';simp only [zaW.den,hlm,Option.map_some,Option.some.injEq] at hd;subst hd;have hsome:∃ e,es.find? (fun e=>e.born == qse seen)=some e:=by
      obtain ⟨e,h1,h2⟩:=hex;cases hf:es.find? (fun e=>e.born == qse seen) with
      | some e=>exact ⟨e,rfl⟩
      | none =>
        have:=List.find?_eq_none.1 hf e h1;simp [h2] at this
     obtain ⟨e,hf⟩:=hsome;have hmem:=List.mem_of_find?_eq_some hf;have hge:zec es (qse seen)=e:=by unfold zec; rw [hf]; rfl
     have hlast:seen.toArray.back? = some (qse seen):=by
      have:seen.getLast? = some (qse seen):=by
       unfold qse;rw [List.getLast?_eq_some_getLast hne]; rfl
      simpa using this
     rw [hge];rw [ho,h0] at hxA;simp only [SN.den,Nat.add_zero] at hxA;refine qga (x:=.tuple #[e.key,e.val]) ?_ ?_
     . have hgi:(getObj l.blk).run P w=.ok (.mapIter (some lm.blk) q seen.toArray c) w:=by simp [getObj,Sem.run,hhi]
       have hgm:=qob (P:=P) hhm;have hfd:es.toArray.find? (·.born == qse seen)=some e:=by simpa using hf
       have hrun:(Instr.entry (.pointer (some ⟨l.blk,0,none⟩))).run P w=.ok (.tuple #[e.key,e.val]) w:=by
        simp only [Instr.entry,Sem.run_bind,hgi,Result.andThen_ok,hlast,hgm,bne_self_eq_false,Bool.false_eq_true,if_false,hfd];rfl
       simp [execOp,hxA,hrun]
     . simp only [SV.den,SV.zal,(hfit e hmem).1 β,(hfit e hmem).2 β];rfl
   . rename_i es c hm;rw [qda] at hm;refine R.Sat.zab (fun hc => ?_) fun _=>trivial;have:=Nat.eq_of_beq_eq_true hc;subst this;obtain ⟨lm,o,hlm,_,hd,hhm⟩:=hr.entries _ _ hm;simp only [zaW.den,Option.map_eq_some_iff] at hd;obtain ⟨vs,hvs,rfl⟩:=hd;obtain ⟨l',o,hl',h0,hd,hhi⟩:=hr.entries _ _ he;rw [hl] at hl'; cases hl';simp only [zaW.den,hlm,Option.map_some,Option.some.injEq] at hd;subst hd;cases hls:qn3 seen with
     | none=>trivial
     | some s =>
       rw [zao];refine qcu hvs fun e v h1 h2 h3 => ?_
       rw [ho,h0] at hxA;simp only [SN.den,Nat.add_zero] at hxA;rw [q2x] at hls;refine qga (x:=.tuple #[v.key,v.val]) ?_ ?_
       . have hgi:(getObj l.blk).run P w=.ok (.mapIter (some lm.blk) q seen.toArray c) w:=by simp [getObj,Sem.run,hhi]
         have hgm:=qob (P:=P) hhm;have hbk:seen.toArray.back? = some s:=by simpa using hls
         have hfd:vs.toArray.find? (·.born == s)=some v:=by simpa using h3
         have hrun:(Instr.entry (.pointer (some ⟨l.blk,0,none⟩))).run P w=.ok (.tuple #[v.key,v.val]) w:=by
          simp only [Instr.entry,Sem.run_bind,hgi,Result.andThen_ok,hbk,hgm,bne_self_eq_false,Bool.false_eq_true,if_false,hfd];rfl
         simp [execOp,hxA,hrun]
       . simp only [SV.den,SV.zal,h1,h2];rfl
   . trivial
 . trivial
end
end
end Go.Sim
