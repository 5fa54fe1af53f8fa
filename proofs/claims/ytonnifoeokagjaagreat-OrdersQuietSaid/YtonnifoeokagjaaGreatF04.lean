/- The theorem quiet_holds of OrdersQuiet: part 4 of its proof; no conditions. -/
import Derived.Test.YtonnifoeokagjaaGreatF03
namespace Go.Proofs.YtonnifoeokagjaaGreat
set_option linter.all false
set_option maxRecDepth 8000
open Go Go.RowKit
open Option renaming some->J,none->B
open Bool renaming true->M,false->R
open List renaming length->O
namespace br
noncomputable section
variable{P:Program}{base:Bs}{body:Code}{fn:Func}{h:aE}{m':AM}{Y:Nat}{params:Array Tmp}{r:dI}{vs:List u}{w w0:World}
def JQ{xt:FuncId->Option Ext}(pk:PK P xt){m:AM}{f cs lo}(hF:FR r lo m.next m.fr f)(jL:lo<=m.next)
 (hC:DO r base lo m.callers cs) (hH:HR r m.heap m.next w0 w) (iy:m.fr.ret=R) {g assign k} (kI:m.fr.todo= .code (.rangeFunc g params assign body)::k)
 (G:Al P xt m g params.toList assign body k=J m'):rX P w0 base f cs w m':=by
 have im:f.mode= .run:=by rw[hF.mode,iy];rfl
 have iM:=hF.top;rw[kI]at iM;generalize oR:f.todo=ft at iM;cases iM with
 |plain lE oi=>
 cases lE with|cons H lE=>
 cases H;rename_i ks;have⟨Bi,Mc,mh,my⟩:=m;simp only at hF jL hC hH iy oi lE;unfold Al at G;simp only at G;split at G
 .rename_i pU;have CJ:f.roundOf=B:=by
   exact avc
  unfold ud at G;split at G
  .rename_i er Rm;have Xt:r my=B:=hH.fresh (an _);have Ja:=uI hH (o:= .defs (J [])) (obj:= .deferred (J [])) ⟨[],Z,.nil⟩;have abi:=dI.vR (x:=(w.heap.size,0)) Xt;have adD:=dI.vR (x:=(({w with heap:=w.heap.push (.deferred (J []))}:World).heap.size,0)) (Ja.fresh (an _));have PS:=uI Ja (o:= .loop (Aq Bi params.toList assign body my)) (obj:= .loop {state:= .ready,pending:=B,fn:=f.fn,tmps:=f.tmps,params,assign,body,defers:=w.heap.size})
    ⟨_,Z,Z,Z,hF.fn,oi.mono abi,hF.size,Z,Z,Z,0,dI.iT _ _ _⟩
   have hle:=dI.le_trans abi adD;have rL:∀b,b<my->((r.upd my (w.heap.size,0)).upd (my+1) (({w with heap:=w.heap.push (.deferred (J []))}:World).heap.size,0)) b=r b:=λb D=>by rw[dI.kP _ _ U,dI.kP _ _ U]
   have eV:(Instr.enterLoop f.fn f.tmps params assign body f.roundOf).run P w= .ok (w.heap.size+1,[{target:= .collected w.heap.size,args:= #[]}])
    {w with heap:=(w.heap.push (.deferred (J []))).push (.loop {state:= .ready,pending:=B,fn:=f.fn,tmps:=f.tmps,params,assign,body,defers:=w.heap.size})}:=by
    rw[CJ];simp[Instr.enterLoop];rfl
   have hap:=Pa (cs:=cs) im oR eV;have QD:({({w with heap:=w.heap.push (.deferred (J []))}:World)with heap:=({w with heap:=w.heap.push (.deferred (J []))}:World).heap.push (.loop {state:= .ready,pending:=B,fn:=f.fn,tmps:=f.tmps,params,assign,body,defers:=w.heap.size})}:World)=
    {w with heap:=(w.heap.push (.deferred (J []))).push (.loop {state:= .ready,pending:=B,fn:=f.fn,tmps:=f.tmps,params,assign,body,defers:=w.heap.size})}:=rfl
   rw[QD]at PS;rw[(bR:({w with heap:=w.heap.push (.deferred (J []))}:World).heap.size=w.heap.size+1)]at PS hle rL;have agX:VR ((r.upd my (w.heap.size,0)).upd (my+1) (w.heap.size+1,0)) (.um (my+1)) (.func (.yield (w.heap.size+1)) #[] #[]):= .um (dI.iT _ _ _);have hmk:((r.upd my (w.heap.size,0)).upd (my+1) (w.heap.size+1,0)) my=J (w.heap.size,0):=by rw[dI.kP _ _ U];exact dI.iT _ _ _
   have tm:=wk pk PS ((xh oi g).mono hle) (.cons agX .nil) Rm;have Pn:FR ((r.upd my (w.heap.size,0)).upd (my+1) (w.heap.size+1,0)) lo (my+2) ((Bi.lz (.kW (my+1)::k)).xx (.xF my::Bi.defers))
    {f with todo:= .inRangeFunc (w.heap.size+1)::ks,defers:=[{target:= .collected w.heap.size,args:= #[]}]++f.defers}:=
    ⟨hF.fn,hF.size,.cons (.xF hmk) (hF.defers.mono hle),hF.mode,hF.kind,hF.round.mono hle,.plain (.cons (.kW (dI.iT _ _ _)) (lE.mono hle)) (oi.mono hle)⟩
   have⟨f2,NK,w2,h5,h6⟩:=uF (m:=(AM.mk Bi Mc mh my).Nk Bi (aI (aI mh my (.defs (J []))) (my+1) (.loop (Aq Bi params.toList assign body my))) 2) Pn U (an _)
    (hC.mono hle λb D=>rL b U) PS hap tm G
   exact⟨f2,NK,w2,.one h5,h6⟩
  .cases G
 .rename_i l pU;split at G
  .rename_i al ho;have uP:=hF.round;rw[pU]at uP;cases CJ:f.roundOf with
   |none=>rw[CJ]at uP;exact uP.elim
   |some kk=>
   rw[CJ]at uP;have⟨n,K⟩:=uP;have⟨ke,Gs,hk,N,dc⟩:=zI (P:=P) hH K ho;have⟨nd,zh⟩:=Gs.2.2.2.2.2.2.2.2;unfold ud at G;split at G
   .rename_i er Rm;have hle:=dI.vR (x:=(w.heap.size,0)) (hH.fresh (an _));have rL:∀b,b<my->r.upd my (w.heap.size,0) b=r b:=λb D=>dI.kP _ _ U
    have PS:=uI hH (o:= .loop (Aq Bi params.toList assign body al.defers)) (obj:= .loop {state:= .ready,pending:=B,fn:=f.fn,tmps:=f.tmps,params,assign,body,defers:=ke.defers})
     ⟨_,Z,Z,Z,hF.fn,oi,hF.size,Z,Z,Z,nd,zh⟩
    have eV:(Instr.enterLoop f.fn f.tmps params assign body f.roundOf).run P w= .ok (w.heap.size,[])
     {w with heap:=w.heap.push (.loop {state:= .ready,pending:=B,fn:=f.fn,tmps:=f.tmps,params,assign,body,defers:=ke.defers})}:=by
     rw[CJ];simp[Instr.enterLoop,N]
    have tm:=wk pk PS ((xh oi g).mono hle) (.cons ( .um (dI.iT _ _ _)) .nil) Rm;have Pn:FR (r.upd my (w.heap.size,0)) lo (my+1) (Bi.lz (.kW my::k)) {f with todo:= .inRangeFunc w.heap.size::ks,defers:=[]++f.defers}:=
     ⟨hF.fn,hF.size,hF.defers.mono hle,hF.mode,hF.kind,hF.round.mono hle,.plain (.cons (.kW (dI.iT _ _ _)) (lE.mono hle)) (oi.mono hle)⟩
    have⟨f2,NK,w2,h5,h6⟩:=uF (m:=(AM.mk Bi Mc mh my).Nk Bi (aI mh my (.loop (Aq Bi params.toList assign body al.defers))) 1) Pn U (an _)
     (hC.mono hle λb D=>rL b U) PS (Pa (cs:=cs) im oR eV) tm G
    exact⟨f2,NK,w2,.one h5,h6⟩
   .cases G
  .cases G
def rv(t:Array Value):ResultVar->Sem Value
 | .tmp a=>pure (t.getD a undef)
 | .cell a ty=>do loadVar ty (<-asAddr (t.getD a undef))
def MV(fn:Func)(t):results fn t=(do let vs<-fn.results.mapM (rv t);pure (if h:vs.size=1 then vs[0]else .tuple vs)):=by
 unfold results
 congr 2
def sj{P r h Y w0 w}(hr:HR r h Y w0 w){s:BT u}{t}(ht:TR r s t):∀(l:List ResultVar) (vs:List u),eW P h s l=J vs->
 ∃us,fv r vs us/\(l.mapM (rv t)).run P w= .ok us w
 |[],vs,hv=>by simp only[eW,bF]at hv;subst hv;exact⟨[],.nil,bR⟩
 | .tmp a::l,vs,hv=>by
  simp only[eW]at hv;split at hv
  .rename_i q hq;injection hv with hv;subst hv
   have⟨us,W,F⟩:=sj hr ht l q hq;refine⟨_,.cons (ht a) W,?_⟩;simp only[List.mapM_cons,rv,Sem.run_bind,Sem.run_pure,Result.andThen_ok,F]
  .cases hv
 | .cell a ty::l,vs,hv=>by
  simp only[eW]at hv;split at hv
  .rename_i v K;split at hv
   .rename_i q hq;injection hv with hv;subst hv
    have⟨us,W,F⟩:=sj hr ht l q hq;have⟨k,off,AV,L,eV,P'⟩:=BU P hr (ht a) K;refine⟨_,.cons P' W,?_⟩;simp only[List.mapM_cons,rv,L,asAddr,eV,Sem.run_bind,Sem.run_pure,Result.andThen_ok,F]
   .cases hv
  .cases hv
def Bt(hr:HR r h Y w0 w){s:BT u}{t}(ht:TR r s t)(hv:eW P h s fn.results.toList=J vs):
 ∃AV,VR r (one vs) AV/\(results fn t).run P w= .ok AV w:=by
 have⟨us,W,F⟩:=sj hr ht _ _ hv;refine⟨if h:us.toArray.size=1 then us.toArray[0]else .tuple us.toArray,?_,?_⟩
 .cases W with
  |nil=>exact .dY .nil
  |cons h3 h4=>
   cases h4 with
   |nil=>simpa[one]using h3
   |cons h5 h6=>simp only[one,y9,bD];rw[dif_neg U];exact .dY (.cons h3 (.cons h5 h6))
 .rw[MV,Array.mapM_eq_mapM_toList];simp only[Sem.run_bind,Sem.run_map,F,Result.andThen_ok,Sem.run_pure]
def Ii{m:AM}{f cs lo}(pk:∃xt,PK P xt)(hF:FR r lo m.next m.fr f)(jL:lo<=m.next)
 (hC:DO r base lo m.callers cs) (hH:HR r m.heap m.next w0 w) (iy:m.fr.ret=M) (G:Ir P m=J m'):rX P w0 base f cs w m':=by
 have⟨xt,pk⟩:=pk;have im:f.mode= .returning:=by rw[hF.mode,iy];rfl
 have zh:=hF.defers;have⟨Bi,Mc,mh,my⟩:=m;simp only at hF jL hC hH iy zh;unfold Ir at G;simp only at G;split at G
 .rename_i b ds nh;rw[nh]at zh;generalize NG:f.defers=fd at zh;cases zh with
  |cons z qF=>
  cases z with|xF D=>
  rename_i fds k n;split at G
  .rename_i calls ho;injection G with G;subst G
   have⟨l,hk,hdr⟩:=hH.obj b _ k n ho D;have eV:(Instr.takeDeferred k).run P w= .ok l {w with heap:=w.heap.setIfInBounds k (.deferred B)}:=by simp[Instr.takeDeferred,getObj,Sem.run,hk,setObj]
   have jS:=af6 (cs:=cs) im NG eV;refine⟨_,cs,_,.one jS,MR.mk' (r:=r) (lo:=lo) ⟨hF.fn,hF.size,hdr.append qF,hF.mode,hF.kind,hF.round,hF.top⟩ jL hC (hH.set D ho trivial (o':= .defs B) Z (ma ((hH.zX b _ D).2.2))) λg k' e hp hr=>?_⟩;have hr:Bi.ret=R:=hr;rw[iy]at hr;cases hr
  .cases G
 .rename_i g cap args ds nh;rw[nh]at zh;generalize NG:f.defers=fd at zh;cases zh with
  |cons z qF=>
  cases z with|fn A ha=>
  rename_i fds c as;split at G
  .rename_i fr N7;injection G with G;subst G
   have⟨e1,e2,⟨cc,e3⟩,e4⟩:=wL (ha.append A) N7 my;have XQ:∃fn cd,P.funcs[g]?=J fn/\fn.body=J cd:=by
    unfold bY.enter at N7;split at N7
    .rename_i fn hf;split at N7;.rename_i cd D;exact⟨fn,cd,hf,D⟩
     .cases N7
    .cases N7
   have⟨fn,cd,hf,D⟩:=XQ;have xd:¬fn.name= "runtime.NumGoroutine" :=Mf (pk.Ot g fn hf)
   have eV:(callFunc g (as.toArray++c.toArray)).run P w= .ok (.enter g (as.toArray++c.toArray)) w:=by simp[callFunc,hf,xd,D]
   have jS:=LQ (cs:=cs) im NG eV;rw[(bR:as.toArray++c.toArray=(as++c).toArray)]at jS;refine⟨_,_,w,.one jS,MR.mk' (r:=r) (lo:=my) e1 (an _) (.cons ⟨hF.fn,hF.size,qF,hF.mode,hF.kind,hF.round,hF.top⟩ jL hC) hH λg' k' e=>?_⟩;have e:fr.todo= .kR g'::k':=e;rw[e3]at e;cases e
  .cases G
 .rename_i nh;rw[nh]at zh;generalize NG:f.defers=fd at zh;cases zh;split at G;.cases G
  .rename_i c acs zU;split at G;.cases G
   .rename_i ZF;have oi:TR r Bi.cX f.tmps:=by
     have iM:=hF.top;generalize f.todo=q at iM;generalize Bi.todo=q' at iM ZF;cases iM with
     |plain _ oi=>exact oi
     |kR _ _ _ _=>exact absurd Z ZF
    split at G
    .rename_i fn hf;split at G
     .rename_i vs va;have⟨AV,hu,eV⟩:=Bt hH oi va;have nP:P.funcs[f.fn]?=J fn:=hF.fn▸hf
      cases hC with
      |cons A XP hC=>
      rename_i Jh c' tw;unfold zr at G;split at G
      .rename_i hdd;have sD:f.kind= .deferred:=hF.kind▸(au hdd)
       split at G
       .rename_i hcr;injection G with G;subst G
        have jS:=PX (cs:=tw) im NG sD nP eV (A.mode▸(au hcr));refine⟨_,tw,w,.one jS,MR.mk' (r:=r) (lo:=Jh) (A.mono (dI.le_refl r) jL λ_ _=>rfl) (by show Jh<=my;omega) hC hH λg k' e hp hr=>?_⟩;exact Bool.noConfusion (hr.symm.trans hcr)
       .cases G
      .rename_i hdd;have sD:f.kind= .normal:=by rw[hF.kind];exact ak hdd
       split at G
       .rename_i fr pB;injection G with G;subst G
        have⟨ht1,Ln⟩:=oJ pB;refine⟨_,tw,w,.one (Xl (c:=c') (cs:=tw) im NG sD nP eV),MR.mk' (r:=r) (lo:=Jh) ((mR A pB hu).mono (dI.le_refl r) jL λ_ _=>rfl) (by show Jh<=my;omega) hC hH λg k' e hp=>?_⟩;rw[Ln g k' e]at hp;cases hp
       .cases G
     .cases G
    .cases G
variable{args:List u}
def ND{xt:FuncId->Option Ext}(pk:PK P xt){m:AM}{f cs lo}(hF:FR r lo m.next m.fr f)(jL:lo<=m.next)
 (hC:DO r base lo m.callers cs) (hH:HR r m.heap m.next w0 w) (iy:m.fr.ret=R) {c k} (kI:m.fr.todo= .code c::k) (G:DH P xt m c k=J m'):rX P w0 base f cs w m':=by
 have im:f.mode= .run:=by rw[hF.mode,iy];rfl
 have yW:∃ks,f.todo= .code c::ks/\G7 r k ks/\TR r m.fr.cX f.tmps:=by
  have iM:=hF.top;rw[kI]at iM;generalize oR:f.todo=ft at iM;cases iM with
  |plain lE oi=>
  cases lE with|cons H lE=>
  cases H;exact⟨_,Z,lE,oi⟩
 have⟨ks,oR,lE,oi⟩:=yW;unfold DH at G;cases c with
 |ret=>exact wO hF jL hC hH iy (.inr (.inl ⟨k,kI,Z⟩)) G
 |skip=>exact mK hF jL hC hH iy G lE oi (IC im oR (.inl ⟨Z,Z⟩))
 |seq a b=>exact mK hF jL hC hH iy G (.cons (.code a) (.cons (.code b) lE)) oi (IC im oR (FF (.inl ⟨a,b,Z,Z⟩)))
 |cond c thn els=>
  replace G:w8 m thn els k (qw m.fr.cX c)=J m':=G;unfold w8 at G;split at G;.rename_i b D;have hv:=xh oi c;rw[D]at hv;generalize hec:f.eval c=AV at hv;cases hv;exact mK hF jL hC hH iy G (.cons (.code _) lE) oi (afw im oR hec)
  .cases G
 |block id body=>exact mK hF jL hC hH iy G (.cons (.code body) (.cons (.inBlock id) lE)) oi (IC im oR (Fe (.inl ⟨id,body,Z,Z⟩)))
 |loop body=>exact mK hF jL hC hH iy G (.cons (.code body) (.cons (.inLoop body) lE)) oi (IC im oR (Fg (.inl ⟨body,Z,Z⟩)))
 |exit id=>
  replace G:wh m id k=J m':=G;unfold wh at G;split at G;.rename_i k' CT;have⟨ck',W,F⟩:=(yv id lE).1 k' CT;exact mK hF jL hC hH iy G F oi (ae1 im oR W)
  .rename_i CT;exact wO hF jL hC hH iy (FF ⟨id,k,kI,CT,Z⟩) G
 |region id ops draw=>
  replace G:yp m ops draw k=J m':=G;unfold yp at G;cases draw with
  |true=>exact Np ⟨xt,pk⟩ hF jL hC hH iy kI G
  |false=>
   simp only[du,cU]at G;refine mK hF jL hC hH iy G (.cons (.ops ?_) lE) oi (IC im oR (Fl (.inl ⟨id,ops,Z,Z⟩)));apply iX;intro i;simp only[gY];by_cases H:i<ops.size;.simp[H]
   .rw[ed gr,ed gr];rfl
 |rangeFunc g params assign body=>exact JQ pk hF jL hC hH iy kI G
 |scope _=>cases G
 |label _=>cases G
 |goto _=>cases G
 |refuse _=>cases G
def wW{xt:FuncId->Option Ext}(pk:PK P xt){m f cs}(hm:MR P w0 base m f cs w)(G:vh P xt m=J m'):rX P w0 base f cs w m':=by
 have⟨⟨r,lo,hF,jL,hC,hH⟩,Ez⟩:=hm;unfold vh at G;split at G;.rename_i iy;exact Ii ⟨xt,pk⟩ hF jL hC hH iy G
 .rename_i iy;have iy:m.fr.ret=R:=Mf iy
  have im:f.mode= .run:=by rw[hF.mode,iy];rfl
  split at G;.rename_i ht;exact wO hF jL hC hH iy (.inl ⟨ht,Z⟩) G
  .rename_i i k ht;unfold JB at G;have yW:(∀g,i≠ .kR g)->∃ci ks,f.todo=ci::ks/\IR r i ci/\G7 r k ks/\TR r m.fr.cX f.tmps:=by
    intro cD;have iM:=hF.top;rw[ht]at iM;generalize oR:f.todo=ft at iM;cases iM with
    |plain lE oi=>
     cases lE with|cons H lE=>
     exact⟨_,_,Z,H,lE,oi⟩
    |kR _ _ _ _=>exact absurd Z (cD _)
   cases i with
   |code c=>exact ND pk hF jL hC hH iy ht G
   |inBlock id=>have⟨ci,ks,oR,H,lE,oi⟩:=yW bR;cases H;exact mK hF jL hC hH iy G lE oi (IC im oR (.inr (.inl ⟨id,Z,Z⟩)))
   |inLoop body=>have⟨ci,ks,oR,H,lE,oi⟩:=yW bR;cases H;exact mK hF jL hC hH iy G (.cons (.code body) (.cons (.inLoop body) lE)) oi (IC im oR (Fk (.inl ⟨body,Z,Z⟩)))
   |ops l ops=>exact RH pk hF jL hC hH iy ht G
   |kR g=>exact asZ pk hF jL hC hH iy ht (λzL=>Ez g k ht zL iy) G
   |lA l=>exact asP hF jL hC hH iy ht G
   |beginRound=>exact Jj hF jL hC hH iy ht G
   |kW _=>cases G
def uS{P}{xt:FuncId->Option Ext}(pk:PK P xt){w0 base}:∀(n:Nat) {m m':AM} {f:Frame} {cs:List Frame} {w:World},MR P w0 base m f cs w->Ag P xt n m=J m'->rX P w0 base f cs w m'
 |0,m,m',f,cs,w,hm,G=>by simp only[Ag,bF]at G;subst G;exact⟨f,cs,w,Steps.refl P _,hm⟩
 |n+1,m,m',f,cs,w,hm,G=>by
  simp only[Ag]at G;split at G;.rename_i m1 W;have⟨f1,cs1,w1,s1,Lu⟩:=wW pk hm W;have⟨f2,NK,w2,s2,LP⟩:=uS pk n Lu G;exact⟨f2,NK,w2,s1.trans s2,LP⟩
  .cases G
def Ku{g fr}(h:bY.enter P g args R=J fr){hp}(hH:HR r hp Y w0 w){vs}(ha:fv r args vs)(cs):
 MR P w0 ⟨cs,r,Y⟩ ⟨fr,[],hp,Y⟩ (Frame.enter P g vs.toArray .normal) cs w:=by
 have⟨e1,e2,⟨c,e3⟩,e4⟩:=wL ha h Y;refine MR.mk' (r:=r) (lo:=Y) e1 (an _) (.nil Y (dI.le_refl r) (λ_ _=>rfl) (an _)) hH λg' k e=>?_;have e:fr.todo= .kR g'::k:=e;rw[e3]at e;cases e
def BK(P:Program)(m:AM):Option u:=match m.callers with
 |[]=>match m.fr.defers with
  |[]=>if m.fr.ret&& !m.fr.deferred&& !qO m.fr.todo then(match P.funcs[m.fr.fn]? with
   |some fn=>match eW P m.heap m.fr.cX fn.results.toList with
    |some vs=>J (one vs)
    |none=>B
   |none=>B)else B
  |_=>B
 |_=>B
def Ds{m f cs}(hm:MR P w0 base m f cs w){v}(V:BK P m=J v):
 ∃AV r,cs=base.fs/\f.fn=m.fr.fn/\f.leaving P w (.returned AV)/\VR r v AV/\dI.le base.r0 r/\(∀b,b<base.n0->r b=base.r0 b)/\base.n0<=m.next/\HR r m.heap m.next w0 w:=by
 have⟨⟨r,lo,hF,jL,hC,hH⟩,_⟩:=hm;unfold BK at V;split at V
 .rename_i zU;split at V
  .rename_i hdf;split at V
   .rename_i A;simp only[aS,jF]at A;have⟨⟨W,F⟩,h3⟩:=A;split at V
    .rename_i fn hf;split at V
     .rename_i vs va;injection V with V
      have oi:TR r m.fr.cX f.tmps:=by
       have iM:=hF.top;generalize f.todo=q at iM;generalize m.fr.todo=q' at iM h3;cases iM with
       |plain _ oi=>exact oi
       |kR _ _ _ _=>cases h3
      have⟨AV,hu,eV⟩:=Bt hH oi va;rw[V]at hu;rw[zU]at hC;cases hC with|nil _ c1 c2 c3=>
      have z:=hF.defers;rw[hdf]at z;generalize NG:f.defers=fd at z;cases z;exact⟨_,r,Z,hF.fn,⟨by rw[hF.mode];exact au W,NG,by rw[hF.kind];exact ak (by simp[F]),fn,by rw[hF.fn];exact hf,eV⟩,hu,c1,c2,U,hH⟩
     .cases V
    .cases V
   .cases V
  .cases V
 .cases V
def Qp{m f cs}(hm:MR P w0 base m f cs w){v}(V:BK P m=J (.g v)):
 cs=base.fs/\f.fn=m.fr.fn/\f.leaving P w (.returned v)/\Below w0.heap.size w0 w:=by
 have⟨AV,r,W,F,h3,h4,_,_,_,h5⟩:=Ds hm V;cases h4;exact⟨W,F,h3,h5.below⟩
def aW(h:aE):List Nat->aE->aE
 |[],acc=>acc
 |b::l,acc=>aW h l (match N h b with|some o=>aI acc b o|none=>acc)
variable{h':u->aE->Nat->Prop}{R':AM->Prop}{n:Nat}{wait:bY}
section
variable(P:Program)
def eO(m:AM)(zxQ:AM->Prop):Prop:=
 ∀(w0:World) (base:Bs) (f:Frame) (cs:List Frame) (w:World),MR P w0 base m f cs w->
  ∃m' f' tw w',zxQ m'/\Steps P (lone f cs w) (lone f' tw w')/\MR P w0 base m' f' tw w'
def eO.done{m}{zxQ:AM->Prop}(h:zxQ m):eO P m zxQ:=λ_ _ f cs w hm=>⟨m,f,cs,w,h,Steps.refl P _,hm⟩
def eO.trans{m}{zxQ R':AM->Prop}(h:eO P m R')(Q:∀m',R' m'->eO P m' zxQ):eO P m zxQ:=by intro w0 base f cs w hm;have⟨m1,f1,cs1,w1,hr,G,Lu⟩:=h w0 base f cs w hm;have⟨m2,f2,NK,w2,uP,nB,LP⟩:=Q m1 hr w0 base f1 cs1 w1 Lu;exact⟨m2,f2,NK,w2,uP,G.trans nB,LP⟩
def eO.mono{m}{zxQ:AM->Prop}(h:eO P m R')(Q:∀m',R' m'->zxQ m'):eO P m zxQ:=h.trans P λ_ hr=> .done P (Q _ hr)
def eO.step{xt:FuncId->Option Ext}(pk:PK P xt){m}{zxQ:AM->Prop}(h:vh P xt m=J m')(Q:eO P m' zxQ):eO P m zxQ:=by intro w0 base f cs w hm;have⟨f1,cs1,w1,s1,Lu⟩:=wW pk hm h;have⟨m2,f2,NK,w2,uP,nB,LP⟩:=Q w0 base f1 cs1 w1 Lu;exact⟨m2,f2,NK,w2,uP,s1.trans nB,LP⟩
def eO.steps{xt:FuncId->Option Ext}(pk:PK P xt){m}{zxQ:AM->Prop}(h:Ag P xt n m=J m')(Q:eO P m' zxQ):eO P m zxQ:=by intro w0 base f cs w hm;have⟨f1,cs1,w1,s1,Lu⟩:=uS pk n hm h;have⟨m2,f2,NK,w2,uP,nB,LP⟩:=Q w0 base f1 cs1 w1 Lu;exact⟨m2,f2,NK,w2,uP,s1.trans nB,LP⟩
def eO.ghost{m}{zxQ:AM->Prop}(h:∀w0 base f cs w,MR P w0 base m f cs w->MR P w0 base m' f cs w)(Q:eO P m' zxQ):eO P m zxQ:=
 λw0 base f cs w hm=>Q w0 base f cs w (h _ _ _ _ _ hm)
def az(f:FuncId)(args:List u)(h:aE)(Y:Nat)(h':u->aE->Nat->Prop):Prop:=
 (∃fr,bY.enter P f args R=J fr)/\
 ∀(r:dI) (w0 w:World) (vs:List Value),HR r h Y w0 w->fv r args vs->
  Calls P f vs.toArray w λe w'=>∃AV r' v Q E,e= .returned AV/\dI.le r r'/\(∀b,b<Y->r' b=r b)/\Y<=E/\HR r' Q E w0 w'/\VR r' v AV/\h' v Q E
def az.mono{f args h Y}{h' Q':u->aE->Nat->Prop}(A:az P f args h Y h')(hq:∀v Q E,h' v Q E->Q' v Q E):az P f args h Y Q':=
 ⟨A.1,λr w0 w vs hH hv=>(A.2 r w0 w vs hH hv).mono λ_ _ ⟨AV,r',v,Q,E,a,b,c,d,e,g,q⟩=>⟨AV,r',v,Q,E,a,b,c,d,e,g,hq _ _ _ q⟩⟩
def Vj{t}(h:TR r (eK args 0 .nil) t)(K:O args<=t.size):
 ∃vs,fv r args vs/\t=vs.toArray++Array.replicate (t.size-(O vs)) undef:=by
 refine⟨t.toList.take (O args),?_,?_⟩
 .have key:∀(n:Nat) (a:List u) (l:List Value),O a=n->O l=n->(∀(i:Nat) (x:u),a[i]?=J x->∃y,l[i]?=J y/\VR r x y)->fv r a l:=by
   intro n
   induction n with
   |zero=>intro a l ha K _;cases a<;>cases l<;>simp_all;exact .nil
   |succ n ih=>
    intro a l ha K H;cases a with
    |nil=>simp at ha
    |cons a as=>cases l with
     |nil=>simp at K
     |cons b bs=>have⟨y,hy,hv⟩:=H 0 a Z;simp at hy;subst hy;exact .cons hv (ih as bs (Mf ha) (Mf K) λi x L=>H (i+1) x (Mf L))
  refine key (O args) _ _ Z gr λi x L=>?_;have dc:=(dD.1 L).1;have W:=h i;rw[qY]at W;simp only[aQ,cA,qk,L]at W;refine⟨t.getD i undef,?_,W⟩;rw[gJ dc];have:i<t.size:=U;simp[Array.getD,this]
 .apply Array.ext;.simp;omega
  .intro i W F;by_cases H:i<O args;.rw[Array.getElem_append_left gr];simp
   .rw[Array.getElem_append_right gr];have h3:=h i;rw[qY]at h3;have:args[i]?=B:=List.getElem?_eq_none_iff.2 U;simp only[aQ,cA,qk,this,Ed]at h3;have h4:t.getD i undef=undef:=by generalize t.getD i undef=q at h3;cases h3;rfl
    simp only[Array.getElem_replicate];rw[<-h4];simp[Array.getD,W]
def eO.call{xt:FuncId->Option Ext}(pk:PK P xt){m g fr cs}{zxQ:AM->Prop}
 (G:vh P xt m=J ⟨fr,wait::cs,h,Y⟩) (V:bY.enter P g args R=J fr) (A:az P g args h Y h')
 (hk:∀v Q E,h' v Q E->∃Au,wait.finish v=J Au/\eO P ⟨Au,cs,Q,E⟩ zxQ):eO P m zxQ:=by
 intro w0 base f fs w hm;have⟨f1,fs1,w1,s1,Lu⟩:=wW pk hm G;have⟨⟨r,lo,hF,jL,hC,hH⟩,_⟩:=Lu;cases hC with|cons hFw vy hC=>
 rename_i ke fw fs2;have N7:∃vs,fv r args vs/\f1=Frame.enter P g vs.toArray .normal:=by
  unfold bY.enter at V;split at V
  .rename_i fn hf;split at V
   .rename_i c D;split at V
    .rename_i cf;injection V with V;subst V
     have iM:=hF.top;have e1:=hF.fn;have e2:=hF.size;have e3:=hF.defers;have e4:=hF.mode;have e5:=hF.kind;have e6:=hF.round;have⟨fn1,tmps1,td1,df1,md1,kd1,ro1⟩:=f1;simp only at e1 e2 e3 e4 e5 e6 iM;cases e3;cases ro1 with
     |some _=>exact e6.elim
     |none=>
     cases iM with|plain lE oi=>
     cases lE with|cons H ht=>
     cases H;cases ht;have⟨vs,hv,htm⟩:=Vj oi U;refine⟨vs,hv,?_⟩;subst e1 e4 e5;simp only[Frame.enter,hf,eB,fI,aT,D,y9];rw[e2]at htm;rw[htm];rfl
    .cases V
   .cases V
  .cases V
 obtain⟨vs,hv,rfl⟩:=N7;obtain⟨e,w2,fr2,⟨AV,r',v,Q,E,rfl,hle,hag,tn,Q4,P',hq⟩,hcom,XQ,hleave⟩:=A.2 r w0 w1 vs hH hv (fw::fs2);have⟨Au,pB,eV⟩:=hk _ _ _ hq;have hFw':=mR (hFw.mono hle (an _) λb D=>hag b (by simp only at jL;omega)) pB P';have jL:lo<=Y:=jL;have LP:MR P w0 base ⟨Au,cs,Q,E⟩ (fw.finish AV) fs2 w2:=by have⟨_,Ln⟩:=oJ pB;exact MR.mk' (r:=r') (lo:=ke) (hFw'.mono (dI.le_refl _) (by show lo<=E;omega) λ_ _=>rfl) (by show ke<=E;omega) (hC.mono hle λb D=>hag b U) Q4 λg k e hp=>by rw[Ln g k e]at hp;cases hp
 have⟨m3,f3,cs3,w3,hR,s3,hm3⟩:=eV w0 base _ _ _ LP;exact⟨m3,f3,cs3,w3,hR,s1.trans ((show Steps P _ _ from hcom).trans (.head (step_leave_returned hleave) s3)),hm3⟩
def az.Cs{g fr}(V:bY.enter P g args R=J fr)
 (hr:eO P ⟨fr,[],h,Y⟩ λm=>m.fr.fn=g/\∃v,BK P m=J v/\h' v m.heap m.next):az P g args h Y h':=by
 refine⟨⟨fr,V⟩,λr w0 w vs hH hv cs=>?_⟩;have⟨m,f,tw,w',⟨XQ,v,hv',hq⟩,G,hm⟩:=hr w0 _ _ _ _ (Ku V hH hv cs);obtain⟨AV,r',rfl,W,F,h3,h4,h5,h6,h7⟩:=Ds hm hv';exact⟨.returned AV,w',f,⟨AV,r',v,m.heap,m.next,Z,h4,h5,h6,h7,h3,hq⟩,G,W.trans XQ,F⟩
end
variable{Q':u->aE->Nat->Prop}{cs:List u}{f:FuncId}{Q:aE}{E:Nat}{r':dI}{w':World}
mutual
def tF(Y:Nat):u->Prop
 | .g _=>True
 | .ptr b _=>b<Y
 | .sl b _ _ _=>b<Y
 | .og b _ _ _=>b<Y
 | .sle=>True
 | .mp b=>b<Y
 | .um b=>b<Y
 | .fz _ cs=>jz Y cs
 | .fp cs=>jz Y cs
 | .fi _ _ cs=>jz Y cs
 | .e0=>True
 | .fn _ cs=>jz Y cs
 | .lP _ v=>tF Y v
 | .agg cs=>jz Y cs
 | .dY cs=>jz Y cs
def jz(Y:Nat):List u->Prop
 |[]=>True
 |a::as=>tF Y a/\jz Y as
end
def jz.iff{Y}:∀{l:List u},jz Y l↔∀a∈l,tF Y a
 |[]=>by simp[jz]
 |a::l=>by simp[jz,jz.iff (l:=l)]
mutual
def VR.lT{r Y}(z:∀b x,r b=J x->b<Y):∀{a:u} {v:Value},VR r a v->tF Y a
 |_,_,.g _=>trivial
 |_,_,.ptr e=>z _ _ e
 |_,_,.sl e=>z _ _ e
 |_,_,.og e _=>z _ _ e
 |_,_,.sle=>trivial
 |_,_,.mp e=>z _ _ e
 |_,_,.um e=>z _ _ e
 |_,_,.EM=>trivial
 |_,_,.Ee=>trivial
 |_,_,.fz _ _ t=>fv.lT z t
 |_,_,.N9=>trivial
 |_,_,.Pu=>trivial
 |_,_,.fp _ t=>fv.lT z t
 |_,_,.fi _ t=>fv.lT z t
 |_,_,.fn t=>fv.lT z t
 |_,_,.lP t=>have h:=VR.lT z t;h
 |_,_,.agg t=>fv.lT z t
 |_,_,.dY t=>fv.lT z t
def fv.lT{r}{Y:Nat}(z:∀b x,r b=J x->b<Y):∀{a:List u} {v:List Value},fv r a v->jz Y a
 |_,_,.nil=>trivial
 |_,_,.cons e t=>⟨VR.lT z e,fv.lT z t⟩
end
structure Cut(Y:Nat)(r' vA:dI):Prop where
 names:∀b x,b<Y->r' b=J x->vA b=J x
 tG:∀k o v,r'.hd k o=J v->vA.hd k o=J v
mutual
def VR.cut{Y:Nat}{r' vA}(c:Cut Y r' vA):∀{a:u} {v:Value},tF Y a->VR r' a v->VR vA a v
 |_,_,_,.g v=> .g v
 |_,_,l,.ptr e=> .ptr (c.names _ _ l e)
 |_,_,l,.sl e=> .sl (c.names _ _ l e)
 |_,_,l,.og e q=> .og (c.names _ _ l e) q
 |_,_,_,.sle=> .sle
 |_,_,l,.mp e=> .mp (c.names _ _ l e)
 |_,_,l,.um e=> .um (c.names _ _ l e)
 |_,_,_,.EM=> .EM
 |_,_,_,.Ee=> .Ee
 |_,_,l,.fz e q t=> .fz (λi v h=>c.tG _ _ _ (e i v h)) q (fv.cut c l t)
 |_,_,_,.N9=> .N9
 |_,_,_,.Pu=> .Pu
 |_,_,l,.fp e t=> .fp (λi v h=>c.tG _ _ _ (e i v h)) (fv.cut c l t)
 |_,_,l,.fi e t=> .fi (λi v h=>c.tG _ _ _ (e i v h)) (fv.cut c l t)
 |_,_,l,.fn t=> .fn (fv.cut c l t)
 |_,_,l,.lP t=> .lP (VR.cut c l t)
 |_,_,l,.agg t=> .agg (fv.cut c l t)
 |_,_,l,.dY t=> .dY (fv.cut c l t)
def fv.cut{Y:Nat}{r' vA}(c:Cut Y r' vA):∀{a:List u} {v:List Value},jz Y a->fv r' a v->fv vA a v
 |_,_,_,.nil=> .nil
 |_,_,l,.cons e t=> .cons (VR.cut c l.1 e) (fv.cut c l.2 t)
end
def agC(Y:Nat):AD->Prop
 | .fn _ c a=>jz Y c/\jz Y a
 | .xF b=>b<Y
def ah3(Y:Nat):AO->Prop
 | .cells cs _=>jz Y cs
 | .fM cs _ _=>jz Y cs
 | .map es _=>∀e∈es,tF Y e.1/\tF Y e.2.1
 | .loop l=>(∀i,tF Y (X l.cX i))/\l.defers<Y
 | .defs B=>True
 | .defs (J ds)=>∀d∈ds,agC Y d
 | .it b=>b<Y
 | .dead=>True
def Gy.lT{r Y}(z:∀b x,r b=J x->b<Y):∀{a:List AD} {v:List Deferred},Gy r a v->∀d∈a,agC Y d
 |_,_,.nil,_,h=>by cases h
 |_,_,.cons e t,d,h=>by
  obtain rfl|h:=bJ.1 h
  .cases e with
   |fn a b=>exact⟨a.lT z,b.lT z⟩
   |xF a=>exact z _ _ a
  .exact Gy.lT z t d h
def Gy.cut{Y r' vA}(c:Cut Y r' vA):∀{a:List AD} {v:List Deferred},(∀d∈a,agC Y d)->Gy r' a v->Gy vA a v
 |_,_,_,.nil=> .nil
 |_,_,l,.cons e t=> .cons (by
  have:=l _ (jh ..);cases e with
  |fn a b=>exact .fn (a.cut c this.1) (b.cut c this.2)
  |xF a=>exact .xF (c.names _ _ this a)) (Gy.cut c (λd h=>l d (bP _ h)) t)
def xE.lT{r Y}(z:∀b x,r b=J x->b<Y):∀{a:List (u×u×Nat)} {v:List MapEntry},xE r a v->∀e∈a,tF Y e.1/\tF Y e.2.1
 |_,_,.nil,_,h=>by cases h
 |_,_,.cons a b t,d,h=>by
  obtain rfl|h:=bJ.1 h;.exact⟨a.lT z,b.lT z⟩
  .exact xE.lT z t d h
def xE.cut{Y r' vA}(c:Cut Y r' vA):∀{a:List (u×u×Nat)} {v:List MapEntry},(∀e∈a,tF Y e.1/\tF Y e.2.1)->xE r' a v->xE vA a v
 |_,_,_,.nil=> .nil
 |_,_,l,.cons a b t=> .cons (a.cut c (l _ (jh ..)).1) (b.cut c (l _ (jh ..)).2) (xE.cut c (λd h=>l d (bP _ h)) t)
def OR.lT{r Y}(z:∀b x,r b=J x->b<Y){o n x}(h:OR r o n x):ah3 Y o:=by
 cases o with
 |cells cs e=>have⟨c,_,v⟩:=h;exact v.lT z
 |fM cs e es=>have⟨c,c',_,v,_⟩:=h;exact v.lT z
 |map es cl=>have⟨l,_,v⟩:=h;exact v.lT z
 |loop l=>have⟨y,_,v⟩:=h;have⟨_,_,_,a,_,_,_,_,n,b⟩:=v;exact⟨λi=>(a i).lT z,z _ _ b⟩
 |defs c=>
  cases c with
  |none=>trivial
  |some ds=>have⟨l,_,v⟩:=h;exact v.lT z
 |it b=>have⟨k,q,s,seen,last,a,_⟩:=h;exact z _ _ a
 |dead=>trivial
def OR.cut{Y r' vA}(c:Cut Y r' vA){o n x}(l:ah3 Y o)(h:OR r' o n x):OR vA o n x:=by
 cases o with
 |cells cs e=>have⟨q,a,v⟩:=h;exact⟨q,a,v.cut c l⟩
 |fM cs e es=>have⟨q,q',a,v,b⟩:=h;exact⟨q,q',a,v.cut c l,b⟩
 |map es cl=>have⟨q,a,v⟩:=h;exact⟨q,a,v.cut c l⟩
 |loop o=>have⟨y,a,v⟩:=h;have⟨e1,e2,e3,t,e4,e5,e6,e7,n,b⟩:=v;exact⟨y,a,e1,e2,e3,λi=>(t i).cut c (l.1 i),e4,e5,e6,e7,n,c.names _ _ l.2 b⟩
 |defs d=>
  cases d with
  |none=>exact h
  |some ds=>have⟨q,a,v⟩:=h;exact⟨q,a,v.cut c l⟩
 |it b=>have⟨k,q,s,seen,last,a,e⟩:=h;exact⟨k,q,s,seen,last,c.names _ _ l a,e⟩
 |dead=>trivial
mutual
inductive Fz(h:aE)(Y:Nat):u->u->Prop
 |cw {v:u} (l:tF Y v):Fz h Y v v
 |nil:Fz h Y (.g (.slice B 0 0)) (.fz 0 [])
 |sle:Fz h Y .sle (.fz 0 [])
 |e0:Fz h Y .e0 (.fz 0 [])
 |sl {b off len cap q:Nat} {o:AO} {cs tw:List u} (D:Y<=b) (ho:N h b=J o) (A:o.cells?=J cs) (K:len<=cap) (G:Cl h Y ((cs.drop off).take q) tw):Fz h Y (.sl b off len cap) (.fz len tw)
 |og {b off j len:Nat} {o:AO} {cs tw:List u} (D:Y<=b) (ho:N h b=J o) (A:o.cells?=J cs) (G:Cl h Y (cs.drop off) tw):Fz h Y (.og b off j len) (.fz len tw)
 |ptr {b off:Nat} {o:AO} {cs tw:List u} (D:Y<=b) (ho:N h b=J o) (A:o.cells?=J cs) (G:Cl h Y (cs.drop off) tw):Fz h Y (.ptr b off) (.fp tw)
 |fz {len:Nat} {cs tw:List u} (G:Cl h Y cs tw):Fz h Y (.fz len cs) (.fz len tw)
 |lP {t:TypeId} {v v':u} (G:Fz h Y v v'):Fz h Y (.lP t v) (.lP t v')
 |agg {cs tw:List u} (G:Cl h Y cs tw):Fz h Y (.agg cs) (.agg tw)
 |dY {cs tw:List u} (G:Cl h Y cs tw):Fz h Y (.dY cs) (.dY tw)
inductive Cl(h:aE)(Y:Nat):List u->List u->Prop
 |nil:Cl h Y [] []
 |cons {a a':u} {l l':List u} (ha:Fz h Y a a') (K:Cl h Y l l'):Cl h Y (a::l) (a'::l')
end
def Cl.cw{h:aE}{Y}:∀{l:List u},jz Y l->Cl h Y l l
 |[],_=> .nil
 |_::_,K=> .cons (.cw K.1) (Cl.cw K.2)
def AO.Dn{o:AO}(h:o.cells?=J cs):o.live:=by cases o<;>simp_all[AO.cells?,AO.live]
structure Vt(h:aE)(Y:Nat)(w:World)(r' vA:dI):Prop where
 cut:Cut Y r' vA
 cells:∀b k n o cs,Y<=b->r' b=J (k,n)->N h b=J o->o.cells?=J cs->∀i v,w.cell? ⟨k,i,B⟩=J v->vA.hd k i=J v
mutual
def Fz.sound{h Y E w0 w r' vA}(hr:HR r' h E w0 w)(c:Vt h Y w r' vA):∀{a a':u} {v:Value},Fz h Y a a'->VR r' a v->VR vA a' v
 |_,_,_,.cw l,hv=>hv.cut c.cut l
 |_,_,_,.nil,hv=>by cases hv;exact .EM
 |_,_,_,.sle,hv=>by cases hv;exact .Ee
 |_,_,_,.e0,hv=>by cases hv with
  |N9=>exact .EM
  |Pu=>exact .Ee
 |_,_,_,.sl (off:=off) (q:=qq) D ho A K G,hv=>by
  cases hv with
  |sl e=>
   have⟨cc,c',t,hk,va⟩:=hr.cells e ho A;refine .fz (vs:=(cc.drop off).take qq) (λi v q=>c.cells _ _ _ _ _ D e ho A _ _ ?_) K (Cl.sound hr c G ((va.drop off).take qq));have hj:cc[off+i]?=J v:=by
    rw[eQ]at q;split at q;.simpa using q
    .cases q
   exact auu
 |_,_,_,.og (off:=off) D ho A G,hv=>by
  cases hv with
  |og e hn=>
   have⟨cc,c',t,hk,va⟩:=hr.cells e ho A;refine .fz (vs:=cc.drop off) (λi v q=>c.cells _ _ _ _ _ D e ho A _ _ ?_) U (Cl.sound hr c G (va.drop off));have hj:cc[off+i]?=J v:=Mf q
   exact auu
 |_,_,_,.ptr (off:=off) D ho A G,hv=>by
  cases hv with
  |ptr e=>
   have⟨cc,c',t,hk,va⟩:=hr.cells e ho A;refine .fp (vs:=cc.drop off) (λi v q=>c.cells _ _ _ _ _ D e ho A _ _ ?_) (Cl.sound hr c G (va.drop off));have hj:cc[off+i]?=J v:=Mf q
   exact auu
 |_,_,_,.fz G,hv=>by
  cases hv with
  |EM=>cases G;exact .EM
  |Ee=>cases G;exact .Ee
  |fz e q t=>exact .fz (λi v h=>c.cut.tG _ _ _ (e i v h)) q (Cl.sound hr c G t)
 |_,_,_,.lP G,hv=>by cases hv with|lP t=>exact .lP (Fz.sound hr c G t)
 |_,_,_,.agg G,hv=>by cases hv with|agg t=>exact .agg (Cl.sound hr c G t)
 |_,_,_,.dY G,hv=>by cases hv with|dY t=>exact .dY (Cl.sound hr c G t)
def Cl.sound{h:aE}{Y E:Nat}{w0 w:World}{r' vA}(hr:HR r' h E w0 w)(c:Vt h Y w r' vA):∀{a a':List u} {v:List Value},Cl h Y a a'->fv r' a v->fv vA a' v
 |_,_,_,.nil,hv=>by cases hv;exact .nil
 |_,_,_,.cons ha K,hv=>by cases hv with|cons e t=>exact .cons (Fz.sound hr c ha e) (Cl.sound hr c K t)
end
open Classical in
def frozen(h:aE)(Y:Nat)(w:World)(r r':dI):dI:=
 ⟨r.m,λk o=>match r'.hd k o with
  |some v=>J v
  |none=>if∃b n q cs,Y<=b/\r' b=J (k,n)/\N h b=J q/\q.cells?=J cs then w.cell? ⟨k,o,B⟩else B⟩
def HR.freeze(hr:HR r h Y w0 w)(qE:HR r' Q E w0 w')(hle:dI.le r r')(hag:∀b,b<Y->r' b=r b)
 (hh:∀b,b<Y->N Q b=N h b):
 HR (frozen Q Y w' r r') h Y w0 w'/\dI.le r (frozen Q Y w' r r')/\Vt Q Y w' r' (frozen Q Y w' r r'):=by
 have z:∀b x,r b=J x->b<Y:=λb x e=>(hr.zX b x e).1;have P9:Cut Y r' (frozen Q Y w' r r'):=⟨λb x D e=>by show r b=J x;rw[<-hag b D];exact e,λk o v e=>by simp only[frozen,e]⟩;have hz:∀k o v,(frozen Q Y w' r r').hd k o=J v->r'.hd k o=J v\/(∃b n q cs,Y<=b/\r' b=J (k,n)/\N Q b=J q/\q.cells?=J cs)/\w'.cell? ⟨k,o,B⟩=J v:=by
  intro k o v e;simp only[frozen]at e;split at e;.rename_i v' V;left;rw[V];exact e
  .split at e;.rename_i L;exact .inr ⟨L,e⟩
   .cases e
 refine⟨⟨qE.below,λk o v e=>?_,λb x e=>⟨z b x e,(qE.zX b x (hle.1 b x e)).2⟩,λb o k n e1 e2=>?_,λb b' o o' k n n' e e' l l' f f'=>?_⟩,⟨λb x e=>e,λk o v e=>by simp only[frozen,hle.2 k o v e]⟩,P9,λb k n o cs D e1 e2 e3 i v e4=>?_⟩
 .obtain e|⟨⟨b,n,q,cs,D,e1,e2,e3⟩,e4⟩:=hz k o v e;.refine⟨(qE.tG k o v e).1,λc n1 q e2 e3=>(qE.tG k o v e).2 c n1 q (hle.1 _ _ e2) ((hh c (z _ _ e2))▸e3)⟩
  .refine⟨e4,λc n1 q1 f1 f2 l=>?_⟩;have:c=b:=qE.inj c b q1 q k n1 n (by rw[hh c (z _ _ f1)];exact f2) e2 l (AO.Dn e3) (hle.1 _ _ f1) e1;have:=z _ _ f1;omega
 .have W:=(hr.obj b o k n e1 e2).lT z;exact(qE.obj b o k n ((hh b (z _ _ e2))▸e1) (hle.1 _ _ e2)).cut P9 W
 .exact qE.inj b b' o o' k n n' ((hh b (z _ _ f))▸e) ((hh b' (z _ _ f'))▸e') l l' (hle.1 _ _ f) (hle.1 _ _ f')
 .simp only[frozen];split;.rename_i v' V;rw[(qE.tG k i v' V).1]at e4;exact e4
  .rw[au ⟨b,n,o,cs,D,e1,e2,e3⟩];exact e4
def az.tG{h':u->Prop}(A:az P f args h Y Q')
 (hq:∀v' Q E,Q' v' Q E->(∀b,b<Y->N Q b=N h b)/\∃v,Fz Q Y v' v/\h' v):
 az P f args h Y λv W cC=>h' v/\W=h/\cC=Y:=
 ⟨A.1,λr w0 w vs hH hv=>(A.2 r w0 w vs hH hv).mono λe w' ⟨AV,r',v',Q,E,a,b,c,d,e',g,q⟩=>by have⟨W,v,hz,hQ⟩:=hq _ _ _ q;have⟨i1,i2,i3⟩:=HR.freeze hH e' b c W;exact⟨AV,_,v,h,Y,a,i2,λ_ _=>rfl,an _,i1,hz.sound e' i3 g,hQ,Z,Z⟩⟩
variable{v8:Nat}{AV:Value}
def fv.fix{r}:∀{cs:List u} {c:List Value},fv r cs c->∀{i:Nat} {l:List u},cs[i]?=J (.fp l)->∃hl v8,fv r (cs.set i (.fi hl v8 l)) c
 |_,_,.nil,i,l,h=>by simp at h
 |_,_,.cons e t,0,l,h=>by
  simp only[B',bF]at h;subst h;cases e with
  |fp h hv=>exact⟨_,_,.cons (.fi h hv) t⟩
 |_,_,.cons e t,i+1,l,h=>by have⟨hl,v8,q⟩:=fv.fix t (i:=i) (l:=l) (Mf h);exact⟨hl,v8,.cons e q⟩
def HR.fix{r h Y w0 w}(hr:HR r h Y w0 w){b k n}(D:r b=J (k,n)){cs e}(ho:N h b=J (.cells cs e)){i l}(H:cs[i]?=J (.fp l)):
 ∃hl v8,HR r (aI h b (.cells (cs.set i (.fi hl v8 l)) e)) Y w0 w:=by
 have⟨c,e1,e2⟩:=hr.obj _ _ _ _ ho D;have⟨hl,v8,q⟩:=e2.fix H;exact⟨hl,v8,hr.set D ho trivial (o':= .cells (cs.set i (.fi hl v8 l)) e) ⟨c,Z,q⟩ ⟨Z,Z,Z,Z,λ_ _=>rfl,e1⟩⟩
def fv.reach{r}:∀{cs:List u} {c:List Value},fv r cs c->∀{i b off:Nat},cs[i]?=J (.ptr b off)->∃k n,r b=J (k,n)
 |_,_,.nil,i,b,off,h=>by simp at h
 |_,_,.cons e t,0,b,off,h=>by
  simp only[B',bF]at h;subst h;cases e with
  |ptr h=>exact⟨_,_,h⟩
 |_,_,.cons e t,i+1,b,off,h=>fv.reach t (i:=i) (b:=b) (off:=off) (Mf h)
def HR.reach{r h Y w0 w}(hr:HR r h Y w0 w){b k n}(D:r b=J (k,n)){cs e}(ho:N h b=J (.cells cs e)){i b' off:Nat}(H:cs[i]?=J (.ptr b' off)):∃k' n',r b'=J (k',n'):=by have⟨c,e1,e2⟩:=hr.obj _ _ _ _ ho D;exact e2.reach H
def az.up(A:az P f args h Y h')
 (hq:∀v Q E,h' v Q E->∀r w0 w AV,HR r Q E w0 w->VR r v AV->∃Ai,HR r Ai E w0 w/\Q' v Ai E):az P f args h Y Q':=
 ⟨A.1,λr w0 w vs hH hv=>(A.2 r w0 w vs hH hv).mono λ_ _ ⟨AV,r',v,Q,E,a,b,c,d,e,g,q⟩=>by have⟨Ai,e',q'⟩:=hq _ _ _ q _ _ _ _ e g;exact⟨AV,r',v,Ai,E,a,b,c,d,e',g,q'⟩⟩
def az.less(A:az P f args h Y h')
 (hq:∀v Q E,h' v Q E->∃v',(∀r AV,VR r v AV->VR r v' AV)/\Q' v' Q E):az P f args h Y Q':=
 ⟨A.1,λr w0 w vs hH hv=>(A.2 r w0 w vs hH hv).mono λ_ _ ⟨AV,r',v,Q,E,a,b,c,d,e,g,q⟩=>by have⟨v',w1,q'⟩:=hq _ _ _ q;exact⟨AV,r',v',Q,E,a,b,c,d,e,w1 _ _ g,q'⟩⟩
def VR.am'{hl}(h:VR r (.fi hl v8 cs) AV):VR r (.fp cs) AV:=by
 cases h with
 |fi h hv=>exact .fp h hv
variable{b size:Nat}
section
structure Fx where
 fn:FuncId
 size:Nat
 defers:List AD
 deferred:Bool
 callers:List bY
 round:Option Nat
def Fx.fr(x:Fx)(s:BT u)(todo:List dO)(ret:Bool):bY:=⟨x.fn,s,x.size,todo,x.defers,ret,x.deferred,x.round⟩
def Fx.at(x:Fx)(s:BT u)(h:aE)(Y:Nat)(todo:List dO):AM:=⟨x.fr s todo R,x.callers,h,Y⟩
inductive Ex where
 |jg|ret|out (id:Nat)
variable(P:Program)(xt:FuncId->Option Ext)
def WQ(o:Oper)(hl:BT u->aE->Nat->Prop)(s:BT u)(h:aE)(Y:Nat):Option QR->Prop
 |none=>False
 |some (.val v)=>hl (iz o.dst s v) h Y
 |some (.wF ob)=>hl (iz o.dst s (.ptr Y 0)) (aI h Y ob) (Y+1)
 |some (.ri ob len cap)=>hl (iz o.dst s (.sl Y 0 len cap)) (aI h Y ob) (Y+1)
 |some (.AT ob)=>hl (iz o.dst s (.mp Y)) (aI h Y ob) (Y+1)
def WX(d:Option Tmp)(hl:BT u->aE->Nat->Prop)(s:BT u)(Y:Nat)(ob:AO)(len:Nat)(h:aE):Prop:=match ob,d with
 | .fM cs e es,J d=>∀(cap:Nat) (gs:List Value),len<=cap->O cs+O gs=cap*es->hl (sset s d (.sl Y 0 len cap)) (aI h Y (.cells (cs++gs.map .g) e)) (Y+1)
 |_,_=>False
def WE(o:Oper)(hl:BT u->aE->Nat->Prop)(s:BT u)(Y:Nat):Option ER->Prop
 |none=>False
 |some (.val v h)=>hl (iz o.dst s v) h Y
 |some (.rf ob len h)=>WX o.dst hl s Y ob len h
 |some (.enter _ _)=>False
 |some (.defer _)=>False
 |some (.round _ _)=>False
def HG(r:nR)(l:Nat)(cX:BT u):bY:={fn:=r.fn,cX,size:=r.size,todo:=[.code r.assign,.beginRound,.code r.body],defers:=[],ret:=R,deferred:=R,roundOf:=J l}
def ko(l:Nat)(args:List u)(h:aE)(Y:Nat)(hl:u->aE->Nat->Prop):Prop:=
 ∃r cX,N h l=J (.loop r)/\kr r.params args r.size r.cX=J cX/\
  ∀(wait:bY) (cs:List bY) (zxQ:AM->Prop),(∀v Q E,hl v Q E->∃Au,wait.finish v=J Au/\eO P ⟨Au,cs,Q,E⟩ zxQ)->eO P ⟨HG r l cX,wait::cs,h,Y⟩ zxQ
def WC(o:Oper)(hl:BT u->aE->Nat->Prop)(s:BT u)(h:aE)(Y:Nat):Option ER->Prop
 |some (.enter f args)=>az P f args h Y λv Q E=>hl (iz o.dst s v) Q E
 |some (.round l args)=>ko P l args h Y λv Q E=>hl (iz o.dst s v) Q E
 |r=>WE o hl s Y r
def Wop(o:Oper)(hl:BT u->aE->Nat->Prop)(s:BT u)(h:aE)(Y:Nat):Prop:=
 if cH o.op then WC P o hl s h Y (pg P xt h (qw s) o)else WQ o hl s h Y (en P h (qw s) o)
def xK(ops:Array Oper)(hl:BT u->aE->Nat->Prop):List Oper->BT u->aE->Nat->Prop
 |[],s,h,Y=>hl s h Y
 |o::l,s,h,Y=>match eM ops s o with
  |some M=>Wop P xt o (xK ops hl l) s h Y
  |some R=>xK ops hl l (iz o.dst s (.g undef)) h Y
  |none=>False
def iW(n:Nat):Code->Bool
 | .seq a b=>iW n a&&iW n b
 | .cond _ a b=>iW n a&&iW n b
 | .block _ b=>iW n b
 | .loop b=>iW n b
 | .region _ ops _=>ops.toList.all λo=>match o.dst with|some d=>decide (d<n)|none=>M
 |_=>M
def WU(x:Fx)(k:List dO)(zxQ:AM->Prop):Ex->BT u->aE->Nat->Prop
 | .jg,s,h,Y=>eO P (x.at s h Y k) zxQ
 | .ret,s,h,Y=>match x.round with
  |none=>∀t,qO t=R->eO P ⟨x.fr s t M,x.callers,h,Y⟩ zxQ
  |some l=>x.deferred=R/\∃m',endRound ⟨x.fr s [] R,x.callers,h,Y⟩ l (J .ret)=J m'/\eO P m' zxQ
 | .out id,s,h,Y=>∃k',pj id k=J k'/\eO P (x.at s h Y k') zxQ
def eO.iP(pk:PK P xt){m}{zxQ:AM->Prop}(h:∃m',vh P xt m=J m'/\eO P m' zxQ):eO P m zxQ:=
 let⟨_,a,b⟩:=h; .step P pk a b
def Ge{α:Type}:∀{n:Nat} {l r:List α},dC n l=J r->O r=n
 |0,_,_,h=>by cases h;rfl
 |n+1,[],_,h=>by cases h
 |n+1,a::l,r,h=>by
  change Option.rec (motive:=λ_=>Option (List α)) B (λr=>J (a::r)) (dC n l)=J r at h
  cases e:dC n l with
  |none=>rw[e]at h;cases h
  |some q=>rw[e]at h;cases h;simp[Ge e]
def An{off l}(K:dt h b off n=J l):O l=n:=by
 unfold dt at K;split at K
 .split at K
  .split at K;.exact Ge K
   .cases K
  .cases K
 .cases K
def vO{α:Type}(l:List α):∀n,O (gT n l)=n*O l
 |0=>by simp[gT]
 |n+1=>by simp only[gT,aq,vO l n,qi];omega
def Hu{x}{p:Nat×List u}(hp:eD h size x=J p):O p.2=p.1*size:=by
 unfold eD at hp;split at hp
 .split at hp;.injection hp with hp;subst hp;simp
  .cases hp
 .split at hp;.rename_i K;injection hp with hp;subst hp;exact An K
  .cases hp
 .split at hp;.rename_i K;injection hp with hp;subst hp;exact An K
  .cases hp
 .injection hp with hp;subst hp;simp
 .injection hp with hp;subst hp;simp
 .split at hp;.rename_i K;injection hp with hp;subst hp;exact K
  .cases hp
 .cases hp
def jI(r:Option ER):Prop:=∀ob len h,r=J (.rf ob len h)->∃cs e es,ob= .fM cs e es/\O cs=len*es/\0<es
def jI.none:jI B:=λ_ _ _ h=>by cases h
def jI.val{v h}:jI (J (.val v h)):=λ_ _ _ h=>by cases h
def jI.enter{f a}:jI (J (.enter f a)):=λ_ _ _ h=>by cases h
def jI.defer{d}:jI (J (.defer d)):=λ_ _ _ h=>by cases h
def jI.round{a b}:jI (J (.round a b)):=λ_ _ _ h=>by cases h
def jI.mz{r}:jI (mz r):=by unfold br.mz;split<;>first|exact .val|exact .none
def jI.dW{h e args}:jI (dW h e args):=by
 unfold br.dW yU yg MX J5 XF
 repeat' (first|exact .none|exact .val|exact .mz|split)
def jI.gg{P xt h f args}:jI (gg P xt h f args):=by
 unfold br.gg
 repeat' (first|exact .none|exact .enter|exact .dW|split)
def jI.p8{P xt h f args}:jI (p8 P xt h f args):=by
 unfold br.p8
 repeat' (first|exact .none|exact .round|exact .gg|split)
def jI.mk{cs e es len h}(W:O cs=len*es)(F:0<es):jI (J (.rf (.fM cs e es) len h)):=λ_ _ _ h=>by injection h with h;injection h with h3 h4 h5;subst h3;subst h4;exact⟨_,_,_,Z,W,F⟩
def jI.qV{h e size n new s}(hn:O new=n*size)(h0:0<size):jI (qV h e size n new s):=by
 unfold br.qV;split
 .unfold yA
  repeat' (first|exact .none|exact .val|split)
 .split;.exact .mk hn h0
  .exact .mk hn h0
  .unfold TW
   repeat' (first|exact .none|exact .val|split)
   rename_i K;exact .mk (by rw[aq,An K,hn,bC]) h0
  .unfold Ww;split
   .split
    .split;.exact .none
     .split
      .repeat' (first|exact .none|exact .val|split)
      .split;.rename_i A;have⟨W,F,h3⟩:=A;refine .mk ?_ h0;subst F;rename_i heq;have⟨_,h5,_⟩:=heq;rw[aq,W,hn,h5];simp[bC]
       .exact .none
    .exact .none
   .exact .none
  .exact .none
def jI.iJ{P:Program}{h types s x}:jI (iJ P h types s x):=by
 unfold br.iJ;split
 .split
  .unfold UU
   repeat' (first|exact .none|split)
   rename_i hp tm;refine .qV ?_ ?_
   .simp only[RM,aS,fK,kN]at tm;unfold RL at hp;split at hp
    .split at hp
     .injection hp with hp;subst hp
      simp only[vO,bh];rw[tm.2]
     .cases hp
    .exact Hu hp
    .cases hp
   .simp only[RM,aS,fK,kN]at tm;omega
  .exact .none
 .exact .none
def jI.pg{P xt h ev o}:jI (pg P xt h ev o):=by
 have⟨d,op,ty,po,af,g⟩:=o;unfold br.pg;cases op
 case assign x=>exact .val
 case defer c=>show jI (rj ev c);unfold rj Hf;repeat' (first|exact .none|exact .defer|split)
 case mapUpdate t m k x=>exact jI.mz
 case insert t m k x=>exact jI.mz
 case store t a x=>show jI (vY P h t (ev a) (ev x));unfold vY;repeat' (first|exact .none|exact .mz|split)
 case call c=>
  show jI (vi P xt h ev c);unfold vi;split;.exact .p8
  .unfold mQ;repeat' (first|exact .none|exact .gg|split)
  .split
   .split;.exact .iJ
    .exact .none
   .split;.unfold rO wS;repeat' (first|exact .none|exact .val|split)
    .exact .none
   .split;.unfold sw;repeat' (first|exact .none|exact .val|exact .mz|split)
    .exact .none
   .split;.unfold xw;repeat' (first|exact .none|exact .mz|split)
    .exact .none
   .exact .none
 all_goals exact jI.none
def fv.N8{r}:∀(c:List Value),fv r (c.map .g) c
 |[]=> .nil
 |v::c=> .cons (.g v) (fv.N8 c)
def eO.exact{x:Fx}{s:BT u}{h:aE}{Y:Nat}{d:Tmp}{len:Nat}{cs:List u}{e:TypeId}{es:Nat}{todo:List dO}{zxQ:AM->Prop}(ZF:∀g k,todo= .kR g::k->g.phase= .unsat)
 (W:O cs=len*es) (F:0<es)
 (hr:∀(cap:Nat) (gs:List Value),len<=cap->O cs+O gs=cap*es->eO P (x.at (sset s d (.sl Y 0 len cap)) (aI h Y (.cells (cs++gs.map .g) e)) (Y+1) todo) zxQ):
 eO P (x.at (sset s d (.og Y 0 0 len)) (aI h Y (.fM cs e es)) (Y+1) todo) zxQ:=by
 intro w0 base f fs w hm;obtain⟨⟨r,lo,hF,jL,hC,hH⟩,_⟩:=hm;have main:∀(cap:Nat) (gs:List Value),len<=cap->O cs+O gs=cap*es->HR r (aI h Y (.cells (cs++gs.map .g) e)) (Y+1) w0 w->(∀v,VR r (.og Y 0 0 len) v->VR r (.sl Y 0 len cap) v)->
  ∃m' f' tw w',zxQ m'/\Steps P (lone f fs w) (lone f' tw w')/\MR P w0 base m' f' tw w':=by
  intro cap gs A K Q4 hv;refine hr cap gs A K w0 base f fs w (MR.mk' (r:=r) (lo:=lo) ⟨hF.fn,hF.size,hF.defers,hF.mode,hF.kind,hF.round,?_⟩ jL hC Q4 λg k e G=>?_)
  .have iM:=hF.top;show Az r (sset s d (.sl Y 0 len cap)) f.tmps lo (Y+1) todo f.todo
   change Az r (sset s d (.og Y 0 0 len)) f.tmps lo (Y+1) todo f.todo at iM
   have Ly:∀n AV,VR r (X (sset s d (.og Y 0 0 len)) n) AV->VR r (X (sset s d (.sl Y 0 len cap)) n) AV:=by
    intro n AV hu;rw[pX]at hu⊢;split at hu;.rename_i hn;rw[au hn];exact hv _ hu
    .rename_i hn;rw[ak hn];exact hu
   generalize f.todo=td at iM;cases iM with
   |plain H ht=>exact .plain H λn=>Ly n _ (ht n)
   |kR hk hg a b=>exact .kR hk {hg with cX:=λn=>(hg.cX n).imp id (Ly n _)} a b
  .have:=ZF g k e;rw[this]at G;cases G
 have MU:N (aI h Y (.fM cs e es)) Y=J (.fM cs e es):=iA;have put:∀gs:List Value,(∀k n,r Y=J (k,n)->OR r (.cells (cs++gs.map .g) e) n w.heap[k]?)->HR r (aI h Y (.cells (cs++gs.map .g) e)) (Y+1) w0 w:=by
  intro gs ho;have Uo:∀b o,N (aI h Y (.cells (cs++gs.map .g) e)) b=J o->(b=Y/\o= .cells (cs++gs.map .g) e)\/(b≠Y/\N (aI h Y (.fM cs e es)) b=J o):=by
   intro b o D;rw[aj]at D;split at D;.rename_i hn;injection D with D;exact .inl ⟨hn,D.symm⟩
   .rename_i hn;refine .inr ⟨hn,?_⟩;rw[aj,ak hn];exact D
  have live':∀b o,N (aI h Y (.cells (cs++gs.map .g) e)) b=J o->o.live->∃o',N (aI h Y (.fM cs e es)) b=J o'/\o'.live:=by
   intro b o D K;obtain⟨rfl,rfl⟩|⟨_,D⟩:=Uo b o D
   .exact⟨_,MU,trivial⟩
   .exact⟨_,D,K⟩
  refine⟨hH.below,λk o v e1=>⟨(hH.tG k o v e1).1,λb n q e2 e3 K=>?_⟩,hH.zX,λb o k n e1 e2=>?_,λb b' o o' k n n' e1 e2 l1 l2=>?_⟩;.have⟨q',e4,mJ⟩:=live' b q e3 K;exact(hH.tG k o v e1).2 b n q' e2 e4 mJ
  .obtain⟨rfl,rfl⟩|⟨_,D⟩:=Uo b o e1;.exact ho k n e2
   .exact hH.obj b o k n D e2
  .have⟨q,e4,mJ⟩:=live' b o e1 l1;have⟨q',e5,XP⟩:=live' b' o' e2 l2;exact hH.inj b b' q q' k n n' e4 e5 mJ XP
 cases hn:r Y with
 |none=>refine main (len+0) [] (an _) (Mf W) (put [] λk n e=>by rw[hn]at e;cases e) λv hv=>?_;cases hv with|og e _=>rw[hn]at e;cases e
 |some p=>
  have⟨k,n⟩:=p;have⟨c,c',L,hv,K⟩:=hH.obj Y _ k n MU hn;have zk:O c=O cs:=hv.length.symm;have hle:len<=n:=by rw[aq,zk,W]at K;exact Nat.le_of_mul_le_mul_right (U:len*es<=n*es) F
  refine main n c' hle (by rw[<-K,aq,zk]) (put c' λk' n' e1=>?_) λv hv'=>?_
  .rw[hn]at e1;injection e1 with e1;injection e1 with e1 e2;subst e1;subst e2
   exact⟨_,L,hv.append (.N8 c')⟩
  .cases hv' with
   |og e _=>
    rw[hn]at e;injection e with e;injection e with e1 e2;subst e1;subst e2
    exact .sl hn
def rQ(x:Fx)(s:BT u)(t:List dO)(b:Bool){d:Option Tmp}(z:∀n,d=J n->n<x.size)(v):(x.fr s t b).put d v=J (x.fr (iz d s v) t b):=by
 cases d with
 |none=>rfl
 |some n=>show(if n<x.size then _ else _)=_;rw[au (z n Z)];rfl
def DZ(pk:PK P xt)(x:Fx)(ops:Array Oper)(k:List dO)(zxQ:AM->Prop)(hl:BT u->aE->Nat->Prop)(hK:∀s h Y,hl s h Y->eO P (x.at s h Y k) zxQ):
 ∀(l:List Oper),(∀o∈l,∀d,o.dst=J d->d<x.size)->∀s h Y,xK P xt ops hl l s h Y->eO P (x.at s h Y (.ops l ops::k)) zxQ
 |[],_,s,h,Y,hw=> .iP P xt pk ⟨_,Z,hK s h Y hw⟩
 |o::l,z,s,h,Y,hw=>by
  have hdo:∀n,o.dst=J n->n<x.size:=z o bR;have ih:=DZ pk x ops k zxQ hl hK l (λo ho=>z o (by simp[ho]));have jS:vh P xt (x.at s h Y (.ops (o::l) ops::k))=XS P xt (x.at s h Y (.ops (o::l) ops::k)) o (.ops l ops::k) ops:=rfl;simp only[xK]at hw;have pB:∀s' v,(x.fr s' (.ops (o::l) ops::k) R).finish v=J (x.fr (iz o.dst s' v) (.ops l ops::k) R):=by intro s' v;show(match(x.fr s' (.ops (o::l) ops::k) R).put o.dst v with|some Au=>J (Au.lz (.ops l ops::k))|none=>B)=_;rw[rQ x _ _ _ hdo];rfl
  split at hw
  .rename_i i';simp only[Wop]at hw;split at hw
   .rename_i uR;have vU:vh P xt (x.at s h Y (.ops (o::l) ops::k))=ud P (x.at s h Y (.ops (o::l) ops::k)) (x.fr s (.ops (o::l) ops::k) R) (pg P xt h (qw s) o):=by rw[jS];unfold XS;show(match eM ops s o with|some w=>_|none=>_)=_;rw[i'];show(if M=M then _ else _)=_;rw[au Z,au uR];rfl
    generalize Rm:pg P xt h (qw s) o=er at hw vU;cases er with
    |none=>exact hw.elim
    |some er=>
     cases er with
     |val v Q=>refine .step P pk (m':=x.at (iz o.dst s v) Q Y (.ops l ops::k)) ?_ (ih _ _ _ hw);rw[vU];show(match(x.fr s (.ops (o::l) ops::k) R).finish v with|some fr=>J _|none=>B)=_;rw[pB];rfl
     |rf ob len Q=>
      obtain⟨cs,e1,es,rfl,KC,ES⟩:=jI.pg _ _ _ Rm;have hw:WX o.dst (xK P xt ops hl l) s Y (.fM cs e1 es) len Q:=hw;cases hod:o.dst with
      |none=>rw[hod]at hw;exact hw.elim
      |some dd=>
      rw[hod]at hw pB;refine .step P pk (m':=x.at (sset s dd (.og Y 0 0 len)) (aI Q Y (.fM cs e1 es)) (Y+1) (.ops l ops::k)) ?_ (.exact P (λ_ _ e=>by cases e) KC ES λcap gs W F=>ih _ _ _ (hw cap gs W F));rw[vU];show(match(x.fr s (.ops (o::l) ops::k) R).finish (.og Y 0 0 len)with|some fr=>J _|none=>B)=_;rw[pB];rfl
     |enter g args=>have hw:az P g args h Y λv Q E=>xK P xt ops hl l (iz o.dst s v) Q E:=hw;obtain⟨fr,V⟩:=hw.1;refine .call P pk (fr:=fr) (wait:=x.fr s (.ops (o::l) ops::k) R) (cs:=x.callers) (h:=h) (Y:=Y) ?_ V hw λv Q E q=>⟨_,pB s v,ih _ _ _ q⟩;rw[vU];show(match bY.enter P g args R with|some fr=>J _|none=>B)=_;rw[V];rfl
     |defer d=>exact hw.elim
     |round a b=>obtain⟨rr,cX,g1,g2,g3⟩:=hw;refine .step P pk (m':=⟨HG rr a cX,x.fr s (.ops (o::l) ops::k) R::x.callers,h,Y⟩) ?_ (g3 _ _ zxQ λv Q E q=>⟨_,pB s v,ih _ _ _ q⟩);rw[vU];show(match N h a with|some (.loop r)=>_|_=>B)=_;rw[g1];show(match kr rr.params b rr.size rr.cX with|some cX=>_|none=>B)=_;rw[g2];rfl
   .rename_i uR;have vU:vh P xt (x.at s h Y (.ops (o::l) ops::k))=yN (x.at s h Y (.ops (o::l) ops::k)) o (.ops l ops::k) (en P h (qw s) o):=by rw[jS];unfold XS;show(match eM ops s o with|some w=>_|none=>_)=_;rw[i'];show(if M=M then _ else _)=_;rw[au Z,ak uR];rfl
    generalize en P h (qw s) o=q at hw vU;have pM:=λv=>rQ x s (.ops (o::l) ops::k) R hdo v
    cases q with
    |none=>exact hw.elim
    |some q=>
     cases q with
     |val v=>refine .step P pk (m':=x.at (iz o.dst s v) h Y (.ops l ops::k)) ?_ (ih _ _ _ hw);rw[vU];show(match(x.fr s (.ops (o::l) ops::k) R).put o.dst v with|some fr=>J _|none=>B)=_;rw[pM];rfl
     |wF ob=>refine .step P pk (m':=x.at (iz o.dst s (.ptr Y 0)) (aI h Y ob) (Y+1) (.ops l ops::k)) ?_ (ih _ _ _ hw);rw[vU];show(match(x.fr s (.ops (o::l) ops::k) R).put o.dst (.ptr Y 0)with|some fr=>J _|none=>B)=_;rw[pM];rfl
     |ri ob len cap=>refine .step P pk (m':=x.at (iz o.dst s (.sl Y 0 len cap)) (aI h Y ob) (Y+1) (.ops l ops::k)) ?_ (ih _ _ _ hw);rw[vU];show(match(x.fr s (.ops (o::l) ops::k) R).put o.dst (.sl Y 0 len cap)with|some fr=>J _|none=>B)=_;rw[pM];rfl
     |AT ob=>refine .step P pk (m':=x.at (iz o.dst s (.mp Y)) (aI h Y ob) (Y+1) (.ops l ops::k)) ?_ (ih _ _ _ hw);rw[vU];show(match(x.fr s (.ops (o::l) ops::k) R).put o.dst (.mp Y)with|some fr=>J _|none=>B)=_;rw[pM];rfl
  .rename_i i';refine .step P pk (m':=x.at (iz o.dst s (.g undef)) h Y (.ops l ops::k)) ?_ (ih _ _ _ hw);rw[jS];unfold XS;show(match eM ops s o with|some w=>_|none=>_)=_;rw[i'];show(if R=M then _ else _)=_;rw[ak bR];show(match(x.fr s (.ops (o::l) ops::k) R).put o.dst (.g undef)with|some fr=>J _|none=>B)=_;rw[rQ x _ _ _ hdo];rfl
  .exact hw.elim
end
variable{a':bY}
section
variable(P:Program)(xt:FuncId->Option Ext)
def eO.sat{m:AM}{zxQ:AM->Prop}{g k}(kI:m.fr.todo= .kR g::k)(zL:g.phase= .unsat)
 (Ez:saturate P g (jM g.eT) g.infos m.fr m.heap=J (a',Q)) (Lq:yj P g (jM g.eT) a'.cX Q g.infos)
 (hr:eO P (m.Iq (a'.lz (.kR (g.pT .sat)::k)) Q) zxQ):eO P m zxQ:=
 .ghost P (λ_ _ _ _ _ hm=>by have⟨⟨r,lo,hF,jL,hC,hH⟩,_⟩:=hm;exact Gp hF jL hC hH kI zL Ez Lq) hr
def tB(ops:Array Oper)(base:Nat)(hl:BT u->aE->Prop):List Nat->BT u->aE->Prop
 |[],s,h=>hl s h
 |i::l,s,h=>match ops[i]? with
  |none=>False
  |some o=>match eM ops s o with
   |some M=>match en P h (qw s) o with
    |some q=>tB ops base hl l (iz o.dst s (q.av (base+i))) (match q.obj with|some ob=>aI h (base+i) ob|none=>h)
    |none=>False
   |some R=>tB ops base hl l (iz o.dst s (.g undef)) h
   |none=>False
def vr(ops:Array Oper)(base i:Nat)(o:Oper)(s:BT u)(h:aE):Prop:=match eM ops s o with
 |some M=>match en P h (qw s) o with
  |some q=>(match o.dst with|some d=>X s d=q.av (base+i)|none=>True)/\(match q.obj with|some ob=>N h (base+i)=J ob|none=>True)
  |none=>False
 |some R=>match o.dst with|some d=>X s d= .g undef|none=>True
 |none=>False
def Hp(ops:Array Oper)(base:Nat)(s:BT u)(h:aE):List Nat->Prop
 |[]=>True
 |i::l=>(match ops[i]? with|none=>False|some o=>vr P ops base i o s h)/\Hp ops base s h l
abbrev dr:=List (List Nat×List Nat×Option Nat)
def FL(ops:Array Oper)(base:Nat)(hl:BT u->aE->Nat->Prop):dr->BT u->aE->Nat->Prop
 |[],_,_,_=>False
 |(new,chk,e)::rest,s,h,Y=>tB P ops base (λs h=>Hp P ops base s h chk/\match e with
  |none=>hl s h Y
  |some e=>match ops[e]? with
   |none=>False
   |some o=>match eM ops s o with
    |some M=>WC P o (FL ops base hl rest) s h Y (pg P xt h (qw s) o)
    |some R=>FL ops base hl rest (iz o.dst s (.g undef)) h Y
    |none=>False) new s h
def IQ(infos:List ey):List ey->Option ey->dr->Bool
 |eT,last,(new,chk,e)::rest=>
  (infos.filter λx=>mw (jM eT) x&&sP last x).map (·.i)==new&&(infos.filter λx=>mw (jM eT) x&& !si last x).map (·.i)==chk&&
  (match eT,e with
  |[],B=>M
  |y::eT,J j=>y.i==j&&cH y.o.op&&IQ infos eT (J y) rest
  |_,_=>R)
 |_,_,[]=>R
def MS(ops:Array Oper)(pl:dr):Bool:=
 let hc:=lU ops.toList 0 []
 ve ops hc&&IQ (hc.filter (!·.zG)) (hc.filter (·.zG)) B pl
def DD(x:Fx)(g:mI)(k:List dO)(rem:Nat)(hl:BT u->aE->Prop):∀(l:List ey),(∀y∈l,g.ops[y.i]?=J y.o/\∀d,y.o.dst=J d->d<x.size)->∀s h,
 tB P g.ops g.base hl ((l.filter λy=>mw rem y&&sP g.last y).map (·.i)) s h->
 ∃s' Q,saturate P g rem l (x.fr s k R) h=J (x.fr s' k R,Q)/\hl s' Q
 |[],_,s,h,hw=>⟨s,h,Z,hw⟩
 |y::l,K,s,h,hw=>by
  have⟨hy,z⟩:=K y bR;have ih:=DD x g k rem hl l (λhd hz=>K hd (by simp[hz]));simp only[saturate];cases A:mw rem y&&sP g.last y with
  |false=>rw[List.filter_cons_of_neg (by simp[A])]at hw;rw[ak bR];exact ih s h hw
  |true=>
   rw[List.filter_cons_of_pos (by simp[A])]at hw;rw[au Z];simp only[cB,tB,hy]at hw;have Ly:(x.fr s k R).cX=s:=rfl;rw[Ly];split at hw
   .rename_i i';simp only[i'];split at hw;.rename_i q hq;simp only[hq];simp only[rQ x s k R z];exact ih _ _ hw
    .exact hw.elim
   .rename_i i';simp only[i'];simp only[rQ x s k R z];exact ih _ _ hw
   .exact hw.elim
def ash{g:mI}{s:BT u}{y:ey}(A:vr P g.ops g.base y.i y.o s h):Er P g s h y:=by
 unfold vr at A;unfold Er;split at A
 .rename_i hw;rw[hw];split at A
  .rename_i q hq;refine⟨q,hq,λd z=>?_,λo ho=>?_⟩;.have:=A.1;rw[z]at this;exact this
   .have:=A.2;rw[ho]at this;exact this
  .exact A.elim
 .rename_i hw;rw[hw];intro d z;rw[z]at A;exact A
 .exact A.elim
def Eu{ops base}{s:BT u}{h}:∀{l:List Nat},Hp P ops base s h l->∀i∈l,∃o,ops[i]?=J o/\vr P ops base i o s h
 |[],_,i,H=>by cases H
 |j::l,A,i,H=>by
  obtain rfl|H:=bJ.1 H
  .have:=A.1;split at this;.exact this.elim
   .rename_i o ho;exact⟨o,ho,this⟩
  .exact Eu A.2 i H
def FP(pk:PK P xt)(x:Fx)(ops:Array Oper)(base:Nat)(infos:List ey)(k:List dO)(zxQ:AM->Prop)(hl:BT u->aE->Nat->Prop)(hK:∀s h Y,hl s h Y->eO P (x.at s h Y k) zxQ)
 (hI:∀y∈infos,ops[y.i]?=J y.o/\∀d,y.o.dst=J d->d<x.size):
 ∀(pl:dr) (eT:List ey) (last:Option ey),(∀y∈eT,ops[y.i]?=J y.o/\∀d,y.o.dst=J d->d<x.size)->IQ infos eT last pl=M->∀s h Y,FL P xt ops base hl pl s h Y->
  eO P (x.at s h Y (.kR {phase:= .unsat,infos,eT,last,base,ops}::k)) zxQ
 |[],eT,last,_,hp,s,h,Y,hw=>hw.elim
 |(new,chk,e)::rest,eT,last,hE,hp,s,h,Y,hw=>by
  unfold IQ at hp;simp only[aS,kN]at hp;obtain⟨⟨rfl,rfl⟩,hp⟩:=hp;simp only[FL]at hw;have⟨s',Q,Ez,aoG,QD⟩:=DD P x {phase:= .unsat,infos,eT,last,base,ops} (.kR {phase:= .unsat,infos,eT,last,base,ops}::k) (jM eT) _ infos hI s h hw;clear hw;have hw:=QD;clear QD;refine .sat P (g:={phase:= .unsat,infos,eT,last,base,ops}) (k:=k) Z Z Ez ?_ ?_
  .intro y hy W F;have⟨o,ho,A⟩:=Eu P aoG y.i (bg.2 ⟨y,cR.2 ⟨hy,by simp only[W,Ab,jF];exact F⟩,Z⟩);rw[(hI y hy).1]at ho;injection ho with ho;subst ho
   exact ash P A
  .show eO P (x.at s' Q Y (.kR {phase:= .sat,infos,eT,last,base,ops}::k)) zxQ;cases eT with
   |nil=>
    cases e with
    |some e=>cases hp
    |none=>exact .iP P xt pk ⟨x.at s' Q Y k,Z,hK _ _ _ hw⟩
   |cons y eT=>
    cases e with
    |none=>cases hp
    |some e=>
    simp only[aS,kN]at hp;obtain⟨⟨rfl,uR⟩,hp⟩:=hp;have⟨hyo,hyd⟩:=hE y bR;have ih:=FP pk x ops base infos k zxQ hl hK hI rest eT (J y) (λhd hz=>hE hd (by simp[hz])) hp;simp only[hyo]at hw;have jS:vh P xt (x.at s' Q Y (.kR {phase:= .sat,infos,eT:=y::eT,last,base,ops}::k))=
     rF P xt (x.at s' Q Y (.kR {phase:= .sat,infos,eT:=y::eT,last,base,ops}::k)) {phase:= .sat,infos,eT:=y::eT,last,base,ops} k y eT:=rfl
    have pB:∀v,(x.fr s' (.kR {phase:= .wait,infos,eT:=y::eT,last,base,ops}::k) R).finish v=J (x.fr (iz y.o.dst s' v) (.kR {phase:= .unsat,infos,eT,last:=J y,base,ops}::k) R):=by intro v;show(match(x.fr s' (.kR {phase:= .wait,infos,eT:=y::eT,last,base,ops}::k) R).put y.o.dst v with|some Au=>J (Au.lz _)|none=>B)=_;rw[rQ x _ _ _ hyd];rfl
    split at hw
    .rename_i i';have vU:vh P xt (x.at s' Q Y (.kR {phase:= .sat,infos,eT:=y::eT,last,base,ops}::k))=
      ud P (x.at s' Q Y (.kR {phase:= .sat,infos,eT:=y::eT,last,base,ops}::k)) (x.fr s' (.kR {phase:= .wait,infos,eT:=y::eT,last,base,ops}::k) R) (pg P xt Q (qw s') y.o):=by
      rw[jS];unfold rF;show(match eM ops s' y.o with|some w=>_|none=>_)=_;rw[i'];rfl
     generalize Rm:pg P xt Q (qw s') y.o=er at hw vU;cases er with
     |none=>exact hw.elim
     |some er=>
      cases er with
      |val v F=>refine .step P pk (m':=x.at (iz y.o.dst s' v) F Y (.kR {phase:= .unsat,infos,eT,last:=J y,base,ops}::k)) ?_ (ih _ _ _ hw);rw[vU];show(match(x.fr s' (.kR {phase:= .wait,infos,eT:=y::eT,last,base,ops}::k) R).finish v with|some fr=>J _|none=>B)=_;rw[pB];rfl
      |rf ob len F=>
       obtain⟨cs,e1,es,rfl,KC,ES⟩:=jI.pg _ _ _ Rm;have hw:WX y.o.dst (FL P xt ops base hl rest) s' Y (.fM cs e1 es) len F:=hw;cases hod:y.o.dst with
       |none=>rw[hod]at hw;exact hw.elim
       |some dd=>
       rw[hod]at hw pB;refine .step P pk (m':=x.at (sset s' dd (.og Y 0 0 len)) (aI F Y (.fM cs e1 es)) (Y+1) (.kR {phase:= .unsat,infos,eT,last:=J y,base,ops}::k)) ?_ (.exact P (λ_ _ e=>by injection e with e _;injection e with e;subst e;rfl) KC ES λcap gs W F=>ih _ _ _ (hw cap gs W F));rw[vU];show(match(x.fr s' (.kR {phase:= .wait,infos,eT:=y::eT,last,base,ops}::k) R).finish (.og Y 0 0 len)with|some fr=>J _|none=>B)=_;rw[pB];rfl
      |enter gf args=>have hw:az P gf args Q Y λv F dR=>FL P xt ops base hl rest (iz y.o.dst s' v) F dR:=hw;have⟨fr,V⟩:=hw.1;refine .call P pk (fr:=fr) (wait:=x.fr s' (.kR {phase:= .wait,infos,eT:=y::eT,last,base,ops}::k) R) (cs:=x.callers) (h:=Q) (Y:=Y) ?_ V hw λv F dR q=>⟨_,pB v,ih _ _ _ q⟩;rw[vU];show(match bY.enter P gf args R with|some fr=>J _|none=>B)=_;rw[V];rfl
      |defer d=>exact hw.elim
      |round a b=>have⟨rr,cX,g1,g2,g3⟩:=hw;refine .step P pk (m':=⟨HG rr a cX,x.fr s' (.kR {phase:= .wait,infos,eT:=y::eT,last,base,ops}::k) R::x.callers,Q,Y⟩) ?_ (g3 _ _ zxQ λv F dR q=>⟨_,pB v,ih _ _ _ q⟩);rw[vU];show(match N Q a with|some (.loop r)=>_|_=>B)=_;rw[g1];show(match kr rr.params b rr.size rr.cX with|some cX=>_|none=>B)=_;rw[g2];rfl
    .rename_i i';refine .step P pk (m':=x.at (iz y.o.dst s' (.g undef)) Q Y (.kR {phase:= .unsat,infos,eT,last:=J y,base,ops}::k)) ?_ (ih _ _ _ hw);rw[jS];unfold rF;show(match eM ops s' y.o with|some w=>_|none=>_)=_;rw[i'];unfold AK;show(match(x.fr s' (.kR {phase:= .sat,infos,eT:=y::eT,last,base,ops}::k) R).put y.o.dst (.g undef)with|some fr=>J _|none=>B)=_;rw[rQ x _ _ _ hyd];rfl
    .exact hw.elim
end
variable{IY:Operand->u}{a:u}{W:aE}{i:Nat}{o:Oper}{op:BinOp}{ops:Array Oper}{s':BT u}{t:TypeId}{x y:Operand}
section
variable(P:Program)(xt:FuncId->Option Ext)
def qG:Op->Bool
 | .alloc _| .box .. | .buildSlice .. | .makeMap .. | .makeSlice .. | .range .. =>M
 |_=>R
def ZH:Op->Bool
 | .range .. =>M
 |_=>R
def oc:Op->Bool
 | .move _| .pick .. | .nilCheck _| .fieldAddr .. | .extract .. | .indexAddr .. | .unOp .. | .index .. | .slice .. | .typeAssert .. | .makeInterface .. | .makeFunc .. | .build .. | .alloc _| .box .. | .buildSlice .. | .makeMap .. | .makeSlice .. =>R
 | .binOp _ t _ _ _=>match P.underlying t with
  |some (.int _)|some .string|some .bool|some (.slice _)|some (.map _ _)|some (.interface _)=>R
  |_=>M
 | .convert s _ _=>match P.underlying s with
  |some (.int _)|some .string=>R
  |_=>M
 | .call c=>match c.callee with
  | .builtin .len=>match c.argTypes.toList with
   |[t]=>match P.underlying t with
    |some .string|some (.slice _)=>R
    |_=>M
   |_=>M
  | .builtin .cap| .builtin .min| .builtin .max=>R
  |_=>M
 |_=>M
def sQ{place:Nat->Option (Nat×Nat)}{ev IY:Operand->u}:∀{l:List (Nat×Operand)} {cs:List u},(∀x∈l,ev x.2=IY x.2)->gl place ev l cs=gl place IY l cs
 |[],_,_=>rfl
 |x::l,cs,h=>by
  simp only[gl,h x bR];split;.exact sQ λy hy=>h y (by simp[hy])
  .rfl
def zt{ev:Operand->u}{o}(h:∀y,o=J y->ev y=IY y):o.map ev=o.map IY:=by
 cases o with
 |none=>rfl
 |some y=>simp[h y Z]
def QA{b}(ht:∀e,P.underlying t≠J (.pointer e)):wP P h t a b=wP P Q t a b:=by
 unfold wP;split;.rename_i e V;exact absurd V (ht e)
 all_goals rfl
def QC{b}(ht:∀e,P.underlying t≠J (.pointer e)):dE P h op t x y a b=dE P Q op t x y a b:=by
 have W:qA P h op t a b=qA P Q op t a b:=by unfold qA;rw[QA P ht (h:=h) (Q:=Q)]
 have F:jm P h op t x y a b=jm P Q op t x y a b:=by unfold jm;rw[W]
 unfold dE;rw[F]
def yF{ev:Operand->u}{q}(ha:qG o.op=R)(hq:en P h ev o=J q):q.obj=B:=by
 have hqv:∀(r:Option u) (q:QR),qv r=J q->q.obj=B:=by
  intro r q hq;cases r with
  |none=>cases hq
  |some v=>cases hq;rfl
 obtain⟨dst,op,type,g,af⟩:=o;unfold en at hq;dsimp only at ha hq;cases op with
 |load t a=>exact hqv _ _ hq
 |lookup t x i ok=>exact hqv _ _ hq
 |binOp op t x y AV=>exact hqv _ _ hq
 |convert s d x=>exact hqv _ _ hq
 |move x=>cases hq;rfl
 |pick c a b=>
  simp only[Gd]at hq;split at hq;.cases hq;rfl
  .cases hq
 |nilCheck x=>simp only[So]at hq;split at hq<;>first|(cases hq;rfl)|cases hq
 |fieldAddr s x f=>
  simp only[Bb]at hq
  exact att
 |extract x i=>
  simp only[Q2]at hq;split at hq;.exact hqv _ _ hq
  .cases hq
 |indexAddr t x i=>
  simp only[Nt,wq,Dk]at hq
  exact att
 |unOp op t x=>
  simp only[qUn]at hq
  exact att
 |index t x i=>
  simp only[so]at hq
  exact att
 |slice t x lo H mx=>
  simp only[A0]at hq
  repeat' split at hq
  all_goals first|exact hqv _ _ hq|cases hq
 |typeAssert x t' t ok=>
  simp only[kH]at hq
  exact att
 |makeInterface t x=>simp only[mH]at hq;split at hq<;>first|(cases hq;rfl)|cases hq
 |makeFunc fn first cap=>
  simp only[qFn]at hq
  exact att
 |build t parts=>
  simp only[vW,Kq]at hq
  exact att
 |call c=>
  have⟨callee,args,at_⟩:=c;simp only[wM,Uy,Xp,Sh]at hq
  repeat' split at hq
  all_goals first|exact hqv _ _ hq|(cases hq;rfl)|cases hq
 |alloc=>cases ha
 |box=>cases ha
 |buildSlice=>cases ha
 |makeMap=>cases ha
 |makeSlice=>cases ha
 |range=>cases ha
 |next it s=>
  replace hq:BS h (ev it) s=J q:=hq;unfold BS KI at hq
  exact att
 |_=>cases hq
def wY{ev:Operand->u}(jd:∀x∈o.op.operands.toList,ev x=IY x)(hr:oc P o.op=R):
 en P h ev o=en P Q IY o:=by
 obtain⟨dst,op,type,g,af⟩:=o;unfold en;dsimp only at jd hr⊢;cases op with
 |move x=>simp only[jd x gN]
 |pick c a b=>simp only[jd c gN,jd a gN,jd b gN]
 |nilCheck x=>simp only[jd x gN]
 |fieldAddr s x f=>simp only[jd x gN]
 |extract x i=>simp only[jd x gN]
 |indexAddr t x i=>simp only[jd x gN,jd i gN]
 |unOp op t x=>simp only[jd x gN]
 |index t x i=>simp only[jd x gN,jd i gN]
 |slice t x lo H mx=>have W:lo.map ev=lo.map IY:=zt λy hy=>jd y (by simp[Op.operands,hy]);have F:H.map ev=H.map IY:=zt λy hy=>jd y (by simp[Op.operands,hy]);have h3:mx.map ev=mx.map IY:=zt λy hy=>jd y (by simp[Op.operands,hy]);simp only[jd x gN,W,F,h3]
 |typeAssert x t' t ok=>simp only[jd x gN]
 |makeInterface t x=>simp only[jd x gN]
 |makeFunc fn first cap=>have W:cap.toList.map ev=cap.toList.map IY:=fD λy hy=>jd y (by simp only[Op.operands];simp;exact .inr (Mf hy));simp only[qFn,W]
 |alloc t=>rfl
 |box t x=>simp only[jd x gN]
 |makeMap t r=>have W:r.map ev=r.map IY:=zt λy hy=>jd y (by simp[Op.operands,hy]);simp only[W]
 |makeSlice t l c=>simp only[jd l gN,jd c gN]
 |buildSlice t len parts=>
  have W:∀x∈parts.toList,ev x.2=IY x.2:=λx L=>jd x.2 (by simp only[Op.operands];simp;exact⟨x.1,by simpa using L⟩);simp only[gI];split
  .split
   .split;.rw[sQ W]
    .rfl
   .rfl
  .rfl
 |build t parts=>
  have W:∀x∈parts.toList,ev x.2=IY x.2:=λx L=>jd x.2 (by simp only[Op.operands];simp;exact⟨x.1,by simpa using L⟩);simp only[vW];split
  .split
   .split;.rw[sQ W]
    .rfl
   .split;.rw[sQ W]
    .rfl
   .rfl
  .rfl
 |binOp op t x y AV=>simp only[jd x gN,jd y gN];rw[QC P (h:=h) (Q:=Q)];intro e V;simp[oc,V]at hr
 |convert s d x=>
  simp only[jd x gN]
  congr 1
  unfold nA C6 xO;simp only[oc]at hr;split at hr;.rename_i k hk;simp only[hk]
  .rename_i hk;simp only[hk]
  .cases hr
 |call c=>
  have⟨callee,args,at_⟩:=c;simp only[oc]at hr;simp only[Op.operands,Call.operands]at jd;have W:∀x∈args.toList,ev x=IY x:=λx L=>jd x (by simp;first|exact .inr (Mf L)|exact(Mf L));simp only[wM];cases callee with
  |builtin b=>
   simp only;generalize args.toList=l at W
   match l,W with
   |[],_=>rfl
   |[x],W=>
    simp only[W x bR];split
    .cases b<;>try rfl
     simp only at hr⊢;rename_i t ht;rw[ht]at hr;simp only at hr
     congr 1
     unfold JE;split at hr;.rename_i hu;simp only[hu]
     .rename_i hu;simp only[hu]
     .cases hr
    .rfl
   |[x,y],W=>simp only[W x bR,W y bR]
   |_::_::_::_,_=>rfl
  |value f=>rfl
  |invoke r n=>rfl
 |_=>simp[oc]at hr
def CN(ops:Array Oper)(d:Option Tmp)(i:Nat):Bool:=match d with
 |none=>R
 |some d=>match ops[i]? with
  |none=>M
  |some o=>(o.looksAt ops).contains d||o.dst==J d
def calm(ops:Array Oper)(i:Nat):Bool:=match ops[i]? with
 |none=>R
 |some o=> !ZH o.op&&match o.dst with|some d=> !(o.looksAt ops).contains d|none=>M
def su(f:Op->Bool)(ops:Array Oper)(i:Nat):Bool:=match ops[i]? with
 |some o=>f o.op
 |none=>R
def VV(ops:Array Oper)(i:Nat):Option Tmp:=match ops[i]? with
 |some o=>o.dst
 |none=>B
def ss:Op->Bool
 | .assign _=>M
 |_=>R
def known(ops:Array Oper)(I:List Nat)(i:Nat):List Nat:=I.filter λj=> !CN ops (VV ops i) j
def zC(ops:Array Oper):List Nat->List Nat×List Nat->List Nat×List Nat
 |[],p=>p
 |i::l,p=>zC ops l
  (if su qG ops i then(known ops p.1 i,if calm ops i then[i]else[])
  else if su (oc P) ops i then(known ops p.1 i,if calm ops i then i::known ops p.2 i else known ops p.2 i)
  else(if calm ops i then i::known ops p.1 i else known ops p.1 i,known ops p.2 i))
def Dz(ops:Array Oper)(p:List Nat×List Nat)(e:Nat):List Nat×List Nat:=(known ops p.1 e,if su ss ops e then known ops p.2 e else[])
def KE(ops:Array Oper):List Nat×List Nat->dr->dr->Bool
 |I,(new,chk,e)::rest,(new',chk',e')::zN=>
  let v7:=zC P ops new I
  new==new'&&e==e'&&chk.all (λi=>v7.1.contains i||v7.2.contains i||chk'.contains i)&&(match e with
  |none=>M
  |some e=>KE ops (Dz ops v7 e) rest zN)
 |_,[],[]=>M
 |_,_,_=>R
def JM(ops:Array Oper)(base:Nat)(s:BT u)(i:Nat):Prop:=∃o,ops[i]?=J o/\oc P o.op=R/\∀h,vr P ops base i o s h
def Ol(ops:Array Oper)(base:Nat)(s:BT u)(h:aE)(i:Nat):Prop:=∃o,ops[i]?=J o/\vr P ops base i o s h
def uJ{s:BT u}{d v n}(h:d≠J n):X (iz d s v) n=X s n:=by
 cases d with
 |none=>rfl
 |some d=>show X (sset s d v) n=_;rw[pX,ak];intro e;subst e;exact h Z
def qQ{s:BT u}(h:∀n∈o.looksAt ops,X s' n=X s n):eM ops s' o=eM ops s o:=by
 unfold eM;cases hg:o.guard with
 |none=>rfl
 |some g=>
  have⟨j,want⟩:=g;simp only;cases hj:ops[j]? with
  |none=>rfl
  |some o'=>
   simp only;cases z:o'.dst with
   |none=>rfl
   |some d=>simp only;rw[h d];refine List.mem_append_right _ ?_;rw[hg];simp[hj,z]
def Ep{s:BT u}(h:∀n∈o.looksAt ops,X s' n=X s n):∀x∈o.op.operands.toList,qw s' x=qw s x:=by
 intro x L;cases x with
 |tmp n=>exact h n (jn _ (List.mem_filterMap.2 ⟨.tmp n,L,Z⟩))
 |_=>rfl
def AS{ev:Operand->u}(jd:∀x∈o.op.operands.toList,ev x=IY x):en P h ev o=en P h IY o:=by
 by_cases hr:oc P o.op=R;.exact wY P jd hr
 obtain⟨dst,op,type,g,af⟩:=o;unfold en;dsimp only at jd hr⊢;cases op with
 |load t a=>simp only[jd a gN]
 |lookup t x i ok=>simp only[jd x gN,jd i gN]
 |binOp op t x y AV=>simp only[jd x gN,jd y gN]
 |convert s d x=>simp only[jd x gN]
 |range t x=>simp only[jd x gN]
 |next x s=>simp only[jd x gN]
 |call c=>
  have⟨callee,args,at_⟩:=c;simp only[Op.operands,Call.operands]at jd;have W:∀x∈args.toList,ev x=IY x:=λx L=>jd x (by simp;first|exact .inr (Mf L)|exact(Mf L));simp only[wM];cases callee with
  |builtin b=>
   simp only;generalize args.toList=l at W
   match l,W with
   |[],_=>rfl
   |[x],W=>simp only[W x bR]
   |[x,y],W=>simp only[W x bR,W y bR]
   |_::_::_::_,_=>rfl
  |value f=>rfl
  |invoke r n=>rfl
 |_=>first|rfl|(simp[oc]at hr)
def Kl{base}{s:BT u}{d v}(ho:ops[i]?=J o)(A:vr P ops base i o s h)(z:CN ops d i=R):vr P ops base i o (iz d s v) h:=by
 have K:(∀n∈o.looksAt ops,X (iz d s v) n=X s n)/\(∀n,o.dst=J n->X (iz d s v) n=X s n):=by
  cases d with
  |none=>exact⟨λ_ _=>rfl,λ_ _=>rfl⟩
  |some d=>
   simp only[CN,ho,mj]at z;refine⟨λn hn=>uJ λe=>?_,λn hn=>uJ λe=>?_⟩;.cases e;have:=z.1;simp[hn]at this
   .cases e;have:=z.2;simp[hn]at this
 unfold vr at A⊢;rw[qQ K.1,AS P (Ep K.1)];cases hdd:o.dst with
 |none=>rw[hdd]at A;exact A
 |some n=>rw[hdd]at A;simp only at A⊢;rw[K.2 n hdd];exact A
def JM.put{base}{s:BT u}{d v}(G:JM P ops base s i)(z:CN ops d i=R):JM P ops base (iz d s v) i:=by have⟨o,ho,hrd,A⟩:=G;exact⟨o,ho,hrd,λh=>Kl P ho (A h) z⟩
def wT(ops:Array Oper)(base:Nat)(s:BT u)(h:aE)(p:List Nat×List Nat):Prop:=(∀j∈p.1,JM P ops base s j)/\∀j∈p.2,Ol P ops base s h j
def wT.EJ{base}{s:BT u}{p:List Nat×List Nat}(hp:wT P ops base s h p)(ho:ops[i]?=J o)(v):∀j∈known ops p.1 i,JM P ops base (iz o.dst s v) j:=by intro j hj;have⟨W,F⟩:=cR.1 hj;refine(hp.1 j W).put P ?_;simpa[VV,ho]using F
def wT.HT{base}{s:BT u}{p:List Nat×List Nat}(hp:wT P ops base s h p)(ho:ops[i]?=J o)(v):∀j∈known ops p.2 i,Ol P ops base (iz o.dst s v) h j:=by intro j hj;have⟨W,F⟩:=cR.1 hj;have⟨o',ho',A⟩:=hp.2 j W;refine⟨o',ho',Kl P ho' A ?_⟩;simpa[VV,ho]using F
def asX{op}(h:qG op=M)(hn:ZH op=R):oc P op=R:=by cases op<;>first|rfl|(simp[ZH]at hn;done)|(simp[qG]at h;done)
def abn(ho:ops[i]?=J o)(A:calm ops i=M):ZH o.op=R:=by simp only[calm,ho,aS,jF]at A;exact A.1
def yD(ho:ops[i]?=J o)(A:calm ops i=M)(s:BT u)(v):∀n∈o.looksAt ops,X (iz o.dst s v) n=X s n:=by intro n hn;refine uJ λe=>?_;simp only[calm,ho,aS]at A;replace A:=A.2;rw[e]at A;simp[hn]at A
def wT.new{base}{s:BT u}{p:List Nat×List Nat}(hp:wT P ops base s h p)(ho:ops[i]?=J o){v}
 (hh:qG o.op=R->W=h)
 (Jl:calm ops i=M->vr P ops base i o (iz o.dst s v) W) (ard:calm ops i=M->oc P o.op=R->qG o.op=R->∀F,vr P ops base i o (iz o.dst s v) F):
 wT P ops base (iz o.dst s v) W (if su qG ops i then(known ops p.1 i,if calm ops i then[i]else[])
 else if su (oc P) ops i then(known ops p.1 i,if calm ops i then i::known ops p.2 i else known ops p.2 i)
 else(if calm ops i then i::known ops p.1 i else known ops p.1 i,known ops p.2 i)):=by
 have e1:su qG ops i=qG o.op:=by simp only[su,ho]
 have e2:su (oc P) ops i=oc P o.op:=by simp only[su,ho]
 rw[e1,e2];cases ha:qG o.op with
 |true=>
  rw[au Z];refine⟨hp.EJ P ho v,?_⟩;by_cases A:calm ops i=M;.simp only[A,cA];intro j hj;rw[aV]at hj;subst hj;exact⟨o,ho,Jl A⟩
  .simp only[A];intro j hj;cases hj
 |false=>
  have:=hh ha;subst this;rw[ak bR];cases hr:oc P o.op with
  |true=>
   rw[au Z];refine⟨hp.EJ P ho v,?_⟩;by_cases A:calm ops i=M
   .simp only[A,cA];intro j hj;obtain rfl|hj:=bJ.1 hj
    .exact⟨o,ho,Jl A⟩
    .exact hp.HT P ho v j hj
   .simp only[A];exact hp.HT P ho v
  |false=>
   rw[ak bR];refine⟨?_,hp.HT P ho v⟩;by_cases A:calm ops i=M
   .simp only[A,cA];intro j hj;obtain rfl|hj:=bJ.1 hj
    .exact⟨o,ho,hr,ard A hr ha⟩
    .exact hp.EJ P ho v j hj
   .simp only[A];exact hp.EJ P ho v
def xu{ops base}{K1 K2:BT u->aE->Prop}:∀(l:List Nat) (p:List Nat×List Nat) (s:BT u) (h:aE),wT P ops base s h p->tB P ops base K1 l s h->
 (∀s' Q,wT P ops base s' Q (zC P ops l p)->K1 s' Q->K2 s' Q)->tB P ops base K2 l s h
 |[],p,s,h,hI,hw,hk=>hk s h hI hw
 |i::l,p,s,h,hI,hw,hk=>by
  simp only[tB]at hw⊢;cases ho:ops[i]? with
  |none=>rw[ho]at hw;exact hw.elim
  |some o=>
   rw[ho]at hw;simp only at hw⊢;cases i':eM ops s o with
   |none=>rw[i']at hw;exact hw.elim
   |some b=>
    rw[i']at hw;have NL:∀v,(match o.dst with|some d=>X (iz o.dst s v) d=v|none=>True):=by
     intro v;cases z:o.dst with
     |none=>trivial
     |some d=>show X (sset s d _) d=_;rw[pX,au Z]
    cases b with
    |true=>
     simp only at hw⊢;cases hq:en P h (qw s) o with
     |none=>rw[hq]at hw;exact hw.elim
     |some q=>
      rw[hq]at hw;simp only at hw⊢;refine xu l _ _ _ (hI.new P ho ?_ ?_ ?_) hw hk;.intro ha;rw[yF P ha hq]
      .intro A;have K:=yD ho A s (q.av (base+i));unfold vr;rw[qQ K,i',AS P (Ep K)];have this:∀W,(qG o.op=R->W=h)->en P W (qw s) o=J q:=by
        intro W hh;cases ha:qG o.op with
        |true=>rw[<-hq];exact wY P (λ_ _=>rfl) (asX P ha (abn ho A))
        |false=>rw[hh ha];exact hq
       rw[this _ λha=>by rw[yF P ha hq]];refine⟨NL _,?_⟩;cases hqo:q.obj with
       |none=>trivial
       |some ob=>show N (aI h (base+i) ob) (base+i)=_;rw[aj,au Z]
      .intro A hr ha F;have K:=yD ho A s (q.av (base+i));unfold vr;rw[qQ K,i',AS P (Ep K),wY P (Q:=h) (λ_ _=>rfl) hr,hq];refine⟨NL _,?_⟩;rw[yF P ha hq];trivial
    |false=>
     simp only at hw⊢;have Jl:calm ops i=M->∀F,vr P ops base i o (iz o.dst s (.g undef)) F:=by intro A F;have K:=yD ho A s (.g undef);unfold vr;rw[qQ K,i'];exact NL _
     exact xu l _ _ _ (hI.new P ho (λ_=>rfl) (λA=>Jl A _) (λA _ _=>Jl A)) hw hk
def Oj{ops base}{s:BT u}{h}:∀{l:List Nat},(∀i∈l,∃o,ops[i]?=J o/\vr P ops base i o s h)->Hp P ops base s h l
 |[],_=>trivial
 |i::l,K=>by have⟨o,ho,A⟩:=K i bR;refine⟨?_,Oj λj hj=>K j (by simp[hj])⟩;rw[ho];exact A
def IH{K1 K2:BT u->aE->Nat->Prop}{s:BT u}{r}(hw:WC P o K1 s h Y r)(hk:∀v h Y,K1 (iz o.dst s v) h Y->K2 (iz o.dst s v) h Y):WC P o K2 s h Y r:=by
 cases r with
 |none=>exact hw.elim
 |some r=>
  cases r with
  |val v Q=>exact hk _ _ _ hw
  |rf ob len Q=>
   have hw:WX o.dst K1 s Y ob len Q:=hw;show WX o.dst K2 s Y ob len Q;cases z:o.dst with
   |none=>rw[z]at hw;cases ob<;>exact hw.elim
   |some d=>
    rw[z]at hw;cases ob with
    |fM cs e es=>intro cap gs a b;have:=hk (.sl Y 0 len cap);rw[z]at this;exact this _ _ (hw cap gs a b)
    |_=>exact hw.elim
  |enter f args=>have hw:az P f args h Y λv Q E=>K1 (iz o.dst s v) Q E:=hw;exact hw.mono P λv Q E q=>hk _ _ _ q
  |defer d=>exact hw.elim
  |round a b=>have⟨rr,cX,g1,g2,g3⟩:=hw;exact⟨rr,cX,g1,g2,λwait cs zxQ hq=>g3 wait cs zxQ λv Q E q=>hq v Q E (hk _ _ _ q)⟩
def sM{ops base}{hl:BT u->aE->Nat->Prop}:∀(pl CG:dr) (p:List Nat×List Nat) (s:BT u) (h:aE) (Y:Nat),KE P ops p pl CG=M->wT P ops base s h p->
 FL P xt ops base hl CG s h Y->FL P xt ops base hl pl s h Y
 |[],[],_,_,_,_,_,_,hw=>hw
 |[],_::_,_,_,_,_,hr,_,_=>by simp[KE]at hr
 |_::_,[],_,_,_,_,_,_,hw=>hw.elim
 |(new,chk,e)::rest,(new',chk',e')::zN,p,s,h,Y,hr,hI,hw=>by
  unfold KE at hr;simp only[aS,kN,fU,vu]at hr;have⟨⟨⟨W,F⟩,h3⟩,h4⟩:=hr;subst W;subst F;simp only[FL]at hw⊢;refine xu P new p s h hI hw ?_;intro s' Q hJ ⟨A,hw⟩;refine⟨Oj P λi H=>?_,?_⟩
  .obtain (h3|h3)|h3:=h3 i H;.have⟨o,ho,_,A⟩:=hJ.1 i (Mf h3);exact⟨o,ho,A Q⟩
   .exact hJ.2 i (Mf h3)
   .exact Eu P A i (Mf h3)
  .cases e with
   |none=>exact hw
   |some e=>
    simp only at hw h4⊢;cases ho:ops[e]? with
    |none=>rw[ho]at hw;exact hw.elim
    |some o=>
     rw[ho]at hw;simp only at hw⊢;have ek:su ss ops e=ss o.op:=by simp only[su,ho]
     have jS:∀v F,(ss o.op=M->F=Q)->wT P ops base (iz o.dst s' v) F (Dz ops (zC P ops new p) e):=by
      intro v F hh;refine⟨hJ.EJ P ho v,?_⟩;simp only[Dz,ek];cases ha:ss o.op with
      |true=>rw[au Z,hh ha];exact hJ.HT P ho v
      |false=>rw[ak bR];intro j hj;cases hj
     cases i':eM ops s' o with
     |none=>rw[i']at hw;exact hw.elim
     |some b=>
      rw[i']at hw;cases b with
      |true=>
       simp only at hw⊢;by_cases ha:ss o.op=M
       .have:∃x,pg P xt Q (qw s') o=J (.val x Q):=by
         cases hop:o.op<;>simp only[hop,ss]at ha<;>first|(cases ha;done)|skip
         rename_i x;exact⟨qw s' x,by unfold pg;rw[hop]⟩
        have⟨x,L⟩:=this;rw[L]at hw⊢;exact sM rest zN _ _ _ _ h4 (jS _ _ λ_=>rfl) hw
       .exact IH P hw λv h Y hw=>sM rest zN _ _ _ _ h4 (jS _ _ λh=>absurd h ha) hw
      |false=>exact sM rest zN _ _ _ _ h4 (jS _ _ λ_=>rfl) hw
abbrev MO(l:List Nat)(n:Nat):List Nat×List Nat×Option Nat:=(l,[],J n)
abbrev RX:List Nat×List Nat×Option Nat:=([],[],B)
def RB:List (Nat×dr)->Nat->dr
 |[],_=>[]
 |(k,v)::l,i=>if i=k then v else RB l i
abbrev z4:List Nat:=[0,1,2,3,4]
abbrev z5:List Nat:=[0,1,2,3,4,5]
abbrev z6:List Nat:=[0,1,2,3,4,5,6]
abbrev z7:List Nat:=[0,1,2,3,4,5,6,7]
abbrev z8:List Nat:=[0,1,2,3,4,5,6,7,8]
abbrev z9:List Nat:=[0,1,2,3,4,5,6,7,8,9]
abbrev z10:List Nat:=[0,1,2,3,4,5,6,7,8,9,10]
abbrev z11:List Nat:=[0,1,2,3,4,5,6,7,8,9,10,11]
abbrev z12:List Nat:=[0,1,2,3,4,5,6,7,8,9,10,11,12]
abbrev z13:List Nat:=[0,1,2,3,4,5,6,7,8,9,10,11,12,13]
abbrev z14:List Nat:=[0,1,2,3,4,5,6,7,8,9,10,11,12,13,14]
abbrev z16:List Nat:=[0,1,2,3,4,5,6,7,8,9,10,11,12,13,14,15,16]
abbrev z18:List Nat:=[0,1,2,3,4,5,6,7,8,9,10,11,12,13,14,15,16,17,18]
abbrev z19:List Nat:=[0,1,2,3,4,5,6,7,8,9,10,11,12,13,14,15,16,17,18,19]
abbrev z23:List Nat:=[0,1,2,3,4,5,6,7,8,9,10,11,12,13,14,15,16,17,18,19,20,21,22,23]
abbrev z26:List Nat:=[0,1,2,3,4,5,6,7,8,9,10,11,12,13,14,15,16,17,18,19,20,21,22,23,24,25,26]
abbrev z31:List Nat:=[0,1,2,3,4,5,6,7,8,9,10,11,12,13,14,15,16,17,18,19,20,21,22,23,24,25,26,27,28,29,30,31]
abbrev z32:List Nat:=[0,1,2,3,4,5,6,7,8,9,10,11,12,13,14,15,16,17,18,19,20,21,22,23,24,25,26,27,28,29,30,31,32]
abbrev z43:List Nat:=[0,1,2,3,4,5,6,7,8,9,10,11,12,13,14,15,16,17,18,19,20,21,22,23,24,25,26,27,28,29,30,31,32,33,34,35,36,37,38,39,40,41,42,43]
attribute[go_sem]MO RX RB
end
section
variable(P:Program)(xt:FuncId->Option Ext)
abbrev jT:=Ex->BT u->aE->Nat->Prop
def jT.seq(hl:BT u->aE->Nat->Prop)(nx':jT):jT:=λe s h Y=>match e with
 | .jg=>hl s h Y
 |e=>nx' e s h Y
def jT.bT(id:Nat)(nx':jT):jT:=λe s h Y=>match e with
 | .out Cg=>if id=Cg then nx' .jg s h Y else nx' (.out Cg) s h Y
 |e=>nx' e s h Y
def h1(T:Nat->dr):Code->jT->BT u->aE->Nat->Prop
 | .ret,nx',s,h,Y=>nx' .ret s h Y
 | .skip,nx',s,h,Y=>nx' .jg s h Y
 | .seq a b,nx',s,h,Y=>h1 T a (jT.seq (h1 T b nx') nx') s h Y
 | .cond c a b,nx',s,h,Y=>∃t,qw s c= .g (.bool t)/\(if t=M then h1 T a nx' s h Y else h1 T b nx' s h Y)
 | .block id b,nx',s,h,Y=>h1 T b (jT.bT id nx') s h Y
 | .loop b,nx',s,h,Y=>∀ao:BT u->aE->Nat->Prop,(∀s h Y,h1 T b (jT.seq ao nx') s h Y->ao s h Y)->ao s h Y
 | .exit id,nx',s,h,Y=>nx' (.out id) s h Y
 | .region id ops draw,nx',s,h,Y=>if draw=M then FL P xt ops Y (nx' .jg) (T id) s h (Y+ops.size)else xK P xt ops (nx' .jg) ops.toList s h Y
 |_,_,_,_,_=>False
def Ty(infos:List ey):List ey->Option ey->dr
 |[],last=>[((infos.filter λx=>mw (jM []) x&&sP last x).map (·.i),(infos.filter λx=>mw (jM []) x&& !si last x).map (·.i),B)]
 |y::eT,last=>((infos.filter λx=>mw (jM (y::eT)) x&&sP last x).map (·.i),(infos.filter λx=>mw (jM (y::eT)) x&& !si last x).map (·.i),J y.i)::Ty infos eT (J y)
def D5(ops:Array Oper):dr:=
 let hc:=lU ops.toList 0 []
 Ty (hc.filter (!·.zG)) (hc.filter (·.zG)) B
def fR(T:Nat->dr):Code->Bool
 | .seq a b=>fR T a&&fR T b
 | .cond _ a b=>fR T a&&fR T b
 | .block _ b=>fR T b
 | .loop b=>fR T b
 | .region id ops draw=> !draw||(MS ops (D5 ops)&&KE P ops ([],[]) (D5 ops) (T id))
 |_=>M
def afM(pk:PK P xt)(x:Fx)(ops:Array Oper)(pl:dr)(k:List dO)(zxQ:AM->Prop)(hl:BT u->aE->Nat->Prop)(hK:∀s h Y,hl s h Y->eO P (x.at s h Y k) zxQ)
 (z:∀o∈ops.toList,∀d,o.dst=J d->d<x.size) (hp:MS ops pl=M) (id) (s:BT u) (h) (Y:Nat) (hw:FL P xt ops Y hl pl s h (Y+ops.size)):
 eO P (x.at s h Y (.code (.region id ops M)::k)) zxQ:=by
 simp only[MS,aS]at hp;have hA:∀y∈lU ops.toList 0 [],ops[y.i]?=J y.o/\∀d,y.o.dst=J d->d<x.size:=by
  intro y hy;have⟨_,F,h3,_⟩:=pI _ _ _ y hy;have h3:ops.toList[y.i]?=J y.o:=Mf h3
  exact⟨by simpa using h3,z _ (List.mem_of_getElem? h3)⟩
 have NL:BQ x.size (lU ops.toList 0 [])=M:=by
  have key:∀l:List ey,(∀y∈l,∀d,y.o.dst=J d->d<x.size)->BQ x.size l=M:=by
   intro l
   induction l with
   |nil=>intro _;rfl
   |cons y l ih=>
    intro K;simp only[BQ,aS];refine⟨?_,ih λhd hz=>K hd (by simp[hz])⟩;have:=K y bR;split;.rename_i d z;simpa using this d z
    .rfl
  exact key _ λy hy=>(hA y hy).2
 refine .iP P xt pk ⟨x.at s h (Y+ops.size) (.kR {phase:= .unsat,infos:=(lU ops.toList 0 []).filter (!·.zG),eT:=(lU ops.toList 0 []).filter (·.zG),last:=B,base:=Y,ops}::k),?_,?_⟩;.show(if(ve ops (lU ops.toList 0 [])&&BQ x.size (lU ops.toList 0 []))=M then _ else _)=_;rw[au (by rw[hp.1,NL];rfl)];rfl
 .exact FP P xt pk x ops Y _ k zxQ hl hK (λy hy=>hA y (cR.1 hy).1) pl _ B (λy hy=>hA y (cR.1 hy).1) hp.2 s h _ hw
def nV(pk:PK P xt)(T:Nat->dr)(x:Fx):
 ∀(c:Code),iW x.size c=M->fR P T c=M->∀(nx':jT) (k:List dO) (zxQ:AM->Prop),(∀e s h Y,nx' e s h Y->WU P x k zxQ e s h Y)->∀s h Y,h1 P xt T c nx' s h Y->eO P (x.at s h Y (.code c::k)) zxQ:=by
 intro c
 induction c with
 |ret=>
  intro _ _ nx' k zxQ hE s h Y hw;have V:=hE _ _ _ _ hw;obtain⟨fn,size,defers,deferred,callers,round⟩:=x;cases round with
  |none=>exact .iP P xt pk ⟨_,Z,(V:∀t,qO t=R->_) _ Z⟩
  |some l=>obtain⟨z,m',W,F⟩:=V;have z:deferred=R:=z;subst z;refine .iP P xt pk ⟨m',?_,F⟩;rw[<-W];rfl
 |skip=>intro _ _ nx' k zxQ hE s h Y hw;exact .iP P xt pk ⟨_,Z,hE _ _ _ _ hw⟩
 |seq a b iha ihb=>
  intro z hp nx' k zxQ hE s h Y hw;simp only[iW,aS]at z;simp only[fR,aS]at hp;refine .iP P xt pk ⟨x.at s h Y (.code a:: .code b::k),Z,iha z.1 hp.1 _ _ zxQ ?_ s h Y hw⟩;intro e s h Y V;cases e with
  |jg=>exact ihb z.2 hp.2 nx' k zxQ hE s h Y V
  |ret=>exact hE .ret s h Y V
  |out id=>exact hE (.out id) s h Y V
 |cond c a b iha ihb=>
  intro z hp nx' k zxQ hE s h Y hw;simp only[iW,aS]at z;simp only[fR,aS]at hp;obtain⟨t,ht,hw⟩:=hw;refine .iP P xt pk ⟨x.at s h Y (.code (if t then a else b)::k),?_,?_⟩;.show w8 _ a b k (qw s c)=_;rw[ht];rfl
  .cases t with
   |true=>exact iha z.1 hp.1 nx' k zxQ hE s h Y hw
   |false=>exact ihb z.2 hp.2 nx' k zxQ hE s h Y hw
 |block id b ih=>
  intro z hp nx' k zxQ hE s h Y hw;refine .iP P xt pk ⟨x.at s h Y (.code b:: .inBlock id::k),Z,ih z hp _ _ zxQ ?_ s h Y hw⟩;intro e s h Y V;cases e with
  |jg=>exact .iP P xt pk ⟨_,Z,hE .jg s h Y V⟩
  |ret=>exact hE .ret s h Y V
  |out Cg=>
   simp only[jT.bT]at V;by_cases Jg:id=Cg;.rw[au Jg]at V;refine⟨k,?_,hE .jg s h Y V⟩;show(if id==Cg then J k else pj Cg k)=J k;rw[au (Mf Jg)]
   .rw[ak Jg]at V;obtain⟨k',W,F⟩:=hE (.out Cg) s h Y V;exact avg
 |loop b ih=>
  intro z hp nx' k zxQ hE s h Y hw;refine .iP P xt pk ⟨x.at s h Y (.code b:: .inLoop b::k),Z,?_⟩;refine hw (λs h Y=>eO P (x.at s h Y (.code b:: .inLoop b::k)) zxQ) ?_;intro s h Y D;refine ih z hp _ (.inLoop b::k) zxQ ?_ s h Y D;intro e s h Y V;cases e with
  |jg=>exact .iP P xt pk ⟨_,Z,V⟩
  |ret=>exact hE .ret s h Y V
  |out id=>exact hE (.out id) s h Y V
 |exit id=>intro _ _ nx' k zxQ hE s h Y hw;obtain⟨k',W,F⟩:=hE _ _ _ _ hw;refine .iP P xt pk ⟨x.at s h Y k',?_,F⟩;show wh _ id k=_;unfold wh;rw[W];rfl
 |region id ops draw=>
  intro z hp nx' k zxQ hE s h Y hw;have uu:∀o∈ops.toList,∀d,o.dst=J d->d<x.size:=by intro o ho d V;have:=fU.1 z o ho;rw[V]at this;simpa using this
  cases draw with
  |true=>simp only[fR,gL,qP,aS]at hp;exact afM P xt pk x ops (D5 ops) k zxQ (nx' .jg) (λs h Y V=>hE .jg s h Y V) uu hp.1 id s h Y (sM P xt _ _ ([],[]) _ _ _ hp.2 ⟨λ_ h=>(by cases h),λ_ h=>(by cases h)⟩ hw)
  |false=>refine .iP P xt pk ⟨x.at s h Y (.ops ops.toList ops::k),Z,?_⟩;exact DZ P xt pk x ops k zxQ (nx' .jg) (λs h Y V=>hE .jg s h Y V) ops.toList uu s h Y hw
 |rangeFunc=>intro _ _ _ _ _ _ _ _ _ hw;exact hw.elim
 |scope=>intro _ _ _ _ _ _ _ _ _ hw;exact hw.elim
 |label=>intro _ _ _ _ _ _ _ _ _ hw;exact hw.elim
 |goto=>intro _ _ _ _ _ _ _ _ _ hw;exact hw.elim
 |refuse=>intro _ _ _ _ _ _ _ _ _ hw;exact hw.elim
def az.ahB(pk:PK P xt)(T){c}(hf:P.funcs[f]?=J fn)(D:fn.body=J c)
 (z:iW fn.ntmps c=M) (hp:fR P T c=M)  (ha:O args<=fn.ntmps)   
 (hw:h1 P xt T c (λe s h Y=>match e with| .out _=>False|_=>∃vs,eW P h s fn.results.toList=J vs/\h' (one vs) h Y) (eK args 0 .nil) h Y):az P f args h Y h':=by
 have V:bY.enter P f args R=J ⟨f,eK args 0 .nil,fn.ntmps,[.code c],[],R,R,B⟩:=by unfold bY.enter;rw[hf];show(match fn.body with|some c=>_|none=>_)=_;rw[D];show(if O args<=fn.ntmps then _ else _)=_;rw[au ha]
 refine .Cs P V ?_
 let x:Fx:=⟨f,fn.ntmps,[],R,[],B⟩
 have iy:∀s h Y t,qO t=R->(∃vs,eW P h s fn.results.toList=J vs/\h' (one vs) h Y)->eO P ⟨x.fr s t M,x.callers,h,Y⟩ λm=>m.fr.fn=f/\∃v,BK P m=J v/\h' v m.heap m.next:=by
  exact aty
 refine nV P xt pk T x c z hp _ [] _ ?_ _ h Y hw;intro e s h Y V;cases e with
 |jg=>exact .iP P xt pk ⟨⟨x.fr s [] M,x.callers,h,Y⟩,Z,iy s h Y [] Z V⟩
 |ret=>exact λt ht=>iy s h Y t ht V
 |out id=>exact V.elim
end
variable{nx':jT}{rs:List ResultVar}
section
variable(P:Program)(xt:FuncId->Option Ext)
def GJ{ops}{hl K':BT u->aE->Nat->Prop}(hk:∀s h Y,hl s h Y->K' s h Y):∀(l:List Oper) (s:BT u) (h:aE) (Y:Nat),xK P xt ops hl l s h Y->xK P xt ops K' l s h Y
 |[],_,_,_,hw=>hk _ _ _ hw
 |o::l,s,h,Y,hw=>by
  have ih:=GJ (ops:=ops) hk l;simp only[xK]at hw⊢;cases i':eM ops s o with
  |none=>rw[i']at hw;exact hw.elim
  |some b=>
   rw[i']at hw;cases b with
   |false=>exact ih _ _ _ hw
   |true=>
    simp only[Wop]at hw⊢;split at hw;.rename_i V;rw[au V];exact IH P hw λv h Y=>ih _ _ _
    .rename_i V;rw[ak V];generalize en P h (qw s) o=q at hw;cases q with
     |none=>exact hw.elim
     |some q=>cases q<;>exact ih _ _ _ hw
def asp{base}{hl K':BT u->aE->Prop}(hk:∀s h,hl s h->K' s h)(l)(s:BT u)(h)(hw:tB P ops base hl l s h):tB P ops base K' l s h:=
 xu P l ([],[]) s h ⟨λ_ h=>(by cases h),λ_ h=>(by cases h)⟩ hw λs' Q _=>hk s' Q
def Jy{ops base}{hl K':BT u->aE->Nat->Prop}(hk:∀s h Y,hl s h Y->K' s h Y):∀(pl:dr) (s:BT u) (h:aE) (Y:Nat),FL P xt ops base hl pl s h Y->FL P xt ops base K' pl s h Y
 |[],_,_,_,hw=>hw.elim
 |(new,chk,e)::rest,s,h,Y,hw=>by
  have ih:=Jy (ops:=ops) (base:=base) hk rest;simp only[FL]at hw⊢;refine asp P ?_ new s h hw;intro s h ⟨A,hw⟩;refine⟨A,?_⟩;cases e with
  |none=>exact hk _ _ _ hw
  |some e=>
   simp only at hw⊢;cases ho:ops[e]? with
   |none=>rw[ho]at hw;exact hw.elim
   |some o=>
    rw[ho]at hw;simp only at hw⊢;cases i':eM ops s o with
    |none=>rw[i']at hw;exact hw.elim
    |some b=>
     rw[i']at hw;cases b with
     |true=>exact IH P hw λv h Y=>ih _ _ _
     |false=>exact ih _ _ _ hw
def Hi{T}:∀(c:Code) (nx' E':jT),(∀e s h Y,nx' e s h Y->E' e s h Y)->∀s h Y,h1 P xt T c nx' s h Y->h1 P xt T c E' s h Y:=by
 intro c
 induction c with
 |ret=>intro nx' E' hE s h Y hw;exact hE _ _ _ _ hw
 |skip=>intro nx' E' hE s h Y hw;exact hE _ _ _ _ hw
 |seq a b iha ihb=>
  intro nx' E' hE s h Y hw;refine iha _ _ ?_ s h Y hw;intro e s h Y V;cases e with
  |jg=>exact ihb _ _ hE _ _ _ V
  |ret=>exact hE _ _ _ _ V
  |out id=>exact hE _ _ _ _ V
 |cond c a b iha ihb=>
  intro nx' E' hE s h Y ⟨t,ht,hw⟩;refine⟨t,ht,?_⟩;cases t with
  |true=>exact iha _ _ hE _ _ _ hw
  |false=>exact ihb _ _ hE _ _ _ hw
 |block id b ih=>
  intro nx' E' hE s h Y hw;refine ih _ _ ?_ s h Y hw;intro e s h Y V;cases e with
  |out Cg=>
   simp only[jT.bT]at V⊢;split at V;.rename_i Jg;rw[au Jg];exact hE _ _ _ _ V
   .rename_i Jg;rw[ak Jg];exact hE _ _ _ _ V
  |jg=>exact hE _ _ _ _ V
  |ret=>exact hE _ _ _ _ V
 |loop b ih=>
  intro nx' E' hE s h Y hw ao hX;refine hw ao λs h Y D=>hX s h Y (ih _ _ ?_ _ _ _ D);intro e s h Y V;cases e with
  |jg=>exact V
  |ret=>exact hE _ _ _ _ V
  |out id=>exact hE _ _ _ _ V
 |exit id=>intro nx' E' hE s h Y hw;exact hE _ _ _ _ hw
 |region id ops draw=>
  intro nx' E' hE s h Y hw;simp only[h1]at hw⊢;split;.rename_i z;rw[au z]at hw;exact Jy P xt (λs h Y=>hE _ s h Y) _ _ _ _ hw
  .rename_i z;rw[ak z]at hw;exact GJ P xt (λs h Y=>hE _ s h Y) _ _ _ _ hw
 |_=>intro _ _ _ _ _ _ hw;exact hw.elim
def cI{T b}{s:BT u}(Inv:Nat->BT u->aE->Nat->Prop)(h0:Inv n s h Y)
 (G:∀n s h Y,Inv n s h Y->h1 P xt T b (jT.seq (λs h Y=>∃m,m<n/\Inv m s h Y) nx') s h Y):h1 P xt T (.loop b) nx' s h Y:=by
 intro ao hX;have key:∀n s h Y,Inv n s h Y->ao s h Y:=by
  intro n
  induction n using Nat.strongRecOn with
  |_ n ih=>
   intro s h Y H;refine hX s h Y (Hi P xt b _ _ ?_ _ _ _ (G n s h Y H));intro e s h Y V;cases e with
   |jg=>have⟨m,hm,H⟩:=V;exact ih m hm s h Y H
   |ret=>exact V
   |out id=>exact V
 exact key n s h Y h0
def Fin(P:Program)(rs:List ResultVar)(h':u->aE->Nat->Prop):jT:=λe s h Y=>match e with
 | .out _=>False
 |_=>∃vs,eW P h s rs=J vs/\h' (one vs) h Y
def Pure(h:aE)(Y:Nat)(h':u->Prop):u->aE->Nat->Prop:=λv Q _=>(∀b,b<Y->N Q b=N h b)/\∃AV,Fz Q Y v AV/\h' AV
def az.akK(pk:PK P xt)(T){c}(hf:P.funcs[f]?=J fn)(D:fn.body=J c)(Up:fn.results.toList=rs)
 (z:(iW fn.ntmps c&&fR P T c)=M)  (ha:O args<=fn.ntmps)   
 (hw:h1 P xt T c (Fin P rs h') (eK args 0 .nil) h Y):az P f args h Y h':=by
 subst Up;rw[aS]at z;exact az.ahB P xt pk T hf D z.1 z.2 ha (Hi P xt c _ _ (λe s h Y V=>by cases e<;>exact V) _ _ _ hw)
def az.pure(pk:PK P xt)(T){c}(hf:P.funcs[f]?=J fn)(D:fn.body=J c)(Up:fn.results.toList=rs)
 (z:(iW fn.ntmps c&&fR P T c)=M)  (ha:O args<=fn.ntmps)   {h':u->Prop}
 (hw:h1 P xt T c (Fin P rs (Pure h Y h')) (eK args 0 .nil) h Y):az P f args h Y λv W cC=>h' v/\W=h/\cC=Y:=
 (az.akK P xt pk T hf D Up z ha hw).tG λ_ _ _ q=>q
end
end
end br
end Go.Proofs.YtonnifoeokagjaaGreat
