/- The theorem plans_holds of OrdersPlans: part 4 of its proof; no conditions. -/
import Derived.Test.YtonnifoeokagjaaGreatF03
namespace Go.Proofs.YtonnifoeokagjaaGreat
set_option linter.all false
set_option maxRecDepth 8000
open Go Go.RowKit
namespace bC
noncomputable section
variable{P:Program}{args:List AV}{base:Bs}{lo nx:Nat}{m m':AM}{r:dG}{w w0:World}
theorem JF{xt:FuncId->Option Ext}(pk:PK P xt){f:Frame}{cs:List Frame}(hF:FR r lo m.next m.fr f)(je:lo<=m.next)
 (hC:AR r base lo m.callers cs) (hH:HR r m.heap m.next w0 w) (fU:m.fr.ret=false) {c:Code} {k:List dc} (jx:m.fr.todo= .code c::k) (hs:BE P xt m c k=some m'):qs P w0 base f cs w m':=by
 have fP:f.mode= .run:=by rw[hF.mode,fU];rfl
 have sM:∃ks,f.todo= .code c::ks/\FY r k ks/\TR r m.fr.cE f.tmps:=by
  have gy:=hF.top;rw[jx]at gy;generalize mU:f.todo=ft at gy;cases gy with
  |plain jZ mG=>
  cases jZ with|cons hi jZ=>
  cases hi;exact⟨_,rfl,jZ,mG⟩
 obtain⟨ks,mU,jZ,mG⟩:=sM;unfold BE at hs;cases c with
 |ret=>exact uL hF je hC hH fU (.inr (.inl ⟨k,jx,rfl⟩)) hs
 |skip=>exact kZ hF je hC hH fU hs jZ mG (Ep fP mU (.inl ⟨rfl,rfl⟩))
 |seq a b=>exact kZ hF je hC hH fU hs (.cons (.code a) (.cons (.code b) jZ)) mG (Ep fP mU (.inr (.inr (.inl ⟨a,b,rfl,rfl⟩))))
 |cond c thn els=>
  replace hs:tX m thn els k (oZ m.fr.cE c)=some m':=hs;unfold tX at hs;split at hs;.rename_i b hb;have hv:=u0 mG c;rw[hb]at hv;generalize hec:f.eval c=u at hv;cases hv;exact kZ hF je hC hH fU hs (.cons (.code _) jZ) mG (acq fP mU hec)
  .cases hs
 |block id body=>exact kZ hF je hC hH fU hs (.cons (.code body) (.cons (.inBlock id) jZ)) mG (Ep fP mU (.inr (.inr (.inr (.inl ⟨id,body,rfl,rfl⟩)))))
 |loop body=>exact kZ hF je hC hH fU hs (.cons (.code body) (.cons (.inLoop body) jZ)) mG (Ep fP mU (.inr (.inr (.inr (.inr (.inl ⟨body,rfl,rfl⟩))))))
 |exit id=>
  replace hs:tY m id k=some m':=hs;unfold tY at hs;split at hs;.rename_i k' Cv;obtain⟨ck',h1,h2⟩:=(vS id jZ).1 k' Cv;exact kZ hF je hC hH fU hs h2 mG (adH fP mU h1)
  .rename_i Cv;exact uL hF je hC hH fU (.inr (.inr ⟨id,k,jx,Cv,rfl⟩)) hs
 |region id ops draw=>
  replace hs:vQ m ops draw k=some m':=hs;unfold vQ at hs;cases draw with
  |true=>exact Kx ⟨xt,pk⟩ hF je hC hH fU jx hs
  |false=>
   simp only[dk,cC]at hs;refine kZ hF je hC hH fU hs (.cons (.ops ?_) jZ) mG (Ep fP mU (.inr (.inr (.inr (.inr (.inr (.inr (.inl ⟨id,ops,rfl,rfl⟩))))))));apply nM;intro i;simp only[ff];by_cases hi:i<ops.size;.simp[hi]
   .rw[dR fE,dR fE];rfl
 |rangeFunc g params assign body=>exact HH pk hF je hC hH fU jx hs
 |scope _=>cases hs
 |label _=>cases hs
 |goto _=>cases hs
 |refuse _=>cases hs
theorem uj{xt:FuncId->Option Ext}(pk:PK P xt){f:Frame}{cs:List Frame}(hm:MR P w0 base m f cs w)(hs:tm P xt m=some m'):qs P w0 base f cs w m':=by
 obtain⟨⟨r,lo,hF,je,hC,hH⟩,Cf⟩:=hm;unfold tm at hs;split at hs;.rename_i fU;exact FU ⟨xt,pk⟩ hF je hC hH fU hs
 .rename_i fU;have fU:m.fr.ret=false:=by simpa using fU
  have fP:f.mode= .run:=by rw[hF.mode,fU];rfl
  split at hs;.rename_i ht;exact uL hF je hC hH fU (.inl ⟨ht,rfl⟩) hs
  .rename_i i k ht;unfold HN at hs;have sM:(∀g,i≠ .jK g)->∃ci ks,f.todo=ci::ks/\IR r i ci/\FY r k ks/\TR r m.fr.cE f.tmps:=by
    intro cx;have gy:=hF.top;rw[ht]at gy;generalize mU:f.todo=ft at gy;cases gy with
    |plain jZ mG=>
     cases jZ with|cons hi jZ=>
     exact⟨_,_,rfl,hi,jZ,mG⟩
    |jK _ _ _ _=>exact absurd rfl (cx _)
   cases i with
   |code c=>exact JF pk hF je hC hH fU ht hs
   |inBlock id=>obtain⟨ci,ks,mU,hi,jZ,mG⟩:=sM bL;cases hi;exact kZ hF je hC hH fU hs jZ mG (Ep fP mU (.inr (.inl ⟨id,rfl,rfl⟩)))
   |inLoop body=>obtain⟨ci,ks,mU,hi,jZ,mG⟩:=sM bL;cases hi;exact kZ hF je hC hH fU hs (.cons (.code body) (.cons (.inLoop body) jZ)) mG (Ep fP mU (.inr (.inr (.inr (.inr (.inr (.inl ⟨body,rfl,rfl⟩)))))))
   |ops l ops=>exact Nm pk hF je hC hH fU ht hs
   |jK g=>exact CJ pk hF je hC hH fU ht (λwP=>Cf g k ht wP fU) hs
   |jW l=>exact AG hF je hC hH fU ht hs
   |beginRound=>exact HY hF je hC hH fU ht hs
   |jQ _=>cases hs
theorem sW{P:Program}{xt:FuncId->Option Ext}(pk:PK P xt){w0:World}{base:Bs}:∀(n:Nat) {m m':AM} {f:Frame} {cs:List Frame} {w:World},MR P w0 base m f cs w->yi P xt n m=some m'->qs P w0 base f cs w m'
 |0,m,m',f,cs,w,hm,hs=>by simp only[yi,bA]at hs;subst hs;exact⟨f,cs,w,Steps.refl P _,hm⟩
 |n+1,m,m',f,cs,w,hm,hs=>by
  simp only[yi]at hs;split at hs;.rename_i m1 h1;obtain⟨f1,cs1,w1,s1,IK⟩:=uj pk hm h1;obtain⟨f2,Jg,w2,s2,JH⟩:=sW pk n IK hs;exact⟨f2,Jg,w2,s1.trans s2,JH⟩
  .cases hs
theorem Hn{g:FuncId}{fr:bI}(h:bI.enter P g args false=some fr){hp:aG}(hH:HR r hp nx w0 w){vs:List Value}(ha:eM r args vs)(cs:List Frame):
 MR P w0 ⟨cs,r,nx⟩ ⟨fr,[],hp,nx⟩ (Frame.enter P g vs.toArray .normal) cs w:=by
 obtain⟨e1,e2,⟨c,e3⟩,e4⟩:=uG ha h nx;refine MR.mk' (r:=r) (lo:=nx) e1 (an _) (.nil nx (dG.le_refl r) (λ_ _=>rfl) (an _)) hH λg' k e=>?_;have e:fr.todo= .jK g'::k:=e;rw[e3]at e;cases e
def zw(P:Program)(m:AM):Option AV:=match m.callers with
 |[]=>match m.fr.defers with
  |[]=>if m.fr.ret&& !m.fr.deferred&& !qZ m.fr.todo then(match P.funcs[m.fr.fn]? with
   |some fn=>match eo P m.heap m.fr.cE fn.results.toList with
    |some vs=>some (one vs)
    |none=>none
   |none=>none)else none
  |_=>none
 |_=>none
theorem AP{f:Frame}{cs:List Frame}(hm:MR P w0 base m f cs w){v:AV}(he:zw P m=some v):
 ∃u r,cs=base.fs/\f.fn=m.fr.fn/\f.leaving P w (.returned u)/\VR r v u/\dG.le base.r0 r/\(∀b,b<base.n0->r b=base.r0 b)/\base.n0<=m.next/\HR r m.heap m.next w0 w:=by
 obtain⟨⟨r,lo,hF,je,hC,hH⟩,_⟩:=hm;unfold zw at he;split at he
 .rename_i xV;split at he
  .rename_i hdf;split at he
   .rename_i hc;simp only[aV,jB]at hc;obtain⟨⟨h1,h2⟩,h3⟩:=hc;split at he
    .rename_i fn hf;split at he
     .rename_i vs ti;injection he with he
      have mG:TR r m.fr.cE f.tmps:=by
       have gy:=hF.top;generalize f.todo=q at gy;generalize m.fr.todo=q' at gy h3;cases gy with
       |plain _ mG=>exact mG
       |jK _ _ _ _=>cases h3
      obtain⟨u,hu,ec⟩:=zG hH mG ti;rw[he]at hu;rw[xV]at hC;cases hC with|nil _ c1 c2 c3=>
      have hd:=hF.defers;rw[hdf]at hd;generalize O6:f.defers=fd at hd;cases hd;exact⟨_,r,rfl,hF.fn,⟨by rw[hF.mode];exact aw h1,O6,by rw[hF.kind];exact ak (by simp[h2]),fn,by rw[hF.fn];exact hf,ec⟩,hu,c1,c2,ah,hH⟩
     .cases he
    .cases he
   .cases he
  .cases he
 .cases he
theorem Pc{f:Frame}{cs:List Frame}(hm:MR P w0 base m f cs w){v:Value}(he:zw P m=some (.g v)):
 cs=base.fs/\f.fn=m.fr.fn/\f.leaving P w (.returned v)/\Below w0.heap.size w0 w:=by
 obtain⟨u,r,h1,h2,h3,h4,_,_,_,h5⟩:=AP hm he;cases h4;exact⟨h1,h2,h3,h5.below⟩
def aX(h:aG):List Nat->aG->aG
 |[],acc=>acc
 |b::l,acc=>aX h l (match au h b with|some o=>aK acc b o|none=>acc)
variable{Q:AV->aG->Nat->Prop}{R':AM->Prop}{h:aG}{n:Nat}{wait:bI}
section
variable(P:Program)
def eH(m:AM)(R:AM->Prop):Prop:=
 ∀(w0:World) (base:Bs) (f:Frame) (cs:List Frame) (w:World),MR P w0 base m f cs w->
  ∃m' f' rJ w',R m'/\Steps P (lone f cs w) (lone f' rJ w')/\MR P w0 base m' f' rJ w'
theorem eH.done{R:AM->Prop}(h:R m):eH P m R:=λ_ _ f cs w hm=>⟨m,f,cs,w,h,Steps.refl P _,hm⟩
theorem eH.trans{m:AM}{R R':AM->Prop}(h:eH P m R')(h':∀m',R' m'->eH P m' R):eH P m R:=by intro w0 base f cs w hm;obtain⟨m1,f1,cs1,w1,hr,hs,IK⟩:=h w0 base f cs w hm;obtain⟨m2,f2,Jg,w2,sL,rP,JH⟩:=h' m1 hr w0 base f1 cs1 w1 IK;exact⟨m2,f2,Jg,w2,sL,hs.trans rP,JH⟩
theorem eH.mono{R:AM->Prop}(h:eH P m R')(h':∀m',R' m'->R m'):eH P m R:=h.trans P λ_ hr=> .done P (h' _ hr)
theorem eH.step{xt:FuncId->Option Ext}(pk:PK P xt){R:AM->Prop}(h:tm P xt m=some m')(h':eH P m' R):eH P m R:=by intro w0 base f cs w hm;obtain⟨f1,cs1,w1,s1,IK⟩:=uj pk hm h;obtain⟨m2,f2,Jg,w2,sL,rP,JH⟩:=h' w0 base f1 cs1 w1 IK;exact⟨m2,f2,Jg,w2,sL,s1.trans rP,JH⟩
theorem eH.steps{xt:FuncId->Option Ext}(pk:PK P xt){R:AM->Prop}(h:yi P xt n m=some m')(h':eH P m' R):eH P m R:=by intro w0 base f cs w hm;obtain⟨f1,cs1,w1,s1,IK⟩:=sW pk n hm h;obtain⟨m2,f2,Jg,w2,sL,rP,JH⟩:=h' w0 base f1 cs1 w1 IK;exact⟨m2,f2,Jg,w2,sL,s1.trans rP,JH⟩
theorem eH.ghost{R:AM->Prop}(h:∀w0 base f cs w,MR P w0 base m f cs w->MR P w0 base m' f cs w)(h':eH P m' R):eH P m R:=
 λw0 base f cs w hm=>h' w0 base f cs w (h _ _ _ _ _ hm)
def aA(f:FuncId)(args:List AV)(h:aG)(nx:Nat)(Q:AV->aG->Nat->Prop):Prop:=
 (∃fr,bI.enter P f args false=some fr)/\
 ∀(r:dG) (w0 w:World) (vs:List Value),HR r h nx w0 w->eM r args vs->
  Calls P f vs.toArray w λe w'=>∃u r' v h' nx',e= .returned u/\dG.le r r'/\(∀b,b<nx->r' b=r b)/\nx<=nx'/\HR r' h' nx' w0 w'/\VR r' v u/\Q v h' nx'
theorem aA.mono{f:FuncId}{args:List AV}{h:aG}{nx:Nat}{Q Q':AV->aG->Nat->Prop}(hc:aA P f args h nx Q)(hq:∀v h' nx',Q v h' nx'->Q' v h' nx'):aA P f args h nx Q':=
 ⟨hc.1,λr w0 w vs hH hv=>(hc.2 r w0 w vs hH hv).mono λ_ _ ⟨u,r',v,h',nx',a,b,c,d,e,g,q⟩=>⟨u,r',v,h',nx',a,b,c,d,e,g,hq _ _ _ q⟩⟩
theorem P7{t:Array Value}(h:TR r (ey args 0 .nil) t)(hl:args.length<=t.size):
 ∃vs,eM r args vs/\t=vs.toArray++Array.replicate (t.size-vs.length) undef:=by
 refine⟨t.toList.take args.length,?_,?_⟩
 .have key:∀(n:Nat) (a:List AV) (l:List Value),a.length=n->l.length=n->(∀(i:Nat) (x:AV),a[i]?=some x->∃y,l[i]?=some y/\VR r x y)->eM r a l:=by
   intro n
   induction n with
   |zero=>intro a l ha hl _;cases a<;>cases l<;>simp_all;exact .nil
   |succ n ih=>
    intro a l ha hl hi;cases a with
    |nil=>simp at ha
    |cons a as=>cases l with
     |nil=>simp at hl
     |cons b bs=>obtain⟨y,hy,hv⟩:=hi 0 a rfl;simp at hy;subst hy;exact .cons hv (ih as bs (by simpa using ha) (by simpa using hl) λi x hx=>hi (i+1) x (by simpa using hx))
  refine key args.length _ _ rfl fE λi x hx=>?_;have db:=(cT.1 hx).1;have h1:=h i;rw[pY]at h1;simp only[aY,cz,oI,hx]at h1;refine⟨t.getD i undef,?_,h1⟩;rw[gK db];have:i<t.size:=ah;simp[Array.getD,this]
 .apply Array.ext;.simp;omega
  .intro i h1 h2;by_cases hi:i<args.length;.rw[Array.getElem_append_left fE];simp
   .rw[Array.getElem_append_right fE];have h3:=h i;rw[pY]at h3;have:args[i]?=none:=List.getElem?_eq_none_iff.2 ah;simp only[aY,cz,oI,this,Cg]at h3;have h4:t.getD i undef=undef:=by generalize t.getD i undef=q at h3;cases h3;rfl
    simp only[Array.getElem_replicate];rw[<-h4];simp[Array.getD,h1]
theorem eH.call{xt:FuncId->Option Ext}(pk:PK P xt){g:FuncId}{fr:bI}{cs:List bI}{R:AM->Prop}
 (hs:tm P xt m=some ⟨fr,wait::cs,h,nx⟩) (he:bI.enter P g args false=some fr) (hc:aA P g args h nx Q)
 (hk:∀v h' nx',Q v h' nx'->∃yH,wait.finish v=some yH/\eH P ⟨yH,cs,h',nx'⟩ R):eH P m R:=by
 intro w0 base f fs w hm;obtain⟨f1,fs1,w1,s1,IK⟩:=uj pk hm hs;obtain⟨⟨r,lo,hF,je,hC,hH⟩,_⟩:=IK;cases hC with|cons hFw wH hC=>
 rename_i jn fw fs2;have LX:∃vs,eM r args vs/\f1=Frame.enter P g vs.toArray .normal:=by
  unfold bI.enter at he;split at he
  .rename_i fn hf;split at he
   .rename_i c hb;split at he
    .rename_i bP;injection he with he;subst he
     have gy:=hF.top;have e1:=hF.fn;have e2:=hF.size;have e3:=hF.defers;have e4:=hF.mode;have e5:=hF.kind;have e6:=hF.round;obtain⟨fn1,tmps1,td1,df1,md1,kd1,ro1⟩:=f1;simp only at e1 e2 e3 e4 e5 e6 gy;cases e3;cases ro1 with
     |some _=>exact e6.elim
     |none=>
     cases gy with|plain jZ mG=>
     cases jZ with|cons hi ht=>
     cases hi;cases ht;obtain⟨vs,hv,htm⟩:=P7 mG ah;refine⟨vs,hv,?_⟩;subst e1 e4 e5;simp only[Frame.enter,hf,dC,eK,aS,hb,wK];rw[e2]at htm;rw[htm];rfl
    .cases he
   .cases he
  .cases he
 obtain⟨vs,hv,rfl⟩:=LX;obtain⟨e,w2,fr2,⟨u,r',v,h',nx',rfl,hle,hag,Ce,Nt,NR,hq⟩,hcom,UH,hleave⟩:=hc.2 r w0 w1 vs hH hv (fw::fs2);obtain⟨yH,nJ,ec⟩:=hk _ _ _ hq;have hFw':=lL (hFw.mono hle (an _) λb hb=>hag b (by simp only at je;omega)) nJ NR;have je:lo<=nx:=je;have JH:MR P w0 base ⟨yH,cs,h',nx'⟩ (fw.finish u) fs2 w2:=by obtain⟨_,IQ⟩:=mJ nJ;exact MR.mk' (r:=r') (lo:=jn) (hFw'.mono (dG.le_refl _) (by show lo<=nx';omega) λ_ _=>rfl) (by show jn<=nx';omega) (hC.mono hle λb hb=>hag b ah) Nt λg k e hp=>by rw[IQ g k e]at hp;cases hp
 obtain⟨m3,f3,cs3,w3,hR,s3,hm3⟩:=ec w0 base _ _ _ JH;exact⟨m3,f3,cs3,w3,hR,s1.trans ((show Steps P _ _ from hcom).trans (.head (step_leave_returned hleave) s3)),hm3⟩
theorem aA.F'{g:FuncId}{fr:bI}(he:bI.enter P g args false=some fr)
 (hr:eH P ⟨fr,[],h,nx⟩ λm=>m.fr.fn=g/\∃v,zw P m=some v/\Q v m.heap m.next):aA P g args h nx Q:=by
 refine⟨⟨fr,he⟩,λr w0 w vs hH hv cs=>?_⟩;obtain⟨m,f,rJ,w',⟨UH,v,hv',hq⟩,hs,hm⟩:=hr w0 _ _ _ _ (Hn he hH hv cs);obtain⟨u,r',rfl,h1,h2,h3,h4,h5,h6,h7⟩:=AP hm hv';exact⟨.returned u,w',f,⟨u,r',v,m.heap,m.next,rfl,h4,h5,h6,h7,h3,hq⟩,hs,h1.trans UH,h2⟩
end
variable{b size:Nat}
section
structure Fx where
 fn:FuncId
 size:Nat
 defers:List AD
 deferred:Bool
 callers:List bI
 round:Option Nat
def Fx.fr(x:Fx)(s:BT AV)(todo:List dc)(ret:Bool):bI:=⟨x.fn,s,x.size,todo,x.defers,ret,x.deferred,x.round⟩
def Fx.at(x:Fx)(s:BT AV)(h:aG)(nx:Nat)(todo:List dc):AM:=⟨x.fr s todo false,x.callers,h,nx⟩
inductive Ex where
 |iA|ret|out (id:Nat)
variable(P:Program)(xt:FuncId->Option Ext)
def WQ(o:Oper)(K:BT AV->aG->Nat->Prop)(s:BT AV)(h:aG)(nx:Nat):Option QR->Prop
 |none=>False
 |some (.val v)=>K (fT o.dst s v) h nx
 |some (.xa ob)=>K (fT o.dst s (.ptr nx 0)) (aK h nx ob) (nx+1)
 |some (.pS ob len cap)=>K (fT o.dst s (.sl nx 0 len cap)) (aK h nx ob) (nx+1)
 |some (.yC ob)=>K (fT o.dst s (.mp nx)) (aK h nx ob) (nx+1)
def WX(d:Option Tmp)(K:BT AV->aG->Nat->Prop)(s:BT AV)(nx:Nat)(ob:AO)(len:Nat)(h:aG):Prop:=match ob,d with
 | .eP cs e es,some d=>∀(cap:Nat) (gs:List Value),len<=cap->cs.length+gs.length=cap*es->K (sset s d (.sl nx 0 len cap)) (aK h nx (.cells (cs++gs.map .g) e)) (nx+1)
 |_,_=>False
def WE(o:Oper)(K:BT AV->aG->Nat->Prop)(s:BT AV)(nx:Nat):Option ER->Prop
 |none=>False
 |some (.val v h)=>K (fT o.dst s v) h nx
 |some (.pT ob len h)=>WX o.dst K s nx ob len h
 |some (.enter _ _)=>False
 |some (.defer _)=>False
 |some (.round _ _)=>False
def Gc(r:mM)(l:Nat)(cE:BT AV):bI:={fn:=r.fn,cE,size:=r.size,todo:=[.code r.assign,.beginRound,.code r.body],defers:=[],ret:=false,deferred:=false,roundOf:=some l}
def jH(l:Nat)(args:List AV)(h:aG)(nx:Nat)(K:AV->aG->Nat->Prop):Prop:=
 ∃r cE,au h l=some (.loop r)/\ju r.params args r.size r.cE=some cE/\
  ∀(wait:bI) (cs:List bI) (R:AM->Prop),(∀v h' nx',K v h' nx'->∃yH,wait.finish v=some yH/\eH P ⟨yH,cs,h',nx'⟩ R)->eH P ⟨Gc r l cE,wait::cs,h,nx⟩ R
def WC(o:Oper)(K:BT AV->aG->Nat->Prop)(s:BT AV)(h:aG)(nx:Nat):Option ER->Prop
 |some (.enter f args)=>aA P f args h nx λv h' nx'=>K (fT o.dst s v) h' nx'
 |some (.round l args)=>jH P l args h nx λv h' nx'=>K (fT o.dst s v) h' nx'
 |r=>WE o K s nx r
def Wop(o:Oper)(K:BT AV->aG->Nat->Prop)(s:BT AV)(h:aG)(nx:Nat):Prop:=
 if ct o.op then WC P o K s h nx (nE P xt h (oZ s) o)else WQ o K s h nx (dE P h (oZ s) o)
def vu(ops:Array Oper)(K:BT AV->aG->Nat->Prop):List Oper->BT AV->aG->Nat->Prop
 |[],s,h,nx=>K s h nx
 |o::l,s,h,nx=>match dO ops s o with
  |some true=>Wop P xt o (vu ops K l) s h nx
  |some false=>vu ops K l (fT o.dst s (.g undef)) h nx
  |none=>False
def gM(n:Nat):Code->Bool
 | .seq a b=>gM n a&&gM n b
 | .cond _ a b=>gM n a&&gM n b
 | .block _ b=>gM n b
 | .loop b=>gM n b
 | .region _ ops _=>ops.toList.all λo=>match o.dst with|some d=>decide (d<n)|none=>true
 |_=>true
def abm(x:Fx)(k:List dc)(R:AM->Prop):Ex->BT AV->aG->Nat->Prop
 | .iA,s,h,nx=>eH P (x.at s h nx k) R
 | .ret,s,h,nx=>match x.round with
  |none=>∀t,qZ t=false->eH P ⟨x.fr s t true,x.callers,h,nx⟩ R
  |some l=>x.deferred=false/\∃m',endRound ⟨x.fr s [] false,x.callers,h,nx⟩ l (some .ret)=some m'/\eH P m' R
 | .out id,s,h,nx=>∃k',nL id k=some k'/\eH P (x.at s h nx k') R
theorem eH.gS(pk:PK P xt){R:AM->Prop}(h:∃m',tm P xt m=some m'/\eH P m' R):eH P m R:=
 let⟨_,a,b⟩:=h; .step P pk a b
theorem Ee{α:Type}:∀{n:Nat} {l r:List α},de n l=some r->r.length=n
 |0,_,_,h=>by cases h;rfl
 |n+1,[],_,h=>by cases h
 |n+1,a::l,r,h=>by
  change Option.rec (motive:=λ_=>Option (List α)) none (λr=>some (a::r)) (de n l)=some r at h
  cases e:de n l with
  |none=>rw[e]at h;cases h
  |some q=>rw[e]at h;cases h;simp[Ee e]
theorem yj{off:Nat}{l:List AV}(hl:cK h b off n=some l):l.length=n:=by
 unfold cK at hl;split at hl
 .split at hl
  .split at hl;.exact Ee hl
   .cases hl
  .cases hl
 .cases hl
theorem ua{α:Type}(l:List α):∀n,(fK n l).length=n*l.length
 |0=>by simp[fK]
 |n+1=>by simp only[fK,aq,ua l n,mw];omega
theorem Fh{x:AV}{p:Nat×List AV}(hp:dV h size x=some p):p.2.length=p.1*size:=by
 unfold dV at hp;split at hp
 .split at hp;.injection hp with hp;subst hp;simp
  .cases hp
 .split at hp;.rename_i hl;injection hp with hp;subst hp;exact yj hl
  .cases hp
 .split at hp;.rename_i hl;injection hp with hp;subst hp;exact yj hl
  .cases hp
 .injection hp with hp;subst hp;simp
 .injection hp with hp;subst hp;simp
 .split at hp;.rename_i hl;injection hp with hp;subst hp;exact hl
  .cases hp
 .cases hp
def iO(r:Option ER):Prop:=∀ob len h,r=some (.pT ob len h)->∃cs e es,ob= .eP cs e es/\cs.length=len*es/\0<es
theorem iO.none:iO none:=λ_ _ _ h=>by cases h
theorem iO.val{v h}:iO (some (.val v h)):=λ_ _ _ h=>by cases h
theorem iO.enter{f a}:iO (some (.enter f a)):=λ_ _ _ h=>by cases h
theorem iO.defer{d}:iO (some (.defer d)):=λ_ _ _ h=>by cases h
theorem iO.round{a b}:iO (some (.round a b)):=λ_ _ _ h=>by cases h
theorem iO.kR{r}:iO (kR r):=by unfold bC.kR;split<;>first|exact .val|exact .none
theorem iO.dt{h e args}:iO (dt h e args):=by
 unfold bC.dt xe wC JM Ik RY
 repeat' (first|exact .none|exact .val|exact .kR|split)
theorem iO.fk{P:Program}{xt h f args}:iO (fk P xt h f args):=by
 unfold bC.fk
 repeat' (first|exact .none|exact .enter|exact .dt|split)
theorem iO.ou{P:Program}{xt h f args}:iO (ou P xt h f args):=by
 unfold bC.ou
 repeat' (first|exact .none|exact .round|exact .fk|split)
theorem iO.mk{cs e es len h}(h1:cs.length=len*es)(h2:0<es):iO (some (.pT (.eP cs e es) len h)):=λ_ _ _ h=>by injection h with h;injection h with h3 h4 h5;subst h3;subst h4;exact⟨_,_,_,rfl,h1,h2⟩
theorem iO.pQ{h e size n new s}(hn:new.length=n*size)(h0:0<size):iO (pQ h e size n new s):=by
 unfold bC.pQ;split
 .unfold yk
  repeat' (first|exact .none|exact .val|split)
 .split;.exact .mk hn h0
  .exact .mk hn h0
  .unfold P0
   repeat' (first|exact .none|exact .val|split)
   rename_i hl;exact .mk (by rw[aq,yj hl,hn,bh]) h0
  .unfold Qz;split
   .split
    .split;.exact .none
     .split
      .repeat' (first|exact .none|exact .val|split)
      .split;.rename_i hc;obtain⟨h1,h2,h3⟩:=hc;refine .mk ?_ h0;subst h2;rename_i heq;obtain⟨_,h5,_⟩:=heq;rw[aq,h1,hn,h5];simp[bh]
       .exact .none
    .exact .none
   .exact .none
  .exact .none
theorem iO.gj{P:Program}{h types s x}:iO (gj P h types s x):=by
 unfold bC.gj;split
 .split
  .unfold Sy
   repeat' (first|exact .none|split)
   rename_i hp rQ;refine .pQ ?_ ?_
   .simp only[NY,aV,fM,kT]at rQ;unfold M9 at hp;split at hp
    .split at hp
     .injection hp with hp;subst hp
      simp only[ua,bc];rw[rQ.2]
     .cases hp
    .exact Fh hp
    .cases hp
   .simp only[NY,aV,fM,kT]at rQ;omega
  .exact .none
 .exact .none
theorem iO.nE{P:Program}{xt h ev o}:iO (nE P xt h ev o):=by
 obtain⟨d,op,ty,po,af,g⟩:=o;unfold bC.nE;cases op
 case assign x=>exact .val
 case defer c=>show iO (pW ev c);unfold pW ES;repeat' (first|exact .none|exact .defer|split)
 case mapUpdate t m k x=>exact iO.kR
 case insert t m k x=>exact iO.kR
 case store t a x=>show iO (uq P h t (ev a) (ev x));unfold uq;repeat' (first|exact .none|exact .kR|split)
 case call c=>
  show iO (tp P xt h ev c);unfold tp;split;.exact .ou
  .unfold nO;repeat' (first|exact .none|exact .fk|split)
  .split
   .split;.exact .gj
    .exact .none
   .split;.unfold qK tQ;repeat' (first|exact .none|exact .val|split)
    .exact .none
   .split;.unfold qi;repeat' (first|exact .none|exact .val|exact .kR|split)
    .exact .none
   .split;.unfold uX;repeat' (first|exact .none|exact .kR|split)
    .exact .none
   .exact .none
 all_goals exact iO.none
theorem eM.LH{r:dG}:∀(c:List Value),eM r (c.map .g) c
 |[]=> .nil
 |v::c=> .cons (.g v) (eM.LH c)
theorem eH.exact{x:Fx}{s:BT AV}{h:aG}{nx:Nat}{d:Tmp}{len:Nat}{cs:List AV}{e:TypeId}{es:Nat}{todo:List dc}{R:AM->Prop}(aaA:∀g k,todo= .jK g::k->g.phase= .unsat)
 (h1:cs.length=len*es) (h2:0<es)
 (hr:∀(cap:Nat) (gs:List Value),len<=cap->cs.length+gs.length=cap*es->eH P (x.at (sset s d (.sl nx 0 len cap)) (aK h nx (.cells (cs++gs.map .g) e)) (nx+1) todo) R):
 eH P (x.at (sset s d (.mD nx 0 0 len)) (aK h nx (.eP cs e es)) (nx+1) todo) R:=by
 intro w0 base f fs w hm;obtain⟨⟨r,lo,hF,je,hC,hH⟩,_⟩:=hm;have main:∀(cap:Nat) (gs:List Value),len<=cap->cs.length+gs.length=cap*es->HR r (aK h nx (.cells (cs++gs.map .g) e)) (nx+1) w0 w->(∀v,VR r (.mD nx 0 0 len) v->VR r (.sl nx 0 len cap) v)->
  ∃m' f' rJ w',R m'/\Steps P (lone f fs w) (lone f' rJ w')/\MR P w0 base m' f' rJ w':=by
  intro cap gs hc hl Nt hv;refine hr cap gs hc hl w0 base f fs w (MR.mk' (r:=r) (lo:=lo) ⟨hF.fn,hF.size,hF.defers,hF.mode,hF.kind,hF.round,?_⟩ je hC Nt λg k e hs=>?_)
  .have gy:=hF.top;show yQ r (sset s d (.sl nx 0 len cap)) f.tmps lo (nx+1) todo f.todo
   change yQ r (sset s d (.mD nx 0 0 len)) f.tmps lo (nx+1) todo f.todo at gy
   have KP:∀n u,VR r (ao (sset s d (.mD nx 0 0 len)) n) u->VR r (ao (sset s d (.sl nx 0 len cap)) n) u:=by
    intro n u hu;rw[oq]at hu⊢;split at hu;.rename_i hn;rw[aw hn];exact hv _ hu
    .rename_i hn;rw[ak hn];exact hu
   generalize f.todo=td at gy;cases gy with
   |plain hi ht=>exact .plain hi λn=>KP n _ (ht n)
   |jK hk hg a b=>exact .jK hk {hg with cE:=λn=>(hg.cE n).imp id (KP n _)} a b
  .have:=aaA g k e;rw[this]at hs;cases hs
 have Ji:au (aK h nx (.eP cs e es)) nx=some (.eP cs e es):=gl;have put:∀gs:List Value,(∀k n,r nx=some (k,n)->OR r (.cells (cs++gs.map .g) e) n w.heap[k]?)->HR r (aK h nx (.cells (cs++gs.map .g) e)) (nx+1) w0 w:=by
  intro gs ho;have Tp:∀b o,au (aK h nx (.cells (cs++gs.map .g) e)) b=some o->(b=nx/\o= .cells (cs++gs.map .g) e)\/(b≠nx/\au (aK h nx (.eP cs e es)) b=some o):=by
   intro b o hb;rw[aj]at hb;split at hb;.rename_i hn;injection hb with hb;exact .inl ⟨hn,hb.symm⟩
   .rename_i hn;refine .inr ⟨hn,?_⟩;rw[aj,ak hn];exact hb
  have live':∀b o,au (aK h nx (.cells (cs++gs.map .g) e)) b=some o->o.live->∃o',au (aK h nx (.eP cs e es)) b=some o'/\o'.live:=by
   intro b o hb hl;rcases Tp b o hb with⟨rfl,rfl⟩|⟨_,hb⟩
   .exact⟨_,Ji,trivial⟩
   .exact⟨_,hb,hl⟩
  refine⟨hH.below,λk o v e1=>⟨(hH.sk k o v e1).1,λb n q e2 e3 hl=>?_⟩,hH.xP,λb o k n e1 e2=>?_,λb b' o o' k n n' e1 e2 l1 l2=>?_⟩;.obtain⟨q',e4,oh⟩:=live' b q e3 hl;exact(hH.sk k o v e1).2 b n q' e2 e4 oh
  .rcases Tp b o e1 with⟨rfl,rfl⟩|⟨_,hb⟩;.exact ho k n e2
   .exact hH.obj b o k n hb e2
  .obtain⟨q,e4,oh⟩:=live' b o e1 l1;obtain⟨q',e5,Vj⟩:=live' b' o' e2 l2;exact hH.inj b b' q q' k n n' e4 e5 oh Vj
 cases hn:r nx with
 |none=>refine main (len+0) [] (an _) (by simpa using h1) (put [] λk n e=>by rw[hn]at e;cases e) λv hv=>?_;cases hv with|mD e _=>rw[hn]at e;cases e
 |some p=>
  obtain⟨k,n⟩:=p;obtain⟨c,c',hx,hv,hl⟩:=hH.obj nx _ k n Ji hn;have xy:c.length=cs.length:=hv.length.symm;have hle:len<=n:=by rw[aq,xy,h1]at hl;exact Nat.le_of_mul_le_mul_right (ah:len*es<=n*es) h2
  refine main n c' hle (by rw[<-hl,aq,xy]) (put c' λk' n' e1=>?_) λv hv'=>?_
  .rw[hn]at e1;injection e1 with e1;injection e1 with e1 e2;subst e1;subst e2
   exact⟨_,hx,hv.append (.LH c')⟩
  .cases hv' with
   |mD e _=>
    rw[hn]at e;injection e with e;injection e with e1 e2;subst e1;subst e2
    exact .sl hn
theorem qE(x:Fx)(s:BT AV)(t:List dc)(b:Bool){d:Option Tmp}(hd:∀n,d=some n->n<x.size)(v:AV):(x.fr s t b).put d v=some (x.fr (fT d s v) t b):=by
 cases d with
 |none=>rfl
 |some n=>show(if n<x.size then _ else _)=_;rw[aw (hd n rfl)];rfl
theorem Cl(pk:PK P xt)(x:Fx)(ops:Array Oper)(k:List dc)(R:AM->Prop)(K:BT AV->aG->Nat->Prop)(hK:∀s h nx,K s h nx->eH P (x.at s h nx k) R):
 ∀(l:List Oper),(∀o∈l,∀d,o.dst=some d->d<x.size)->∀s h nx,vu P xt ops K l s h nx->eH P (x.at s h nx (.ops l ops::k)) R
 |[],_,s,h,nx,hw=> .gS P xt pk ⟨_,rfl,hK s h nx hw⟩
 |o::l,hd,s,h,nx,hw=>by
  have hdo:∀n,o.dst=some n->n<x.size:=hd o bL;have ih:=Cl pk x ops k R K hK l (λo ho=>hd o (by simp[ho]));have jf:tm P xt (x.at s h nx (.ops (o::l) ops::k))=UQ P xt (x.at s h nx (.ops (o::l) ops::k)) o (.ops l ops::k) ops:=rfl;simp only[vu]at hw;have nJ:∀s' v,(x.fr s' (.ops (o::l) ops::k) false).finish v=some (x.fr (fT o.dst s' v) (.ops l ops::k) false):=by intro s' v;show(match(x.fr s' (.ops (o::l) ops::k) false).put o.dst v with|some yH=>some (yH.jV (.ops l ops::k))|none=>none)=_;rw[qE x _ _ _ hdo];rfl
  split at hw
  .rename_i gJ;simp only[Wop]at hw;split at hw
   .rename_i sF;have ux:tm P xt (x.at s h nx (.ops (o::l) ops::k))=se P (x.at s h nx (.ops (o::l) ops::k)) (x.fr s (.ops (o::l) ops::k) false) (nE P xt h (oZ s) o):=by rw[jf];unfold UQ;show(match dO ops s o with|some w=>_|none=>_)=_;rw[gJ];show(if true=true then _ else _)=_;rw[aw rfl,aw sF];rfl
    generalize Of:nE P xt h (oZ s) o=er at hw ux;cases er with
    |none=>exact hw.elim
    |some er=>
     cases er with
     |val v h'=>refine .step P pk (m':=x.at (fT o.dst s v) h' nx (.ops l ops::k)) ?_ (ih _ _ _ hw);rw[ux];show(match(x.fr s (.ops (o::l) ops::k) false).finish v with|some fr=>some _|none=>none)=_;rw[nJ];rfl
     |pT ob len h'=>
      obtain⟨cs,e1,es,rfl,TY,Gq⟩:=iO.nE _ _ _ Of;have hw:WX o.dst (vu P xt ops K l) s nx (.eP cs e1 es) len h':=hw;cases hod:o.dst with
      |none=>rw[hod]at hw;exact hw.elim
      |some dd=>
      rw[hod]at hw nJ;refine .step P pk (m':=x.at (sset s dd (.mD nx 0 0 len)) (aK h' nx (.eP cs e1 es)) (nx+1) (.ops l ops::k)) ?_ (.exact P (λ_ _ e=>by cases e) TY Gq λcap gs h1 h2=>ih _ _ _ (hw cap gs h1 h2));rw[ux];show(match(x.fr s (.ops (o::l) ops::k) false).finish (.mD nx 0 0 len)with|some fr=>some _|none=>none)=_;rw[nJ];rfl
     |enter g args=>have hw:aA P g args h nx λv h' nx'=>vu P xt ops K l (fT o.dst s v) h' nx':=hw;obtain⟨fr,he⟩:=hw.1;refine .call P pk (fr:=fr) (wait:=x.fr s (.ops (o::l) ops::k) false) (cs:=x.callers) (h:=h) (nx:=nx) ?_ he hw λv h' nx' q=>⟨_,nJ s v,ih _ _ _ q⟩;rw[ux];show(match bI.enter P g args false with|some fr=>some _|none=>none)=_;rw[he];rfl
     |defer d=>exact hw.elim
     |round a b=>obtain⟨rr,cE,g1,g2,g3⟩:=hw;refine .step P pk (m':=⟨Gc rr a cE,x.fr s (.ops (o::l) ops::k) false::x.callers,h,nx⟩) ?_ (g3 _ _ R λv h' nx' q=>⟨_,nJ s v,ih _ _ _ q⟩);rw[ux];show(match au h a with|some (.loop r)=>_|_=>none)=_;rw[g1];show(match ju rr.params b rr.size rr.cE with|some cE=>_|none=>none)=_;rw[g2];rfl
   .rename_i sF;have ux:tm P xt (x.at s h nx (.ops (o::l) ops::k))=xj (x.at s h nx (.ops (o::l) ops::k)) o (.ops l ops::k) (dE P h (oZ s) o):=by rw[jf];unfold UQ;show(match dO ops s o with|some w=>_|none=>_)=_;rw[gJ];show(if true=true then _ else _)=_;rw[aw rfl,ak sF];rfl
    generalize dE P h (oZ s) o=q at hw ux;have nX:=λv=>qE x s (.ops (o::l) ops::k) false hdo v
    cases q with
    |none=>exact hw.elim
    |some q=>
     cases q with
     |val v=>refine .step P pk (m':=x.at (fT o.dst s v) h nx (.ops l ops::k)) ?_ (ih _ _ _ hw);rw[ux];show(match(x.fr s (.ops (o::l) ops::k) false).put o.dst v with|some fr=>some _|none=>none)=_;rw[nX];rfl
     |xa ob=>refine .step P pk (m':=x.at (fT o.dst s (.ptr nx 0)) (aK h nx ob) (nx+1) (.ops l ops::k)) ?_ (ih _ _ _ hw);rw[ux];show(match(x.fr s (.ops (o::l) ops::k) false).put o.dst (.ptr nx 0)with|some fr=>some _|none=>none)=_;rw[nX];rfl
     |pS ob len cap=>refine .step P pk (m':=x.at (fT o.dst s (.sl nx 0 len cap)) (aK h nx ob) (nx+1) (.ops l ops::k)) ?_ (ih _ _ _ hw);rw[ux];show(match(x.fr s (.ops (o::l) ops::k) false).put o.dst (.sl nx 0 len cap)with|some fr=>some _|none=>none)=_;rw[nX];rfl
     |yC ob=>refine .step P pk (m':=x.at (fT o.dst s (.mp nx)) (aK h nx ob) (nx+1) (.ops l ops::k)) ?_ (ih _ _ _ hw);rw[ux];show(match(x.fr s (.ops (o::l) ops::k) false).put o.dst (.mp nx)with|some fr=>some _|none=>none)=_;rw[nX];rfl
  .rename_i gJ;refine .step P pk (m':=x.at (fT o.dst s (.g undef)) h nx (.ops l ops::k)) ?_ (ih _ _ _ hw);rw[jf];unfold UQ;show(match dO ops s o with|some w=>_|none=>_)=_;rw[gJ];show(if false=true then _ else _)=_;rw[ak bL];show(match(x.fr s (.ops (o::l) ops::k) false).put o.dst (.g undef)with|some fr=>some _|none=>none)=_;rw[qE x _ _ _ hdo];rfl
  .exact hw.elim
end
variable{a':bI}{h':aG}{s:BT AV}
section
variable(P:Program)(xt:FuncId->Option Ext)
theorem eH.sat{R:AM->Prop}{g:lA}{k:List dc}(jx:m.fr.todo= .jK g::k)(wP:g.phase= .unsat)
 (Cf:saturate P g (iR g.dX) g.infos m.fr m.heap=some (a',h')) (IF:wj P g (iR g.dX) a'.cE h' g.infos)
 (hr:eH P (m.FK (a'.jV (.jK (g.ot .sat)::k)) h') R):eH P m R:=
 .ghost P (λ_ _ _ _ _ hm=>by obtain⟨⟨r,lo,hF,je,hC,hH⟩,_⟩:=hm;exact Dm hF je hC hH jx wP Cf IF) hr
def rM(ops:Array Oper)(base:Nat)(K:BT AV->aG->Prop):List Nat->BT AV->aG->Prop
 |[],s,h=>K s h
 |i::l,s,h=>match ops[i]? with
  |none=>False
  |some o=>match dO ops s o with
   |some true=>match dE P h (oZ s) o with
    |some q=>rM ops base K l (fT o.dst s (q.av (base+i))) (match q.obj with|some ob=>aK h (base+i) ob|none=>h)
    |none=>False
   |some false=>rM ops base K l (fT o.dst s (.g undef)) h
   |none=>False
def tG(ops:Array Oper)(base i:Nat)(o:Oper)(s:BT AV)(h:aG):Prop:=match dO ops s o with
 |some true=>match dE P h (oZ s) o with
  |some q=>(match o.dst with|some d=>ao s d=q.av (base+i)|none=>True)/\(match q.obj with|some ob=>au h (base+i)=some ob|none=>True)
  |none=>False
 |some false=>match o.dst with|some d=>ao s d= .g undef|none=>True
 |none=>False
def FJ(ops:Array Oper)(base:Nat)(s:BT AV)(h:aG):List Nat->Prop
 |[]=>True
 |i::l=>(match ops[i]? with|none=>False|some o=>tG P ops base i o s h)/\FJ ops base s h l
abbrev cU:=List (List Nat×List Nat×Option Nat)
def Du(ops:Array Oper)(base:Nat)(K:BT AV->aG->Nat->Prop):cU->BT AV->aG->Nat->Prop
 |[],_,_,_=>False
 |(new,chk,e)::rest,s,h,nx=>rM P ops base (λs h=>FJ P ops base s h chk/\match e with
  |none=>K s h nx
  |some e=>match ops[e]? with
   |none=>False
   |some o=>match dO ops s o with
    |some true=>WC P o (Du ops base K rest) s h nx (nE P xt h (oZ s) o)
    |some false=>Du ops base K rest (fT o.dst s (.g undef)) h nx
    |none=>False) new s h
def Et(infos:List dz):List dz->Option dz->cU->Bool
 |dX,last,(new,chk,e)::rest=>
  (infos.filter λx=>kN (iR dX) x&&rz last x).map (·.i)==new&&(infos.filter λx=>kN (iR dX) x&& !qy last x).map (·.i)==chk&&
  (match dX,e with
  |[],none=>true
  |y::dX,some j=>y.i==j&&ct y.o.op&&Et infos dX (some y) rest
  |_,_=>false)
 |_,_,[]=>false
def Js(ops:Array Oper)(pl:cU):Bool:=
 let A:=kE ops.toList 0 []
 te ops A&&Et (A.filter (!·.xL)) (A.filter (·.xL)) none pl
theorem Bh(x:Fx)(g:lA)(k:List dc)(rem:Nat)(K:BT AV->aG->Prop):∀(l:List dz),(∀y∈l,g.ops[y.i]?=some y.o/\∀d,y.o.dst=some d->d<x.size)->∀s h,
 rM P g.ops g.base K ((l.filter λy=>kN rem y&&rz g.last y).map (·.i)) s h->
 ∃s' h',saturate P g rem l (x.fr s k false) h=some (x.fr s' k false,h')/\K s' h'
 |[],_,s,h,hw=>⟨s,h,rfl,hw⟩
 |y::l,hl,s,h,hw=>by
  obtain⟨hy,hd⟩:=hl y bL;have ih:=Bh x g k rem K l (λz hz=>hl z (by simp[hz]));simp only[saturate];cases hc:kN rem y&&rz g.last y with
  |false=>rw[List.filter_cons_of_neg (by simp[hc])]at hw;rw[ak bL];exact ih s h hw
  |true=>
   rw[List.filter_cons_of_pos (by simp[hc])]at hw;rw[aw rfl];simp only[dQ,rM,hy]at hw;have KP:(x.fr s k false).cE=s:=rfl;rw[KP];split at hw
   .rename_i gJ;simp only[gJ];split at hw;.rename_i q hq;simp only[hq];simp only[qE x s k false hd];exact ih _ _ hw
    .exact hw.elim
   .rename_i gJ;simp only[gJ];simp only[qE x s k false hd];exact ih _ _ hw
   .exact hw.elim
theorem Rm{g:lA}{y:dz}(hc:tG P g.ops g.base y.i y.o s h):Cq P g s h y:=by
 unfold tG at hc;unfold Cq;split at hc
 .rename_i hw;rw[hw];split at hc
  .rename_i q hq;refine⟨q,hq,λd hd=>?_,λo ho=>?_⟩;.have:=hc.1;rw[hd]at this;exact this
   .have:=hc.2;rw[ho]at this;exact this
  .exact hc.elim
 .rename_i hw;rw[hw];intro d hd;rw[hd]at hc;exact hc
 .exact hc.elim
theorem Co{ops:Array Oper}{base:Nat}{s:BT AV}{h:aG}:∀{l:List Nat},FJ P ops base s h l->∀i∈l,∃o,ops[i]?=some o/\tG P ops base i o s h
 |[],_,i,hi=>by cases hi
 |j::l,hc,i,hi=>by
  rcases bE.1 hi with rfl|hi
  .have:=hc.1;split at this;.exact this.elim
   .rename_i o ho;exact⟨o,ho,this⟩
  .exact Co hc.2 i hi
theorem Dq(pk:PK P xt)(x:Fx)(ops:Array Oper)(base:Nat)(infos:List dz)(k:List dc)(R:AM->Prop)(K:BT AV->aG->Nat->Prop)(hK:∀s h nx,K s h nx->eH P (x.at s h nx k) R)
 (hI:∀y∈infos,ops[y.i]?=some y.o/\∀d,y.o.dst=some d->d<x.size):
 ∀(pl:cU) (dX:List dz) (last:Option dz),(∀y∈dX,ops[y.i]?=some y.o/\∀d,y.o.dst=some d->d<x.size)->Et infos dX last pl=true->∀s h nx,Du P xt ops base K pl s h nx->
  eH P (x.at s h nx (.jK {phase:= .unsat,infos,dX,last,base,ops}::k)) R
 |[],dX,last,_,hp,s,h,nx,hw=>hw.elim
 |(new,chk,e)::rest,dX,last,hE,hp,s,h,nx,hw=>by
  unfold Et at hp;simp only[aV,kT]at hp;obtain⟨⟨rfl,rfl⟩,hp⟩:=hp;simp only[Du]at hw;obtain⟨s',h',Cf,anC,Pn⟩:=Bh P x {phase:= .unsat,infos,dX,last,base,ops} (.jK {phase:= .unsat,infos,dX,last,base,ops}::k) (iR dX) _ infos hI s h hw;clear hw;have hw:=Pn;clear Pn;refine .sat P (g:={phase:= .unsat,infos,dX,last,base,ops}) (k:=k) rfl rfl Cf ?_ ?_
  .intro y hy h1 h2;obtain⟨o,ho,hc⟩:=Co P anC y.i (bu.2 ⟨y,gP.2 ⟨hy,by simp only[h1,xQ,jB];exact h2⟩,rfl⟩);rw[(hI y hy).1]at ho;injection ho with ho;subst ho
   exact Rm P hc
  .show eH P (x.at s' h' nx (.jK {phase:= .sat,infos,dX,last,base,ops}::k)) R;cases dX with
   |nil=>
    cases e with
    |some e=>cases hp
    |none=>exact .gS P xt pk ⟨x.at s' h' nx k,rfl,hK _ _ _ hw⟩
   |cons y dX=>
    cases e with
    |none=>cases hp
    |some e=>
    simp only[aV,kT]at hp;obtain⟨⟨rfl,sF⟩,hp⟩:=hp;obtain⟨hyo,hyd⟩:=hE y bL;have ih:=Dq pk x ops base infos k R K hK hI rest dX (some y) (λz hz=>hE z (by simp[hz])) hp;simp only[hyo]at hw;have jf:tm P xt (x.at s' h' nx (.jK {phase:= .sat,infos,dX:=y::dX,last,base,ops}::k))=
     qz P xt (x.at s' h' nx (.jK {phase:= .sat,infos,dX:=y::dX,last,base,ops}::k)) {phase:= .sat,infos,dX:=y::dX,last,base,ops} k y dX:=rfl
    have nJ:∀v,(x.fr s' (.jK {phase:= .wait,infos,dX:=y::dX,last,base,ops}::k) false).finish v=some (x.fr (fT y.o.dst s' v) (.jK {phase:= .unsat,infos,dX,last:=some y,base,ops}::k) false):=by intro v;show(match(x.fr s' (.jK {phase:= .wait,infos,dX:=y::dX,last,base,ops}::k) false).put y.o.dst v with|some yH=>some (yH.jV _)|none=>none)=_;rw[qE x _ _ _ hyd];rfl
    split at hw
    .rename_i gJ;have ux:tm P xt (x.at s' h' nx (.jK {phase:= .sat,infos,dX:=y::dX,last,base,ops}::k))=
      se P (x.at s' h' nx (.jK {phase:= .sat,infos,dX:=y::dX,last,base,ops}::k)) (x.fr s' (.jK {phase:= .wait,infos,dX:=y::dX,last,base,ops}::k) false) (nE P xt h' (oZ s') y.o):=by
      rw[jf];unfold qz;show(match dO ops s' y.o with|some w=>_|none=>_)=_;rw[gJ];rfl
     generalize Of:nE P xt h' (oZ s') y.o=er at hw ux;cases er with
     |none=>exact hw.elim
     |some er=>
      cases er with
      |val v h2=>refine .step P pk (m':=x.at (fT y.o.dst s' v) h2 nx (.jK {phase:= .unsat,infos,dX,last:=some y,base,ops}::k)) ?_ (ih _ _ _ hw);rw[ux];show(match(x.fr s' (.jK {phase:= .wait,infos,dX:=y::dX,last,base,ops}::k) false).finish v with|some fr=>some _|none=>none)=_;rw[nJ];rfl
      |pT ob len h2=>
       obtain⟨cs,e1,es,rfl,TY,Gq⟩:=iO.nE _ _ _ Of;have hw:WX y.o.dst (Du P xt ops base K rest) s' nx (.eP cs e1 es) len h2:=hw;cases hod:y.o.dst with
       |none=>rw[hod]at hw;exact hw.elim
       |some dd=>
       rw[hod]at hw nJ;refine .step P pk (m':=x.at (sset s' dd (.mD nx 0 0 len)) (aK h2 nx (.eP cs e1 es)) (nx+1) (.jK {phase:= .unsat,infos,dX,last:=some y,base,ops}::k)) ?_ (.exact P (λ_ _ e=>by injection e with e _;injection e with e;subst e;rfl) TY Gq λcap gs h1 h2=>ih _ _ _ (hw cap gs h1 h2));rw[ux];show(match(x.fr s' (.jK {phase:= .wait,infos,dX:=y::dX,last,base,ops}::k) false).finish (.mD nx 0 0 len)with|some fr=>some _|none=>none)=_;rw[nJ];rfl
      |enter gf args=>have hw:aA P gf args h' nx λv h2 dU=>Du P xt ops base K rest (fT y.o.dst s' v) h2 dU:=hw;obtain⟨fr,he⟩:=hw.1;refine .call P pk (fr:=fr) (wait:=x.fr s' (.jK {phase:= .wait,infos,dX:=y::dX,last,base,ops}::k) false) (cs:=x.callers) (h:=h') (nx:=nx) ?_ he hw λv h2 dU q=>⟨_,nJ v,ih _ _ _ q⟩;rw[ux];show(match bI.enter P gf args false with|some fr=>some _|none=>none)=_;rw[he];rfl
      |defer d=>exact hw.elim
      |round a b=>obtain⟨rr,cE,g1,g2,g3⟩:=hw;refine .step P pk (m':=⟨Gc rr a cE,x.fr s' (.jK {phase:= .wait,infos,dX:=y::dX,last,base,ops}::k) false::x.callers,h',nx⟩) ?_ (g3 _ _ R λv h2 dU q=>⟨_,nJ v,ih _ _ _ q⟩);rw[ux];show(match au h' a with|some (.loop r)=>_|_=>none)=_;rw[g1];show(match ju rr.params b rr.size rr.cE with|some cE=>_|none=>none)=_;rw[g2];rfl
    .rename_i gJ;refine .step P pk (m':=x.at (fT y.o.dst s' (.g undef)) h' nx (.jK {phase:= .unsat,infos,dX,last:=some y,base,ops}::k)) ?_ (ih _ _ _ hw);rw[jf];unfold qz;show(match dO ops s' y.o with|some w=>_|none=>_)=_;rw[gJ];show yo _ _ _=_;unfold yo;show(match(x.fr s' (.jK {phase:= .sat,infos,dX:=y::dX,last,base,ops}::k) false).put y.o.dst (.g undef)with|some fr=>some _|none=>none)=_;rw[qE x _ _ _ hyd];rfl
    .exact hw.elim
end
variable{GQ:Operand->AV}{a:AV}{h1:aG}{i:Nat}{o:Oper}{op:BinOp}{ops:Array Oper}{s':BT AV}{t:TypeId}{x y:Operand}
section
variable(P:Program)(xt:FuncId->Option Ext)
def pE:Op->Bool
 | .alloc _| .box .. | .buildSlice .. | .makeMap .. | .makeSlice .. =>true
 |_=>false
def mI:Op->Bool
 | .move _| .pick .. | .nilCheck _| .fieldAddr .. | .extract .. | .indexAddr .. | .unOp .. | .index .. | .slice .. | .typeAssert .. | .makeInterface .. | .makeFunc .. | .build .. | .alloc _| .box .. | .buildSlice .. | .makeMap .. | .makeSlice .. =>false
 | .binOp _ t _ _ _=>match P.underlying t with
  |some (.int _)|some .string|some .bool|some (.slice _)|some (.map _ _)|some (.interface _)=>false
  |_=>true
 | .convert s _ _=>match P.underlying s with
  |some (.int _)|some .string=>false
  |_=>true
 | .call c=>match c.callee with
  | .builtin .len=>match c.argTypes.toList with
   |[t]=>match P.underlying t with
    |some .string|some (.slice _)=>false
    |_=>true
   |_=>true
  | .builtin .cap| .builtin .min| .builtin .max=>false
  |_=>true
 |_=>true
theorem qY{place:Nat->Option (Nat×Nat)}{ev GQ:Operand->AV}:∀{l:List (Nat×Operand)} {cs:List AV},(∀x∈l,ev x.2=GQ x.2)->fo place ev l cs=fo place GQ l cs
 |[],_,_=>rfl
 |x::l,cs,h=>by
  simp only[fo,h x bL];split;.exact qY λy hy=>h y (by simp[hy])
  .rfl
theorem xi{ev:Operand->AV}{o:Option Operand}(h:∀y,o=some y->ev y=GQ y):o.map ev=o.map GQ:=by
 cases o with
 |none=>rfl
 |some y=>simp[h y rfl]
theorem Nn{b:AV}(ht:∀e,P.underlying t≠some (.pointer e)):vy P h t a b=vy P h' t a b:=by
 unfold vy;split;.rename_i e he;exact absurd he (ht e)
 all_goals rfl
theorem Pe{b:AV}(ht:∀e,P.underlying t≠some (.pointer e)):cZ P h op t x y a b=cZ P h' op t x y a b:=by
 have h1:pG P h op t a b=pG P h' op t a b:=by unfold pG;rw[Nn P ht (h:=h) (h':=h')]
 have h2:iG P h op t x y a b=iG P h' op t x y a b:=by unfold iG;rw[h1]
 unfold cZ;rw[h2]
theorem vX{ev:Operand->AV}{q:QR}(ha:pE o.op=false)(hq:dE P h ev o=some q):q.obj=none:=by
 have hqv:∀(r:Option AV) (q:QR),qv r=some q->q.obj=none:=by
  intro r q hq;cases r with
  |none=>cases hq
  |some v=>cases hq;rfl
 obtain⟨dst,op,type,g,af⟩:=o;unfold dE at hq;dsimp only at ha hq;cases op with
 |load t a=>exact hqv _ _ hq
 |lookup t x i ok=>exact hqv _ _ hq
 |binOp op t x y u=>exact hqv _ _ hq
 |convert s d x=>exact hqv _ _ hq
 |move x=>cases hq;rfl
 |pick c a b=>
  simp only[DP]at hq;split at hq;.cases hq;rfl
  .cases hq
 |nilCheck x=>simp only[Ob]at hq;split at hq<;>first|(cases hq;rfl)|cases hq
 |fieldAddr s x f=>
  simp only[yK]at hq
  repeat' split at hq
  all_goals first|(cases hq;rfl)|cases hq
 |extract x i=>
  simp only[Nw]at hq;split at hq;.exact hqv _ _ hq
  .cases hq
 |indexAddr t x i=>
  simp only[Jt,uz,AJ]at hq
  repeat' split at hq
  all_goals first|(cases hq;rfl)|cases hq
 |unOp op t x=>
  simp only[qUn]at hq
  repeat' split at hq
  all_goals first|(cases hq;rfl)|cases hq
 |index t x i=>
  simp only[rH]at hq
  repeat' split at hq
  all_goals first|(cases hq;rfl)|cases hq
 |slice t x lo hi mx=>
  simp only[yl]at hq
  repeat' split at hq
  all_goals first|exact hqv _ _ hq|cases hq
 |typeAssert x t' t ok=>
  simp only[jF]at hq
  repeat' split at hq
  all_goals first|(cases hq;rfl)|cases hq
 |makeInterface t x=>simp only[kX]at hq;split at hq<;>first|(cases hq;rfl)|cases hq
 |makeFunc fn first cap=>
  simp only[qFn]at hq
  repeat' split at hq
  all_goals first|(cases hq;rfl)|cases hq
 |build t parts=>
  simp only[uo,GK]at hq
  repeat' split at hq
  all_goals first|(cases hq;rfl)|cases hq
 |call c=>
  obtain⟨callee,args,at_⟩:=c;simp only[tO,Ua,TN,O1]at hq
  repeat' split at hq
  all_goals first|exact hqv _ _ hq|(cases hq;rfl)|cases hq
 |alloc=>cases ha
 |box=>cases ha
 |buildSlice=>cases ha
 |makeMap=>cases ha
 |makeSlice=>cases ha
 |_=>cases hq
theorem uD{ev:Operand->AV}(iq:∀x∈o.op.operands.toList,ev x=GQ x)(hr:mI P o.op=false):
 dE P h ev o=dE P h' GQ o:=by
 obtain⟨dst,op,type,g,af⟩:=o;unfold dE;dsimp only at iq hr⊢;cases op with
 |move x=>simp only[iq x fV]
 |pick c a b=>simp only[iq c fV,iq a fV,iq b fV]
 |nilCheck x=>simp only[iq x fV]
 |fieldAddr s x f=>simp only[iq x fV]
 |extract x i=>simp only[iq x fV]
 |indexAddr t x i=>simp only[iq x fV,iq i fV]
 |unOp op t x=>simp only[iq x fV]
 |index t x i=>simp only[iq x fV,iq i fV]
 |slice t x lo hi mx=>have h1:lo.map ev=lo.map GQ:=xi λy hy=>iq y (by simp[Op.operands,hy]);have h2:hi.map ev=hi.map GQ:=xi λy hy=>iq y (by simp[Op.operands,hy]);have h3:mx.map ev=mx.map GQ:=xi λy hy=>iq y (by simp[Op.operands,hy]);simp only[iq x fV,h1,h2,h3]
 |typeAssert x t' t ok=>simp only[iq x fV]
 |makeInterface t x=>simp only[iq x fV]
 |makeFunc fn first cap=>have h1:cap.toList.map ev=cap.toList.map GQ:=pn λy hy=>iq y (by simp only[Op.operands];simp;exact .inr (by simpa using hy));simp only[qFn,h1]
 |alloc t=>rfl
 |box t x=>simp only[iq x fV]
 |makeMap t r=>have h1:r.map ev=r.map GQ:=xi λy hy=>iq y (by simp[Op.operands,hy]);simp only[h1]
 |makeSlice t l c=>simp only[iq l fV,iq c fV]
 |buildSlice t len parts=>
  have h1:∀x∈parts.toList,ev x.2=GQ x.2:=λx hx=>iq x.2 (by simp only[Op.operands];simp;exact⟨x.1,by simpa using hx⟩);simp only[fy];split
  .split
   .split;.rw[qY h1]
    .rfl
   .rfl
  .rfl
 |build t parts=>
  have h1:∀x∈parts.toList,ev x.2=GQ x.2:=λx hx=>iq x.2 (by simp only[Op.operands];simp;exact⟨x.1,by simpa using hx⟩);simp only[uo];split
  .split
   .split;.rw[qY h1]
    .rfl
   .split;.rw[qY h1]
    .rfl
   .rfl
  .rfl
 |binOp op t x y u=>simp only[iq x fV,iq y fV];rw[Pe P (h:=h) (h':=h')];intro e he;simp[mI,he]at hr
 |convert s d x=>
  simp only[iq x fV]
  congr 1
  unfold nD Bb vM;simp only[mI]at hr;split at hr;.rename_i k hk;simp only[hk]
  .rename_i hk;simp only[hk]
  .cases hr
 |call c=>
  obtain⟨callee,args,at_⟩:=c;simp only[mI]at hr;simp only[Op.operands,Call.operands]at iq;have h1:∀x∈args.toList,ev x=GQ x:=λx hx=>iq x (by simp;first|exact .inr (by simpa using hx)|exact(by simpa using hx));simp only[tO];cases callee with
  |builtin b=>
   simp only;generalize args.toList=l at h1
   match l,h1 with
   |[],_=>rfl
   |[x],h1=>
    simp only[h1 x bL];split
    .cases b<;>try rfl
     simp only at hr⊢;rename_i t ht;rw[ht]at hr;simp only at hr
     congr 1
     unfold MK;split at hr;.rename_i hu;simp only[hu]
     .rename_i hu;simp only[hu]
     .cases hr
    .rfl
   |[x,y],h1=>simp only[h1 x bL,h1 y bL]
   |_::_::_::_,_=>rfl
  |value f=>rfl
  |invoke r n=>rfl
 |_=>simp[mI]at hr
def Ak(ops:Array Oper)(d:Option Tmp)(i:Nat):Bool:=match d with
 |none=>false
 |some d=>match ops[i]? with
  |none=>true
  |some o=>(o.looksAt ops).contains d||o.dst==some d
def calm(ops:Array Oper)(i:Nat):Bool:=match ops[i]? with
 |none=>false
 |some o=>match o.dst with|some d=> !(o.looksAt ops).contains d|none=>true
def qw(f:Op->Bool)(ops:Array Oper)(i:Nat):Bool:=match ops[i]? with
 |some o=>f o.op
 |none=>false
def Sd(ops:Array Oper)(i:Nat):Option Tmp:=match ops[i]? with
 |some o=>o.dst
 |none=>none
def qh:Op->Bool
 | .assign _=>true
 |_=>false
def known(ops:Array Oper)(I:List Nat)(i:Nat):List Nat:=I.filter λj=> !Ak ops (Sd ops i) j
def xK(ops:Array Oper):List Nat->List Nat×List Nat->List Nat×List Nat
 |[],p=>p
 |i::l,p=>xK ops l
  (if qw pE ops i then(known ops p.1 i,if calm ops i then[i]else[])
  else if qw (mI P) ops i then(known ops p.1 i,if calm ops i then i::known ops p.2 i else known ops p.2 i)
  else(if calm ops i then i::known ops p.1 i else known ops p.1 i,known ops p.2 i))
def AS(ops:Array Oper)(p:List Nat×List Nat)(e:Nat):List Nat×List Nat:=(known ops p.1 e,if qw qh ops e then known ops p.2 e else[])
def HA(ops:Array Oper):List Nat×List Nat->cU->cU->Bool
 |I,(new,chk,e)::rest,(new',chk',e')::wR=>
  let J:=xK P ops new I
  new==new'&&e==e'&&chk.all (λi=>J.1.contains i||J.2.contains i||chk'.contains i)&&(match e with
  |none=>true
  |some e=>HA ops (AS ops J e) rest wR)
 |_,[],[]=>true
 |_,_,_=>false
def HC(ops:Array Oper)(base:Nat)(s:BT AV)(i:Nat):Prop:=∃o,ops[i]?=some o/\mI P o.op=false/\∀h,tG P ops base i o s h
def MG(ops:Array Oper)(base:Nat)(s:BT AV)(h:aG)(i:Nat):Prop:=∃o,ops[i]?=some o/\tG P ops base i o s h
theorem sG{d:Option Tmp}{v:AV}{n:Tmp}(h:d≠some n):ao (fT d s v) n=ao s n:=by
 cases d with
 |none=>rfl
 |some d=>show ao (sset s d v) n=_;rw[oq,ak];intro e;subst e;exact h rfl
theorem pX(h:∀n∈o.looksAt ops,ao s' n=ao s n):dO ops s' o=dO ops s o:=by
 unfold dO;cases hg:o.guard with
 |none=>rfl
 |some g=>
  obtain⟨j,want⟩:=g;simp only;cases hj:ops[j]? with
  |none=>rfl
  |some o'=>
   simp only;cases hd:o'.dst with
   |none=>rfl
   |some d=>simp only;rw[h d];refine List.mem_append_right _ ?_;rw[hg];simp[hj,hd]
theorem AH(h:∀n∈o.looksAt ops,ao s' n=ao s n):∀x∈o.op.operands.toList,oZ s' x=oZ s x:=by
 intro x hx;cases x with
 |tmp n=>exact h n (ix _ (List.mem_filterMap.2 ⟨.tmp n,hx,rfl⟩))
 |_=>rfl
theorem yX{ev:Operand->AV}(iq:∀x∈o.op.operands.toList,ev x=GQ x):dE P h ev o=dE P h GQ o:=by
 by_cases hr:mI P o.op=false;.exact uD P iq hr
 obtain⟨dst,op,type,g,af⟩:=o;unfold dE;dsimp only at iq hr⊢;cases op with
 |load t a=>simp only[iq a fV]
 |lookup t x i ok=>simp only[iq x fV,iq i fV]
 |binOp op t x y u=>simp only[iq x fV,iq y fV]
 |convert s d x=>simp only[iq x fV]
 |call c=>
  obtain⟨callee,args,at_⟩:=c;simp only[Op.operands,Call.operands]at iq;have h1:∀x∈args.toList,ev x=GQ x:=λx hx=>iq x (by simp;first|exact .inr (by simpa using hx)|exact(by simpa using hx));simp only[tO];cases callee with
  |builtin b=>
   simp only;generalize args.toList=l at h1
   match l,h1 with
   |[],_=>rfl
   |[x],h1=>simp only[h1 x bL]
   |[x,y],h1=>simp only[h1 x bL,h1 y bL]
   |_::_::_::_,_=>rfl
  |value f=>rfl
  |invoke r n=>rfl
 |_=>first|rfl|(simp[mI]at hr)
theorem Ig{base:Nat}{d:Option Tmp}{v:AV}(ho:ops[i]?=some o)(hc:tG P ops base i o s h)(hd:Ak ops d i=false):tG P ops base i o (fT d s v) h:=by
 have hl:(∀n∈o.looksAt ops,ao (fT d s v) n=ao s n)/\(∀n,o.dst=some n->ao (fT d s v) n=ao s n):=by
  cases d with
  |none=>exact⟨λ_ _=>rfl,λ_ _=>rfl⟩
  |some d=>
   simp only[Ak,ho,kQ]at hd;refine⟨λn hn=>sG λe=>?_,λn hn=>sG λe=>?_⟩;.cases e;have:=hd.1;simp[hn]at this
   .cases e;have:=hd.2;simp[hn]at this
 unfold tG at hc⊢;rw[pX hl.1,yX P (AH hl.1)];cases ZX:o.dst with
 |none=>rw[ZX]at hc;exact hc
 |some n=>rw[ZX]at hc;simp only at hc⊢;rw[hl.2 n ZX];exact hc
theorem HC.put{base:Nat}{d:Option Tmp}{v:AV}(hs:HC P ops base s i)(hd:Ak ops d i=false):HC P ops base (fT d s v) i:=by obtain⟨o,ho,hrd,hc⟩:=hs;exact⟨o,ho,hrd,λh=>Ig P ho (hc h) hd⟩
def ub(ops:Array Oper)(base:Nat)(s:BT AV)(h:aG)(p:List Nat×List Nat):Prop:=(∀j∈p.1,HC P ops base s j)/\∀j∈p.2,MG P ops base s h j
theorem ub.BL{base:Nat}{p:List Nat×List Nat}(hp:ub P ops base s h p)(ho:ops[i]?=some o)(v:AV):∀j∈known ops p.1 i,HC P ops base (fT o.dst s v) j:=by intro j hj;obtain⟨h1,h2⟩:=gP.1 hj;refine(hp.1 j h1).put P ?_;simpa[Sd,ho]using h2
theorem ub.EB{base:Nat}{p:List Nat×List Nat}(hp:ub P ops base s h p)(ho:ops[i]?=some o)(v:AV):∀j∈known ops p.2 i,MG P ops base (fT o.dst s v) h j:=by intro j hj;obtain⟨h1,h2⟩:=gP.1 hj;obtain⟨o',Z5,hc⟩:=hp.2 j h1;refine⟨o',Z5,Ig P Z5 hc ?_⟩;simpa[Sd,ho]using h2
theorem CI{op:Op}(h:pE op=true):mI P op=false:=by cases op<;>first|rfl|(simp[pE]at h)
theorem wq(ho:ops[i]?=some o)(hc:calm ops i=true)(s:BT AV)(v:AV):∀n∈o.looksAt ops,ao (fT o.dst s v) n=ao s n:=by intro n hn;refine sG λe=>?_;simp only[calm,ho]at hc;rw[e]at hc;simp[hn]at hc
theorem ub.new{base:Nat}{p:List Nat×List Nat}(hp:ub P ops base s h p)(ho:ops[i]?=some o){v:AV}
 (hh:pE o.op=false->h1=h)
 (GD:calm ops i=true->tG P ops base i o (fT o.dst s v) h1) (alE:calm ops i=true->mI P o.op=false->pE o.op=false->∀h2,tG P ops base i o (fT o.dst s v) h2):
 ub P ops base (fT o.dst s v) h1 (if qw pE ops i then(known ops p.1 i,if calm ops i then[i]else[])
 else if qw (mI P) ops i then(known ops p.1 i,if calm ops i then i::known ops p.2 i else known ops p.2 i)
 else(if calm ops i then i::known ops p.1 i else known ops p.1 i,known ops p.2 i)):=by
 have e1:qw pE ops i=pE o.op:=by simp only[qw,ho]
 have e2:qw (mI P) ops i=mI P o.op:=by simp only[qw,ho]
 rw[e1,e2];cases ha:pE o.op with
 |true=>
  rw[aw rfl];refine⟨hp.BL P ho v,?_⟩;by_cases hc:calm ops i=true;.simp only[hc,cz];intro j hj;rw[aR]at hj;subst hj;exact⟨o,ho,GD hc⟩
  .simp only[hc];intro j hj;cases hj
 |false=>
  have:=hh ha;subst this;rw[ak bL];cases hr:mI P o.op with
  |true=>
   rw[aw rfl];refine⟨hp.BL P ho v,?_⟩;by_cases hc:calm ops i=true
   .simp only[hc,cz];intro j hj;rcases bE.1 hj with rfl|hj
    .exact⟨o,ho,GD hc⟩
    .exact hp.EB P ho v j hj
   .simp only[hc];exact hp.EB P ho v
  |false=>
   rw[ak bL];refine⟨?_,hp.EB P ho v⟩;by_cases hc:calm ops i=true
   .simp only[hc,cz];intro j hj;rcases bE.1 hj with rfl|hj
    .exact⟨o,ho,hr,alE hc hr ha⟩
    .exact hp.BL P ho v j hj
   .simp only[hc];exact hp.BL P ho v
theorem uT{ops:Array Oper}{base:Nat}{K1 K2:BT AV->aG->Prop}:∀(l:List Nat) (p:List Nat×List Nat) (s:BT AV) (h:aG),ub P ops base s h p->rM P ops base K1 l s h->
 (∀s' h',ub P ops base s' h' (xK P ops l p)->K1 s' h'->K2 s' h')->rM P ops base K2 l s h
 |[],p,s,h,hI,hw,hk=>hk s h hI hw
 |i::l,p,s,h,hI,hw,hk=>by
  simp only[rM]at hw⊢;cases ho:ops[i]? with
  |none=>rw[ho]at hw;exact hw.elim
  |some o=>
   rw[ho]at hw;simp only at hw⊢;cases gJ:dO ops s o with
   |none=>rw[gJ]at hw;exact hw.elim
   |some b=>
    rw[gJ]at hw;have Kq:∀v,(match o.dst with|some d=>ao (fT o.dst s v) d=v|none=>True):=by
     intro v;cases hd:o.dst with
     |none=>trivial
     |some d=>show ao (sset s d _) d=_;rw[oq,aw rfl]
    cases b with
    |true=>
     simp only at hw⊢;cases hq:dE P h (oZ s) o with
     |none=>rw[hq]at hw;exact hw.elim
     |some q=>
      rw[hq]at hw;simp only at hw⊢;refine uT l _ _ _ (hI.new P ho ?_ ?_ ?_) hw hk;.intro ha;rw[vX P ha hq]
      .intro hc;have hl:=wq ho hc s (q.av (base+i));unfold tG;rw[pX hl,gJ,yX P (AH hl)];have this:∀h1,(pE o.op=false->h1=h)->dE P h1 (oZ s) o=some q:=by
        intro h1 hh;cases ha:pE o.op with
        |true=>rw[<-hq];exact uD P (λ_ _=>rfl) (CI P ha)
        |false=>rw[hh ha];exact hq
       rw[this _ λha=>by rw[vX P ha hq]];refine⟨Kq _,?_⟩;cases hqo:q.obj with
       |none=>trivial
       |some ob=>show au (aK h (base+i) ob) (base+i)=_;rw[aj,aw rfl]
      .intro hc hr ha h2;have hl:=wq ho hc s (q.av (base+i));unfold tG;rw[pX hl,gJ,yX P (AH hl),uD P (h':=h) (λ_ _=>rfl) hr,hq];refine⟨Kq _,?_⟩;rw[vX P ha hq];trivial
    |false=>
     simp only at hw⊢;have GD:calm ops i=true->∀h2,tG P ops base i o (fT o.dst s (.g undef)) h2:=by intro hc h2;have hl:=wq ho hc s (.g undef);unfold tG;rw[pX hl,gJ];exact Kq _
     exact uT l _ _ _ (hI.new P ho (λ_=>rfl) (λhc=>GD hc _) (λhc _ _=>GD hc)) hw hk
theorem L8{ops:Array Oper}{base:Nat}{s:BT AV}{h:aG}:∀{l:List Nat},(∀i∈l,∃o,ops[i]?=some o/\tG P ops base i o s h)->FJ P ops base s h l
 |[],_=>trivial
 |i::l,hl=>by obtain⟨o,ho,hc⟩:=hl i bL;refine⟨?_,L8 λj hj=>hl j (by simp[hj])⟩;rw[ho];exact hc
theorem Gg{K1 K2:BT AV->aG->Nat->Prop}{r:Option ER}(hw:WC P o K1 s h nx r)(hk:∀v h nx,K1 (fT o.dst s v) h nx->K2 (fT o.dst s v) h nx):WC P o K2 s h nx r:=by
 cases r with
 |none=>exact hw.elim
 |some r=>
  cases r with
  |val v h'=>exact hk _ _ _ hw
  |pT ob len h'=>
   have hw:WX o.dst K1 s nx ob len h':=hw;show WX o.dst K2 s nx ob len h';cases hd:o.dst with
   |none=>rw[hd]at hw;cases ob<;>exact hw.elim
   |some d=>
    rw[hd]at hw;cases ob with
    |eP cs e es=>intro cap gs a b;have:=hk (.sl nx 0 len cap);rw[hd]at this;exact this _ _ (hw cap gs a b)
    |_=>exact hw.elim
  |enter f args=>have hw:aA P f args h nx λv h' nx'=>K1 (fT o.dst s v) h' nx':=hw;exact hw.mono P λv h' nx' q=>hk _ _ _ q
  |defer d=>exact hw.elim
  |round a b=>obtain⟨rr,cE,g1,g2,g3⟩:=hw;exact⟨rr,cE,g1,g2,λwait cs R hq=>g3 wait cs R λv h' nx' q=>hq v h' nx' (hk _ _ _ q)⟩
theorem rC{ops:Array Oper}{base:Nat}{K:BT AV->aG->Nat->Prop}:∀(pl Am:cU) (p:List Nat×List Nat) (s:BT AV) (h:aG) (nx:Nat),HA P ops p pl Am=true->ub P ops base s h p->
 Du P xt ops base K Am s h nx->Du P xt ops base K pl s h nx
 |[],[],_,_,_,_,_,_,hw=>hw
 |[],_::_,_,_,_,_,hr,_,_=>by simp[HA]at hr
 |_::_,[],_,_,_,_,_,_,hw=>hw.elim
 |(new,chk,e)::rest,(new',chk',e')::wR,p,s,h,nx,hr,hI,hw=>by
  unfold HA at hr;simp only[aV,kT,eY,tJ]at hr;obtain⟨⟨⟨h1,h2⟩,h3⟩,h4⟩:=hr;subst h1;subst h2;simp only[Du]at hw⊢;refine uT P new p s h hI hw ?_;intro s' h' hJ ⟨hc,hw⟩;refine⟨L8 P λi hi=>?_,?_⟩
  .rcases h3 i hi with(h3|h3)|h3;.obtain⟨o,ho,_,hc⟩:=hJ.1 i (by simpa using h3);exact⟨o,ho,hc h'⟩
   .exact hJ.2 i (by simpa using h3)
   .exact Co P hc i (by simpa using h3)
  .cases e with
   |none=>exact hw
   |some e=>
    simp only at hw h4⊢;cases ho:ops[e]? with
    |none=>rw[ho]at hw;exact hw.elim
    |some o=>
     rw[ho]at hw;simp only at hw⊢;have ek:qw qh ops e=qh o.op:=by simp only[qw,ho]
     have jf:∀v h2,(qh o.op=true->h2=h')->ub P ops base (fT o.dst s' v) h2 (AS ops (xK P ops new p) e):=by
      intro v h2 hh;refine⟨hJ.BL P ho v,?_⟩;simp only[AS,ek];cases ha:qh o.op with
      |true=>rw[aw rfl,hh ha];exact hJ.EB P ho v
      |false=>rw[ak bL];intro j hj;cases hj
     cases gJ:dO ops s' o with
     |none=>rw[gJ]at hw;exact hw.elim
     |some b=>
      rw[gJ]at hw;cases b with
      |true=>
       simp only at hw⊢;by_cases ha:qh o.op=true
       .have:∃x,nE P xt h' (oZ s') o=some (.val x h'):=by
         cases hop:o.op<;>simp only[hop,qh]at ha<;>first|(cases ha;done)|skip
         rename_i x;exact⟨oZ s' x,by unfold nE;rw[hop]⟩
        obtain⟨x,hx⟩:=this;rw[hx]at hw⊢;exact rC rest wR _ _ _ _ h4 (jf _ _ λ_=>rfl) hw
       .exact Gg P hw λv h nx hw=>rC rest wR _ _ _ _ h4 (jf _ _ λh=>absurd h ha) hw
      |false=>exact rC rest wR _ _ _ _ h4 (jf _ _ λ_=>rfl) hw
abbrev z4:List Nat:=[0,1,2,3,4]
abbrev z5:List Nat:=[0,1,2,3,4,5]
abbrev z6:List Nat:=[0,1,2,3,4,5,6]
abbrev z7:List Nat:=[0,1,2,3,4,5,6,7]
abbrev z8:List Nat:=[0,1,2,3,4,5,6,7,8]
abbrev z9:List Nat:=[0,1,2,3,4,5,6,7,8,9]
abbrev z10:List Nat:=[0,1,2,3,4,5,6,7,8,9,10]
abbrev z11:List Nat:=[0,1,2,3,4,5,6,7,8,9,10,11]
abbrev z12:List Nat:=[0,1,2,3,4,5,6,7,8,9,10,11,12]
abbrev z13:List Nat:=[0,1,2,3,4,5,6,7,8,9,10,11,12,13]
abbrev z14:List Nat:=[0,1,2,3,4,5,6,7,8,9,10,11,12,13,14]
abbrev z16:List Nat:=[0,1,2,3,4,5,6,7,8,9,10,11,12,13,14,15,16]
abbrev z19:List Nat:=[0,1,2,3,4,5,6,7,8,9,10,11,12,13,14,15,16,17,18,19]
abbrev z23:List Nat:=[0,1,2,3,4,5,6,7,8,9,10,11,12,13,14,15,16,17,18,19,20,21,22,23]
abbrev z26:List Nat:=[0,1,2,3,4,5,6,7,8,9,10,11,12,13,14,15,16,17,18,19,20,21,22,23,24,25,26]
abbrev z43:List Nat:=[0,1,2,3,4,5,6,7,8,9,10,11,12,13,14,15,16,17,18,19,20,21,22,23,24,25,26,27,28,29,30,31,32,33,34,35,36,37,38,39,40,41,42,43]
end
variable{f:FuncId}{fn:Func}
section
variable(P:Program)(xt:FuncId->Option Ext)
abbrev jm:=Ex->BT AV->aG->Nat->Prop
def jm.seq(K:BT AV->aG->Nat->Prop)(E:jm):jm:=λe s h nx=>match e with
 | .iA=>K s h nx
 |e=>E e s h nx
def jm.bJ(id:Nat)(E:jm):jm:=λe s h nx=>match e with
 | .out zQ=>if id=zQ then E .iA s h nx else E (.out zQ) s h nx
 |e=>E e s h nx
def W(T:Nat->cU):Code->jm->BT AV->aG->Nat->Prop
 | .ret,E,s,h,nx=>E .ret s h nx
 | .skip,E,s,h,nx=>E .iA s h nx
 | .seq a b,E,s,h,nx=>W T a (jm.seq (W T b E) E) s h nx
 | .cond c a b,E,s,h,nx=>∃t,oZ s c= .g (.bool t)/\(if t=true then W T a E s h nx else W T b E s h nx)
 | .block id b,E,s,h,nx=>W T b (jm.bJ id E) s h nx
 | .loop b,E,s,h,nx=>∀X:BT AV->aG->Nat->Prop,(∀s h nx,W T b (jm.seq X E) s h nx->X s h nx)->X s h nx
 | .exit id,E,s,h,nx=>E (.out id) s h nx
 | .region id ops draw,E,s,h,nx=>if draw=true then Du P xt ops nx (E .iA) (T id) s h (nx+ops.size)else vu P xt ops (E .iA) ops.toList s h nx
 |_,_,_,_,_=>False
def Qv(infos:List dz):List dz->Option dz->cU
 |[],last=>[((infos.filter λx=>kN (iR []) x&&rz last x).map (·.i),(infos.filter λx=>kN (iR []) x&& !qy last x).map (·.i),none)]
 |y::dX,last=>((infos.filter λx=>kN (iR (y::dX)) x&&rz last x).map (·.i),(infos.filter λx=>kN (iR (y::dX)) x&& !qy last x).map (·.i),some y.i)::Qv infos dX (some y)
def BP(ops:Array Oper):cU:=
 let A:=kE ops.toList 0 []
 Qv (A.filter (!·.xL)) (A.filter (·.xL)) none
def fh(T:Nat->cU):Code->Bool
 | .seq a b=>fh T a&&fh T b
 | .cond _ a b=>fh T a&&fh T b
 | .block _ b=>fh T b
 | .loop b=>fh T b
 | .region id ops draw=> !draw||(Js ops (BP ops)&&HA P ops ([],[]) (BP ops) (T id))
 |_=>true
theorem adw(pk:PK P xt)(x:Fx)(ops:Array Oper)(pl:cU)(k:List dc)(R:AM->Prop)(K:BT AV->aG->Nat->Prop)(hK:∀s h nx,K s h nx->eH P (x.at s h nx k) R)
 (hd:∀o∈ops.toList,∀d,o.dst=some d->d<x.size) (hp:Js ops pl=true) (id:Nat) (s:BT AV) (h:aG) (nx:Nat) (hw:Du P xt ops nx K pl s h (nx+ops.size)):
 eH P (x.at s h nx (.code (.region id ops true)::k)) R:=by
 simp only[Js,aV]at hp;have hA:∀y∈kE ops.toList 0 [],ops[y.i]?=some y.o/\∀d,y.o.dst=some d->d<x.size:=by
  intro y hy;obtain⟨_,h2,h3,_⟩:=nB _ _ _ y hy;have h3:ops.toList[y.i]?=some y.o:=by simpa using h3
  exact⟨by simpa using h3,hd _ (List.mem_of_getElem? h3)⟩
 have Kq:zB x.size (kE ops.toList 0 [])=true:=by
  have key:∀l:List dz,(∀y∈l,∀d,y.o.dst=some d->d<x.size)->zB x.size l=true:=by
   intro l
   induction l with
   |nil=>intro _;rfl
   |cons y l ih=>
    intro hl;simp only[zB,aV];refine⟨?_,ih λz hz=>hl z (by simp[hz])⟩;have:=hl y bL;split;.rename_i d hd;simpa using this d hd
    .rfl
  exact key _ λy hy=>(hA y hy).2
 refine .gS P xt pk ⟨x.at s h (nx+ops.size) (.jK {phase:= .unsat,infos:=(kE ops.toList 0 []).filter (!·.xL),dX:=(kE ops.toList 0 []).filter (·.xL),last:=none,base:=nx,ops}::k),?_,?_⟩;.show(if(te ops (kE ops.toList 0 [])&&zB x.size (kE ops.toList 0 []))=true then _ else _)=_;rw[aw (by rw[hp.1,Kq];rfl)];rfl
 .exact Dq P xt pk x ops nx _ k R K hK (λy hy=>hA y (gP.1 hy).1) pl _ none (λy hy=>hA y (gP.1 hy).1) hp.2 s h _ hw
theorem oP(pk:PK P xt)(T:Nat->cU)(x:Fx):
 ∀(c:Code),gM x.size c=true->fh P T c=true->∀(E:jm) (k:List dc) (R:AM->Prop),(∀e s h nx,E e s h nx->abm P x k R e s h nx)->∀s h nx,W P xt T c E s h nx->eH P (x.at s h nx (.code c::k)) R:=by
 intro c
 induction c with
 |ret=>
  intro _ _ E k R hE s h nx hw;have he:=hE _ _ _ _ hw;obtain⟨fn,size,defers,deferred,callers,round⟩:=x;cases round with
  |none=>exact .gS P xt pk ⟨_,rfl,(he:∀t,qZ t=false->_) _ rfl⟩
  |some l=>obtain⟨hd,m',h1,h2⟩:=he;have hd:deferred=false:=hd;subst hd;refine .gS P xt pk ⟨m',?_,h2⟩;rw[<-h1];rfl
 |skip=>intro _ _ E k R hE s h nx hw;exact .gS P xt pk ⟨_,rfl,hE _ _ _ _ hw⟩
 |seq a b iha ihb=>
  intro hd hp E k R hE s h nx hw;simp only[gM,aV]at hd;simp only[fh,aV]at hp;refine .gS P xt pk ⟨x.at s h nx (.code a:: .code b::k),rfl,iha hd.1 hp.1 _ _ R ?_ s h nx hw⟩;intro e s h nx he;cases e with
  |iA=>exact ihb hd.2 hp.2 E k R hE s h nx he
  |ret=>exact hE .ret s h nx he
  |out id=>exact hE (.out id) s h nx he
 |cond c a b iha ihb=>
  intro hd hp E k R hE s h nx hw;simp only[gM,aV]at hd;simp only[fh,aV]at hp;obtain⟨t,ht,hw⟩:=hw;refine .gS P xt pk ⟨x.at s h nx (.code (if t then a else b)::k),?_,?_⟩;.show tX _ a b k (oZ s c)=_;rw[ht];rfl
  .cases t with
   |true=>exact iha hd.1 hp.1 E k R hE s h nx hw
   |false=>exact ihb hd.2 hp.2 E k R hE s h nx hw
 |block id b ih=>
  intro hd hp E k R hE s h nx hw;refine .gS P xt pk ⟨x.at s h nx (.code b:: .inBlock id::k),rfl,ih hd hp _ _ R ?_ s h nx hw⟩;intro e s h nx he;cases e with
  |iA=>exact .gS P xt pk ⟨_,rfl,hE .iA s h nx he⟩
  |ret=>exact hE .ret s h nx he
  |out zQ=>
   simp only[jm.bJ]at he;by_cases Gw:id=zQ;.rw[aw Gw]at he;refine⟨k,?_,hE .iA s h nx he⟩;show(if id==zQ then some k else nL zQ k)=some k;rw[aw (by simpa using Gw)]
   .rw[ak Gw]at he;obtain⟨k',h1,h2⟩:=hE (.out zQ) s h nx he;refine⟨k',?_,h2⟩;show(if id==zQ then some k else nL zQ k)=some k';rw[ak (by simpa using Gw)];exact h1
 |loop b ih=>
  intro hd hp E k R hE s h nx hw;refine .gS P xt pk ⟨x.at s h nx (.code b:: .inLoop b::k),rfl,?_⟩;refine hw (λs h nx=>eH P (x.at s h nx (.code b:: .inLoop b::k)) R) ?_;intro s h nx hb;refine ih hd hp _ (.inLoop b::k) R ?_ s h nx hb;intro e s h nx he;cases e with
  |iA=>exact .gS P xt pk ⟨_,rfl,he⟩
  |ret=>exact hE .ret s h nx he
  |out id=>exact hE (.out id) s h nx he
 |exit id=>intro _ _ E k R hE s h nx hw;obtain⟨k',h1,h2⟩:=hE _ _ _ _ hw;refine .gS P xt pk ⟨x.at s h nx k',?_,h2⟩;show tY _ id k=_;unfold tY;rw[h1];rfl
 |region id ops draw=>
  intro hd hp E k R hE s h nx hw;have uu:∀o∈ops.toList,∀d,o.dst=some d->d<x.size:=by intro o ho d he;have:=eY.1 hd o ho;rw[he]at this;simpa using this
  cases draw with
  |true=>simp only[fh,fj,pJ,aV]at hp;exact adw P xt pk x ops (BP ops) k R (E .iA) (λs h nx he=>hE .iA s h nx he) uu hp.1 id s h nx (rC P xt _ _ ([],[]) _ _ _ hp.2 ⟨λ_ h=>(by cases h),λ_ h=>(by cases h)⟩ hw)
  |false=>refine .gS P xt pk ⟨x.at s h nx (.ops ops.toList ops::k),rfl,?_⟩;exact Cl P xt pk x ops k R (E .iA) (λs h nx he=>hE .iA s h nx he) ops.toList uu s h nx hw
 |rangeFunc=>intro _ _ _ _ _ _ _ _ _ hw;exact hw.elim
 |scope=>intro _ _ _ _ _ _ _ _ _ hw;exact hw.elim
 |label=>intro _ _ _ _ _ _ _ _ _ hw;exact hw.elim
 |goto=>intro _ _ _ _ _ _ _ _ _ hw;exact hw.elim
 |refuse=>intro _ _ _ _ _ _ _ _ _ hw;exact hw.elim
theorem aA.aeg(pk:PK P xt)(T:Nat->cU){c:Code}(hf:P.funcs[f]?=some fn)(hb:fn.body=some c)
 (hd:gM fn.ntmps c=true) (hp:fh P T c=true)  (ha:args.length<=fn.ntmps)   
 (hw:W P xt T c (λe s h nx=>match e with| .out _=>False|_=>∃vs,eo P h s fn.results.toList=some vs/\Q (one vs) h nx) (ey args 0 .nil) h nx):aA P f args h nx Q:=by
 have he:bI.enter P f args false=some ⟨f,ey args 0 .nil,fn.ntmps,[.code c],[],false,false,none⟩:=by unfold bI.enter;rw[hf];show(match fn.body with|some c=>_|none=>_)=_;rw[hb];show(if args.length<=fn.ntmps then _ else _)=_;rw[aw ha]
 refine .F' P he ?_
 let x:Fx:=⟨f,fn.ntmps,[],false,[],none⟩
 have fU:∀s h nx t,qZ t=false->(∃vs,eo P h s fn.results.toList=some vs/\Q (one vs) h nx)->eH P ⟨x.fr s t true,x.callers,h,nx⟩ λm=>m.fr.fn=f/\∃v,zw P m=some v/\Q v m.heap m.next:=by
  intro s h nx t ht ⟨vs,h1,h2⟩;refine .done P ⟨rfl,one vs,?_,h2⟩;show(if true&& !false&& !qZ t then(match P.funcs[f]? with
   |some fn=>match eo P h s fn.results.toList with
    |some vs=>some (one vs)
    |none=>none
   |none=>none)else none)=_
  rw[ht,hf];show(match eo P h s fn.results.toList with|some vs=>_|none=>_)=_;rw[h1]
 refine oP P xt pk T x c hd hp _ [] _ ?_ _ h nx hw;intro e s h nx he;cases e with
 |iA=>exact .gS P xt pk ⟨⟨x.fr s [] true,x.callers,h,nx⟩,rfl,fU s h nx [] rfl he⟩
 |ret=>exact λt ht=>fU s h nx t ht he
 |out id=>exact he.elim
end
variable{Q':AV->aG->Nat->Prop}{cs:List AV}{nx':Nat}{r':dG}{w':World}
mutual
def sB(nx:Nat):AV->Prop
 | .g _=>True
 | .ptr b _=>b<nx
 | .sl b _ _ _=>b<nx
 | .mD b _ _ _=>b<nx
 | .sle=>True
 | .mp b=>b<nx
 | .sO b=>b<nx
 | .fz _ cs=>gU nx cs
 | .fp cs=>gU nx cs
 | .e0=>True
 | .fn _ cs=>gU nx cs
 | .kB _ v=>sB nx v
 | .agg cs=>gU nx cs
 | .dN cs=>gU nx cs
def gU(nx:Nat):List AV->Prop
 |[]=>True
 |a::as=>sB nx a/\gU nx as
end
theorem gU.iff{nx:Nat}:∀{l:List AV},gU nx l↔∀a∈l,sB nx a
 |[]=>by simp[gU]
 |a::l=>by simp[gU,gU.iff (l:=l)]
mutual
theorem VR.kP{r:dG}{nx:Nat}(hd:∀b x,r b=some x->b<nx):∀{a:AV} {v:Value},VR r a v->sB nx a
 |_,_,.g _=>trivial
 |_,_,.ptr e=>hd _ _ e
 |_,_,.sl e=>hd _ _ e
 |_,_,.mD e _=>hd _ _ e
 |_,_,.sle=>trivial
 |_,_,.mp e=>hd _ _ e
 |_,_,.sO e=>hd _ _ e
 |_,_,.Cx=>trivial
 |_,_,.Br=>trivial
 |_,_,.fz _ _ t=>eM.kP hd t
 |_,_,.ME=>trivial
 |_,_,.LZ=>trivial
 |_,_,.fp _ t=>eM.kP hd t
 |_,_,.fn t=>eM.kP hd t
 |_,_,.kB t=>have h:=VR.kP hd t;h
 |_,_,.agg t=>eM.kP hd t
 |_,_,.dN t=>eM.kP hd t
theorem eM.kP{r:dG}{nx:Nat}(hd:∀b x,r b=some x->b<nx):∀{a:List AV} {v:List Value},eM r a v->gU nx a
 |_,_,.nil=>trivial
 |_,_,.cons e t=>⟨VR.kP hd e,eM.kP hd t⟩
end
structure Cut(nx:Nat)(r' wI:dG):Prop where
 names:∀b x,b<nx->r' b=some x->wI b=some x
 sk:∀k o v,r'.z k o=some v->wI.z k o=some v
mutual
theorem VR.cut{nx:Nat}{r' wI:dG}(c:Cut nx r' wI):∀{a:AV} {v:Value},sB nx a->VR r' a v->VR wI a v
 |_,_,_,.g v=> .g v
 |_,_,l,.ptr e=> .ptr (c.names _ _ l e)
 |_,_,l,.sl e=> .sl (c.names _ _ l e)
 |_,_,l,.mD e q=> .mD (c.names _ _ l e) q
 |_,_,_,.sle=> .sle
 |_,_,l,.mp e=> .mp (c.names _ _ l e)
 |_,_,l,.sO e=> .sO (c.names _ _ l e)
 |_,_,_,.Cx=> .Cx
 |_,_,_,.Br=> .Br
 |_,_,l,.fz e q t=> .fz (λi v h=>c.sk _ _ _ (e i v h)) q (eM.cut c l t)
 |_,_,_,.ME=> .ME
 |_,_,_,.LZ=> .LZ
 |_,_,l,.fp e t=> .fp (λi v h=>c.sk _ _ _ (e i v h)) (eM.cut c l t)
 |_,_,l,.fn t=> .fn (eM.cut c l t)
 |_,_,l,.kB t=> .kB (VR.cut c l t)
 |_,_,l,.agg t=> .agg (eM.cut c l t)
 |_,_,l,.dN t=> .dN (eM.cut c l t)
theorem eM.cut{nx:Nat}{r' wI:dG}(c:Cut nx r' wI):∀{a:List AV} {v:List Value},gU nx a->eM r' a v->eM wI a v
 |_,_,_,.nil=> .nil
 |_,_,l,.cons e t=> .cons (VR.cut c l.1 e) (eM.cut c l.2 t)
end
def aeb(nx:Nat):AD->Prop
 | .fn _ c a=>gU nx c/\gU nx a
 | .vr b=>b<nx
def afV(nx:Nat):AO->Prop
 | .cells cs _=>gU nx cs
 | .eP cs _ _=>gU nx cs
 | .map es _=>∀e∈es,sB nx e.1/\sB nx e.2.1
 | .loop l=>(∀i,sB nx (ao l.cE i))/\l.defers<nx
 | .defs none=>True
 | .defs (some ds)=>∀d∈ds,aeb nx d
 | .dead=>True
theorem Ec.kP{r:dG}{nx:Nat}(hd:∀b x,r b=some x->b<nx):∀{a:List AD} {v:List Deferred},Ec r a v->∀d∈a,aeb nx d
 |_,_,.nil,_,h=>by cases h
 |_,_,.cons e t,d,h=>by
  rcases bE.1 h with rfl|h
  .cases e with
   |fn a b=>exact⟨a.kP hd,b.kP hd⟩
   |vr a=>exact hd _ _ a
  .exact Ec.kP hd t d h
theorem Ec.cut{nx:Nat}{r' wI:dG}(c:Cut nx r' wI):∀{a:List AD} {v:List Deferred},(∀d∈a,aeb nx d)->Ec r' a v->Ec wI a v
 |_,_,_,.nil=> .nil
 |_,_,l,.cons e t=> .cons (by
  have:=l _ (gY ..);cases e with
  |fn a b=>exact .fn (a.cut c this.1) (b.cut c this.2)
  |vr a=>exact .vr (c.names _ _ this a)) (Ec.cut c (λd h=>l d (bB _ h)) t)
theorem vw.kP{r:dG}{nx:Nat}(hd:∀b x,r b=some x->b<nx):∀{a:List (AV×AV×Nat)} {v:List MapEntry},vw r a v->∀e∈a,sB nx e.1/\sB nx e.2.1
 |_,_,.nil,_,h=>by cases h
 |_,_,.cons a b t,d,h=>by
  rcases bE.1 h with rfl|h;.exact⟨a.kP hd,b.kP hd⟩
  .exact vw.kP hd t d h
theorem vw.cut{nx:Nat}{r' wI:dG}(c:Cut nx r' wI):∀{a:List (AV×AV×Nat)} {v:List MapEntry},(∀e∈a,sB nx e.1/\sB nx e.2.1)->vw r' a v->vw wI a v
 |_,_,_,.nil=> .nil
 |_,_,l,.cons a b t=> .cons (a.cut c (l _ (gY ..)).1) (b.cut c (l _ (gY ..)).2) (vw.cut c (λd h=>l d (bB _ h)) t)
theorem OR.kP{r:dG}{nx:Nat}(hd:∀b x,r b=some x->b<nx){o:AO}{n:Nat}{x:Option Obj}(h:OR r o n x):afV nx o:=by
 cases o with
 |cells cs e=>obtain⟨c,_,v⟩:=h;exact v.kP hd
 |eP cs e es=>obtain⟨c,c',_,v,_⟩:=h;exact v.kP hd
 |map es cl=>obtain⟨l,_,v⟩:=h;exact v.kP hd
 |loop l=>obtain⟨y,_,v⟩:=h;obtain⟨_,_,_,a,_,_,_,_,n,b⟩:=v;exact⟨λi=>(a i).kP hd,hd _ _ b⟩
 |defs c=>
  cases c with
  |none=>trivial
  |some ds=>obtain⟨l,_,v⟩:=h;exact v.kP hd
 |dead=>trivial
theorem OR.cut{nx:Nat}{r' wI:dG}(c:Cut nx r' wI){o:AO}{n:Nat}{x:Option Obj}(l:afV nx o)(h:OR r' o n x):OR wI o n x:=by
 cases o with
 |cells cs e=>obtain⟨q,a,v⟩:=h;exact⟨q,a,v.cut c l⟩
 |eP cs e es=>obtain⟨q,q',a,v,b⟩:=h;exact⟨q,q',a,v.cut c l,b⟩
 |map es cl=>obtain⟨q,a,v⟩:=h;exact⟨q,a,v.cut c l⟩
 |loop o=>obtain⟨y,a,v⟩:=h;obtain⟨e1,e2,e3,t,e4,e5,e6,e7,n,b⟩:=v;exact⟨y,a,e1,e2,e3,λi=>(t i).cut c (l.1 i),e4,e5,e6,e7,n,c.names _ _ l.2 b⟩
 |defs d=>
  cases d with
  |none=>exact h
  |some ds=>obtain⟨q,a,v⟩:=h;exact⟨q,a,v.cut c l⟩
 |dead=>trivial
mutual
inductive Fz(h:aG)(nx:Nat):AV->AV->Prop
 |cQ {v:AV} (l:sB nx v):Fz h nx v v
 |nil:Fz h nx (.g (.slice none 0 0)) (.fz 0 [])
 |sle:Fz h nx .sle (.fz 0 [])
 |e0:Fz h nx .e0 (.fz 0 [])
 |sl {b off len cap q:Nat} {o:AO} {cs rJ:List AV} (hb:nx<=b) (ho:au h b=some o) (hc:o.cells?=some cs) (hl:len<=cap) (hs:zV h nx ((cs.drop off).take q) rJ):Fz h nx (.sl b off len cap) (.fz len rJ)
 |mD {b off j len:Nat} {o:AO} {cs rJ:List AV} (hb:nx<=b) (ho:au h b=some o) (hc:o.cells?=some cs) (hs:zV h nx (cs.drop off) rJ):Fz h nx (.mD b off j len) (.fz len rJ)
 |ptr {b off:Nat} {o:AO} {cs rJ:List AV} (hb:nx<=b) (ho:au h b=some o) (hc:o.cells?=some cs) (hs:zV h nx (cs.drop off) rJ):Fz h nx (.ptr b off) (.fp rJ)
 |fz {len:Nat} {cs rJ:List AV} (hs:zV h nx cs rJ):Fz h nx (.fz len cs) (.fz len rJ)
 |kB {t:TypeId} {v v':AV} (hs:Fz h nx v v'):Fz h nx (.kB t v) (.kB t v')
 |agg {cs rJ:List AV} (hs:zV h nx cs rJ):Fz h nx (.agg cs) (.agg rJ)
 |dN {cs rJ:List AV} (hs:zV h nx cs rJ):Fz h nx (.dN cs) (.dN rJ)
inductive zV(h:aG)(nx:Nat):List AV->List AV->Prop
 |nil:zV h nx [] []
 |cons {a a':AV} {l l':List AV} (ha:Fz h nx a a') (hl:zV h nx l l'):zV h nx (a::l) (a'::l')
end
theorem zV.cQ{h:aG}{nx:Nat}:∀{l:List AV},gU nx l->zV h nx l l
 |[],_=> .nil
 |_::_,hl=> .cons (.cQ hl.1) (zV.cQ hl.2)
theorem AO.Bi{o:AO}(h:o.cells?=some cs):o.live:=by cases o<;>simp_all[AO.cells?,AO.live]
structure Ru(h:aG)(nx:Nat)(w:World)(r' wI:dG):Prop where
 cut:Cut nx r' wI
 cells:∀b k n o cs,nx<=b->r' b=some (k,n)->au h b=some o->o.cells?=some cs->∀i v,w.cell? ⟨k,i,none⟩=some v->wI.z k i=some v
mutual
theorem Fz.sound{h:aG}{nx nx':Nat}{w0 w:World}{r' wI:dG}(hr:HR r' h nx' w0 w)(c:Ru h nx w r' wI):∀{a a':AV} {v:Value},Fz h nx a a'->VR r' a v->VR wI a' v
 |_,_,_,.cQ l,hv=>hv.cut c.cut l
 |_,_,_,.nil,hv=>by cases hv;exact .Cx
 |_,_,_,.sle,hv=>by cases hv;exact .Br
 |_,_,_,.e0,hv=>by cases hv with
  |ME=>exact .Cx
  |LZ=>exact .Br
 |_,_,_,.sl (off:=off) (q:=qq) hb ho hc hl hs,hv=>by
  cases hv with
  |sl e=>
   obtain⟨cc,c',t,hk,ti⟩:=hr.cells e ho hc;refine .fz (vs:=(cc.drop off).take qq) (λi v q=>c.cells _ _ _ _ _ hb e ho hc _ _ ?_) hl (zV.sound hr c hs ((ti.drop off).take qq));have hj:cc[off+i]?=some v:=by
    rw[eE]at q;split at q;.simpa using q
    .cases q
   have db:=(cT.1 hj).1;simp[World.cell?,hk,cj db,hj]
 |_,_,_,.mD (off:=off) hb ho hc hs,hv=>by
  cases hv with
  |mD e hn=>
   obtain⟨cc,c',t,hk,ti⟩:=hr.cells e ho hc;refine .fz (vs:=cc.drop off) (λi v q=>c.cells _ _ _ _ _ hb e ho hc _ _ ?_) ah (zV.sound hr c hs (ti.drop off));have hj:cc[off+i]?=some v:=by simpa using q
   have db:=(cT.1 hj).1;simp[World.cell?,hk,cj db,hj]
 |_,_,_,.ptr (off:=off) hb ho hc hs,hv=>by
  cases hv with
  |ptr e=>
   obtain⟨cc,c',t,hk,ti⟩:=hr.cells e ho hc;refine .fp (vs:=cc.drop off) (λi v q=>c.cells _ _ _ _ _ hb e ho hc _ _ ?_) (zV.sound hr c hs (ti.drop off));have hj:cc[off+i]?=some v:=by simpa using q
   have db:=(cT.1 hj).1;simp[World.cell?,hk,cj db,hj]
 |_,_,_,.fz hs,hv=>by
  cases hv with
  |Cx=>cases hs;exact .Cx
  |Br=>cases hs;exact .Br
  |fz e q t=>exact .fz (λi v h=>c.cut.sk _ _ _ (e i v h)) q (zV.sound hr c hs t)
 |_,_,_,.kB hs,hv=>by cases hv with|kB t=>exact .kB (Fz.sound hr c hs t)
 |_,_,_,.agg hs,hv=>by cases hv with|agg t=>exact .agg (zV.sound hr c hs t)
 |_,_,_,.dN hs,hv=>by cases hv with|dN t=>exact .dN (zV.sound hr c hs t)
theorem zV.sound{h:aG}{nx nx':Nat}{w0 w:World}{r' wI:dG}(hr:HR r' h nx' w0 w)(c:Ru h nx w r' wI):∀{a a':List AV} {v:List Value},zV h nx a a'->eM r' a v->eM wI a' v
 |_,_,_,.nil,hv=>by cases hv;exact .nil
 |_,_,_,.cons ha hl,hv=>by cases hv with|cons e t=>exact .cons (Fz.sound hr c ha e) (zV.sound hr c hl t)
end
open Classical in
def frozen(h:aG)(nx:Nat)(w:World)(r r':dG):dG:=
 ⟨r.m,λk o=>match r'.z k o with
  |some v=>some v
  |none=>if∃b n q cs,nx<=b/\r' b=some (k,n)/\au h b=some q/\q.cells?=some cs then w.cell? ⟨k,o,none⟩else none⟩
theorem HR.freeze(hr:HR r h nx w0 w)(qa:HR r' h' nx' w0 w')(hle:dG.le r r')(hag:∀b,b<nx->r' b=r b)
 (hh:∀b,b<nx->au h' b=au h b):
 HR (frozen h' nx w' r r') h nx w0 w'/\dG.le r (frozen h' nx w' r r')/\Ru h' nx w' r' (frozen h' nx w' r r'):=by
 have hd:∀b x,r b=some x->b<nx:=λb x e=>(hr.xP b x e).1;have M7:Cut nx r' (frozen h' nx w' r r'):=⟨λb x hb e=>by show r b=some x;rw[<-hag b hb];exact e,λk o v e=>by simp only[frozen,e]⟩;have hz:∀k o v,(frozen h' nx w' r r').z k o=some v->r'.z k o=some v\/(∃b n q cs,nx<=b/\r' b=some (k,n)/\au h' b=some q/\q.cells?=some cs)/\w'.cell? ⟨k,o,none⟩=some v:=by
  intro k o v e;simp only[frozen]at e;split at e;.rename_i v' he;left;rw[he];exact e
  .split at e;.rename_i hx;exact .inr ⟨hx,e⟩
   .cases e
 refine⟨⟨qa.below,λk o v e=>?_,λb x e=>⟨hd b x e,(qa.xP b x (hle.1 b x e)).2⟩,λb o k n e1 e2=>?_,λb b' o o' k n n' e e' l l' f f'=>?_⟩,⟨λb x e=>e,λk o v e=>by simp only[frozen,hle.2 k o v e]⟩,M7,λb k n o cs hb e1 e2 e3 i v e4=>?_⟩
 .rcases hz k o v e with e|⟨⟨b,n,q,cs,hb,e1,e2,e3⟩,e4⟩;.refine⟨(qa.sk k o v e).1,λc n1 q e2 e3=>(qa.sk k o v e).2 c n1 q (hle.1 _ _ e2) (by rw[hh c (hd _ _ e2)];exact e3)⟩
  .refine⟨e4,λc n1 q1 f1 f2 l=>?_⟩;have:c=b:=qa.inj c b q1 q k n1 n (by rw[hh c (hd _ _ f1)];exact f2) e2 l (AO.Bi e3) (hle.1 _ _ f1) e1;have:=hd _ _ f1;omega
 .have h1:=(hr.obj b o k n e1 e2).kP hd;exact(qa.obj b o k n (by rw[hh b (hd _ _ e2)];exact e1) (hle.1 _ _ e2)).cut M7 h1
 .exact qa.inj b b' o o' k n n' (by rw[hh b (hd _ _ f)];exact e) (by rw[hh b' (hd _ _ f')];exact e') l l' (hle.1 _ _ f) (hle.1 _ _ f')
 .simp only[frozen];split;.rename_i v' he;rw[(qa.sk k i v' he).1]at e4;exact e4
  .rw[aw ⟨b,n,o,cs,hb,e1,e2,e3⟩];exact e4
theorem aA.sk{Q:AV->Prop}(hc:aA P f args h nx Q')
 (hq:∀v' h' nx',Q' v' h' nx'->(∀b,b<nx->au h' b=au h b)/\∃v,Fz h' nx v' v/\Q v):
 aA P f args h nx λv h1 cm=>Q v/\h1=h/\cm=nx:=
 ⟨hc.1,λr w0 w vs hH hv=>(hc.2 r w0 w vs hH hv).mono λe w' ⟨u,r',v',h',nx',a,b,c,d,e',g,q⟩=>by obtain⟨h1,v,hz,hQ⟩:=hq _ _ _ q;obtain⟨i1,i2,i3⟩:=HR.freeze hH e' b c h1;exact⟨u,_,v,h,nx,a,i2,λ_ _=>rfl,an _,i1,hz.sound e' i3 g,hQ,rfl,rfl⟩⟩
variable{E:jm}{rs:List ResultVar}
section
variable(P:Program)(xt:FuncId->Option Ext)
theorem D7{ops:Array Oper}{K K':BT AV->aG->Nat->Prop}(hk:∀s h nx,K s h nx->K' s h nx):∀(l:List Oper) (s:BT AV) (h:aG) (nx:Nat),vu P xt ops K l s h nx->vu P xt ops K' l s h nx
 |[],_,_,_,hw=>hk _ _ _ hw
 |o::l,s,h,nx,hw=>by
  have ih:=D7 (ops:=ops) hk l;simp only[vu]at hw⊢;cases gJ:dO ops s o with
  |none=>rw[gJ]at hw;exact hw.elim
  |some b=>
   rw[gJ]at hw;cases b with
   |false=>exact ih _ _ _ hw
   |true=>
    simp only[Wop]at hw⊢;split at hw;.rename_i he;rw[aw he];exact Gg P hw λv h nx=>ih _ _ _
    .rename_i he;rw[ak he];generalize dE P h (oZ s) o=q at hw;cases q with
     |none=>exact hw.elim
     |some q=>cases q<;>exact ih _ _ _ hw
theorem Kd{base:Nat}{K K':BT AV->aG->Prop}(hk:∀s h,K s h->K' s h)(l:List Nat)(s:BT AV)(h:aG)(hw:rM P ops base K l s h):rM P ops base K' l s h:=
 uT P l ([],[]) s h ⟨λ_ h=>(by cases h),λ_ h=>(by cases h)⟩ hw λs' h' _=>hk s' h'
theorem GC{ops:Array Oper}{base:Nat}{K K':BT AV->aG->Nat->Prop}(hk:∀s h nx,K s h nx->K' s h nx):∀(pl:cU) (s:BT AV) (h:aG) (nx:Nat),Du P xt ops base K pl s h nx->Du P xt ops base K' pl s h nx
 |[],_,_,_,hw=>hw.elim
 |(new,chk,e)::rest,s,h,nx,hw=>by
  have ih:=GC (ops:=ops) (base:=base) hk rest;simp only[Du]at hw⊢;refine Kd P ?_ new s h hw;intro s h ⟨hc,hw⟩;refine⟨hc,?_⟩;cases e with
  |none=>exact hk _ _ _ hw
  |some e=>
   simp only at hw⊢;cases ho:ops[e]? with
   |none=>rw[ho]at hw;exact hw.elim
   |some o=>
    rw[ho]at hw;simp only at hw⊢;cases gJ:dO ops s o with
    |none=>rw[gJ]at hw;exact hw.elim
    |some b=>
     rw[gJ]at hw;cases b with
     |true=>exact Gg P hw λv h nx=>ih _ _ _
     |false=>exact ih _ _ _ hw
theorem FV{T:Nat->cU}:∀(c:Code) (E E':jm),(∀e s h nx,E e s h nx->E' e s h nx)->∀s h nx,W P xt T c E s h nx->W P xt T c E' s h nx:=by
 intro c
 induction c with
 |ret=>intro E E' hE s h nx hw;exact hE _ _ _ _ hw
 |skip=>intro E E' hE s h nx hw;exact hE _ _ _ _ hw
 |seq a b iha ihb=>
  intro E E' hE s h nx hw;refine iha _ _ ?_ s h nx hw;intro e s h nx he;cases e with
  |iA=>exact ihb _ _ hE _ _ _ he
  |ret=>exact hE _ _ _ _ he
  |out id=>exact hE _ _ _ _ he
 |cond c a b iha ihb=>
  intro E E' hE s h nx ⟨t,ht,hw⟩;refine⟨t,ht,?_⟩;cases t with
  |true=>exact iha _ _ hE _ _ _ hw
  |false=>exact ihb _ _ hE _ _ _ hw
 |block id b ih=>
  intro E E' hE s h nx hw;refine ih _ _ ?_ s h nx hw;intro e s h nx he;cases e with
  |out zQ=>
   simp only[jm.bJ]at he⊢;split at he;.rename_i Gw;rw[aw Gw];exact hE _ _ _ _ he
   .rename_i Gw;rw[ak Gw];exact hE _ _ _ _ he
  |iA=>exact hE _ _ _ _ he
  |ret=>exact hE _ _ _ _ he
 |loop b ih=>
  intro E E' hE s h nx hw X hX;refine hw X λs h nx hb=>hX s h nx (ih _ _ ?_ _ _ _ hb);intro e s h nx he;cases e with
  |iA=>exact he
  |ret=>exact hE _ _ _ _ he
  |out id=>exact hE _ _ _ _ he
 |exit id=>intro E E' hE s h nx hw;exact hE _ _ _ _ hw
 |region id ops draw=>
  intro E E' hE s h nx hw;simp only[W]at hw⊢;split;.rename_i hd;rw[aw hd]at hw;exact GC P xt (λs h nx=>hE _ s h nx) _ _ _ _ hw
  .rename_i hd;rw[ak hd]at hw;exact D7 P xt (λs h nx=>hE _ s h nx) _ _ _ _ hw
 |_=>intro _ _ _ _ _ _ hw;exact hw.elim
theorem cL{T:Nat->cU}{b:Code}(Inv:Nat->BT AV->aG->Nat->Prop)(h0:Inv n s h nx)
 (hs:∀n s h nx,Inv n s h nx->W P xt T b (jm.seq (λs h nx=>∃m,m<n/\Inv m s h nx) E) s h nx):W P xt T (.loop b) E s h nx:=by
 intro X hX;have key:∀n s h nx,Inv n s h nx->X s h nx:=by
  intro n
  induction n using Nat.strongRecOn with
  |_ n ih=>
   intro s h nx hi;refine hX s h nx (FV P xt b _ _ ?_ _ _ _ (hs n s h nx hi));intro e s h nx he;cases e with
   |iA=>obtain⟨m,hm,hi⟩:=he;exact ih m hm s h nx hi
   |ret=>exact he
   |out id=>exact he
 exact key n s h nx h0
def Fin(P:Program)(rs:List ResultVar)(Q:AV->aG->Nat->Prop):jm:=λe s h nx=>match e with
 | .out _=>False
 |_=>∃vs,eo P h s rs=some vs/\Q (one vs) h nx
def Pure(h:aG)(nx:Nat)(Q:AV->Prop):AV->aG->Nat->Prop:=λv h' _=>(∀b,b<nx->au h' b=au h b)/\∃u,Fz h' nx v u/\Q u
theorem aA.aiR(pk:PK P xt)(T:Nat->cU){c:Code}(hf:P.funcs[f]?=some fn)(hb:fn.body=some c)(Re:fn.results.toList=rs)
 (hd:(gM fn.ntmps c&&fh P T c)=true)  (ha:args.length<=fn.ntmps)   
 (hw:W P xt T c (Fin P rs Q) (ey args 0 .nil) h nx):aA P f args h nx Q:=by
 subst Re;rw[aV]at hd;exact aA.aeg P xt pk T hf hb hd.1 hd.2 ha (FV P xt c _ _ (λe s h nx he=>by cases e<;>exact he) _ _ _ hw)
theorem aA.pure(pk:PK P xt)(T:Nat->cU){c:Code}(hf:P.funcs[f]?=some fn)(hb:fn.body=some c)(Re:fn.results.toList=rs)
 (hd:(gM fn.ntmps c&&fh P T c)=true)  (ha:args.length<=fn.ntmps)   {Q:AV->Prop}
 (hw:W P xt T c (Fin P rs (Pure h nx Q)) (ey args 0 .nil) h nx):aA P f args h nx λv h1 cm=>Q v/\h1=h/\cm=nx:=
 (aA.aiR P xt pk T hf hb Re hd ha hw).sk λ_ _ _ q=>q
end
end
end bC
end Go.Proofs.YtonnifoeokagjaaGreat
