/- The theorem plans_holds of OrdersPlans: part 17 of its proof; no conditions. -/
import Derived.Test.YtonnifoeokagjaaGreatF16
import Derived.ProofKit
import Derived.OpenShut
import Derived.Deep.Slices
import Derived.Deep.Fields
import Derived.ChangeSame
namespace Go.Proofs.YtonnifoeokagjaaGreat
set_option linter.all false
set_option maxRecDepth 8000
open Go Go.RowKit
open Tryz
open Nat(reduceAdd reduceMul)
namespace bC
noncomputable section
variable{A:List AV}{b b1 b2 i j n nx nx' sz:Nat}{h h':aG}{ks:List UInt8}{los:List ba}{α:Type}
theorem EK{c:α->List AV}(hc:∀x,(c x).length=sz){l:List α}(hA:A.take (l.length*sz)=l.flatMap c)(hi:i<l.length)(hj:j<sz):iW (i*sz+j) A=(c l[i])[j]?:=by
 rw[kr];have h1:i*sz+j<l.length*sz:=by have:=aI sz (show i+1<=l.length from hi);rw[mw]at this;omega
 rw[<-gK h1,hA];have h2:=dY hc l i;rw[da hi,bG]at h2;rw[show(l.flatMap c)[i*sz+j]?=((l.flatMap c).drop (i*sz))[j]? by rw[gV],h2,cj (by rw[hc];exact hj)]
def DL:Option zv->AV
 |none=> .agg [i6 0,i6 0,.g (.slice none 0 0),.g (.slice none 0 0)]
 |some p=>p.av
def T20:Nat->cU:=λid=>if id=8 then[(z11,[5,6,8],some 12),([],[],some 13),([],[],none)]else if id=17 then[(z12,[],some 13),([14,15,16],[],some 17),([],[],some 18),([],[],none)]else if id=18 then[(z19,[5,7,12,17],some 20),([],[],some 21),([],[],none)]else if id=22 then[(z13,[5,6,11],some 14),([],[],some 15),([],[],none)]else[]
structure Rp.R(r:Rp):Prop where
 jr:r.aJ.Pairwise (· < ·)
 sm:∀y∈r.aJ,y.length<60000
 vW:r.aJ.length<=30000
 kd:r.kd=1\/r.kd=2\/r.kd=3
theorem TB{e:TypeId}(hb:nx<=b)(ho:au h b=some (.cells A e))(hn:n=A.length)(hl:gU nx A):Fz h nx (.sl b 0 n n) (.fz n A):=by subst hn;refine .sl (q:=A.length) hb ho rfl (an _) ?_;rw[j9,oR];exact .cQ hl
theorem FW{a:Int}{n:Int}{A2:List AV}{R:Option zv×Int}(S:aH nx h h')(h1:nx<=b1)(h2:nx<=b2)(g1:au h' b1=some (.cells (los.flatMap fH) 9))(g2:au h' b2=some (.cells A2 5))(e2:A2=ks.flatMap jc)(hR:R=(some ⟨a,n,los,ks⟩,0)):
 Pure h nx (λv=>v= .dN [DL R.1,i6 R.2]) (.dN [.agg [i6 a,i6 n,.sl b1 0 los.length los.length,.sl b2 0 ks.length ks.length],i6 0]) h' nx':=by
 subst e2;rw[hR];refine .dT S (.jS (.agg (.cons .cA (.cons .cA (.cons (TB h1 g1 (by rw[zJ,cJ]) (gU.mem λy hy=>?_)) (.cons (TB h2 g2 (by rw[zg,cJ]) (gU.mem λy hy=>?_)) .nil))))) .cA) rfl;.obtain⟨x,_,hx⟩:=dp.1 hy;exact kJ x y hx
 .obtain⟨x,_,hx⟩:=dp.1 hy;exact Fj x y hx
set_option maxHeartbeats 1000000 in
theorem a20{ls:List Rq}{w:AV}(o:Own Rq.c 131 3 h w ls)(ok:∀e∈ls,Own fH 9 1 h e.v e.r.aJ)(lB:∀b,bZ w=some b->b<nx)(aeM:∀e∈ls,∀b,bZ e.v=some b->b<nx)(hl0:0<ls.length)(hl:ls.length<=12)(hR:∀e∈ls,e.r.R)(x:En):
 aA prog 20 [w,.agg x.cells] h nx (dr (.dN [DL (i' (ls.map Rq.r) x.kd x.a x.b).1,i6 (i' (ls.map Rq.r) x.kd x.a x.b).2]) h nx):=by
 have xl:=x.len;have xc:=x.N5;refine aA.pc 2 T20 func20 ?_;have rl:(ls.map Rq.r).length=ls.length:=bc _;have OP:x.kd=3->i' (ls.map Rq.r) x.kd x.a x.b=if x.a<0\/((ls.map Rq.r).length:Int)<=x.a then(none,21)else if x.b<1\/3<x.b then(none,20)else(some ⟨x.a,1,[((ls.map Rq.r).getD x.a.toNat default).lo],[UInt8.ofNat x.b.toNat]⟩,0):=λq=>by rw[q];rfl
 have Ng:x.kd=4->i' (ls.map Rq.r) x.kd x.a x.b=if x.a<0\/((ls.map Rq.r).length:Int)<=x.a then(none,21)else if((ls.map Rq.r).getD x.a.toNat default).aJ.length<2 then(none,4)else(some ⟨x.a,1,[((ls.map Rq.r).getD x.a.toNat default).lo,Av (((ls.map Rq.r).getD x.a.toNat default).aJ.getD (((ls.map Rq.r).getD x.a.toNat default).aJ.length / 2-1) []) (((ls.map Rq.r).getD x.a.toNat default).aJ.getD (((ls.map Rq.r).getD x.a.toNat default).aJ.length / 2) [])],[UInt8.ofNat ((ls.map Rq.r).getD x.a.toNat default).kd,UInt8.ofNat ((ls.map Rq.r).getD x.a.toNat default).kd]⟩,0):=λq=>by rw[q];rfl
 have NG:x.kd=5->i' (ls.map Rq.r) x.kd x.a x.b=if x.a<0\/((ls.map Rq.r).length:Int)-1<=x.a then(none,21)else(some ⟨x.a,2,[((ls.map Rq.r).getD x.a.toNat default).lo],[UInt8.ofNat ((ls.map Rq.r).getD x.a.toNat default).kd]⟩,0):=λq=>by rw[q];rfl
 have Qw:x.kd≠3->x.kd≠4->x.kd≠5->i' (ls.map Rq.r) x.kd x.a x.b=(none,1):=λk3 k4 k5=>by unfold i';dsimp only;rw[ak k3,ak k4,ak k5]
 generalize i' (ls.map Rq.r) x.kd x.a x.b=R at OP Ng NG Qw⊢;rw[rl]at OP Ng NG;have bad:∀(e:Int) (h':aG) (nx':Nat),aH nx h h'->R=(none,e)->Pure h nx (λv=>v= .dN [DL R.1,i6 R.2]) (.dN [.agg [i6 0,i6 0,.g (.slice none 0 0),.g (.slice none 0 0)],i6 e]) h' nx':=λe h' nx' S q=>by rw[q];exact .dT S (.cQ ⟨⟨trivial,trivial,trivial,trivial,trivial⟩,trivial,trivial⟩) rfl
 obtain⟨b,cap,A,rfl,hA,c1,c2,c3⟩:=o.sl hl0;have bl:=lB b rfl;have b0:¬(b=nx):=ah;have b1:¬(b=nx+1):=ah;have GV:¬(nx=nx+1):=ah;have Iv:¬(nx+1=nx):=ah;have zS:∀i (hi:i<ls.length),iW (i*3) A=some (bR ls[i].r.lo)/\iW (i*3+1) A=some ls[i].v/\iW (i*3+2) A=some (u8 (ls[i].r.kd:Nat)):=λi hi=>⟨EK (sz:=3) (λ_=>rfl) c3 hi (j:=0) bN,EK (sz:=3) (λ_=>rfl) c3 hi (j:=1) bN,EK (sz:=3) (λ_=>rfl) c3 hi (j:=2) bN⟩;have J6:∀i (hi:i<ls.length),(ls.map Rq.r).getD i default=ls[i].r:=λi hi=>by rw[az,ff,aF hi];rfl
 by_cases k3:x.kd=3
 .have er:=OP k3;clear OP Ng NG Qw;by_cases Pj:x.a<0;.rw[aw (.inl Pj)]at er;simp+decide-dsimp only[f20,go_sem,k3,Pj,GV,Iv,reduceAdd];refine bad 21 _ _ ?_ er;exact jh
  by_cases ZZ:(ls.length:Int)<=x.a;.rw[aw (.inr ZZ)]at er;simp+decide-dsimp only[f20,go_sem,k3,Pj,ZZ,GV,Iv,reduceAdd];refine bad 21 _ _ ?_ er;exact jh
  rw[ak ah]at er;by_cases xX:x.b<1;.rw[aw (.inl xX)]at er;simp+decide-dsimp only[f20,go_sem,k3,Pj,ZZ,xX,GV,Iv,reduceAdd];refine bad 20 _ _ ?_ er;exact jh
  by_cases JX:3<x.b;.rw[aw (.inr JX)]at er;simp+decide-dsimp only[f20,go_sem,k3,Pj,ZZ,xX,JX,GV,Iv,reduceAdd];refine bad 20 _ _ ?_ er;exact jh
  rw[ak ah]at er;obtain⟨i,hi⟩:∃i:Nat,x.a=i:=⟨x.a.toNat,ah⟩;have mV:i<ls.length:=ah;obtain⟨r0,r1,r2⟩:=zS i mV;rw[hi,show(i:Int).toNat=i from rfl,J6 i mV]at er;have ha0':¬((i:Int)<0):=ah;have b2:¬(b=nx+1+1+6):=ah;have b3:¬(b=nx+1+1+10):=ah;have m2:¬(nx=nx+1+1+6):=ah;have m3:¬(nx=nx+1+1+10):=ah;have m4:¬(nx+1=nx+1+1+6):=ah;have m5:¬(nx+1=nx+1+1+10):=ah;have ha1':¬((ls.length:Int)<=(i:Int)):=ah;have wb:cF .u8 x.b=x.b:=wrap_u8 ah ah;simp+decide-dsimp only[f20,go_sem,T20,k3,ha0',ha1',xX,JX,hi,mV,hA,b0,b1,b2,b3,m2,m3,m4,m5,GV,Iv,r0,wb,reduceAdd];have eb:((UInt8.ofNat x.b.toNat).toNat:Int)=x.b:=by rw[fF (by show x.b.toNat<256;omega)];omega
  refine FW (b1:=nx+1+1+6) (b2:=nx+1+1+10) (los:=[ls[i].r.lo]) (A2:=[.g (.int .u8 x.b)]) ?_ ah ah ?_ ?_ ?_ er;.exact jh
  .rw[aj,ak ah,aj,ak ah,aj,aw rfl];rfl
  .rw[aj,ak ah,aj,aw rfl]
  .show _=[u8 _];rw[eb]
 by_cases k4:x.kd=4
 .have er:=Ng k4;clear OP Ng NG Qw;by_cases Pj:x.a<0;.rw[aw (.inl Pj)]at er;simp+decide-dsimp only[f20,go_sem,k4,Pj,GV,Iv,reduceAdd];refine bad 21 _ _ ?_ er;exact jh
  by_cases ZZ:(ls.length:Int)<=x.a;.rw[aw (.inr ZZ)]at er;simp+decide-dsimp only[f20,go_sem,k4,Pj,ZZ,GV,Iv,reduceAdd];refine bad 21 _ _ ?_ er;exact jh
  rw[ak ah]at er;obtain⟨i,hi⟩:∃i:Nat,x.a=i:=⟨x.a.toNat,ah⟩;have mV:i<ls.length:=ah;obtain⟨r0,r1,r2⟩:=zS i mV;rw[hi,show(i:Int).toNat=i from rfl,J6 i mV]at er;have ha0':¬((i:Int)<0):=ah;have ha1':¬((ls.length:Int)<=(i:Int)):=ah;have oki:=ok _ (bS mV);have hRi:=hR _ (bS mV);have vW:=hRi.vW;have h16:¬((16:Int)<=(ls.length:Int)):=ah;by_cases h2:ls[i].r.aJ.length<2
  .rw[aw h2]at er;have nU:((ls[i].r.aJ.length:Nat):Int)<2:=ah;have hv:ls[i].v= .g (.slice none 0 0)\/∃vb QP,ls[i].v= .sl vb 0 ls[i].r.aJ.length QP:=by
    rcases oki with⟨e,_⟩|⟨vb,QP,_,e,_⟩;.exact .inl e
    .exact .inr ⟨vb,QP,e⟩
   rcases hv with hv|⟨vb,QP,hv⟩;.rw[hv]at r1;simp+decide-dsimp only[f20,go_sem,k4,ha0',ha1',hi,mV,hA,b0,b1,GV,Iv,r1,reduceAdd];refine bad 4 _ _ ?_ er;exact jh
   .rw[hv]at r1;simp+decide-dsimp only[f20,go_sem,k4,ha0',ha1',hi,mV,hA,b0,b1,GV,Iv,r1,nU,reduceAdd];refine bad 4 _ _ ?_ er;exact jh
  .rw[ak h2]at er;have nU:¬((ls[i].r.aJ.length:Nat):Int)<2:=ah;obtain⟨vb,QP,VA,ev,gv,v1,v2,v3⟩:=oki.sl ah;have vl:=aeM _ (bS mV) vb (by rw[ev];rfl);rw[ev]at r1;have vb0:¬(vb=nx):=ah;have vb1:¬(vb=nx+1):=ah;obtain⟨n,hn⟩:∃n,n=ls[i].r.aJ.length:=⟨_,rfl⟩;rw[<-hn]at er r1 h2 nU vW v1 v3;have q1:n / 2<n:=ah;have q2:1<=n / 2:=ah;have q3:n / 2-1<n:=ah;have q4:n<65536:=ah;have q5:n / 2<9223372036854775808:=ah;have w1:cF .i64 ((n / 2:Nat)-1:Int)=((n / 2-1:Nat):Int):=pC;have nt1:=Je (A:=VA) (los:=ls[i].r.aJ) (by rw[<-hn];exact v3) (k:=n / 2) ah;have nt2:=Je (A:=VA) (los:=ls[i].r.aJ) (by rw[<-hn];exact v3) (k:=n / 2-1) ah;have BJ:=hRi.sm _ (iX (d:=[]) (k:=n / 2) ah);have sm2:=hRi.sm _ (iX (d:=[]) (k:=n / 2-1) ah);have db:ls[i].r.aJ.getD (n / 2-1) []<ls[i].r.aJ.getD (n / 2) []:=by have:=fq.1 hRi.jr (n / 2-1) (n / 2) ah ah ah;rw[az,aF ah,az,aF ah];exact this
   simp+decide-dsimp only[f20,go_sem,T20,k4,ha0',ha1',hi,mV,hA,b0,b1,GV,r1,nU,h16,q1,q3,w1,Qu q4,gv,vb0,vb1,nt1,nt2];refine aZ (a56 _ _ sm2 BJ db) ?_;generalize hq:nx+1+1+Array.size _=nq;have rm:nx+2<=nq:=by rw[<-hq];exact gh _ _
   clear hq;have b2:¬(b=nq+7):=ah;have b3:¬(b=nq+18):=ah;have m2:¬(nx=nq+7):=ah;have m3:¬(nx=nq+18):=ah;have m4:¬(nx+1=nq+7):=ah;have m5:¬(nx+1=nq+18):=ah;simp+decide-dsimp only[go_sem,T20,mV,hA,b0,b1,b2,b3,m4,m5,Iv,r0,r2,reduceAdd];have eb:(UInt8.ofNat ls[i].r.kd).toNat=ls[i].r.kd:=by rcases hRi.kd with e|e|e<;>rw[e]<;>rfl
   refine FW (b1:=nq+7) (b2:=nq+18) (los:=[ls[i].r.lo,Av (ls[i].r.aJ.getD (n / 2-1) []) (ls[i].r.aJ.getD (n / 2) [])]) (A2:=[u8 (ls[i].r.kd:Nat),u8 (ls[i].r.kd:Nat)]) ?_ ah ah ?_ ?_ ?_ er;.exact jh
   .rw[aj,ak ah,aj,ak ah,aj,aw rfl];rfl
   .rw[aj,ak ah,aj,aw rfl]
   .show _=[u8 _,u8 _];rw[eb]
 by_cases k5:x.kd=5
 .have er:=NG k5;clear OP Ng NG Qw;have wl:cF .i64 ((ls.length:Int)-1)=((ls.length-1:Nat):Int):=pC;by_cases Pj:x.a<0;.rw[aw (.inl Pj)]at er;simp+decide-dsimp only[f20,go_sem,k5,Pj,GV,Iv,reduceAdd];refine bad 21 _ _ ?_ er;exact jh
  by_cases ZZ:((ls.length-1:Nat):Int)<=x.a;.rw[aw ah]at er;simp+decide-dsimp only[f20,go_sem,k5,Pj,ZZ,wl,GV,Iv,reduceAdd];refine bad 21 _ _ ?_ er;exact jh
  rw[ak ah]at er;obtain⟨i,hi⟩:∃i:Nat,x.a=i:=⟨x.a.toNat,ah⟩;have mV:i<ls.length:=ah;obtain⟨r0,r1,r2⟩:=zS i mV;rw[hi,show(i:Int).toNat=i from rfl,J6 i mV]at er;have ha0':¬((i:Int)<0):=ah;have ha1':¬(((ls.length-1:Nat):Int)<=(i:Int)):=ah;have hRi:=hR _ (bS mV);have b2:¬(b=nx+1+1+6):=ah;have b3:¬(b=nx+1+1+12):=ah;have m2:¬(nx=nx+1+1+6):=ah;have m3:¬(nx=nx+1+1+12):=ah;have m4:¬(nx+1=nx+1+1+6):=ah;have m5:¬(nx+1=nx+1+1+12):=ah;simp+decide-dsimp only[f20,go_sem,T20,k5,ha0',ha1',wl,hi,mV,hA,b0,b1,b2,b3,m4,m5,GV,Iv,r0,r2,reduceAdd];have eb:(UInt8.ofNat ls[i].r.kd).toNat=ls[i].r.kd:=by rcases hRi.kd with e|e|e<;>rw[e]<;>rfl
  refine FW (b1:=nx+1+1+6) (b2:=nx+1+1+12) (los:=[ls[i].r.lo]) (A2:=[u8 (ls[i].r.kd:Nat)]) ?_ ah ah ?_ ?_ ?_ er;.exact jh
  .rw[aj,ak ah,aj,ak ah,aj,aw rfl];rfl
  .rw[aj,ak ah,aj,aw rfl]
  .show _=[u8 _];rw[eb]
 have er:=Qw k3 k4 k5;have KY:¬((x.kd:Int)=3):=ah;have k4':¬((x.kd:Int)=4):=ah;have k5':¬((x.kd:Int)=5):=ah;simp+decide-dsimp only[f20,go_sem,KY,k4',k5',GV,Iv,reduceAdd];refine bad 1 _ _ ?_ er;exact jh
variable{r:dG}{w w' w0:World}
theorem HR.world(hr:HR r h nx w0 w)(b:Below w.heap.size w w'):HR r h nx w0 w':=by
 refine⟨hr.below.trans (b.mono hr.below.size),λk o v e=>⟨?_,(hr.sk k o v e).2⟩,λc x e=>?_,λc o k n e1 e2=>?_,hr.inj⟩
 .have h1:=(hr.sk k o v e).1;have hk:k<w.heap.size:=by
   rcases bg k w.heap.size with q|q;.exact q
   .have e0:w.heap[k]?=none:=Array.getElem?_eq_none q;simp[World.cell?,e0]at h1
  rw[b.cell (p:=⟨k,o,none⟩) hk];exact h1
 .obtain⟨h1,h2,h3⟩:=hr.xP c x e;exact⟨h1,h2,aP h3 b.size⟩
 .have h3:=(hr.xP c (k,n) e2).2.2;rw[b.block k h3];exact hr.obj c o k n e1 e2
def I8(P:Program)(g:FuncId)(n:Nat):Option AV:=match bI.enter P g [] false with
 |some fr=>match yi P xt n ⟨fr,[],.nil,0⟩with
  |some m=>if m.fr.fn==g then zw P m else none
  |none=>none
 |none=>none
theorem aA.closed{g:FuncId}{v:Value}(hs:I8 prog g n=some (.g v))(h:aG)(nx:Nat):aA prog g [] h nx (dr (.g v) h nx):=by
 unfold I8 at hs;split at hs
 .rename_i fr he;split at hs
  .rename_i m hm;split at hs;.rename_i UH;refine⟨⟨fr,he⟩,λr w0 w vs hH hv cs=>?_⟩;cases hv;obtain⟨f1,cs1,w1,s1,IK⟩:=sW pk n (Hn he (HR.start w) .nil cs) hm;obtain⟨rfl,h2,h3,h4⟩:=Pc IK hs;exact⟨.returned v,w1,f1,⟨v,r,.g v,h,nx,rfl,dG.le_refl r,λ_ _=>rfl,an _,hH.world h4,.g v,rfl,rfl,rfl⟩,s1,h2.trans (by simpa using UH),h3⟩
   .cases hs
  .cases hs
 .cases hs
theorem aib:I8 prog 12 25124=some (.g (.bool true)):=aL
theorem a12:bo 12 [] (bQ true):=λh nx=>aA.closed aib h nx
variable{H:aG}{N dU k pb wb:Nat}{d:Wd}{s:BT AV}
theorem Vv{l:List ba}(h:Kv l=false):l.length<=100/\∀s∈l,s.length<=500:=by unfold Kv at h;rw[kQ]at h;refine⟨by have:=qe h.1;omega,λs hs=>?_⟩;have:=List.any_eq_false.1 h.2 s hs;simpa using this
theorem SP{l:List Ai}(h:AX l=false):l.length<=100:=by unfold AX at h;rw[kQ]at h;have:=qe h.1;omega
theorem i'.IX(l:List Rp)(kd:Nat)(a b:Int):(∃e,i' l kd a b=(none,e)/\e≠0)\/∃p,i' l kd a b=(some p,0)/\p.R:=by
 cases h:i' l kd a b with
 |mk o e=>
  cases o with
  |some p=>
   have R:=i'.R (l:=l) (kd:=kd) (a:=a) (b:=b) (p:=p) (by rw[h]);refine .inr ⟨p,?_,R⟩;unfold i' at h;dsimp only at h
   repeat' split at h
   all_goals first
    |(injection h with h1 h2;subst h2;rfl)
    |(injection h with h1 h2;cases h1)
  |none=>
   refine .inl ⟨e,rfl,?_⟩;unfold i' at h;dsimp only at h
   repeat' split at h
   all_goals first
    |(injection h with h1 h2;cases h1;done)
    |(injection h with h1 h2;subst h2;decide)
def T4:Nat->cU:=λid=>if id=12 then[([0,2,7],[2],some 1),([],[2,7],some 3),([4,5,6],[7],some 8),([],[],some 9),([],[],none)]else if id=13 then[(z8,[],some 9),([10,11,12],[],some 13),([],[],some 14),([],[],none)]else if id=14 then[([0,1,2,3,4,5,6,7,8,9,10,11,12,13,14,16],[],some 15),([],[16],some 17),([18,19],[],some 20),([21,22,23,24],[],some 25),([],[],none)]else if id=18 then[(z12,[],some 13),([14,15,16],[],some 17),([],[],some 18),([],[],none)]else if id=21 then[(z9,[],some 10),([11,12,13],[],some 14),([],[],some 15),([],[],none)]else if id=24 then[(z9,[],some 10),([11,12,13],[],some 14),([],[],some 15),([],[],none)]else if id=26 then[(z4,[],some 5),([6,7,8],[],some 9),([],[],some 10),([],[],none)]else if id=27 then[(z4,[],some 5),([6,7,8],[],some 9),([],[],some 10),([],[],none)]else if id=28 then[(z7,[],some 8),([9,10,11],[],some 12),([],[],some 13),([],[],none)]else[]
def mE:Code->Code
 | .seq a _=>a
 |c=>c
def gL:Code->Code
 | .seq _ b=>b
 |c=>c
theorem nQ{a b:Code}:mE (.seq a b)=a:=bF rfl
theorem mf{a b:Code}:gL (.seq a b)=b:=bF rfl
def L4:Nat->Code
 |0=>f4.body.getD .skip
 |n+1=>gL (L4 n)
abbrev E4:jm:=Fin prog [.tmp 8] λw _ _=>w=bQ true
structure At4(d:Wd)(k:Nat)(x:En)(R:Option zv×Int)(nx pb wb:Nat)(H:aG)(N:Nat):Prop where
 U:d.FN k H N
 w:d.wb=wb
 B:au H nx=some (.cells x.cells 42)
 lt:nx<N
 R:R=i' d.qS x.kd x.a x.b
theorem At4.up{x:En}{R:Option zv×Int}{N':Nat}(o:At4 d k x R nx pb wb H N)(h:N<=N'):At4 d k x R nx pb wb H N':=⟨o.U.same .refl h,o.w,o.B,aP o.lt h,o.R⟩
set_option maxHeartbeats 1000000 in
theorem aes{x:En}{R:Option zv×Int}(o:At4 d k x R nx pb wb H dU)(s7:ao s 7= .ptr nx 0)(s9:ao s 9= .ptr wb 0)(IP:ao s 16=bQ true):W prog xt T4 (L4 10) E4 s H dU:=by
 have xl:=x.len;have xc:=x.N5;have xtk:=x.tk;have B3:=o.B;have UN:au H wb=some (.cells (wB d.eb d.mb d.p.pb d.sb d.xs.length d.cap d.hv d.IE) 35):=by rw[<-o.w];exact o.U.o.w
 have we3:=o.U.o.e;have wm3:=o.U.o.m;have lw:wb<dU:=by rw[<-o.w];exact o.U.o.lt _ (.inl rfl)
 have le:d.eb<dU:=o.U.o.lt _ (.inr (.inl rfl));have lm:d.mb<dU:=o.U.o.lt _ (.inr (.inr (.inl rfl)));have ln:=o.lt;have e4:L4 10=gL (gL (gL (gL (gL (gL (gL (gL (gL (gL (f4.body.getD .skip)))))))))):=rfl;simp+decide-dsimp only[e4,mf,f4,go_sem,T4,s7,s9,B3,UN,xtk];refine bm (akB x) ?_;simp+decide-dsimp only[go_sem,T4,s7,s9,B3,UN,xtk];refine cf (alF x we3 ah) ?_;rintro _ _ N hle ⟨rfl,rfl, -⟩;have wN:¬(wb=N+1):=ah;have mN:¬(d.mb=N+1):=ah;have nN:¬(nx=N+1):=ah;simp+decide-dsimp only[go_sem,T4,s7,s9,B3,UN,wN,nN];refine bm (a8n (eb:=N+1) ((aj _ _ _ _).trans (aw rfl))) ?_;simp+decide-dsimp only[go_sem,s9,UN,wN];refine cf (a11 ((aj _ _ _ _).trans ((ak mN).trans wm3))) ?_;rintro _ h9 n9 an4 -;simp+decide-dsimp only[go_sem,IP]
set_option maxHeartbeats 1000000 in
theorem ahj{x:En}{R:Option zv×Int}(o:At4 d k x R nx pb wb H dU)(s7:ao s 7= .ptr nx 0)(s9:ao s 9= .ptr wb 0)(ym:ao s 14=d.C' R.1)(Hy:ao s 15=i6 R.2)(IP:ao s 16=bQ true):W prog xt T4 (L4 9) E4 s H dU:=by
 have xl:=x.len;have xc:=x.N5;have xtk:=x.tk;have B3:=o.B;have UN:au H wb=some (.cells (wB d.eb d.mb d.p.pb d.sb d.xs.length d.cap d.hv d.IE) 35):=by rw[<-o.w];exact o.U.o.w
 have we3:=o.U.o.e;have wm3:=o.U.o.m;have lw:wb<dU:=by rw[<-o.w];exact o.U.o.lt _ (.inl rfl)
 have le:d.eb<dU:=o.U.o.lt _ (.inr (.inl rfl));have lm:d.mb<dU:=o.U.o.lt _ (.inr (.inr (.inl rfl)));have ln:=o.lt;have hR:=o.R;have rok:∀p,R.1=some p->p.R:=λp hp=>i'.R (by rw[<-hR];exact hp);have J:=d.ak2 R.1;have R23:=λ(v1 v2:AV) (r1:Ur v1 R.1) (r2:Ur v2 R.1)=>a23 r1 r2 rok R.2;have e4:L4 9= .seq (mE (L4 9)) (L4 10):=aL;have e5:mE (L4 9)=mE (gL (gL (gL (gL (gL (gL (gL (gL (gL (f4.body.getD .skip)))))))))):=rfl;rw[e4];have fin:∀(s':BT AV) (N:Nat),dU<=N->ao s' 7= .ptr nx 0->ao s' 9= .ptr wb 0->ao s' 16=bQ true->W prog xt T4 (L4 10) E4 s' H N:=λs' N hN q7 q9 q16=>aes (o.up hN) q7 q9 q16;generalize L4 10=tl at fin;have sw:(x.kd=3/\x.b<0)\/(x.kd=3/\256<=x.b)\/(x.kd=3/\0<=x.b/\x.b<256)\/x.kd=4\/x.kd=5\/(x.kd≠3/\x.kd≠4/\x.kd≠5):=ah;rcases sw with⟨k3,b0⟩|⟨k3,b0⟩|⟨k3,b0,b1⟩|k4|k5|⟨k3,k4,k5⟩
 .have b0':¬(0<=x.b):=ah;have k3:=aM (p:=(x.kd:Int)=3) ah;simp+decide-dsimp only[e5,nQ,mf,f4,go_sem,s7,B3,k3,b0'];refine fin _ _ ah ?_ ?_ ?_<;>simp+decide-dsimp only[go_sem,s7,s9,IP]
 .have b0':0<=x.b:=ah;have b1':¬(x.b<256):=ah;have k3:=aM (p:=(x.kd:Int)=3) ah;simp+decide-dsimp only[e5,nQ,mf,f4,go_sem,s7,B3,k3,b0',b1'];refine fin _ _ ah ?_ ?_ ?_<;>simp+decide-dsimp only[go_sem,s7,s9,IP]
 .have wb:cF .u8 x.b=x.b:=wrap_u8 b0 b1;have C7:∀N,dU<=N->aA prog 7 [.ptr d.eb 0,.ptr d.p.pb 0,i6 x.a,u8 x.b] H N (dr (d.zT R) H N):=λN hN=>by
   have:=a7 (o.U.same .refl hN) x.a (UInt8.ofNat x.b.toNat);have eb:((UInt8.ofNat x.b.toNat).toNat:Int)=x.b:=by rw[fF (by show x.b.toNat<256;omega)];omega
   rw[eb]at this;rw[hR,k3];exact this
  have k3:=aM (p:=(x.kd:Int)=3) ah;simp+decide-dsimp only[e5,nQ,mf,f4,go_sem,T4,s7,s9,B3,UN,k3,b0,b1,wb];refine bm (C7 _ ah) ?_;simp+decide-dsimp only[go_sem,ym,Hy,IP];refine aZ (R23 _ _ J J) ?_;simp+decide-dsimp only[go_sem];refine fin _ _ ah ?_ ?_ ?_<;>simp+decide-dsimp only[go_sem,s7,s9,IP]
 .have C8:∀N,dU<=N->aA prog 8 [.ptr d.eb 0,.ptr d.p.pb 0,i6 x.a] H N (dr (d.zT R) H N):=λN hN=>by rw[hR,k4];exact a8 (o.U.same .refl hN) x.a x.b
  have k3:=aU (p:=(x.kd:Int)=3) ah;have k4:=aM (p:=(x.kd:Int)=4) ah;simp+decide-dsimp only[e5,nQ,mf,f4,go_sem,T4,s7,s9,B3,UN,k3,k4];refine bm (C8 _ ah) ?_;simp+decide-dsimp only[go_sem,ym,Hy,IP];refine aZ (R23 _ _ J J) ?_;simp+decide-dsimp only[go_sem];refine fin _ _ ah ?_ ?_ ?_<;>simp+decide-dsimp only[go_sem,s7,s9,IP]
 .have C9:∀N,dU<=N->aA prog 9 [.ptr d.eb 0,.ptr d.p.pb 0,i6 x.a] H N (dr (d.zT R) H N):=λN hN=>by rw[hR,k5];exact a9 (o.U.same .refl hN) x.a x.b
  have k3:=aU (p:=(x.kd:Int)=3) ah;have k4:=aU (p:=(x.kd:Int)=4) ah;have k5:=aM (p:=(x.kd:Int)=5) ah;simp+decide-dsimp only[e5,nQ,mf,f4,go_sem,T4,s7,s9,B3,UN,k3,k4,k5];refine bm (C9 _ ah) ?_;simp+decide-dsimp only[go_sem,ym,Hy,IP];refine aZ (R23 _ _ J J) ?_;simp+decide-dsimp only[go_sem];refine fin _ _ ah ?_ ?_ ?_<;>simp+decide-dsimp only[go_sem,s7,s9,IP]
 .have k3:=aU (p:=(x.kd:Int)=3) ah;have k4:=aU (p:=(x.kd:Int)=4) ah;have k5:=aU (p:=(x.kd:Int)=5) ah;simp+decide-dsimp only[e5,nQ,mf,f4,go_sem,s7,B3,k3,k4,k5];refine fin _ _ ah ?_ ?_ ?_<;>simp+decide-dsimp only[go_sem,s7,s9,IP]
theorem agb{x:En}{R:Option zv×Int}(o:At4 d k x R nx pb wb H dU)(s7:ao s 7= .ptr nx 0)(s9:ao s 9= .ptr wb 0)(Gt:ao s 12= .ptr pb 0)(Ez:ao s 13=i6 R.2)(ym:ao s 14=d.C' R.1)(Hy:ao s 15=i6 R.2){pc:List AV}(hpc:pc.length=4)(G:au H pb=some (.cells pc 50))(sM:DL R.1= .agg pc):W prog xt T4 (L4 8) E4 s H dU:=by
 have e4:L4 8= .seq (mE (L4 8)) (L4 9):=aL;have e5:mE (L4 8)=mE (gL (gL (gL (gL (gL (gL (gL (gL (f4.body.getD .skip))))))))):=rfl;rw[e4];have fin:∀(s':BT AV) (N:Nat),dU<=N->ao s' 7= .ptr nx 0->ao s' 9= .ptr wb 0->ao s' 14=d.C' R.1->ao s' 15=i6 R.2->ao s' 16=bQ true->W prog xt T4 (L4 9) E4 s' H N:=λs' N hN q7 q9 q14 q15 q16=>ahj (o.up hN) q7 q9 q14 q15 q16;generalize L4 9=tl at fin;have IX:=i'.IX d.qS x.kd x.a x.b;rw[<-o.R]at IX;clear o;rcases IX with⟨e,rfl,he⟩|⟨p,rfl,pR⟩
 .have ym:ao s 14= .g (.pointer none):=ym;have Ez:ao s 13=i6 e:=Ez;have Hy:ao s 15=i6 e:=Hy;simp+decide-dsimp only[e5,nQ,mf,f4,go_sem,T4,Gt,Ez,ym,Hy,he,DX,fj,fB];refine fin _ _ ah ?_ ?_ ?_ ?_ ?_<;>simp+decide-dsimp only[go_sem,s7,s9,ym,Hy,Wd.C']
 .have ym:ao s 14=(d.job p).av:=ym;have Ez:ao s 13=i6 0:=Ez;have Hy:ao s 15=i6 0:=Hy;have sM:AV.agg p.cells= .agg pc:=sM;injection sM with sM
  subst sM;simp+decide-dsimp only[e5,nQ,mf,f4,go_sem,T4,Gt,Ez,ym,Hy,G,xW,fB];have r1:=pR.sm;have r2:=pR.len;refine aZ (a14 (d.job p) (by show p.los.length<_;omega) (by show p.ks.length<_;omega)) ?_;simp+decide-dsimp only[go_sem,Gt,G];refine aZ (a13 p r2 r1) ?_;simp+decide-dsimp only[go_sem,ym];refine aZ (a22 (d.job p)) ?_;simp+decide-dsimp only[go_sem];refine fin _ _ ah ?_ ?_ ?_ ?_ ?_<;>simp+decide-dsimp only[go_sem,s7,s9,ym,Hy,Wd.C']
set_option maxHeartbeats 2000000 in
theorem a4(los:List ba)(ks:List UInt8)(ops:List Ai)(x:En)(y:Ai)(hy:x.op=y.cells)(h:aG)(nx:Nat):aA prog 4 [strs los,GP ks,KI ops,.agg x.cells] h nx λw _ _=>w=bQ true:=by
 have xl:=x.len;have xc:=x.N5;have xtk:=x.tk;refine aA.of (T:=T4) func4 (c:=L4 0) rfl rfl aL (by show 4<=_;decide) ?_;have e4:L4 0= .seq (mE (L4 0)) (.seq (mE (L4 1)) (.seq (mE (L4 2)) (.seq (mE (L4 3)) (.seq (mE (L4 4)) (.seq (mE (L4 5)) (.seq (mE (L4 6)) (.seq (mE (L4 7)) (L4 8)))))))):=aL;have f0:mE (L4 0)=mE (Tryz.f4.body.getD .skip):=rfl;have f1:mE (L4 1)=mE (gL (Tryz.f4.body.getD .skip)):=rfl;have f2:mE (L4 2)=mE (gL (gL (Tryz.f4.body.getD .skip))):=rfl;have f3:mE (L4 3)=mE (gL (gL (gL (Tryz.f4.body.getD .skip)))):=rfl;have f4:mE (L4 4)=mE (gL (gL (gL (gL (Tryz.f4.body.getD .skip))))):=rfl;have f5:mE (L4 5)=mE (gL (gL (gL (gL (gL (Tryz.f4.body.getD .skip)))))):=rfl;have f6:mE (L4 6)=mE (gL (gL (gL (gL (gL (gL (Tryz.f4.body.getD .skip))))))):=rfl;have f7:mE (L4 7)=mE (gL (gL (gL (gL (gL (gL (gL (Tryz.f4.body.getD .skip)))))))):=rfl;rw[e4];have fin:∀{d:Wd} {k:Nat} {R:Option zv×Int} {pb wb:Nat} {H:aG} {N:Nat} (o:At4 d k x R nx pb wb H N) {s:BT AV} (s7:ao s 7= .ptr nx 0) (s9:ao s 9= .ptr wb 0) (Gt:ao s 12= .ptr pb 0) (Ez:ao s 13=i6 R.2) (ym:ao s 14=d.C' R.1) (Hy:ao s 15=i6 R.2) {pc:List AV} (hpc:pc.length=4) (G:au H pb=some (.cells pc 50)) (sM:DL R.1= .agg pc),W prog xt T4 (L4 8) E4 s H N:=λo=>agb o;generalize L4 8=tl at fin;simp+decide-dsimp only[f0,f1,f2,f3,f4,f5,f6,f7,nQ,mf,Tryz.f4,go_sem];refine aZ a12 ?_;simp+decide-dsimp only[go_sem];refine aZ (a15 ops) ?_;cases g1:AX ops with
 |true=>simp+decide-dsimp only[go_sem]
 |false=>
 simp+decide-dsimp only[go_sem];refine aZ (a16 los) ?_;cases g2:Kv los with
 |true=>simp+decide-dsimp only[go_sem]
 |false=>
 simp+decide-dsimp only[go_sem,xtk];rw[hy];refine aZ (a17 y) ?_;cases g3:BD y with
 |true=>simp+decide-dsimp only[go_sem]
 |false=>
 simp+decide-dsimp only[go_sem];obtain⟨l100,l500⟩:=Vv g2;have an2:=SP g1;refine cf (a18 los ks 4096 bN bN l100 l500 _ _) ?_;rintro _ h1 cm l1 ⟨d,rfl,o,ab,S1⟩;have B1:au h1 nx=some (.cells x.cells 42):=by rw[S1 _ (aW _),aj,aw rfl]
 clear S1;simp+decide-dsimp only[go_sem];refine cL _ _ (λmm s h' nx'=>∃(k:Nat) (d':Wd),k<=ops.length/\mm=ops.length-k/\ao s 2=KI ops/\ao s 7= .ptr nx 0/\ao s 9= .ptr d.wb 0/\ao s 11=int k/\(d'.wb=d.wb/\d'.ok k h' nx'/\(∀b,d'.all b->nx+1<=b)/\au h' nx=some (.cells x.cells 42))/\nx+1<=nx') (n:=ops.length) ?_ ?_;.simp+decide-dsimp only[go_sem];exact⟨0,d,aY _,rfl,rfl,⟨rfl,o,ab,B1⟩,l1⟩
 clear o ab B1;rintro mm s h' nx' ⟨k,d',q1,rfl,s2,s7,s9,w8,⟨ew,o,ab,B1⟩,l2⟩;by_cases hk:k<ops.length;.have Cv:(k:Int)<(ops.length:Int):=ah;have w1:k+1<9223372036854775808:=ah;simp+decide-dsimp only[go_sem,s2,s9,w8,hk,Cv];have c19:=a19 o ah l2 ab (ops.getD k default);rw[ew]at c19;refine cf c19 ?_;rintro _ h2 dU l3 ⟨d2,e2,o2,ab2,S2⟩;simp+decide-dsimp only[go_sem,s2,s7,s9,w8,w1];exact⟨ops.length-(k+1),ah,k+1,d2,hk,rfl,rfl,⟨e2,o2,ab2,by rw[S2 _ ah];exact B1⟩,ah⟩
 .have Cv:¬(k:Int)<(ops.length:Int):=ah;have n7:¬(nx=nx'+7):=ah;simp+decide-dsimp only[go_sem,T4,s2,s7,s9,w8,Cv,B1,n7,xtk];generalize hq:nx'+Array.size _=nq;have rm:nx'+8<=nq:=by rw[<-hq];exact eI bN _
  clear hq;have o3:=o.to (h':=aK h' (nx'+7) (.cells [.g (.int .i64 0),.g (.int .i64 0),.g (.slice none 0 0),.g (.slice none 0 0)] 50)) (nx':=nq) (λb hb=>yL) ah (an _);have c21:=a21 o3;rw[ew]at c21;refine cf c21 ?_;rintro w h2 dU l3 ⟨d2,e2,o2,ab2,S2,ls,ow,er,oe,iw,ie⟩;have lrb:=o.lt _ (.inr (.inr (.inr (.inl rfl))));have arb:=ab _ (.inl (.inr (.inr (.inr (.inl rfl)))));have B2:au h2 nx=some (.cells x.cells 42):=by rw[S2 _ ah ah,aj,ak n7];exact B1
  obtain⟨u1,u2⟩:=ow.cells;have B7:au h2 (nx'+7)=some (.cells [.g (.int .i64 0),.g (.int .i64 0),.g (.slice none 0 0),.g (.slice none 0 0)] 50):=by rw[S2 _ ah ah,aj,aw rfl]
  clear S2;simp+decide-dsimp only[go_sem,s7,B2,B7,xtk];have rl:=o2.o.Y0;have bn:=o2.o.bn;have ll:ls.length=d2.qS.length:=by rw[<-er,bc]
  have vW:=bn.vW;have one:=bn.one;refine bm (a20 (ls:=ls) ow oe iw ie ah ah (λe he=>?_) x) ?_
  .have:e.r∈d2.qS:=by rw[<-er];exact List.mem_map_of_mem he
   obtain⟨z,hz,e1⟩:=bu.1 this;obtain⟨r1,r2⟩:=o2.o.zP hz;rw[<-e1];exact⟨r1.jr,λy hy=>mu (r1.pk y hy).2 bN,by show(z.all.map Prod.fst).length<=_;rw[bc];exact r2,(o2.o.P.all z hz).kd⟩
  rw[er];have npb:¬d2.all (nx'+7):=λq=>by
   rcases ab2 _ q with q|q;.have:=o.alt q;omega
   .omega
  have upd:∀ob,d2.FN k (aK h2 (nx'+7) ob) dU:=λob=>o2.upd (λb hb=>(aj _ _ _ _).trans (ak (λe=>npb (by rw[<-e];exact hb)))) (an _);obtain⟨wc,we,wm⟩:au h2 d.wb=some (.cells (wB d2.eb d2.mb d2.p.pb d2.sb d2.xs.length d2.cap d2.hv d2.IE) 35)/\au h2 d2.eb=some (.cells [.ptr d2.rb 0,.ptr d2.ep 0] 65)/\au h2 d2.mb=some (.cells [.g (.slice none 0 0),i6 0,i6 0,bQ false,bQ false] 96):=⟨by rw[<-ew,<-show d2.wb=d'.wb from e2.trans ew.symm];exact o2.o.w,o2.o.e,o2.o.m⟩;have w7:¬(d.wb=nx'+7):=λe=>npb (by rw[<-e];exact .inl (.inl (e2.symm.trans rfl)));have e7:¬(d2.eb=nx'+7):=λe=>npb (by rw[<-e];exact .inl (.inr (.inl rfl)));have m7:¬(d2.mb=nx'+7):=λe=>npb (by rw[<-e];exact .inl (.inr (.inr (.inl rfl))));have IX:=i'.IX d2.qS x.kd x.a x.b;have rok:=λp (hp:(i' d2.qS x.kd x.a x.b).1=some p)=>i'.R hp;obtain⟨R,hR⟩:∃R,R=i' d2.qS x.kd x.a x.b:=⟨_,rfl⟩;rw[<-hR]at IX rok⊢;obtain⟨c1,c2,c3,c4,sM,xy⟩:∃c1 c2 c3 c4,DL R.1= .agg [c1,c2,c3,c4]/\[c1,c2,c3,c4].all AV.cy=true:=by
   cases R.1 with
   |none=>exact⟨_,_,_,_,rfl,rfl⟩
   |some p=>exact⟨_,_,_,_,rfl,rfl⟩
  rw[sM];obtain⟨i1,i2,i3,i4⟩:c1.cy=true/\c2.cy=true/\c3.cy=true/\c4.cy=true:=by simpa using xy
  simp+decide-dsimp only[go_sem,T4,s9,B7,i1,i2,i3,i4,w7,reduceAdd];have U:=upd (.cells [c1,c2,c3,c4] 50);have g1:au (aK h2 (nx'+7) (.cells [c1,c2,c3,c4] 50)) (nx'+7)=some (.cells [c1,c2,c3,c4] 50):=gl;have g2:∀b,b≠nx'+7->au (aK h2 (nx'+7) (.cells [c1,c2,c3,c4] 50)) b=au h2 b:=λb hb=>by rw[aj,ak hb]
  generalize aK h2 (nx'+7) (.cells [c1,c2,c3,c4] 50)=H2 at U g1 g2⊢;have B3:=(g2 _ n7).trans B2;have UN:=(g2 _ w7).trans wc;have we3:=(g2 _ e7).trans we;have wm3:=(g2 _ m7).trans wm;clear g2 upd B7 ow oe iw ie o2;simp+decide-dsimp only[go_sem,s7,s9,wc,B3,UN,xtk];have C10:=λ(N:Nat) (hN:dU<=N)=>a10 (U.same .refl hN) x
  rw[<-hR]at C10;refine bm (C10 _ ah) ?_;simp+decide-dsimp only[go_sem];refine fin (d:=d2) (k:=k) (R:=R) (pb:=nx'+7) (wb:=d.wb) (pc:=[c1,c2,c3,c4]) ⟨U.same .refl ah,?_,B3,ah,hR⟩ ?_ ?_ ?_ ?_ ?_ ?_ rfl g1 sM
  all_goals first
   |exact e2
   |simp+decide-dsimp only[go_sem,s7,s9]
section
open Go Go.RowKit Go.ChangeShapes Go.WideShapes Go.ChangeAt Go.Deep
def pK(W:World):dG:=⟨λ_=>none,λk o=>W.cell? ⟨k,o,none⟩⟩
theorem HR.all(W:World):HR (pK W) .nil 0 W W:=
 ⟨Below.refl _ _,λk o v e=>⟨e,λb n q h=>(by cases h)⟩,λb x h=>(by cases h),λb o k n _ h=>(by cases h),λb b' o o' k n n' _ _ _ _ h=>(by cases h)⟩
theorem add_plain(b off j:Nat):(⟨b,off,none⟩:Addr).add j=⟨b,off+j,none⟩:=by unfold Addr.add;split<;>simp_all
section
variable{H:Type}{enc:TypeId×Value->H}{W:World}{spare:Nat->Bool}{held:Bool}
theorem Ao{t e:TypeId}{sz:Nat}{α:Type}{c:α->List AV}(ht:Tryz.prog.underlying t=some (.slice e))(tz:Tryz.prog.cellsOf e=sz)(h0:0<sz){fuel:Nat}{v:Value}{x:DataW H×List MemPlace}(h:DataW.trod enc Tryz.prog W 0 spare held fuel t [v]=some x)
 (el:∀n cs y,DataW.trod enc Tryz.prog W 0 spare held n e cs=some y->cs.length=sz->∃a:α,eM (pK W) (c a) cs):∃l:List α,VR (pK W) (Jm c l) v:=by
 rcases open_slice ht h with⟨xV,_⟩|⟨a,len,cap,m,n,D,Pl,xV,hb,hl,hm,hmm,hx,hi⟩;.cases xV;exact⟨[],.Cx⟩
 .cases xV;rw[tz]at hi;have MQ:len<=m:=by rw[hmm];split<;>omega
  rcases qd len with rfl|Xn;.exact⟨[],.Br⟩
  obtain⟨b,off,spot⟩:=a;have hs:spot=none:=by
   obtain⟨cs,hc,_⟩:=hi 0 (by omega);obtain⟨_,xy,IJ⟩:=World.cells?_some hc;have h1:=IJ 0 h0;rw[aF (by omega)]at h1;rcases spot with _|s;.rfl
   .simp[Addr.add,World.cell?]at h1;split at h1<;>simp_all
  subst hs;have key:∀j,j<=len->∃(l:List α) (vs:List Value),l.length=j/\vs.length=j*sz/\eM (pK W) (l.flatMap c) vs/\∀i v,vs[i]?=some v->(pK W).z b (off+i)=some v:=by
   intro j
   induction j with
   |zero=>exact λ_=>⟨[],[],rfl,by simp,.nil,λi v h=>by simp at h⟩
   |succ j ih=>
    intro hj;obtain⟨l,vs,e1,e2,e3,e4⟩:=ih (by omega);obtain⟨cs,hc,ht⟩:=hi j (by omega);obtain⟨_,xy,IJ⟩:=World.cells?_some hc;obtain⟨a,ha⟩:=el _ _ _ ht xy;refine⟨l++[a],vs++cs,by rw[aq,e1];rfl,by rw[aq,e2,xy,mw],?_,λi v h=>?_⟩;.rw[cM,List.flatMap_singleton];exact e3.append ha
    .rcases bg i vs.length with q|q;.rw[cj q]at h;exact e4 i v h
     .rw[dh q]at h;have db:=(cT.1 h).1;have h1:=IJ (i-vs.length) (by omega);rw[add_plain,add_plain]at h1;show W.cell? ⟨b,off+i,none⟩=some v;rw[show off+i=off+j*sz+(i-vs.length)by omega,h1,h]
  obtain⟨l,vs,e1,e2,e3,e4⟩:=key len (an _);refine⟨l,?_⟩;show VR _ (.fz l.length (l.flatMap c)) _;rw[e1];exact .fz e4 hl e3
theorem yI{r:dG}(s:ByteArray):VR r (bR s.data.toList) (.string s):=by
 have:bR s.data.toList= .g (.string s):=by show AV.g (.string ⟨s.data.toList.toArray⟩)=_;rw[dF]
 rw[this];exact .g _
theorem QS{n:Nat}{cs:List Value}{y:DataW H×List MemPlace}(h:DataW.trod enc Tryz.prog W 0 spare held n 9 cs=some y):∃a:ba,eM (pK W) (fH a) cs:=by obtain⟨s,rfl,_⟩:=DataW.trod_string Rb h;exact⟨_,.cons (yI s) .nil⟩
theorem FB{n:Nat}{cs:List Value}{y:DataW H×List MemPlace}(h:DataW.trod enc Tryz.prog W 0 spare held n 5 cs=some y):∃k:Nat,k<256/\cs=[.int .u8 k]:=by obtain⟨k,rfl,_,w⟩:=DataW.trod_int UX h;have b:=bounds_u8 w;exact⟨k.toNat,by omega,by rw[show((k.toNat:Nat):Int)=k by omega]⟩
theorem YO{n:Nat}{cs:List Value}{y:DataW H×List MemPlace}(h:DataW.trod enc Tryz.prog W 0 spare held n 5 cs=some y):∃a:UInt8,eM (pK W) (jc a) cs:=by obtain⟨k,hk,rfl⟩:=FB h;refine⟨UInt8.ofNat k,.cons ?_ .nil⟩;rw[fF (by show k<256;omega)];exact .g _
theorem EN{n:Nat}{cs:List Value}{y:DataW H×List MemPlace}(h:DataW.trod enc Tryz.prog W 0 spare held n 4 cs=some y):∃b,cs=[.bool b]:=by obtain⟨b,rfl,_⟩:=DataW.trod_bool tu4 h;exact⟨b,rfl⟩
theorem kL{t:TypeId}{fs:Array Field}{n:Nat}{cs:List Value}{y:DataW H×List MemPlace}(ht:Tryz.prog.underlying t=some (.struct fs))(h:DataW.trod enc Tryz.prog W 0 spare held n t cs=some y)(i:Nat){ft:TypeId}{off k:Nat}(hf:(fs[i]?).map (λf=>(f.type,f.offset))=some (ft,off))(hk:Tryz.prog.cellsOf ft=k):
 ∃m z,DataW.trod enc Tryz.prog W 0 spare held m ft ((cs.drop off).take k)=some z:=by
 obtain⟨xs,m,_,_,_,hl,hx⟩:=DataW.trod_struct ht h;cases hfi:fs[i]? with
 |none=>rw[hfi]at hf;cases hf
 |some f=>
  rw[hfi]at hf;injection hf with hf
  injection hf with h1 h2
  subst h1;subst h2;subst hk;have db:i<xs.length:=by rw[hl];exact(Array.getElem?_eq_some_iff.1 hfi).1
  exact⟨m,_,(hx i f hfi).trans (aF db)⟩
theorem yM:Tryz.prog.cellsOf 9=1:=by kernel_rfl
theorem JD:Tryz.prog.cellsOf 4=1:=by kernel_rfl
theorem JI:Tryz.prog.cellsOf 5=1:=by kernel_rfl
theorem Ri:Tryz.prog.cellsOf 3=1:=by kernel_rfl
theorem WJ:Tryz.prog.cellsOf 38=1:=by kernel_rfl
theorem Lx:Tryz.prog.cellsOf 40=7:=by kernel_rfl
theorem ZY:Tryz.prog.cellsOf 42=10:=by kernel_rfl
theorem Tu:Tryz.prog.cellsOf 107=3:=by kernel_rfl
theorem Vw{n:Nat}{cs:List Value}{y:DataW H×List MemPlace}(h:DataW.trod enc Tryz.prog W 0 spare held n 107 cs=some y)(hl:cs.length=3):∃a:Wr,eM (pK W) a.cells cs:=by
 match cs,hl with
 |[v0,v1,v2],_=>
 obtain⟨_,_,h0⟩:=kL Tryz.underlying107 h 0 rfl yM;obtain⟨_,_,h1⟩:=kL Tryz.underlying107 h 1 rfl yM;obtain⟨_,_,h2⟩:=kL Tryz.underlying107 h 2 rfl JD;obtain⟨s0,e0,_⟩:=DataW.trod_string Rb h0;obtain⟨s1,e1,_⟩:=DataW.trod_string Rb h1;obtain⟨b2,e2⟩:=EN h2;cases e0;cases e1;cases e2;exact⟨⟨_,_,b2⟩,.cons (yI s0) (.cons (yI s1) (.cons (.g _) .nil))⟩
theorem Lr{n:Nat}{cs:List Value}{y:DataW H×List MemPlace}(h:DataW.trod enc Tryz.prog W 0 spare held n 40 cs=some y)(hl:cs.length=7):∃a:Ai,eM (pK W) a.cells cs:=by
 match cs,hl with
 |[v0,v1,v2,v3,v4,v5,v6],_=>
 obtain⟨_,_,h0⟩:=kL Tryz.underlying40 h 0 rfl JI;obtain⟨_,_,h1⟩:=kL Tryz.underlying40 h 1 rfl yM;obtain⟨_,_,h2⟩:=kL Tryz.underlying40 h 2 rfl yM;obtain⟨_,_,h3⟩:=kL Tryz.underlying40 h 3 rfl yM;obtain⟨_,_,h4⟩:=kL Tryz.underlying40 h 4 rfl JD;obtain⟨_,_,h5⟩:=kL Tryz.underlying40 h 5 rfl JD;obtain⟨_,_,h6⟩:=kL Tryz.underlying40 h 6 rfl WJ;obtain⟨k,_,e0⟩:=FB h0;obtain⟨s1,e1,_⟩:=DataW.trod_string Rb h1;obtain⟨s2,e2,_⟩:=DataW.trod_string Rb h2;obtain⟨s3,e3,_⟩:=DataW.trod_string Rb h3;obtain⟨b4,e4⟩:=EN h4;obtain⟨b5,e5⟩:=EN h5;obtain⟨ws,hw⟩:=Ao aiS Tu (by decide) h6 λn cs y h hl=>Vw h hl;cases e0;cases e1;cases e2;cases e3;cases e4;cases e5;exact⟨⟨k,_,_,_,b4,b5,ws⟩,.cons (.g _) (.cons (yI s1) (.cons (yI s2) (.cons (yI s3) (.cons (.g _) (.cons (.g _) (.cons hw .nil))))))⟩
theorem Xw{n:Nat}{cs:List Value}{y:DataW H×List MemPlace}(h:DataW.trod enc Tryz.prog W 0 spare held n 42 cs=some y)(hl:cs.length=10):∃(k:Nat) (a b:Int) (o:Ai),eM (pK W) (u8 (k:Nat)::i6 a::i6 b::o.cells) cs:=by
 match cs,hl with
 |[v0,v1,v2,v3,v4,v5,v6,v7,v8,v9],_=>
 obtain⟨_,_,h0⟩:=kL Tryz.underlying42 h 0 rfl JI;obtain⟨_,_,h1⟩:=kL Tryz.underlying42 h 1 rfl Ri;obtain⟨_,_,h2⟩:=kL Tryz.underlying42 h 2 rfl Ri;obtain⟨_,_,h3⟩:=kL Tryz.underlying42 h 3 rfl Lx;obtain⟨k,_,e0⟩:=FB h0;obtain⟨a,e1,_⟩:=DataW.trod_int Da h1;obtain⟨b,e2,_⟩:=DataW.trod_int Da h2;obtain⟨o,ho⟩:=Lr h3 rfl;cases e0;cases e1;cases e2;exact⟨k,a,b,o,.cons (.g _) (.cons (.g _) (.cons (.g _) ho))⟩
end
end
end
end bC
end Go.Proofs.YtonnifoeokagjaaGreat
