/- The theorem plans_holds of OrdersPlans: part 8 of its proof; no conditions. -/
import Derived.Test.YtonnifoeokagjaaGreatF07
namespace Go.Proofs.YtonnifoeokagjaaGreat
set_option linter.all false
set_option maxRecDepth 8000
open Go Go.RowKit
open Tryz
open Nat(reduceAdd reduceMul)
namespace bC
noncomputable section
variable{gu i j:Nat}{nu:Nd}
theorem AB{lo:Nat->ba}{s:Nat}{n:Nd}(hR:n.R)(tE:∀i,i<n.aJ.length->lo s<n.aJ.getD i [])(hi:i<=n.aJ.length):¬jd lo s n i<lo s:=by
 unfold jd;split;.exact cw
 .exact cX (tE (i-1) ah)
theorem Al{n:Nd}(hR:n.R){k:ba}(hk:kK n i=true->k<lO n i)(hb:n.bd=true):k<n.cR:=by
 unfold kK lO at hk;split at hk;.rename_i h;refine dZ (hk rfl) ?_;have:=hR.wk i h;rw[hb]at this;simpa using this
 .exact hk hb
section
variable{Pk:ba->Prop}{σ:LI}{aO:Hd}{lo:Nat->ba}{lv:Nat->Nat}{iJ:Nat->Prop}
theorem KZ{lo:Nat->ba}{s:Nat}{n:Nd}(hR:n.R)(tE:∀i,i<n.aJ.length->lo s<n.aJ.getD i [])(CT:i<j)(hj:j<=n.aJ.length):jd lo s n i<jd lo s n j:=by
 unfold jd;rw[ak (show¬j=0 from ah)];split;.exact tE _ ah
 .exact hR.lt ah ah
theorem Bz{lo:Nat->ba}{s:Nat}{n:Nd}(hR:n.R)(tE:∀i,i<n.aJ.length->lo s<n.aJ.getD i [])(hi:i<=n.aJ.length)(hj:j<=n.aJ.length)(he:jd lo s n i=jd lo s n j):i=j:=by
 rcases cI i j with h|h|h;.exact absurd (KZ hR tE h hj) (by rw[he];exact cw)
 .exact h
 .exact absurd (KZ hR tE h hi) (by rw[he];exact cw)
theorem BI.one(I:BI Pk σ aO lo lv iJ){u t gt:Nat}{nt:Nd}(hu:σ u=some (gu,nu))(ht:σ t=some (gt,nt))(ul:nu.aE=false)(tl:nt.aE=false)(hi:i<nu.bU.length)(hj:j<nt.bU.length)
 (he:(nu.bU.getD i default).ao=(nt.bU.getD j default).ao):t=u:=by
 obtain⟨m,h1,h2,h3,h4,h5⟩:=I.lQ _ _ _ hu ul i hi;obtain⟨m',q1,q2,q3,q4,q5⟩:=I.lQ _ _ _ ht tl j hj;rw[<-he]at q1 q2 q3;rw[h1]at q1;injection q1 with q1;injection q1 with q0 q1;subst q1;by_cases cx:t=u;.exact cx
 exfalso;have yG:=I.r _ _ _ hu;have hRt:=I.r _ _ _ ht;have lu:∀i,i<nu.aJ.length->lo u<nu.aJ.getD i []:=λi hi=>(I.cQ _ _ _ hu i hi).2 ul
 have lt:∀i,i<nt.aJ.length->lo t<nt.aJ.getD i []:=λi hi=>(I.cQ _ _ _ ht i hi).2 tl;have iu:i<=nu.aJ.length:=by have:=(yG.nd ul).2;omega
 have it:j<=nt.aJ.length:=by have:=(hRt.nd tl).2;omega
 have a1:¬lo (nu.bU.getD i default).ao<lo u:=by rw[h3];exact AB yG lu iu
 have a2:¬lo (nu.bU.getD i default).ao<lo t:=by rw[q3];exact AB hRt lt it
 have b:m.bd=true->lo (nu.bU.getD i default).ao<m.cR:=I.tB _ _ _ h1;have c1:nu.bd=true->lo (nu.bU.getD i default).ao<nu.cR:=Al yG (i:=i) (λh=>by rw[<-h5];exact b (by rw[h4];exact h));have c2:nt.bd=true->lo (nu.bU.getD i default).ao<nt.cR:=Al hRt (i:=j) (λh=>by rw[<-q5];exact b (by rw[q4];exact h));rcases I.uniq _ _ _ _ _ _ ht hu ah cx with⟨e1,e2⟩|⟨e1,e2⟩
 .exact e2 (kG a1 (c2 e1))
 .exact e2 (kG a2 (c1 e1))
theorem BI.split{s g u gu i:Nat}{n nu:Nd}{x:Hd}(I:BI Pk σ aO lo lv (· =s))(hs:σ s=some (g,n))(h5:n.aJ.length=5)(hx:σ x.ao=none)(hu:σ u=some (gu,nu))(ul:nu.aE=false)
 (hi:i<nu.bU.length) (hk:nu.bU.getD i default=⟨s,g⟩) (hr:aO.ao≠s):
 nu.dI n.sep=true/\nu.has n.sep=false/\BI Pk (up (up (up σ s (g,n.left x)) x.ao (x.bk,n.right)) u (gu,nu.add n.sep x)) aO (λt=>if t=x.ao then n.sep else lo t) (λt=>if t=x.ao then lv s else lv t) (· =u):=by
 have ri:=I.r _ _ _ hs;have yG:=I.r _ _ _ hu;obtain⟨m,k1,k2,k3,k4,k5⟩:=I.lQ _ _ _ hu ul i hi;rw[hk]at k1 k2 k3;rw[show σ (Hd.mk s g).ao=σ s from rfl,hs]at k1;injection k1 with k1;injection k1 with _ k1;subst k1
 have k2:lv s+1=lv u:=k2;have k3:lo s=jd lo u nu i:=k3;have hsu:s≠u:=λe=>by subst e;omega
 have ko:x.ao≠s:=λe=>by rw[e,hs]at hx;cases hx
 have vz:x.ao≠u:=λe=>by rw[e,hu]at hx;cases hx
 have lu:∀i,i<nu.aJ.length->lo u<nu.aJ.getD i []:=λi hi=>(I.cQ _ _ _ hu i hi).2 ul;have iu:i<=nu.aJ.length:=by have:=(yG.nd ul).2;omega
 have adE:nu.aJ.length<=4:=by
  rcases I.small _ _ _ hu with h|h;.exact h
  .exact absurd h.1.symm hsu
 have r8:n.sep=n.aJ.getD 2 []:=FI ri h5;have f1:lo s<n.sep:=by rw[r8];have a:=I.cQ _ _ _ hs 0 ah;exact kG a.1 (ri.lt ah ah)
 have f2:n.bd=true->n.sep<n.cR:=λh=>by have:=ri.wk 2 ah;rw[h,<-r8]at this;simpa using this
 have f3:¬lo s<lo u:=by rw[k3];exact AB yG lu iu
 have f4:lo u<n.sep:=kG f3 f1;have sM:place nu.aJ n.sep=i:=by
  refine AQ _ _ _ iu (λj hj=>?_) (λh=>?_)
  .have e:lo s=nu.aJ.getD (i-1) []:=by rw[k3];unfold jd;rw[ak ah]
   rcases bg j (i-1)with h|h;.exact dZ (yG.lt h ah) (by rw[<-e];exact f1)
   .have:j=i-1:=ah;rw[this,<-e];exact f1
  .have e:n.cR=nu.aJ.getD i []:=by rw[k5];unfold lO;rw[aw h]
   have eb:n.bd=true:=by rw[k4];unfold kK;rw[aw h]
   rw[<-e];exact cX (f2 eb)
 have nh:nu.dI n.sep=true:=fZ.2 (Al yG (i:=i) λh=>by rw[<-k5];exact f2 (by rw[k4];exact h));have Hg:nu.has n.sep=false:=by
  unfold Nd.has;rw[sM];by_cases h:i<nu.aJ.length
  .have e:n.cR=nu.aJ.getD i []:=by rw[k5];unfold lO;rw[aw h]
   have eb:n.bd=true:=by rw[k4];unfold kK;rw[aw h]
   have:¬nu.aJ.getD i []=n.sep:=λq=>by rw[<-e]at q;exact cw (q▸f2 eb)
   rw[aU this,Bool.and_false]
  .rw[aU h,oc]
 refine⟨nh,Hg,?_⟩;have nA:(nu.add n.sep x).aJ=ins nu.aJ i n.sep:=by show ins nu.aJ (place nu.aJ n.sep) n.sep=_;rw[sM]
 have H9:(nu.add n.sep x).bU=ins nu.bU (i+1) x:=by show ins nu.bU (place nu.aJ n.sep+1) x=_;rw[sM]
 have mQ:(nu.add n.sep x).aJ.length=nu.aJ.length+1:=by rw[nA,lC iu]
 have TW:(nu.add n.sep x).bU.length=nu.bU.length+1:=by rw[H9,lC ah]
 have tK:∀t,t≠x.ao->(if t=x.ao then n.sep else lo t)=lo t:=λt h=>ak h;have tZ:∀t,t≠x.ao->(if t=x.ao then lv s else lv t)=lv t:=λt h=>ak h;have old:∀{t g1 m},σ t=some (g1,m)->t≠x.ao:=λh e=>by rw[e,hx]at h;cases h
 have gu':up (up (up σ s (g,n.left x)) x.ao (x.bk,n.right)) u (gu,nu.add n.sep x) u=some (gu,nu.add n.sep x):=cO;have Mv:up (up (up σ s (g,n.left x)) x.ao (x.bk,n.right)) u (gu,nu.add n.sep x) x.ao=some (x.bk,n.right):=by rw[cH vz,cO]
 have CZ:up (up (up σ s (g,n.left x)) x.ao (x.bk,n.right)) u (gu,nu.add n.sep x) s=some (g,n.left x):=by rw[cH hsu,cH ko.symm,cO]
 have go':∀t,t≠u->t≠x.ao->t≠s->up (up (up σ s (g,n.left x)) x.ao (x.bk,n.right)) u (gu,nu.add n.sep x) t=σ t:=λt h1 h2 h3=>by rw[cH h1,cH h2,cH h3]
 generalize hσ':up (up (up σ s (g,n.left x)) x.ao (x.bk,n.right)) u (gu,nu.add n.sep x)=σ' at gu' Mv CZ go';have get:∀{t g1 m},σ' t=some (g1,m)->(t=u/\g1=gu/\m=nu.add n.sep x)\/(t=x.ao/\g1=x.bk/\m=n.right)\/(t=s/\g1=g/\m=n.left x)\/((t≠u/\t≠x.ao/\t≠s)/\σ t=some (g1,m)):=by
  intro t g1 m h;by_cases h1:t=u;.subst h1;rw[gu']at h;injection h with h;injection h with q1 q2;exact .inl ⟨rfl,q1.symm,q2.symm⟩
  by_cases h2:t=x.ao;.subst h2;rw[Mv]at h;injection h with h;injection h with q1 q2;exact .inr (.inl ⟨rfl,q1.symm,q2.symm⟩)
  by_cases h3:t=s;.subst h3;rw[CZ]at h;injection h with h;injection h with q1 q2;exact .inr (.inr (.inl ⟨rfl,q1.symm,q2.symm⟩))
  .rw[go' t h1 h2 h3]at h;exact .inr (.inr (.inr ⟨⟨h1,h2,h3⟩,h⟩))
 have put:∀{t g1 m},σ t=some (g1,m)->∃m',σ' t=some (g1,m')/\(t≠s->m'.bd=m.bd/\m'.cR=m.cR)/\m'.aE=m.aE:=by
  intro t g1 m h;by_cases h1:t=u
  .subst h1;rw[hu]at h;injection h with h;injection h with q1 q2;subst q1;subst q2
   exact⟨_,gu',λ_=>⟨rfl,rfl⟩,rfl⟩
  by_cases h3:t=s
  .subst h3;rw[hs]at h;injection h with h;injection h with q1 q2;subst q1;subst q2
   exact⟨_,CZ,λq=>absurd rfl q,rfl⟩
  .exact⟨m,by rw[go' t h1 (old h) h3];exact h,λ_=>⟨rfl,rfl⟩,rfl⟩
 have vO:=vh ri h5;have Gv:(n.left x).aJ.length=2:=by rw[ij ri h5,ax,h5];rfl
 have Cs:∀i,i<n.bU.length->n.aE=false->∃m',σ' (n.bU.getD i default).ao=some ((n.bU.getD i default).bk,m')/\(n.bU.getD i default).ao≠x.ao/\lv (n.bU.getD i default).ao+1=lv s/\lo (n.bU.getD i default).ao=jd lo s n i/\m'.bd=kK n i/\m'.cR=lO n i:=by
  intro i hi hl;obtain⟨m',h1,h2,h3,h4,h5⟩:=I.lQ _ _ _ hs hl i hi;obtain⟨m2,p1,p2,_⟩:=put h1;have:(n.bU.getD i default).ao≠s:=λe=>by rw[e]at h2;omega
  exact⟨m2,p1,old h1,h2,h3,by rw[(p2 this).1,h4],by rw[(p2 this).2,h5]⟩
 refine⟨λt g1 m h=>?_,λt g1 m h=>?_,λt g1 m h=>?_,λt g1 m h=>?_,λt g1 m h hb=>?_,λt g1 m h jL j hj=>?_,λt g1 m h jL nT=>?_,λt g1 m t' g1' m' h h' zq cx=>?_,?_,λt g1 m h jL=>?_,λt g1 m h=>?_⟩
 .rcases get h with⟨rfl,rfl,rfl⟩|⟨rfl,rfl,rfl⟩|⟨rfl,rfl,rfl⟩|⟨_,h⟩;.exact yG.add ul adE nh Hg x
  .exact Nd.R.right ri h5
  .exact Nd.R.left ri h5
  .exact I.r _ _ _ h
 .rcases get h with⟨rfl,rfl,rfl⟩|⟨rfl,rfl,rfl⟩|⟨rfl,rfl,rfl⟩|⟨cx,h⟩
  .rw[mQ];rcases bg nu.aJ.length 4 with h|h
   .exact .inl ah
   .exact .inr ⟨rfl,ah⟩
  .left;rw[vO];split<;>omega
  .left;rw[Gv];omega
  .rcases I.small _ _ _ h with h|h;.exact .inl h
   .exact absurd h.1 cx.2.2
 .rcases get h with⟨rfl,rfl,rfl⟩|⟨rfl,rfl,rfl⟩|⟨rfl,rfl,rfl⟩|⟨cx,h⟩;.rw[tZ _ vz.symm];exact show nu.aE=true↔_ from I.aE _ _ _ hu
  .rw[aw rfl];exact show n.aE=true↔_ from I.aE _ _ _ hs
  .rw[tZ _ ko.symm];exact show n.aE=true↔_ from I.aE _ _ _ hs
  .rw[tZ _ cx.2.1];exact I.aE _ _ _ h
 .rcases get h with⟨rfl,rfl,rfl⟩|⟨rfl,rfl,rfl⟩|⟨rfl,rfl,rfl⟩|⟨cx,h⟩
  .intro j hj;rw[tK _ vz.symm,nA];rw[mQ]at hj;have:lo t<(ins nu.aJ i n.sep).getD j []:=by
    rcases cI j i with q|q|q;.rw[me q iu];exact lu _ ah
    .rw[q,mF iu];exact f4
    .rw[kH q iu];exact lu _ ah
   exact⟨cX this,λ_=>this⟩
  .intro j hj;rw[aw rfl,mP ri h5,r8];rw[vO]at hj;cases hl:n.aE with
   |true=>
    rw[hl]at hj;simp only[cz]at hj⊢;refine⟨?_,λh=>by rw[show n.right.aE=n.aE from rfl,hl]at h;cases h⟩;cases j with
    |zero=>exact cw
    |succ j=>exact cX (ri.lt ah ah)
   |false=>rw[hl]at hj;simp only[dk,cC]at hj⊢;have:=ri.lt (show 2<3+j from ah) ah;exact⟨cX this,λ_=>this⟩
  .intro j hj;rw[Gv]at hj;rw[tK _ ko.symm,ij ri h5,ig hj];exact I.cQ _ _ _ hs j ah
  .rw[tK _ cx.2.1];exact I.cQ _ _ _ h
 .rcases get h with⟨rfl,rfl,rfl⟩|⟨rfl,rfl,rfl⟩|⟨rfl,rfl,rfl⟩|⟨cx,h⟩;.rw[tK _ vz.symm];exact show lo _<nu.cR from I.tB _ _ _ hu hb
  .rw[aw rfl];exact f2 hb
  .rw[tK _ ko.symm];exact f1
  .rw[tK _ cx.2.1];exact I.tB _ _ _ h hb
 .rcases get h with⟨rfl,rfl,rfl⟩|⟨rfl,rfl,rfl⟩|⟨rfl,rfl,rfl⟩|⟨cx,h⟩
  .rw[TW]at hj;rw[H9];have kin:∀q,q<nu.bU.length->q≠i->∃m',σ' (nu.bU.getD q default).ao=some ((nu.bU.getD q default).bk,m')/\(nu.bU.getD q default).ao≠x.ao/\lv (nu.bU.getD q default).ao+1=lv t/\lo (nu.bU.getD q default).ao=jd lo t nu q/\m'.bd=kK nu q/\m'.cR=lO nu q:=by
    intro q hq hqi;obtain⟨m',h1,h2,h3,h4,h5⟩:=I.lQ _ _ _ hu ul q hq;have cx:(nu.bU.getD q default).ao≠s:=λe=>by rw[e,k3]at h3;have:=(yG.nd ul).2;exact hqi (Bz yG lu iu ah h3).symm
    obtain⟨m2,p1,p2,_⟩:=put h1;exact⟨m2,p1,old h1,h2,h3,by rw[(p2 cx).1,h4],by rw[(p2 cx).2,h5]⟩
   have ukl:=(yG.nd ul).2;rcases cI j (i+1)with q|q|q
   .rw[me q ah];have eL:jd (λt=>if t=x.ao then n.sep else lo t) t (nu.add n.sep x) j=jd lo t nu j:=by
     unfold jd;simp only[tK _ vz.symm,nA];split;.rfl
     .rw[me ah iu]
    by_cases hji:j=i
    .subst hji;rw[hk];refine⟨n.left x,CZ,?_,?_,?_,?_⟩;.rw[tZ _ ko.symm,tZ _ vz.symm];exact k2
     .rw[tK _ ko.symm,eL];exact k3
     .unfold kK;rw[aw (by rw[mQ];omega)];rfl
     .unfold lO;rw[aw (by rw[mQ];omega),nA,mF iu];rfl
    .obtain⟨m',p1,p2,p3,p4,p5,p6⟩:=kin j ah hji;refine⟨m',p1,?_,?_,?_,?_⟩;.rw[tZ _ p2,tZ _ vz.symm,p3]
     .rw[tK _ p2,eL,p4]
     .rw[p5];unfold kK;rw[aw ah,aw (by rw[mQ];omega)]
     .rw[p6];unfold lO;rw[aw ah,aw (by rw[mQ];omega),nA,me ah iu]
   .subst q;rw[mF ah];refine⟨n.right,Mv,?_,?_,?_,?_⟩;.rw[aw rfl,tZ _ vz.symm];exact k2
    .rw[aw rfl];unfold jd;rw[ak ah,nA,fv,mF iu]
    .show n.bd=_;rw[k4];unfold kK;rw[mQ];by_cases h:i<nu.aJ.length;.rw[aw h,aw ah]
     .rw[ak h,ak ah];rfl
    .show n.cR=_;rw[k5];unfold lO;rw[mQ,nA];by_cases h:i<nu.aJ.length;.rw[aw h,aw ah,kH ah iu,fv]
     .rw[ak h,ak ah];rfl
   .rw[kH q ah];obtain⟨m',p1,p2,p3,p4,p5,p6⟩:=kin (j-1) ah ah;refine⟨m',p1,?_,?_,?_,?_⟩;.rw[tZ _ p2,tZ _ vz.symm,p3]
    .rw[tK _ p2,p4];unfold jd;rw[ak ah,ak ah,nA,kH ah iu]
    .rw[p5];unfold kK;rw[mQ];by_cases h:j<nu.aJ.length+1;.rw[aw ah,aw h]
     .rw[ak ah,ak h];rfl
    .rw[p6];unfold lO;rw[mQ,nA];by_cases h:j<nu.aJ.length+1;.rw[aw ah,aw h,kH ah iu]
     .rw[ak ah,ak h];rfl
  .have hl:n.aE=false:=jL;have ek:n.right.bU=n.bU.drop 3:=by show(if n.aE then n.bU else n.bU.drop (n.lY+1))=_;rw[hl,ak bL,oj ri h5]
   have nkl:=(ri.nd hl).2;rw[ek]at hj⊢;rw[aC]at hj;rw[oz];obtain⟨m',p1,p2,p3,p4,p5,p6⟩:=Cs (3+j) ah hl;rw[hl]at vO;simp only[dk,cC]at vO;have eg:∀q,n.right.aJ.getD q []=n.aJ.getD (3+q) []:=λq=>by rw[mP ri h5,hl];rfl
   refine⟨m',p1,?_,?_,?_,?_⟩;.rw[tZ _ p2,aw rfl,p3]
   .rw[tK _ p2,p4];unfold jd;rw[ak ah];simp only[cz];split;.rename_i e;subst e;exact r8.symm
    .rw[eg];congr 1;omega
   .rw[p5];unfold kK;rw[vO];by_cases h:j<2;.rw[aw ah,aw ah]
    .rw[ak ah,ak ah];rfl
   .rw[p6];unfold lO;rw[vO,eg];by_cases h:j<2;.rw[aw ah,aw ah]
    .rw[ak ah,ak ah];rfl
  .have hl:n.aE=false:=jL;have ek:(n.left x).bU=n.bU.take 3:=by show(if n.aE then n.bU else n.bU.take (n.lY+1))=_;rw[hl,ak bL,oj ri h5]
   have nkl:=(ri.nd hl).2;rw[ek]at hj⊢;rw[ax]at hj;rw[ig ah];obtain⟨m',p1,p2,p3,p4,p5,p6⟩:=Cs j ah hl;refine⟨m',p1,?_,?_,?_,?_⟩;.rw[tZ _ p2,tZ _ ko.symm,p3]
   .rw[tK _ p2,p4];unfold jd;simp only[tK _ ko.symm,ij ri h5];split;.rfl
    .rw[ig ah]
   .rw[p5];unfold kK;rw[aw ah];split<;>rfl
   .rw[p6];unfold lO;rw[aw ah,Gv];by_cases h:j<2;.rw[aw h,ij ri h5,ig h]
    .rw[ak h];have:j=2:=ah;subst this;exact r8.symm
  .obtain⟨m',h1,h2,h3,h4,h5⟩:=I.lQ _ _ _ h jL j hj;have US:(m.bU.getD j default).ao≠s:=λe=>cx.1 (I.one hu h ul jL hi hj (by rw[hk];exact e.symm));obtain⟨m2,p1,p2,_⟩:=put h1;refine⟨m2,p1,?_,?_,by rw[(p2 US).1,h4],by rw[(p2 US).2,h5]⟩;.rw[tZ _ (old h1),tZ _ cx.2.1,h2]
   .rw[tK _ (old h1),h3];unfold jd;simp only[tK _ cx.2.1]
 .rcases get h with⟨rfl,rfl,rfl⟩|⟨rfl,rfl,rfl⟩|⟨rfl,rfl,rfl⟩|⟨cx,h⟩;.rw[show(nu.add n.sep x).aE=nu.aE from rfl,ul]at jL;cases jL
  .obtain⟨m',h1,h2,h3⟩:=I.next _ _ _ hs jL nT;obtain⟨m2,p1,_,p3⟩:=put h1;exact⟨m2,p1,by rw[p3,h2],(tK n.next.ao (old h1)).trans h3⟩
  .exact⟨_,Mv,jL,aw rfl⟩
  .obtain⟨m',h1,h2,h3⟩:=I.next _ _ _ h jL nT;obtain⟨m2,p1,_,p3⟩:=put h1;exact⟨m2,p1,by rw[p3,h2],by rw[tK _ (old h1)];exact h3⟩
 .have src:∀{t g1 m},σ' t=some (g1,m)->∃q go no,σ q=some (go,no)/\(if t=x.ao then lv s else lv t)=lv q/\(¬(if t=x.ao then n.sep else lo t)<lo q)/\(no.bd=true->m.bd=true/\¬no.cR<m.cR)/\(q=t\/(q=s/\t=x.ao)):=by
   intro t g1 m h;rcases get h with⟨rfl,rfl,rfl⟩|⟨rfl,rfl,rfl⟩|⟨rfl,rfl,rfl⟩|⟨cx,h⟩
   .exact⟨t,_,_,hu,tZ _ vz.symm,by rw[tK _ vz.symm];exact cw,λh=>⟨h,cw⟩,.inl rfl⟩
   .exact⟨s,_,_,hs,aw rfl,by rw[aw rfl];exact cX f1,λh=>⟨h,cw⟩,.inr ⟨rfl,rfl⟩⟩
   .exact⟨t,_,_,hs,tZ _ ko.symm,by rw[tK _ ko.symm];exact cw,λh=>⟨rfl,cX (f2 h)⟩,.inl rfl⟩
   .exact⟨t,_,_,h,tZ _ cx.2.1,by rw[tK _ cx.2.1];exact cw,λh=>⟨h,cw⟩,.inl rfl⟩
  obtain⟨q,go,no,a1,a2,a3,a4,a5⟩:=src h;obtain⟨q',go',no',b1,b2,b3,b4,b5⟩:=src h';by_cases hq:q=q'
  .subst hq;have:(t=s/\t'=x.ao)\/(t=x.ao/\t'=s):=by
    rcases a5 with a5|a5<;>rcases b5 with b5|b5;.exact absurd (a5.symm.trans b5) cx
    .exact .inl ⟨by rw[<-a5,b5.1],b5.2⟩
    .exact .inr ⟨a5.2,by rw[<-b5,a5.1]⟩
    .exact absurd (a5.2.trans b5.2.symm) cx
   rcases this with⟨rfl,rfl⟩|⟨rfl,rfl⟩
   .rw[CZ]at h;injection h with h;injection h with _ h;subst h
    exact .inl ⟨rfl,by rw[aw rfl];exact cw⟩
   .rw[CZ]at h';injection h' with h';injection h' with _ h';subst h'
    exact .inr ⟨rfl,by rw[aw rfl];exact cw⟩
  .rcases I.uniq _ _ _ _ _ _ a1 b1 (by rw[<-a2,<-b2];exact zq) hq with⟨e1,e2⟩|⟨e1,e2⟩;.obtain⟨c1,c2⟩:=a4 e1;exact .inl ⟨c1,ja (ja c2 e2) b3⟩
   .obtain⟨c1,c2⟩:=b4 e1;exact .inr ⟨c1,ja (ja c2 e2) a3⟩
 .obtain⟨m,h1,h2,h3⟩:=I.rt;obtain⟨m2,p1,p2,_⟩:=put h1;exact⟨m2,p1,by rw[tK _ (old h1)];exact h2,by rw[(p2 hr).1,h3]⟩
 .rcases get h with⟨rfl,rfl,rfl⟩|⟨rfl,rfl,rfl⟩|⟨rfl,rfl,rfl⟩|⟨_,h⟩;.rw[show(nu.add n.sep x).aE=nu.aE from rfl,ul]at jL;cases jL
  .intro k hk;rw[qL ri h5]at hk;exact I.aJ _ _ _ hs jL k (ir hk)
  .intro k hk;rw[ij ri h5]at hk;exact I.aJ _ _ _ hs jL k (ef hk)
  .exact I.aJ _ _ _ h jL
 .obtain⟨mr,r1,_⟩:=I.rt;rw[tZ _ (old r1)];rcases get h with⟨rfl,rfl,rfl⟩|⟨rfl,rfl,rfl⟩|⟨rfl,rfl,rfl⟩|⟨cx,h⟩;.rw[tZ _ vz.symm];exact I.top _ _ _ hu
  .rw[aw rfl];exact I.top _ _ _ hs
  .rw[tZ _ ko.symm];exact I.top _ _ _ hs
  .rw[tZ _ cx.2.1];exact I.top _ _ _ h
def qU(k:ba)(a b:Hd):Nd:={aE:=false,aJ:=[k],fQ:=[],bU:=[a,b],cR:=[],bd:=false,next:=⟨0,0⟩}
theorem BI.Oq{s g:Nat}{n:Nd}{x y:Hd}(I:BI Pk σ aO lo lv (· =s))(hs:σ s=some (g,n))(h5:n.aJ.length=5)(hx:σ x.ao=none)(hy:σ y.ao=none)(FP:x.ao≠y.ao)(hr:aO=⟨s,g⟩):
 BI Pk (up (up (up σ s (g,n.left x)) x.ao (x.bk,n.right)) y.ao (y.bk,qU n.sep aO x)) y (λt=>if t=y.ao then[]else if t=x.ao then n.sep else lo t) (λt=>if t=y.ao then lv s+1 else if t=x.ao then lv s else lv t) (λ_=>False):=by
 have ri:=I.r _ _ _ hs;have ko:x.ao≠s:=λe=>by rw[e,hs]at hx;cases hx
 have CE:y.ao≠s:=λe=>by rw[e,hs]at hy;cases hy
 have r8:n.sep=n.aJ.getD 2 []:=FI ri h5;obtain⟨mr,r1,r2,r3⟩:=I.rt;rw[hr]at r1 r2;rw[show σ (Hd.mk s g).ao=σ s from rfl,hs]at r1;injection r1 with r1;injection r1 with _ r1;subst r1
 have r2:lo s=[]:=r2;have nT:n.bd=false:=r3;have C4:=ri.hi nT;have top:∀t g1 m,σ t=some (g1,m)->lv t<=lv s:=λt g1 m h=>by have:=I.top _ _ _ h;rw[hr]at this;exact this
 have f1:lo s<n.sep:=by rw[r8];have a:=I.cQ _ _ _ hs 0 ah;exact kG a.1 (ri.lt ah ah)
 have old:∀{t g1 m},σ t=some (g1,m)->t≠x.ao/\t≠y.ao:=λh=>⟨(λe=>by rw[e,hx]at h;cases h),(λe=>by rw[e,hy]at h;cases h)⟩;have tK:∀t,t≠x.ao->t≠y.ao->(if t=y.ao then([]:ba)else if t=x.ao then n.sep else lo t)=lo t:=λt h h'=>by rw[ak h',ak h]
 have tZ:∀t,t≠x.ao->t≠y.ao->(if t=y.ao then lv s+1 else if t=x.ao then lv s else lv t)=lv t:=λt h h'=>by rw[ak h',ak h]
 have xol:(if x.ao=y.ao then([]:ba)else if x.ao=x.ao then n.sep else lo x.ao)=n.sep:=by rw[ak FP,aw rfl]
 have xov:(if x.ao=y.ao then lv s+1 else if x.ao=x.ao then lv s else lv x.ao)=lv s:=by rw[ak FP,aw rfl]
 have gy':up (up (up σ s (g,n.left x)) x.ao (x.bk,n.right)) y.ao (y.bk,qU n.sep aO x) y.ao=some (y.bk,qU n.sep aO x):=cO;have Mv:up (up (up σ s (g,n.left x)) x.ao (x.bk,n.right)) y.ao (y.bk,qU n.sep aO x) x.ao=some (x.bk,n.right):=by rw[cH FP,cO]
 have CZ:up (up (up σ s (g,n.left x)) x.ao (x.bk,n.right)) y.ao (y.bk,qU n.sep aO x) s=some (g,n.left x):=by rw[cH CE.symm,cH ko.symm,cO]
 have go':∀t,t≠y.ao->t≠x.ao->t≠s->up (up (up σ s (g,n.left x)) x.ao (x.bk,n.right)) y.ao (y.bk,qU n.sep aO x) t=σ t:=λt h1 h2 h3=>by rw[cH h1,cH h2,cH h3]
 generalize up (up (up σ s (g,n.left x)) x.ao (x.bk,n.right)) y.ao (y.bk,qU n.sep aO x)=σ' at gy' Mv CZ go';have get:∀{t g1 m},σ' t=some (g1,m)->(t=y.ao/\g1=y.bk/\m=qU n.sep aO x)\/(t=x.ao/\g1=x.bk/\m=n.right)\/(t=s/\g1=g/\m=n.left x)\/((t≠y.ao/\t≠x.ao/\t≠s)/\σ t=some (g1,m)):=by
  intro t g1 m h;by_cases h1:t=y.ao;.subst h1;rw[gy']at h;injection h with h;injection h with q1 q2;exact .inl ⟨rfl,q1.symm,q2.symm⟩
  by_cases h2:t=x.ao;.subst h2;rw[Mv]at h;injection h with h;injection h with q1 q2;exact .inr (.inl ⟨rfl,q1.symm,q2.symm⟩)
  by_cases h3:t=s;.subst h3;rw[CZ]at h;injection h with h;injection h with q1 q2;exact .inr (.inr (.inl ⟨rfl,q1.symm,q2.symm⟩))
  .rw[go' t h1 h2 h3]at h;exact .inr (.inr (.inr ⟨⟨h1,h2,h3⟩,h⟩))
 have put:∀{t g1 m},σ t=some (g1,m)->∃m',σ' t=some (g1,m')/\(t≠s->m'.bd=m.bd/\m'.cR=m.cR)/\m'.aE=m.aE:=by
  intro t g1 m h;by_cases h3:t=s
  .subst h3;rw[hs]at h;injection h with h;injection h with q1 q2;subst q1;subst q2
   exact⟨_,CZ,λq=>absurd rfl q,rfl⟩
  .exact⟨m,by rw[go' t (old h).2 (old h).1 h3];exact h,λ_=>⟨rfl,rfl⟩,rfl⟩
 have vO:=vh ri h5;have Gv:(n.left x).aJ.length=2:=by rw[ij ri h5,ax,h5];rfl
 have Cs:∀i,i<n.bU.length->n.aE=false->∃m',σ' (n.bU.getD i default).ao=some ((n.bU.getD i default).bk,m')/\((n.bU.getD i default).ao≠x.ao/\(n.bU.getD i default).ao≠y.ao)/\lv (n.bU.getD i default).ao+1=lv s/\lo (n.bU.getD i default).ao=jd lo s n i/\m'.bd=kK n i/\m'.cR=lO n i:=by
  intro i hi hl;obtain⟨m',h1,h2,h3,h4,h5⟩:=I.lQ _ _ _ hs hl i hi;obtain⟨m2,p1,p2,_⟩:=put h1;have:(n.bU.getD i default).ao≠s:=λe=>by rw[e]at h2;omega
  exact⟨m2,p1,old h1,h2,h3,by rw[(p2 this).1,h4],by rw[(p2 this).2,h5]⟩
 refine⟨λt g1 m h=>?_,λt g1 m h=>?_,λt g1 m h=>?_,λt g1 m h=>?_,λt g1 m h hb=>?_,λt g1 m h jL j hj=>?_,λt g1 m h jL nT=>?_,λt g1 m t' g1' m' h h' zq cx=>?_,?_,λt g1 m h jL=>?_,λt g1 m h=>?_⟩
 .rcases get h with⟨rfl,rfl,rfl⟩|⟨rfl,rfl,rfl⟩|⟨rfl,rfl,rfl⟩|⟨_,h⟩;.refine⟨λi hi=>?_,λi hi=>rfl,λ_=>rfl,(λh=>by cases h),λ_=>⟨rfl,rfl⟩,by show 1<60000;omega⟩;have:i+1<1:=hi;omega
  .exact Nd.R.right ri h5
  .exact Nd.R.left ri h5
  .exact I.r _ _ _ h
 .rcases get h with⟨rfl,rfl,rfl⟩|⟨rfl,rfl,rfl⟩|⟨rfl,rfl,rfl⟩|⟨cx,h⟩;.left;show 1<=4;omega
  .left;rw[vO];split<;>omega
  .left;rw[Gv];omega
  .rcases I.small _ _ _ h with h|h;.exact .inl h
   .exact absurd h.1 cx.2.2
 .rcases get h with⟨rfl,rfl,rfl⟩|⟨rfl,rfl,rfl⟩|⟨rfl,rfl,rfl⟩|⟨cx,h⟩;.rw[aw rfl];exact⟨(λh=>by cases h),λh=>ah⟩
  .rw[xov];exact show n.aE=true↔_ from I.aE _ _ _ hs
  .rw[tZ _ ko.symm CE.symm];exact show n.aE=true↔_ from I.aE _ _ _ hs
  .rw[tZ _ cx.2.1 cx.1];exact I.aE _ _ _ h
 .rcases get h with⟨rfl,rfl,rfl⟩|⟨rfl,rfl,rfl⟩|⟨rfl,rfl,rfl⟩|⟨cx,h⟩
  .intro j hj;have hj:j<1:=hj;have:j=0:=ah;subst this;rw[aw rfl];have:([]:ba)<n.sep:=by rw[<-r2];exact f1
   exact⟨kj,λ_=>this⟩
  .intro j hj;rw[xol,mP ri h5,r8];rw[vO]at hj;cases hl:n.aE with
   |true=>
    rw[hl]at hj;simp only[cz]at hj⊢;refine⟨?_,λh=>by rw[show n.right.aE=n.aE from rfl,hl]at h;cases h⟩;cases j with
    |zero=>exact cw
    |succ j=>exact cX (ri.lt ah ah)
   |false=>rw[hl]at hj;simp only[dk,cC]at hj⊢;have:=ri.lt (show 2<3+j from ah) ah;exact⟨cX this,λ_=>this⟩
  .intro j hj;rw[Gv]at hj;rw[tK _ ko.symm CE.symm,ij ri h5,ig hj];exact I.cQ _ _ _ hs j ah
  .rw[tK _ cx.2.1 cx.1];exact I.cQ _ _ _ h
 .rcases get h with⟨rfl,rfl,rfl⟩|⟨rfl,rfl,rfl⟩|⟨rfl,rfl,rfl⟩|⟨cx,h⟩;.cases hb
  .rw[show n.right.bd=n.bd from rfl,nT]at hb;cases hb
  .rw[tK _ ko.symm CE.symm];exact f1
  .rw[tK _ cx.2.1 cx.1];exact I.tB _ _ _ h hb
 .rcases get h with⟨rfl,rfl,rfl⟩|⟨rfl,rfl,rfl⟩|⟨rfl,rfl,rfl⟩|⟨cx,h⟩
  .have hj:j<2:=hj;rcases bg j 1 with q|q
   .have:j=0:=ah;subst this;refine⟨n.left x,?_,?_,?_,rfl,rfl⟩;.show σ' aO.ao=some (aO.bk,_);rw[hr];exact CZ
    .have e:aO.ao=s:=by rw[hr]
     show(if aO.ao=y.ao then lv s+1 else if aO.ao=x.ao then lv s else lv aO.ao)+1=(if y.ao=y.ao then lv s+1 else _);rw[aw rfl,e,tZ _ ko.symm CE.symm]
    .have e:aO.ao=s:=by rw[hr]
     show(if aO.ao=y.ao then([]:ba)else if aO.ao=x.ao then n.sep else lo aO.ao)=jd _ _ _ 0;rw[e,tK _ ko.symm CE.symm,r2];unfold jd;simp
   .have:j=1:=ah;subst this;refine⟨n.right,Mv,?_,?_,nT,C4⟩;.show(if x.ao=y.ao then lv s+1 else if x.ao=x.ao then lv s else lv x.ao)+1=(if y.ao=y.ao then lv s+1 else _);rw[xov,aw rfl]
    .show(if x.ao=y.ao then([]:ba)else if x.ao=x.ao then n.sep else lo x.ao)=_;rw[xol];rfl
  .have hl:n.aE=false:=jL;have ek:n.right.bU=n.bU.drop 3:=by show(if n.aE then n.bU else n.bU.drop (n.lY+1))=_;rw[hl,ak bL,oj ri h5]
   have nkl:=(ri.nd hl).2;rw[ek]at hj⊢;rw[aC]at hj;rw[oz];obtain⟨m',p1,p2,p3,p4,p5,p6⟩:=Cs (3+j) ah hl;rw[hl]at vO;simp only[dk,cC]at vO;have eg:∀q,n.right.aJ.getD q []=n.aJ.getD (3+q) []:=λq=>by rw[mP ri h5,hl];rfl
   refine⟨m',p1,?_,?_,?_,?_⟩;.rw[tZ _ p2.1 p2.2,xov,p3]
   .rw[tK _ p2.1 p2.2,p4];unfold jd;rw[ak ah];simp only[xol];split;.rename_i e;subst e;exact r8.symm
    .rw[eg];congr 1;omega
   .rw[p5];unfold kK;rw[vO];by_cases h:j<2;.rw[aw ah,aw ah]
    .rw[ak ah,ak ah];rfl
   .rw[p6];unfold lO;rw[vO,eg];by_cases h:j<2;.rw[aw ah,aw ah]
    .rw[ak ah,ak ah];rfl
  .have hl:n.aE=false:=jL;have ek:(n.left x).bU=n.bU.take 3:=by show(if n.aE then n.bU else n.bU.take (n.lY+1))=_;rw[hl,ak bL,oj ri h5]
   have nkl:=(ri.nd hl).2;rw[ek]at hj⊢;rw[ax]at hj;rw[ig ah];obtain⟨m',p1,p2,p3,p4,p5,p6⟩:=Cs j ah hl;refine⟨m',p1,?_,?_,?_,?_⟩;.rw[tZ _ p2.1 p2.2,tZ _ ko.symm CE.symm,p3]
   .rw[tK _ p2.1 p2.2,p4];unfold jd;simp only[tK _ ko.symm CE.symm,ij ri h5];split;.rfl
    .rw[ig ah]
   .rw[p5];unfold kK;rw[aw ah];split<;>rfl
   .rw[p6];unfold lO;rw[aw ah,Gv];by_cases h:j<2;.rw[aw h,ij ri h5,ig h]
    .rw[ak h];have:j=2:=ah;subst this;exact r8.symm
  .obtain⟨m',h1,h2,h3,h4,h5⟩:=I.lQ _ _ _ h jL j hj;have US:(m.bU.getD j default).ao≠s:=λe=>by rw[e]at h2;have:=top _ _ _ h;omega
   obtain⟨m2,p1,p2,_⟩:=put h1;refine⟨m2,p1,?_,?_,by rw[(p2 US).1,h4],by rw[(p2 US).2,h5]⟩;.rw[tZ _ (old h1).1 (old h1).2,tZ _ cx.2.1 cx.1,h2]
   .rw[tK _ (old h1).1 (old h1).2,h3];unfold jd;simp only[tK _ cx.2.1 cx.1]
 .rcases get h with⟨rfl,rfl,rfl⟩|⟨rfl,rfl,rfl⟩|⟨rfl,rfl,rfl⟩|⟨cx,h⟩;.cases jL
  .obtain⟨m',h1,h2,h3⟩:=I.next _ _ _ hs jL nT;obtain⟨m2,p1,_,p3⟩:=put h1;exact⟨m2,p1,by rw[p3,h2],(tK n.next.ao (old h1).1 (old h1).2).trans h3⟩
  .exact⟨_,Mv,jL,xol⟩
  .obtain⟨m',h1,h2,h3⟩:=I.next _ _ _ h jL nT;obtain⟨m2,p1,_,p3⟩:=put h1;exact⟨m2,p1,by rw[p3,h2],by rw[tK _ (old h1).1 (old h1).2];exact h3⟩
 .have src:∀{t g1 m},σ' t=some (g1,m)->t≠y.ao->∃q go no,σ q=some (go,no)/\(if t=y.ao then lv s+1 else if t=x.ao then lv s else lv t)=lv q/\(¬(if t=y.ao then[]else if t=x.ao then n.sep else lo t)<lo q)/\(no.bd=true->m.bd=true/\¬no.cR<m.cR)/\(q=t\/(q=s/\t=x.ao)):=by
   intro t g1 m h Db;rcases get h with⟨rfl,rfl,rfl⟩|⟨rfl,rfl,rfl⟩|⟨rfl,rfl,rfl⟩|⟨cx,h⟩
   .exact absurd rfl Db
   .exact⟨s,_,_,hs,xov,by rw[xol];exact cX f1,λh=>⟨h,cw⟩,.inr ⟨rfl,rfl⟩⟩
   .exact⟨t,_,_,hs,tZ _ ko.symm CE.symm,by rw[tK _ ko.symm CE.symm];exact cw,λh=>(by rw[nT]at h;cases h),.inl rfl⟩
   .exact⟨t,_,_,h,tZ _ cx.2.1 cx.1,by rw[tK _ cx.2.1 cx.1];exact cw,λh=>⟨h,cw⟩,.inl rfl⟩
  by_cases ty:t=y.ao
  .by_cases ty':t'=y.ao;.exact absurd (ty.trans ty'.symm) cx
   .obtain⟨q',go',no',b1,b2,_⟩:=src h' ty';rw[b2,ty,aw rfl]at zq;have:=top _ _ _ b1;omega
  by_cases ty':t'=y.ao;.obtain⟨q',go',no',b1,b2,_⟩:=src h ty;rw[b2,ty',aw rfl]at zq;have:=top _ _ _ b1;omega
  obtain⟨q,go,no,a1,a2,a3,a4,a5⟩:=src h ty;obtain⟨q',go',no',b1,b2,b3,b4,b5⟩:=src h' ty';by_cases hq:q=q'
  .subst hq;have:(t=s/\t'=x.ao)\/(t=x.ao/\t'=s):=by
    rcases a5 with a5|a5<;>rcases b5 with b5|b5;.exact absurd (a5.symm.trans b5) cx
    .exact .inl ⟨by rw[<-a5,b5.1],b5.2⟩
    .exact .inr ⟨a5.2,by rw[<-b5,a5.1]⟩
    .exact absurd (a5.2.trans b5.2.symm) cx
   rcases this with⟨rfl,rfl⟩|⟨rfl,rfl⟩
   .rw[CZ]at h;injection h with h;injection h with _ h;subst h
    exact .inl ⟨rfl,by rw[xol];exact cw⟩
   .rw[CZ]at h';injection h' with h';injection h' with _ h';subst h'
    exact .inr ⟨rfl,by rw[xol];exact cw⟩
  .rcases I.uniq _ _ _ _ _ _ a1 b1 (by rw[<-a2,<-b2];exact zq) hq with⟨e1,e2⟩|⟨e1,e2⟩;.obtain⟨c1,c2⟩:=a4 e1;exact .inl ⟨c1,ja (ja c2 e2) b3⟩
   .obtain⟨c1,c2⟩:=b4 e1;exact .inr ⟨c1,ja (ja c2 e2) a3⟩
 .exact⟨_,gy',aw rfl,rfl⟩
 .rcases get h with⟨rfl,rfl,rfl⟩|⟨rfl,rfl,rfl⟩|⟨rfl,rfl,rfl⟩|⟨_,h⟩;.cases jL
  .intro k hk;rw[qL ri h5]at hk;exact I.aJ _ _ _ hs jL k (ir hk)
  .intro k hk;rw[ij ri h5]at hk;exact I.aJ _ _ _ hs jL k (ef hk)
  .exact I.aJ _ _ _ h jL
 .rw[aw rfl];rcases get h with⟨rfl,rfl,rfl⟩|⟨rfl,rfl,rfl⟩|⟨rfl,rfl,rfl⟩|⟨cx,h⟩
  .rw[aw rfl];exact an _
  .rw[xov];omega
  .rw[tZ _ ko.symm CE.symm];omega
  .rw[tZ _ cx.2.1 cx.1];have:=top _ _ _ h;omega
end
variable{K:AV->aG->Nat->Prop}{Pk:ba->Prop}{args:List AV}{f:FuncId}{h h':aG}{hd:Hd}{iJ:Nat->Prop}{lv:Nat->Nat}{nx nx':Nat}{tA tC:TypeId}{α:Type}
def cV{α:Type}(es:List (jE α)):Nat->Option (Nat×α):=λs=>(es.find? (λe=>e.ao==s)).map λe=>(e.bk,e.x)
theorem lG{es:List (jE α)}{s g:Nat}{n:α}(h:cV es s=some (g,n)):∃e∈es,e.ao=s/\e.bk=g/\e.x=n:=by
 unfold cV at h;cases hf:es.find? (λe=>e.ao==s)with
 |none=>rw[hf]at h;cases h
 |some e=>
  rw[hf]at h;injection h with h;injection h with h1 h2
  exact⟨e,List.mem_of_find?_eq_some hf,by have:=List.find?_some hf;simpa using this,h1,h2⟩
theorem qI{es:List (jE α)}(hn:(es.map jE.ao).Nodup){e:jE α}(he:e∈es):cV es e.ao=some (e.bk,e.x):=by
 unfold cV;cases hf:es.find? (λf=>f.ao==e.ao)with
 |none=>have:=vN.1 hf e he;simp at this
 |some f=>
  have h1:=List.mem_of_find?_eq_some hf;have h2:f.ao=e.ao:=by have:=List.find?_some hf;simpa using this
  rw[jw hn h1 he h2];rfl
theorem qn{es:List (jE α)}{s:Nat}(h:∀e∈es,e.ao≠s):cV es s=none:=by unfold cV;rw[vN.2 (λe he=>by simpa using h e he)];rfl
theorem Ar.ok.aX{enc:α->List AV}{a:Ar α}(o:Ar.ok enc tA tC a h nx)(s:aH nx h h')(hn:nx<=nx'):Ar.ok enc tA tC a h' nx':=
 ⟨by rw[s _ o.la];exact o.ar,by rw[s _ o.lm];exact o.mp,λe he=>by rw[s _ (o.fr e he).2.2];exact o.cl e he,o.rK,o.IL,λe he=>⟨(o.fr e he).1,(o.fr e he).2.1,aP (o.fr e he).2.2 hn⟩,o.ne,aP o.la hn,aP o.lm hn⟩
structure Bl where
 tb:Nat
 a:Ar Nd
 aO:Hd
 size:Int
structure Bl.ok(t:Bl)(h:aG)(nx:Nat):Prop where
 tr:au h t.tb=some (.cells [.ptr t.a.pb 0,.ptr t.a.ab 0,int t.aO.ao,u64 t.aO.bk,.g (.int .i64 t.size),bQ false] 249)
 ok:NAr.ok t.a h nx
 d1:t.tb≠t.a.ab
 d2:t.tb≠t.a.mb
 d3:∀e∈t.a.es,e.bJ≠t.tb
 lt:t.tb<nx
theorem Bl.ok.aX{t:Bl}{h h':aG}{nx nx':Nat}(o:t.ok h nx)(s:aH nx h h')(hn:nx<=nx'):t.ok h' nx':=
 ⟨by rw[s _ o.lt];exact o.tr,o.ok.aX s hn,o.d1,o.d2,o.d3,aP o.lt hn⟩
theorem og{a:Ar Nd}(ok:NAr.ok a h nx){n:Nd}(hs:cV a.es hd.ao=some (hd.bk,n)):
 ∃e∈a.es,e.ao=hd.ao/\e.bk=hd.bk/\e.x=n/\au h e.bJ=some (.cells (u64 hd.bk::n.cells) 294)/\e.bJ<nx/\∀h' nx',aH nx h h'->nx<=nx'->aA prog 236 [.ptr a.ab 0,.agg [int hd.ao,u64 hd.bk]] h' nx' (dr (.dN [.ptr e.bJ 1,bQ true]) h' nx'):=by
 obtain⟨e,he,h1,h2,h3⟩:=lG hs;refine⟨e,he,h1,h2,h3,?_,(ok.fr e he).2.2,?_⟩;.rw[<-h2,<-h3];exact ok.cl e he
 .intro h' nx' q1 q2;have:=anv a h' nx' (ok.aX q1 q2) e he;rw[Hd.av,Hd.cells,h1,h2]at this;exact this
theorem bm{r:AV}(hc:aA prog f args h nx (dr r h nx)){k:Kp K}(hk:K r h nx):Bu prog f args h nx K k:=
 hc.mono _ λ_ _ _ ⟨a,b,c⟩=>by subst a;subst b;subst c;exact hk
theorem Nd.cQ(n:Nd):sB nx n.av:=by
 refine⟨trivial,?_,?_,?_,trivial,trivial,trivial,trivial,trivial⟩;.exact gU.mem λy hy=>by obtain⟨x,_,hx⟩:=dp.1 hy;exact kJ x y hx
 .exact gU.mem λy hy=>by obtain⟨x,_,hx⟩:=dp.1 hy;exact kJ x y hx
 .exact gU.mem λy hy=>by obtain⟨x,_,hx⟩:=dp.1 hy;exact sN x y hx
theorem Zl(t:Bl)(h:aG)(nx:Nat)(ok:t.ok h nx):aA prog 229 [.ptr t.tb 0] h nx (dr (bQ false) h nx):=by refine aA.ac 1 T0 func229 ?_;simp+decide-dsimp only[f229,go_sem,ok.tr];exact⟨rfl,rfl,rfl⟩
def ags:Nat->cU:=λid=>if id=3 then[(z4,[],some 5),([6,7,8],[],some 9),([],[],some 10),([],[],none)]else[]
theorem agy(t:Bl)(h:aG)(nx:Nat)(ok:t.ok h nx)(hd:Hd)(n:Nd)(hs:cV t.a.es hd.ao=some (hd.bk,n)):aA prog 231 [.ptr t.tb 0,hd.av,.g .nilFunc] h nx (dr (.dN [n.av,bQ true]) h nx):=by refine aA.pc 3 ags func231 ?_;have hl:=ok.lt;have UG:=ok.ok.la;have d1:¬(t.tb=nx):=ah;have d2:¬(t.tb=nx+1):=ah;simp+decide-dsimp only[f231,go_sem,ags,Hd.av,Hd.cells,d1,d2,ok.tr];obtain⟨e,he,h1,h2,h3,h4,h7,h6⟩:=og ok.ok hs;refine bm (h6 _ _ (aH.set (aH.set .refl (an _)) (bz _)) ah) ?_;have d3:¬(e.bJ=nx):=ah;have d4:¬(e.bJ=nx+1):=ah;simp+decide-dsimp only[go_sem,d3,d4,h4,Nd.cells,reduceAdd];exact .of (aH.set (aH.set (aH.set .refl (an _)) (bz _)) (bz _)) (.cQ ⟨n.cQ,trivial,trivial⟩)
def aiH:Nat->cU:=λid=>if id=2 then[(z9,[],some 10),([11,12,13],[],some 14),([],[],some 15),([],[],none)]else[]
theorem ajT(t:Bl)(h:aG)(nx:Nat)(ok:t.ok h nx){lo:Nat->ba}(I:BI Pk (cV t.a.es) t.aO lo lv iJ)(k:ba):
 aA prog 230 [.ptr t.tb 0,bR k,.g .nilFunc] h nx λv h' nx'=>(∃s g n,v= .dN [n.av,bQ true]/\cV t.a.es s=some (g,n)/\n.aE=true/\PG lo s n k)/\h'=h/\nx'=nx:=by
 refine aA.pc 3 T0 func230 ?_;have hl:=ok.lt;have d1:¬(t.tb=nx):=ah;simp+decide-dsimp only[f230,go_sem,d1,ok.tr,reduceAdd];obtain⟨n0,r1,r2,r3⟩:=I.rt;refine cL _ _ (λm s h' nx'=>∃(hd:Hd) (n:Nd),m=lv hd.ao/\cV t.a.es hd.ao=some (hd.bk,n)/\PG lo hd.ao n k/\ao s 0= .ptr t.tb 0/\ao s 1=bR k/\ao s 2= .g .nilFunc/\ao s 6= .ptr nx 0/\ao s 8= .ptr (nx+1) 0/\
  aH nx h h'/\nx+2<=nx'/\(∃z1 z2 z3 z4 z5 z6 z7 z8,au h' nx=some (.cells [z1,z2,z3,z4,z5,z6,z7,z8] 247))/\au h' (nx+1)=some (.cells [int hd.ao,u64 hd.bk] 245)) (n:=lv t.aO.ao) ?_ ?_
 .simp+decide-dsimp only[go_sem];refine⟨t.aO,n0,rfl,r1,⟨by rw[r2];exact kj,fZ.2 λh=>by rw[r3]at h;cases h⟩,aH.set (aH.set (aH.set .refl (an _)) (bz _)) (bz _),⟨_,_,_,_,_,_,_,_,rfl⟩,rfl⟩
 rintro m s h' nx' ⟨hd,n,rfl,hs,hc,s0,s1,s2,s6,s8,q1,q2,⟨z1,z2,z3,z4,z5,z6,z7,z8,q3⟩,q4⟩;simp+decide-dsimp only[go_sem,s0,s2,s8,q4];refine bm (agy t _ _ (ok.aX q1 ah) hd n hs) ?_;have hcv:(!n.bd||decide (k<n.cR))=true:=hc.2;have IY:=NM n k;rw[hcv]at IY;have d2:¬(nx=nx'):=ah;have d3:¬(nx+1=nx'):=ah;simp+decide-dsimp only[go_sem,s1,Nd.av,Nd.cells,reduceAdd];refine aZ (by rw[Nd.av,Nd.cells]at IY;exact IY) ?_;cases jL:n.aE with
 |true=>
  simp+decide-dsimp only[go_sem,s6,q3,d2,reduceAdd];refine⟨?_,_,.cQ ?_,hd.ao,hd.bk,n,by rw[jL],hs,jL,hc⟩;.intro b hb;rw[aj,ak ah,aj,ak ah,aj,ak ah];exact q1 b hb
  .have:=n.cQ (nx:=nx);rw[Nd.av,Nd.cells,jL]at this;exact⟨this,trivial,trivial⟩
 |false=>obtain⟨m',g1,g2,g3⟩:=I.down hs jL hc;have Ss:=YN n (I.r _ _ _ hs) jL k hc.2;rw[Nd.av,Nd.cells,jL]at Ss;simp+decide-dsimp only[go_sem,s1];refine aZ Ss ?_;have d4:¬(nx+1=nx):=ah;simp+decide-dsimp only[go_sem,s0,s1,s2,s6,s8,q3,q4,d2,d3,Hd.av,Hd.cells,reduceAdd];refine⟨_,(ah:lv (n.bU.getD (n.iU k) default).ao<_),n.bU.getD (n.iU k) default,m',rfl,g1,g3,((q1.set ah).set ah).set ah,ah,⟨_,_,_,_,_,_,_,_,rfl⟩,rfl⟩
variable{H H':aG}{cap:Nat}{s:BT AV}{t:TypeId}
section
variable{α:Type}{c:α->List AV}{e sz:Nat}{h:aG}{v:AV}{l:List α}
theorem Own.len(o:Own c e sz h v l){e':TypeId}:N7 (some (.slice e')) h' v=some (int l.length):=by rcases o with⟨rfl,rfl⟩|⟨b,cap,A,rfl,_⟩<;>rfl
theorem Own.idx[Inhabited α](o:Own c e sz h v l)(hz:∀x,(c x).length=sz)(hs:cN prog t=some sz)(hi:i<l.length):∃b A,bZ v=some b/\au h b=some (.cells A e)/\
 rT (some (.slice t)) (cN prog) v (int i)=some (.val (.ptr b (i*sz)))/\(ed (i*sz) A).bind (de sz)=some (c (l.getD i default)):=by
 rcases o with⟨_,rfl⟩|⟨b,cap,A,rfl,hA,h1,h2,h3⟩;.simp at hi
 .refine⟨b,A,rfl,hA,by rw[Ag hi,hs,dC,fx],?_⟩;have h4:=aI sz (show i+1<=l.length from hi);rw[bh,cP]at h4;have h5:=aI sz h1;have h6:(A.drop (i*sz)).take sz=c (l.getD i default):=by
   have:=Cd hz hi;rw[<-dY hz,<-h3]at this;have hle:sz<=(List.drop (i*sz) (List.take (l.length*sz) A)).length:=by rw[aC,ax];omega
   rw[bO _ _ hle]at this;injection this with this
   rw[<-this,fW,bf,bM ah]
  rw[eF _ _ ah,aS,bO _ _ (by rw[aC];omega),h6]
theorem Own.app(o:Own c e sz h v l)(hz:∀x,(c x).length=sz)(hc:∀x,(c x).all AV.cy=true)(hl:l.length+1<65536)(x:α):
 (∃h' v',pQ h e sz 1 (c x) v=some (.val v' h')/\Own c e sz h' v' (l++[x])/\bZ v'=bZ v/\(∀b,bZ v≠some b->au h' b=au h b))\/
 (pQ h e sz 1 (c x) v=some (.pT (.eP (l.flatMap c++c x) e sz) (l.length+1) h)):=by
 rcases o with⟨rfl,rfl⟩|⟨b,cap,A,rfl,hA,h1,h2,h3⟩;.right;rw[Be (by rfl)];rfl
 .have h5:=aI sz h1;by_cases hr:l.length+1<=cap
  .left;have h6:=aI sz hr;rw[bh,cP]at h6;have hp:=cp (l.length*sz) A (c x) (by rw[hz,h2];omega);refine⟨aK h b (.cells (A.take (l.length*sz)++c x++A.drop (l.length*sz+(c x).length)) e),.sl b 0 (l.length+1) cap,by rw[x7 (by rfl) hr (hc x),fx,xN,hA,vo,hp];rfl,?_,rfl,λb' gC=>?_⟩
   .refine .inr ⟨b,cap,_,bL,gl,by simpa using hr,?_,?_⟩;.simp only[aq,ax,aC,hz,h2];omega
    .rw[cM,aq,bD,eB,fx,bh,cP,<-h3];rw[show l.length*sz+sz=(A.take (l.length*sz)++c x).length from by rw[aq,ax,hz,h2];omega,tI rfl];simp
   .rw[aj,ak (λe=>gC (by rw[e];rfl))]
  .right;rw[yE (by rfl) hr hl,cr,hA,cB,fS,aS,bO _ _ (by rw[h2];exact h5),h3];rfl
theorem Own.grown(hz:∀x,(c x).length=sz){gs:List Value}(hc:l.length<=cap)(hg:(l.flatMap c).length+gs.length=cap*sz){h:aG}:Own c e sz (aK h nx (.cells (l.flatMap c++gs.map .g) e)) (.sl nx 0 l.length cap) l:=
 .inr ⟨nx,cap,_,rfl,gl,hc,by rw[aq,bc];exact hg,by rw[show l.length*sz=(l.flatMap c).length from(bT hz l).symm,tI rfl]⟩
end
theorem km{α:Type}{c:α->List AV}{e sz:Nat}{v:AV}{l:List α}(o:Own c e sz H v l)(hz:∀x,(c x).length=sz)(hc:∀x,(c x).all AV.cy=true)(hl:l.length+1<65536)(x:α)
 {d:Tmp} {op ty po af g} {K:BT AV->aG->Nat->Prop}    {k}
 (hk:∀v' h' nx',nx<=nx'->Own c e sz h' v' (l++[x])->(∀b,bZ v'=some b->bZ v=some b\/(nx<=b/\b<nx'))->(∀b,b<nx->bZ v≠some b->au h' b=au H b)->K (sset s d v') h' nx'):
 EW prog (pQ H e sz 1 (c x) v) ⟨⟨some d,op,ty,po,af,g⟩,K,s,H',nx⟩ k:=by
 rcases o.app hz hc hl x with⟨h',v',e1,e2,e3,e4⟩|e1;.rw[e1];exact hk v' h' nx (an _) e2 (λb hb=> .inl (by rw[<-e3];exact hb)) (λb _ hb=>e4 b hb)
 .rw[e1,FO];refine oa λcap gs h1 h2=>?_;have bP:(l++[x]).length=l.length+1:=bL;have hfm:(l++[x]).flatMap c=l.flatMap c++c x:=bL;rw[<-hfm,<-bP];rw[<-hfm]at h2;rw[<-bP]at h1;refine hk _ _ _ (bz _) (Own.grown hz h1 h2) (λb hb=> .inr ?_) (λb hb _=>yL);injection hb with hb;omega
structure IZ(σ:LI)(aO:Hd)(lo:Nat->ba)(k:ba)(L:List Hd)(done:Bool):Prop where
 ne:0<L.length
 rt:L.getD 0 default=aO
 node:∀i,i<L.length->∃n,σ (L.getD i default).ao=some ((L.getD i default).bk,n)/\PG lo (L.getD i default).ao n k/\(i+1<L.length->n.aE=false/\L.getD (i+1) default=n.bU.getD (n.iU k) default)/\(i+1=L.length->done=true->n.aE=true)
variable{L:List Hd}
theorem vg{x:Hd}:(L++[x]).getD L.length default=x:=bL
theorem AF{x:Hd}(h:i<L.length):(L++[x]).getD i default=L.getD i default:=by simp[List.getD,cj h]
theorem afc(t:Bl)(h:aG)(nx:Nat)(ok:t.ok h nx){lo:Nat->ba}(I:BI Pk (cV t.a.es) t.aO lo lv iJ)(zq:lv t.aO.ao<60000)(k:ba):
 aA prog 235 [.ptr t.tb 0,bR k] h nx λv h' nx'=>(∃L,v=r7 L/\IZ (cV t.a.es) t.aO lo k L true/\L.length<=60000)/\h'=h/\nx'=nx:=by
 refine aA.pc 2 aiH func235 ?_;have hl:=ok.lt;simp+decide-dsimp only[f235,go_sem,ok.tr,reduceAdd];obtain⟨n0,r1,r2,r3⟩:=I.rt;refine cL _ _ (λm s h' nx'=>∃(L:List Hd) (hd:Hd) (n:Nd) (v:AV),m=lv hd.ao/\cV t.a.es hd.ao=some (hd.bk,n)/\IZ (cV t.a.es) t.aO lo k L false/\L.getD (L.length-1) default=hd/\L.length+lv hd.ao=lv t.aO.ao+1/\ao s 0= .ptr t.tb 0/\ao s 1=bR k/\ao s 5=v/\
  aH nx h h'/\nx<=nx'/\Own Hd.cells 245 2 h' v L/\In nx nx' v) (n:=lv t.aO.ao) ?_ ?_
 .simp+decide-dsimp only[go_sem];refine⟨[t.aO],t.aO,n0,.sl nx 0 1 1,rfl,r1,⟨bL,rfl,λi hi=>?_⟩,rfl,fE,?_⟩
  .have:i=0:=by simpa using hi
   subst this;exact⟨n0,r1,⟨by show¬k<lo t.aO.ao;rw[r2];exact kj,fZ.2 λh=>by rw[r3]at h;cases h⟩,λh=>by simp at h,λ_ h=>by cases h⟩
  .exact⟨rfl,aH.refl.set (an _),.inr ⟨nx,1,_,rfl,gl,an _,rfl,rfl⟩,.sl (an _) (aW _)⟩
 rintro m s h' nx' ⟨L,hd,n,v,rfl,hs,hP,A5,bP,s0,s1,s5,q1,q2,q3,q4⟩;have cx:=hP.ne;have N0:L.length-1<L.length:=ah;obtain⟨b,A,e1,e2,e3,e4⟩:=q3.idx gr pH N0;rw[A5]at e4;have hb:=q4 b e1;have w1:1<=L.length:=cx;have w2:L.length<9223372036854775808:=ah;have J':=ok.aX q1 q2;obtain⟨e,he,h1,h2,h3,h4,h7,h6⟩:=og J'.ok hs;simp+decide-dsimp only[go_sem,aiH,s0,s5,J'.tr,q3.len,w1,w2,e2,e3,e4,Hd.cells];refine bm (h6 _ _ .refl ah) ?_;obtain⟨n',c1,c2,_,_⟩:=hP.node _ N0;rw[A5,hs]at c1;injection c1 with c1;injection c1 with _ c1;subst c1
 rw[A5]at c2;cases jL:n.aE with
 |true=>simp+decide-dsimp only[go_sem,s5,h4,Nd.cells,jL];refine⟨q1,_,q3.fz q4 sN,L,rfl,⟨hP.ne,hP.rt,λi hi=>?_⟩,ah⟩;obtain⟨m,a1,a2,a3,a4⟩:=hP.node i hi;refine⟨m,a1,a2,a3,λDf _=>?_⟩;have:i=L.length-1:=ah;subst this;rw[A5,hs]at a1;injection a1 with a1;injection a1 with _ a1;subst a1;exact jL
 |false=>
  obtain⟨m',g1,g2,g3⟩:=I.down hs jL c2;have Ss:=YN n (I.r _ _ _ hs) jL k c2.2;rw[Nd.av,Nd.cells,jL]at Ss;simp+decide-dsimp only[go_sem,s1,h4,Nd.cells,jL];refine aZ Ss ?_;simp+decide-dsimp only[go_sem,s5,Hd.av,Hd.cells,cr,cB,reduceAdd];refine km (c:=Hd.cells) (q3.aX λq e'=>?_) gr (λ_=>rfl) ah (n.bU.getD (n.iU k) default) ?_
  .have:=q4 q e'
   repeat rw[aj,ak ah]
  intro v' h2 dU l2 p1 p2 p3;simp+decide-dsimp only[go_sem,s0,s1,s5];have Cv:(L++[n.bU.getD (n.iU k) default]).length=L.length+1:=bL;refine⟨_,(ah:lv (n.bU.getD (n.iU k) default).ao<_),L++[n.bU.getD (n.iU k) default],n.bU.getD (n.iU k) default,m',v',rfl,g1,⟨ah,?_,λi hi=>?_⟩,by rw[Cv,fv,vg],by rw[Cv];omega,?_⟩;.rw[AF cx];exact hP.rt
  .rw[Cv]at hi⊢;rcases bg i L.length with q|q
   .rw[AF q];obtain⟨m,a1,a2,a3,a4⟩:=hP.node i q;refine⟨m,a1,a2,λDf=>?_,λ_ h=>by cases h⟩;rcases bg (i+1) L.length with q'|q'
    .rw[AF q'];exact a3 q'
    .have:i=L.length-1:=ah;subst this;rw[A5,hs]at a1;injection a1 with a1;injection a1 with _ a1;subst a1
     rw[show L.length-1+1=L.length from ah,vg];exact⟨jL,rfl⟩
   .have:i=L.length:=ah;subst this;rw[vg];exact⟨m',g1,g3,λh=>ah,λ_ h=>by cases h⟩
  .refine⟨rfl,λq hq=>?_,ah,p1,λq e'=>?_⟩
   .rw[p3 q ah (λe'=>by have:=q4 q e';omega)]
    repeat rw[aj,ak ah]
    exact q1 q hq
   .rcases p2 q e' with e2|e2;.have:=q4 q e2;omega
    .omega
def ahG:Nat->cU:=λid=>if id=4 then[(z11,[],some 12),([13,14,15],[],some 16),([],[],some 17),([],[],none)]else[]
theorem amP(t:Bl)(h:aG)(nx:Nat)(ok:t.ok h nx)(L:List Hd)(hL:L.length<=60000)(hn:∀i,i<L.length->∃n,cV t.a.es (L.getD i default).ao=some ((L.getD i default).bk,n)):
 aA prog 240 [.ptr t.tb 0,r7 L] h nx λv h' nx'=>(∃m,v=int (m:Nat)/\(∀j,j<m->j<L.length->∃n,cV t.a.es (L.getD (L.length-1-j) default).ao=some ((L.getD (L.length-1-j) default).bk,n)/\4<=n.aJ.length)/\((m<L.length/\∃n,cV t.a.es (L.getD (L.length-1-m) default).ao=some ((L.getD (L.length-1-m) default).bk,n)/\n.aJ.length<4)\/m=L.length+1))/\h'=h/\nx'=nx:=by
 refine aA.pc 2 ahG func240 ?_;simp+decide-dsimp only[f240,go_sem];refine cL _ _ (λm s h' nx'=>∃i,i<=L.length/\m=L.length-i/\(∀j,j<i->∃n,cV t.a.es (L.getD (L.length-1-j) default).ao=some ((L.getD (L.length-1-j) default).bk,n)/\4<=n.aJ.length)/\
  ao s 0= .ptr t.tb 0/\ao s 1=r7 L/\ao s 9=int L.length/\ao s 10=int i/\h'=h/\nx<=nx') (n:=L.length) ?_ ?_
 .simp+decide-dsimp only[go_sem];exact⟨0,aY _,rfl,λj hj=>absurd hj (bW j),bL⟩
 rintro m s h' nx' ⟨i,hi,rfl,kD,s0,s1,s9,vE,rfl,l1⟩;by_cases db:i<L.length
 .obtain⟨n,hs⟩:=hn (L.length-1-i) ah;have w1:1<=L.length:=ah;have w2:L.length<9223372036854775808:=ah;have w3:i<=L.length-1:=ah;have w4:L.length-1<9223372036854775808:=ah;have w5:L.length-1-i<L.length:=ah;have w6:i+1<9223372036854775808:=ah;obtain⟨e,he,h1,h2,h3,h4,h7,h6⟩:=og ok.ok hs;simp+decide-dsimp only[go_sem,ahG,s0,s1,s9,vE,db,ok.tr,w1,w2,w3,w4,w5,Hd.cells,jA];refine bm (h6 _ _ .refl ah) ?_;by_cases hk:n.aJ.length<4;.have Cv:((n.aJ.length:Int)<4):=ah;simp+decide-dsimp only[go_sem,h4,Nd.cells,Cv,reduceAdd];exact⟨aH.refl,_,.cA,i,rfl,λj hj _=>kD j hj,.inl ⟨db,n,hs,hk⟩⟩
  .have Cv:¬((n.aJ.length:Int)<4):=ah;simp+decide-dsimp only[go_sem,s0,s1,s9,vE,h4,Nd.cells,Cv,w6,reduceAdd];refine⟨_,(ah:L.length-(i+1)<_),i+1,db,rfl,λj hj=>?_,rfl,ah⟩;rcases bg j i with q|q
   .exact kD j q
   .have:j=i:=ah;subst this;exact⟨n,hs,ah⟩
 .have:i=L.length:=ah;subst this;have w6:L.length+1<9223372036854775808:=ah;simp+decide-dsimp only[go_sem,s1,s9,vE,w6,eG];exact⟨aH.refl,_,.cA,L.length+1,rfl,λj _ hj=>kD j hj,.inr rfl⟩
variable{P:Program}{Q:AV->aG->Nat->Prop}{args' cs:List AV}{b k n:Nat}{r:dG}{w w0:World}
theorem aA.Ue(hl:args'.length=args.length)(hv:∀r vs,eM r args vs->eM r args' vs)(hc:aA P f args' h nx Q):aA P f args h nx Q:=
 ⟨yS hc.1 hl,λr w0 w vs hH ti=>hc.2 r w0 w vs hH (hv r vs ti)⟩
open Classical in
def oO(k:Nat)(w:World)(r:dG):dG:=
 ⟨r.m,λk' o=>match r.z k' o with
  |some v=>some v
  |none=>if k'=k then w.cell? ⟨k',o,none⟩else none⟩
theorem HR.Zj(hr:HR r h nx w0 w){o:AO}(hb:r b=some (k,n))(ho:au h b=some o)(hc:o.cells?=some cs):
 HR (oO k w r) (aK h b .dead) nx w0 w/\dG.le r (oO k w r)/\∀i v,w.cell? ⟨k,i,none⟩=some v->(oO k w r).z k i=some v:=by
 have hle:dG.le r (oO k w r):=⟨λb x e=>e,λk' o' v e=>by simp only[oO,e]⟩;have hz:∀k' o' v,(oO k w r).z k' o'=some v->r.z k' o'=some v\/(k'=k/\w.cell? ⟨k',o',none⟩=some v):=by
  intro k' o' v e;simp only[oO]at e;split at e;.rename_i v' he;left;rw[he];exact e
  .split at e;.rename_i hk;exact .inr ⟨hk,e⟩
   .cases e
 have zq:o.live:=AO.Bi hc;have get:∀c q,au (aK h b .dead) c=some q->q.live->c≠b/\au h c=some q:=by
  intro c q e l;rw[aj]at e;split at e;.injection e with e;subst e;exact absurd l (by simp[AO.live])
  .rename_i cx;exact⟨cx,e⟩
 refine⟨⟨hr.below,λk' o' v e=>?_,hr.xP,λc q k' n' e1 e2=>?_,λc c' q q' k' n1 n2 e1 e2 l1 l2 f1 f2=>?_⟩,hle,λi v e=>?_⟩
 .rcases hz k' o' v e with e|⟨rfl,e9⟩;.refine⟨(hr.sk k' o' v e).1,λc n1 q e2 e3 l=>?_⟩;obtain⟨_,e4⟩:=get c q e3 l;exact(hr.sk k' o' v e).2 c n1 q e2 e4 l
  .refine⟨e9,λc n1 q e2 e3 l=>?_⟩;obtain⟨cx,e4⟩:=get c q e3 l;exact cx (hr.inj c b q o k' n1 n e4 ho l zq e2 hb)
 .rw[aj]at e1;split at e1;.injection e1 with e1;subst e1;trivial
  .exact(hr.obj c q k' n' e1 e2).mono hle
 .obtain⟨_,g1⟩:=get c q e1 l1;obtain⟨_,g2⟩:=get c' q' e2 l2;exact hr.inj c c' q q' k' n1 n2 g1 g2 l1 l2 f1 f2
 .simp only[oO];split;.rename_i v' he;rw[(hr.sk k i v' he).1]at e;exact e
  .simp only[cz];exact e
def aix(b:Nat)(cs:List AV)(r wI:dG):Prop:=∀off len cap q v,len<=cap->VR r (.sl b off len cap) v->VR wI (.fz len ((cs.drop off).take q)) v
theorem aA.fz1{o:AO}(ho:au h b=some o)(xV:o.cells?=some cs)(hl:args'.length=args.length)
 (hv:∀r wI vs,dG.le r wI->aix b cs r wI->eM r args vs->eM wI args' vs) (hc:aA P f args' (aK h b .dead) nx Q):aA P f args h nx Q:=by
 refine⟨yS hc.1 hl,λr w0 w vs hH ti=>?_⟩;cases hb:r b with
 |none=>
  have Nt:HR r (aK h b .dead) nx w0 w:=by
   have get:∀c q,au (aK h b .dead) c=some q->q.live->c≠b/\au h c=some q:=by
    intro c q e l;rw[aj]at e;split at e;.injection e with e;subst e;exact absurd l (by simp[AO.live])
    .rename_i cx;exact⟨cx,e⟩
   refine⟨hH.below,λk' o' v e=>⟨(hH.sk k' o' v e).1,λc n1 q e2 e3 l=>?_⟩,hH.xP,λc q k' n' e1 e2=>?_,λc c' q q' k' n1 n2 e1 e2 l1 l2 f1 f2=>?_⟩;.exact(hH.sk k' o' v e).2 c n1 q e2 (get c q e3 l).2 l
   .rw[aj]at e1;split at e1;.rename_i NH;rw[NH,hb]at e2;cases e2
    .exact hH.obj c q k' n' e1 e2
   .exact hH.inj c c' q q' k' n1 n2 (get c q e1 l1).2 (get c' q' e2 l2).2 l1 l2 f1 f2
  exact hc.2 r w0 w vs Nt (hv r r vs (dG.le_refl _) (λoff len cap q v _ h=>by cases h with|sl e=>rw[hb]at e;cases e) ti)
 |some x=>
  obtain⟨k,n⟩:=x;obtain⟨i1,i2,i3⟩:=hH.Zj hb ho xV;have UB:aix b cs r (oO k w r):=by
   intro off len cap q v hlc hvr;cases hvr with
   |sl e=>
    rw[hb]at e;injection e with e;injection e with e1 e2;subst e1;subst e2
    obtain⟨cc,c',t,hk,hvs'⟩:=hH.cells hb ho xV;refine .fz (vs:=(cc.drop off).take q) (λi v hq=>i3 _ _ ?_) hlc (((hvs'.mono i2).drop off).take q);have hj:cc[off+i]?=some v:=by
     rw[eE]at hq;split at hq;.simpa using hq
     .cases hq
    have db:=(cT.1 hj).1;simp[World.cell?,hk,cj db,hj]
  refine(hc.2 (oO k w r) w0 w vs i1 (hv r _ vs i2 UB ti)).mono λ_ _ ⟨u,r',v,h',nx',a,b',c,d,e,g,q⟩=>⟨u,r',v,h',nx',a,dG.le_trans i2 b',c,d,e,g,q⟩
variable{h2:aG}{p':bj}
def iL{α:Type}(es:List (jE α))(s:Nat)(x:α):List (jE α):=es.map λe=>if e.ao=s then{e with x:=x}else e
theorem D5(es:List (jE α))(s:Nat)(x:α):(iL es s x).map jE.ao=es.map jE.ao:=by unfold iL;rw[LK];apply pn;intro e _;dsimp only[Function.comp];split<;>rfl
theorem Tt(es:List (jE α))(s:Nat)(x:α):(iL es s x).map jE.bJ=es.map jE.bJ:=by unfold iL;rw[LK];apply pn;intro e _;dsimp only[Function.comp];split<;>rfl
theorem SK(es:List (jE α))(s:Nat)(x:α):(iL es s x).map jE.row=es.map jE.row:=by unfold iL;rw[LK];apply pn;intro e _;dsimp only[Function.comp];split<;>rfl
theorem eT{es:List (jE α)}{s:Nat}{x:α}{f:jE α}(h:f∈iL es s x):∃e∈es,e.ao=f.ao/\e.bJ=f.bJ/\e.bk=f.bk/\(e.ao=s->f.x=x)/\(e.ao≠s->f.x=e.x):=by
 obtain⟨e,he,rfl⟩:=bu.1 h;refine⟨e,he,?_⟩;split;.rename_i hs;exact⟨rfl,rfl,rfl,λ_=>rfl,λh=>absurd hs h⟩
 .rename_i hs;exact⟨rfl,rfl,rfl,λh=>absurd h hs,λ_=>rfl⟩
theorem Ar.ok.store{enc:α->List AV}{a:Ar α}(o:Ar.ok enc tA tC a h nx){e:jE α}(he:e∈a.es)(x:α):
 Ar.ok enc tA tC {a with es:=iL a.es e.ao x} (aK h e.bJ (.cells (u64 e.bk::enc x) tC)) nx:=by
 have hf:=o.fr e he;refine⟨by show au _ a.ab=_;rw[aj,ak hf.1.symm];exact o.ar,by show au _ a.mb=_;rw[aj,ak hf.2.1.symm,SK];exact o.mp,λf mj=>?_,by rw[D5];exact o.rK,by rw[Tt];exact o.IL,λf mj=>?_,o.ne,o.la,o.lm⟩
 .obtain⟨g,hg,e1,e2,e3,e4,e5⟩:=eT mj;rw[aj];by_cases hs:g.ao=e.ao;.have:g=e:=jw o.rK hg he hs;subst this;rw[aw e2.symm,<-e3,e4 rfl]
  .have:g.bJ≠e.bJ:=λh=>hs (by rw[jw o.IL hg he h]);rw[<-e2,ak this,<-e3,e5 hs];exact o.cl g hg
 .obtain⟨g,hg,e1,e2,_⟩:=eT mj;rw[<-e2];exact o.fr g hg
theorem qT{es:List (jE α)}(hn:(es.map jE.ao).Nodup){e:jE α}(he:e∈es)(x:α):cV (iL es e.ao x)=up (cV es) e.ao (e.bk,x):=by
 have C0:((iL es e.ao x).map jE.ao).Nodup:=by rw[D5];exact hn
 funext t
 by_cases ht:t=e.ao;.subst ht;rw[cO];have hm:({e with x:=x}:jE α)∈iL es e.ao x:=bu.2 ⟨e,he,by rw[aw rfl]⟩;exact qI C0 hm
 .rw[cH ht];cases hs:cV es t with
  |none=>refine qn λf hf mU=>?_;obtain⟨g,hg,e1,_⟩:=eT hf;have:=qI hn hg;rw[e1,mU,hs]at this;cases this
  |some y=>obtain⟨g,m⟩:=y;obtain⟨f,hf,e1,e2,e3⟩:=lG hs;subst e1;subst e2;subst e3;have hm:f∈iL es e.ao x:=bu.2 ⟨f,hf,by rw[ak ht]⟩;exact qI C0 hm
theorem zW{es:List (jE α)}{f:jE α}(hf:∀e∈es,e.ao≠f.ao):cV (es++[f])=up (cV es) f.ao (f.bk,f.x):=by
 funext t
 unfold cV;rw[List.find?_append];by_cases ht:t=f.ao;.subst ht;rw[cO,vN.2 (λe he=>by simpa using hf e he)];simp
 .rw[cH ht];cases hs:es.find? (λe=>e.ao==t)with
  |some e=>rfl
  |none=>simp[Ne.symm ht]
structure BW(t:Bl)(p:bj)(h:aG)(nx:Nat):Prop where
 tk:t.ok h nx
 pk:p.ok h nx
 sp:Sep t.a p
 sd:t.tb≠p.pb/\t.tb≠p.gb/\t.tb≠p.fb
theorem BW.aX{t:Bl}{p:bj}{h h':aG}{nx nx':Nat}(o:BW t p h nx)(s:aH nx h h')(hn:nx<=nx'):BW t p h' nx':=⟨o.tk.aX s hn,o.pk.aX s hn,o.sp,o.sd⟩
structure Step(nx:Nat)(t t':Bl)(p p':bj)(h h':aG):Prop where
 tb:t'.tb=t.tb
 ab:t'.a.ab=t.a.ab
 mb:t'.a.mb=t.a.mb
 pb:p'.pb=p.pb
 gb:p'.gb=p.gb
 fb:p'.fb=p.fb
 fl:p'.fr.length=p.fr.length
 fr:∀s,p.fr.getD s false=false->p'.fr.getD s false=false
 bJ:∀e∈t'.a.es,(∃f∈t.a.es,f.bJ=e.bJ)\/nx<=e.bJ
 old:∀e∈t.a.es,∃f∈t'.a.es,f.ao=e.ao/\f.bJ=e.bJ
 slt:∀e∈t'.a.es,(∃f∈t.a.es,f.ao=e.ao)\/p.fr.getD e.ao false=true
 aX:∀b,b<nx->b≠t.tb->b≠p.pb->b≠p.gb->b≠p.fb->b≠t.a.mb->(∀e∈t.a.es,e.bJ≠b)->au h' b=au h b
theorem Step.same{t:Bl}{p:bj}(s:aH nx h h'):Step nx t t p p h h':=⟨rfl,rfl,rfl,rfl,rfl,rfl,rfl,λ_ h=>h,λe he=> .inl ⟨e,he,rfl⟩,λe he=>⟨e,he,rfl,rfl⟩,λe he=> .inl ⟨e,he,rfl⟩,λb hb _ _ _ _ _ _=>s b hb⟩
theorem Step.trans{nx cm:Nat}{t t1 t2:Bl}{p p1 p2:bj}{h h1 h2:aG}(s1:Step nx t t1 p p1 h h1)(s2:Step cm t1 t2 p1 p2 h1 h2)(hn:nx<=cm):Step nx t t2 p p2 h h2:=by
 refine⟨s2.tb.trans s1.tb,s2.ab.trans s1.ab,s2.mb.trans s1.mb,s2.pb.trans s1.pb,s2.gb.trans s1.gb,s2.fb.trans s1.fb,s2.fl.trans s1.fl,λs hs=>s2.fr s (s1.fr s hs),λe he=>?_,λe he=>?_,λe he=>?_,λb hb g1 g2 g3 g4 g5 g6=>?_⟩
 .rcases s2.bJ e he with⟨f,hf,IH⟩|h
  .rcases s1.bJ f hf with⟨g,hg,hgf⟩|h;.exact .inl ⟨g,hg,hgf.trans IH⟩
   .exact .inr ah
  .exact .inr ah
 .obtain⟨f,hf,a1,a2⟩:=s1.old e he;obtain⟨g,hg,b1,b2⟩:=s2.old f hf;exact⟨g,hg,b1.trans a1,b2.trans a2⟩
 .rcases s2.slt e he with⟨f,hf,IH⟩|h
  .rcases s1.slt f hf with⟨g,hg,hgf⟩|h;.exact .inl ⟨g,hg,hgf.trans IH⟩
   .exact .inr (by rw[<-IH];exact h)
  .right;cases hq:p.fr.getD e.ao false with
   |true=>rfl
   |false=>rw[s1.fr _ hq]at h;cases h
 .rw[s2.aX b ah (by rw[s1.tb];exact g1) (by rw[s1.pb];exact g2) (by rw[s1.gb];exact g3) (by rw[s1.fb];exact g4) (by rw[s1.mb];exact g5) (λe he=>?_)];.exact s1.aX b hb g1 g2 g3 g4 g5 g6
  .rcases s1.bJ e he with⟨f,hf,IH⟩|h;.rw[<-IH];exact g6 f hf
   .omega
theorem BW.store{t:Bl}{p:bj}{h:aG}{nx:Nat}(o:BW t p h nx){e:jE Nd}(he:e∈t.a.es)(x:Nd):
 BW {t with a:={t.a with es:=iL t.a.es e.ao x}} p (aK h e.bJ (.cells (u64 e.bk::x.cells) 294)) nx/\Step nx t {t with a:={t.a with es:=iL t.a.es e.ao x}} p p h (aK h e.bJ (.cells (u64 e.bk::x.cells) 294)):=by
 have hf:=o.tk.ok.fr e he;have hd:=o.tk.d3 e he;have hs:=o.sp.sc e he;refine⟨⟨⟨by show au _ t.tb=_;rw[aj,ak hd.symm];exact o.tk.tr,o.tk.ok.store he x,o.tk.d1,o.tk.d2,λf mj=>?_,o.tk.lt⟩,o.pk.iy (by rw[aj,ak hs.1.symm]) (by rw[aj,ak hs.2.1.symm]) (by rw[aj,ak hs.2.2.symm]) (an _),⟨o.sp.pb,o.sp.sa,o.sp.sm,λf mj=>?_,λf mj=>?_⟩,o.sd⟩,⟨rfl,rfl,rfl,rfl,rfl,rfl,rfl,λ_ h=>h,λf mj=>?_,λf mj=>?_,λf mj=>?_,λb _ _ _ _ _ _ g=>?_⟩⟩;.obtain⟨g,hg,_,e2,_⟩:=eT mj;rw[<-e2];exact o.tk.d3 g hg
 .obtain⟨g,hg,_,e2,_⟩:=eT mj;rw[<-e2];exact o.sp.sc g hg
 .obtain⟨g,hg,e1,_⟩:=eT mj;rw[<-e1];exact o.sp.taken g hg
 .obtain⟨g,hg,_,e2,_⟩:=eT mj;exact .inl ⟨g,hg,e2⟩
 .by_cases Kl:f.ao=e.ao;.exact⟨{f with x:=x},bu.2 ⟨f,mj,by rw[aw Kl]⟩,rfl,rfl⟩
  .exact⟨f,bu.2 ⟨f,mj,by rw[ak Kl]⟩,rfl,rfl⟩
 .obtain⟨g,hg,e1,_⟩:=eT mj;exact .inl ⟨g,hg,e1⟩
 .rw[aj,ak (g e he).symm]
theorem BW.alloc{t:Bl}{p:bj}(o:BW t p h nx)(hc:p.fr.count true≠0)(x:Nd):
 aA prog 129 [.ptr t.a.ab 0,x.av] h nx λv h' nx'=>∃i bJ,cV t.a.es i=none/\v= .dN [(Hd.mk i (p.gs.getD i 0)).av,int 0]/\
  BW {t with a:={t.a with ck:=t.a.ck+1,es:=t.a.es++[⟨i,bJ,t.a.ck,p.gs.getD i 0,x⟩]}} {p with fr:=p.fr.set i false} h' nx'/\
  Step nx t {t with a:={t.a with ck:=t.a.ck+1,es:=t.a.es++[⟨i,bJ,t.a.ck,p.gs.getD i 0,x⟩]}} p {p with fr:=p.fr.set i false} h h'/\({p with fr:=p.fr.set i false}:bj).fr.count true+1=p.fr.count true/\nx<=bJ:=by
 refine(ak8 t.a p h nx o.tk.ok o.pk o.sp hc x).le.mono _ ?_;rintro v h' nx' ⟨ln,i,bJ,hi,ht,rfl,q1,q2,q3,q4⟩;have mS:∀e∈t.a.es,e.ao≠i:=λe he hs=>by have:=(o.sp.taken e he).2;rw[hs,ht]at this;cases this
 have tP:∀s,(p.fr.set i false).getD s false=false\/(p.fr.set i false).getD s false=p.fr.getD s false:=by
  intro s;by_cases hs:i=s;.subst hs;left;simp[List.getD,hi]
  .right;simp[List.getD,hs]
 have htb:au h' t.tb=au h t.tb:=q4 _ o.tk.lt o.sd.1 o.sd.2.1 o.sd.2.2 o.tk.d2;refine⟨i,bJ,qn mS,rfl,⟨⟨by show au _ t.tb=_;rw[htb];exact o.tk.tr,q2,o.tk.d1,o.tk.d2,λe he=>?_,aP o.tk.lt ln⟩,q1,⟨o.sp.pb,o.sp.sa,o.sp.sm,λe he=>?_,λe he=>?_⟩,o.sd⟩,⟨rfl,rfl,rfl,rfl,rfl,rfl,bL,λs hs=>?_,λe he=>?_,λe he=>⟨e,ix _ he,rfl,rfl⟩,λe he=>?_,λb hb g1 g2 g3 g4 g5 g6=>q4 b hb g2 g3 g4 g5⟩,count_set hi ht,q3⟩
 .rcases bp.1 he with he|he;.exact o.tk.d3 e he
  .simp only[aR]at he;subst he;have:=o.tk.lt;show bJ≠t.tb;omega
 .have a1:=o.pk.rY;have a2:=o.pk.ss;have a3:=o.pk.sr;rcases bp.1 he with he|he
  .exact o.sp.sc e he
  .simp only[aR]at he;subst he;show bJ≠p.pb/\bJ≠p.gb/\bJ≠p.fb;omega
 .rcases bp.1 he with he|he
  .have:=o.sp.taken e he;refine⟨by simpa using this.1,?_⟩;rcases tP e.ao with h|h
   .exact h
   .exact h.trans this.2
  .simp only[aR]at he;subst he;refine⟨by simpa using hi,?_⟩;show(p.fr.set i false).getD i false=false;simp[List.getD,hi]
 .rcases tP s with h|h;.exact h
  .exact h.trans hs
 .rcases bp.1 he with he|he;.exact .inl ⟨e,he,rfl⟩
  .simp only[aR]at he;subst he;exact .inr q3
 .rcases bp.1 he with he|he;.exact .inl ⟨e,he,rfl⟩
  .simp only[aR]at he;subst he;exact .inr ht
theorem BW.ur{t:Bl}{p:bj}(o:BW t p h nx)(hc:p.fr.count true≠0)(x:Nd):
 aA prog 129 [.ptr t.a.ab 0,x.av] h nx λv h' nx'=>∃(t':Bl) (p':bj) (hd:Hd),cV t.a.es hd.ao=none/\v= .dN [.agg [int hd.ao,u64 hd.bk],int 0]/\BW t' p' h' nx'/\Step nx t t' p p' h h'/\
  cV t'.a.es=up (cV t.a.es) hd.ao (hd.bk,x)/\t'.aO=t.aO/\t'.size=t.size/\p'.fr.count true+1=p.fr.count true:=by
 refine(o.alloc hc x).mono _ ?_;rintro v h' nx' ⟨i,bJ,f1,f2,B1,fI,f3,f4⟩;refine⟨_,_,⟨i,p.gs.getD i 0⟩,f1,f2,B1,fI,?_,rfl,rfl,f3⟩;refine zW λe he hs=>?_;have:=qI o.tk.ok.rK he;rw[hs]at this;have:=f1.symm.trans this;cases this
theorem BW.kI{t:Bl}{p:bj}(o:BW t p h nx){e:jE Nd}(he:e∈t.a.es)(h1:e.ao=hd.ao)(h2:e.bk=hd.bk)(x:Nd):
 ∃t':Bl,BW t' p (aK h e.bJ (.cells (u64 hd.bk::x.cells) 294)) nx/\Step nx t t' p p h (aK h e.bJ (.cells (u64 hd.bk::x.cells) 294))/\cV t'.a.es=up (cV t.a.es) hd.ao (hd.bk,x)/\t'.aO=t.aO/\t'.size=t.size:=by
 have:=o.store he x;rw[h2]at this;exact⟨_,this.1,this.2,by rw[<-h1,<-h2];exact qT o.tk.ok.rK he x,rfl,rfl⟩
theorem Step.qM{t t':Bl}{p:bj}(s:Step nx t t' p p' h h')(o:BW t' p' h2 nx'){e e':jE Nd}(he:e∈t.a.es)(tM:e'∈t'.a.es)(hs:e'.ao=e.ao):e'.bJ=e.bJ:=by obtain⟨f,hf,a1,a2⟩:=s.old e he;rw[jw o.tk.ok.rK tM hf (hs.trans a1.symm),a2]
theorem aH.fJ{c:Nat}{o:AO}(a:aH n h h'):aH n (aK h c o) (aK h' c o):=λb hb=>by
 rw[aj,aj];split;.rfl
 .exact a b hb
theorem Oe{ob d s h base i}:HG (some true) (some (.xa ob)) (some d) s h base i=(ao s d= .ptr (base+i) 0/\au h (base+i)=some ob):=by simp[HG,QR.av,QR.obj]
theorem Pm{ob l c d s h base i}:HG (some true) (some (.pS ob l c)) (some d) s h base i=(ao s d= .sl (base+i) 0 l c/\au h (base+i)=some ob):=by simp[HG,QR.av,QR.obj]
attribute[go_sem] Oe Pm
variable{a:AV}
def By:Nat->cU:=λid=>if id=1 then[(z4,[],some 5),([6,7,8],[],some 9),([],[],some 10),([],[],none)]else if id=3 then[([0,1,2,3,9,10],[2,3,9],some 4),([5,6,7,8],[9,10],some 11),([],[],some 12),([],[],some 13),([],[],none)]else if id=5 then[(z4,[],some 5),([6,7,8],[],some 9),([],[],some 10),([],[],none)]else if id=8 then[(z10,[4,6,7,8],some 11),([12,13,14,15,16],[],some 17),([],[],none)]else if id=9 then[(z9,[],some 10),([11,12,13],[],some 14),([],[],some 15),([],[],none)]else if id=10 then[(z5,[],some 6),([7],[],some 8),([],[],none)]else[]
theorem Mb{σ:LI}{s t u:Nat}{a b b' c:Nat×Nd}(h:t≠s):up (up (up (up σ t b) s a) t b') u c=up (up (up σ s a) t b') u c:=by
 funext q
 unfold up;by_cases h1:q=u;.simp[h1]
 .by_cases h2:q=t;.simp[h2]
  .simp[h1,h2]
def om:Nd:={aE:=false,aJ:=[],fQ:=[],bU:=[],cR:=[],bd:=false,next:=⟨0,0⟩}
theorem qB{v:Value}(h:VR r (.g (.slice none 0 0)) v):VR r (.fz 0 []) v:=by cases h;exact .Cx
theorem Dj{vs:List Value}(h:eM r [a,.agg [bQ false,.g (.slice none 0 0),.g (.slice none 0 0),.g (.slice none 0 0),bR [],bQ false,int 0,u64 0]] vs):eM r [a,om.av] vs:=by
 cases h with|cons h1 h=>cases h with|cons h2 h=>cases h with|nil=>
 refine .cons h1 (.cons ?_ .nil);cases h2 with|agg h=>
 cases h with|cons a1 h=>cases h with|cons a2 h=>cases h with|cons a3 h=>cases h with|cons a4 h=>cases h with|cons a5 h=>cases h with|cons a6 h=>cases h with|cons a7 h=>cases h with|cons a8 h=>cases h with|nil=>
 exact VR.agg (c:=[_,_,_,_,_,_,_,_]) (.cons a1 (.cons (qB a2) (.cons (qB a3) (.cons (qB a4) (.cons a5 (.cons a6 (.cons a7 (.cons a8 .nil))))))))
theorem acZ(n:Nd)(hR:n.R)(h5:n.aJ.length=5)(x:Hd):bo 252 [n.av,x.av] (.dN [(n.left x).av,n.right.av,bR n.sep]):=by
 cases hl:n.aE with
 |true=>exact agz n hR hl ah x
 |false=>exact ahX n hR hl ah x
set_option maxHeartbeats 4000000 in
theorem afi(t:Bl)(p:bj)(h:aG)(nx:Nat)(B:BW t p h nx)(hd:Hd)(n:Nd)(hs:cV t.a.es hd.ao=some (hd.bk,n))(hR:n.R)(h5:n.aJ.length=5)(j8:List Hd)(xz:0<j8.length)(hal:j8.length<=60000)
 (nu:Nd) (hu:cV t.a.es (j8.getD (j8.length-1) default).ao=some ((j8.getD (j8.length-1) default).bk,nu)) (hus:(j8.getD (j8.length-1) default).ao≠hd.ao) (yG:nu.R) (ul:nu.aE=false) (hcu:nu.dI n.sep=true) (hhu:nu.has n.sep=false) (hc:p.fr.count true≠0):
 aA prog 243 [.ptr t.tb 0,r7 j8,hd.av] h nx λv h' nx'=>∃(t':Bl) (p':bj) (x:Hd),cV t.a.es x.ao=none/\BW t' p' h' nx'/\Step nx t t' p p' h h'/\t'.aO=t.aO/\t'.size=t.size/\p'.fr.count true+1=p.fr.count true/\
  cV t'.a.es=up (up (up (cV t.a.es) hd.ao (hd.bk,n.left x)) x.ao (x.bk,n.right)) (j8.getD (j8.length-1) default).ao ((j8.getD (j8.length-1) default).bk,nu.add n.sep x):=by
 have w1:1<=j8.length:=xz;have w2:j8.length<9223372036854775808:=ah;have w3:j8.length-1<j8.length:=ah;have w4:¬((j8.length:Int)=0):=ah;have db:=B.tk.lt;refine aA.ac 3 By func243 ?_;have B0:BW t p (aK h nx (.cells [int hd.ao,u64 hd.bk] 245)) (nx+1):=B.aX (aH.refl.set (an _)) (bz _);obtain⟨e,he,e1,e2,e3,e4,e5,e6⟩:=og B0.tk.ok hs;simp+decide-dsimp only[f243,go_sem,By,Hd.av,Hd.cells,B0.tk.tr];refine bm (e6 _ _ .refl ah) ?_;simp+decide-dsimp only[go_sem,B0.tk.tr];generalize tz:nx+1+Array.size _=D';have ha:nx+1<=D':=ah;refine cf (aA.Ue (args':=[.ptr t.a.ab 0,om.av]) (by rfl) (λr vs hv=>Dj hv) ((B0.aX aH.refl ha).ur hc om)) λ_ h1 cm l1 ⟨t1,p1,x,f1,f2,B1,fI,f3,f4,f5,f6⟩=>?_;subst f2;have ko:x.ao≠hd.ao:=λe'=>by rw[e',hs]at f1;cases f1
 have ya:cV t1.a.es hd.ao=some (hd.bk,n):=by rw[f3,cH ko.symm];exact hs
 obtain⟨e',tM,e1',e2',e3',IS,e5',e6'⟩:=og B1.tk.ok ya;have Kn:e'.bJ=e.bJ:=fI.qM B1 he tM (e1'.trans e1.symm);rw[Kn]at IS e5' e6';have d1:¬(e.bJ=cm):=ah;have d2:¬(e.bJ=cm+1+9):=ah;have d3:¬(e.bJ=cm+1+10):=ah;simp+decide-dsimp only[go_sem,By,d1,d2,d3,IS,Nd.cells,reduceAdd];have Sc:=acZ n hR h5 x;rw[Nd.av,Nd.cells,Hd.av,Hd.cells]at Sc;refine aZ Sc ?_;have k1:au h1 t.tb=some (.cells [.ptr t1.a.pb 0,.ptr t1.a.ab 0,int t1.aO.ao,u64 t1.aO.bk,.g (.int .i64 t1.size),bQ false] 249):=by rw[<-fI.tb];exact B1.tk.tr
 have g1:¬(t.tb=e.bJ):=λh=>B.tk.d3 e he h.symm;have g2:¬(t.tb=cm):=ah;have g3:¬(t.tb=cm+1+9):=ah;have g4:¬(t.tb=cm+1+10):=ah;have g5:¬(cm=e.bJ):=ah;have g6:¬(cm+1+9=e.bJ):=ah;have g7:¬(cm+1+10=e.bJ):=ah;simp+decide-dsimp only[go_sem,By,d1,d2,d3,IS,k1,g1,g2,g3,g4,g5,Nd.av,Nd.cells,reduceAdd];obtain⟨t2,B2,tH,q3,q4,q5⟩:=B1.kI tM e1' e2' (n.left x);rw[Kn]at B2 tH;have UF:cV t2.a.es x.ao=some (x.bk,om):=by rw[q3,cH ko,f3,cO]
 obtain⟨ex,hex,x1,x2,x3,x4,x5,x6⟩:=og B2.tk.ok UF;rw[tH.ab]at x6;refine bm (x6 _ _ ?_ ah) ?_
 .repeat' first|exact aH.refl|apply aH.fJ|(apply aH.set;rotate_left;omega)
 have Xj:¬(ex.bJ=e.bJ):=λhh=>by
  rw[hh,aj,aw rfl]at x4;injection x4 with x4;injection x4 with x4 _
  simp[Nd.cells,Nd.left,om]at x4
 have x4':au h1 ex.bJ=some (.cells (u64 x.bk::om.cells) 294):=by rw[<-x4,aj,ak Xj]
 have m1:¬(ex.bJ=cm):=ah;have m2:¬(ex.bJ=cm+1+9):=ah;have m3:¬(ex.bJ=cm+1+10):=ah;have dtx:¬(t.tb=ex.bJ):=λhh=>by have:=B2.tk.d3 ex hex;rw[tH.tb,fI.tb]at this;exact this hh.symm
 have m4:¬(cm+1+10=ex.bJ):=ah;have m5:¬(cm=ex.bJ):=ah;simp+decide-dsimp only[go_sem,By,k1,g1,g2,g3,g4,g7,Xj,x4',m1,m2,m3,dtx,om,Nd.cells,w1,w2,w3,w4,Hd.cells,jA,reduceAdd];obtain⟨t3,B3,pz,y3,y4,y5⟩:=B2.kI hex x1 x2 n.right;have hus':(j8.getD (j8.length-1) default).ao≠x.ao:=λhh=>by rw[hh,f1]at hu;cases hu
 have hu3:cV t3.a.es (j8.getD (j8.length-1) default).ao=some ((j8.getD (j8.length-1) default).bk,nu):=by rw[y3,cH hus',q3,cH hus,f3,cH hus'];exact hu
 obtain⟨eu,heu,u1,u2,u3,u4,u5,u6⟩:=og B3.tk.ok hu3;rw[pz.ab,tH.ab]at u6;refine bm (u6 _ _ ?_ ah) ?_
 .repeat' first|exact aH.refl|apply aH.fJ|(apply aH.set;rotate_left;omega)
 have agk:=(fI.trans tH (ah:D'<=cm)).trans pz ah;obtain⟨f,hf,fs,fbk⟩:=agk.old e he;have due:¬(eu.bJ=e.bJ):=λh=>hus (by rw[<-u1,<-e1,<-fs,jw B3.tk.ok.IL heu hf (h.trans fbk.symm)]);obtain⟨f',mj,fs',fbk'⟩:=pz.old ex hex;have dux:¬(eu.bJ=ex.bJ):=λh=>hus' (by rw[<-u1,<-x1,<-fs',jw B3.tk.ok.IL heu mj (h.trans fbk'.symm)]);have u4':au h1 eu.bJ=some (.cells (u64 (j8.getD (j8.length-1) default).bk::nu.cells) 294):=by rw[<-u4,aj,ak dux,aj,ak due]
 have v1:¬(eu.bJ=cm):=ah;have v2:¬(eu.bJ=cm+1+9):=ah;have v3:¬(eu.bJ=cm+1+10):=ah;have Qt:=agf nu yG ul n.sep x hcu hhu;rw[Nd.av,Nd.cells,Hd.av,Hd.cells]at Qt;simp+decide-dsimp only[go_sem,By,due,dux,u4',v1,v2,v3,g5,m5,Nd.cells];refine aZ Qt ?_;simp+decide-dsimp only[go_sem,due,dux,u4',v1,v2,v3,Nd.av,Nd.cells,reduceAdd];obtain⟨t4,B4,EH,z3,z4,z5⟩:=B3.kI heu u1 u2 (nu.add n.sep x);refine⟨t4,p1,x,f1,B4.aX ?_ ah,((Step.same (aH.refl.set (an _))).trans (agk.trans EH (ah:D'<=cm)) (ah:nx<=D')).trans (Step.same (nx:=cm) ?_) ah,by rw[z4,y4,q4,f4],by rw[z5,y5,q5,f5],f6,by rw[z3,y3,q3,f3,Mb ko]⟩
 .repeat' first|exact aH.refl|apply aH.fJ|(apply aH.set;rotate_left;omega)
 .repeat' first|exact aH.refl|apply aH.fJ|(apply aH.set;rotate_left;omega)
variable{B6 B9:Nat}
theorem SJ{k:ba}{y x:Hd}(h6:au H B6=some (.cells [bR k] 9))(h9:au H B9=some (.cells [int y.ao,u64 y.bk,int x.ao,u64 x.bk] 245))(cx:B9≠B6)
 (hc:aA prog f [a,(qU k y x).av] (aK (aK H B6 .dead) B9 .dead) nx Q):aA prog f [a,.agg [bQ false,.sl B6 0 1 1,.g (.slice none 0 0),.sl B9 0 2 2,bR [],bQ false,int 0,u64 0]] H nx Q:=by
 refine aA.fz1 (b:=B6) h6 rfl (args':=[a,.agg [bQ false,.fz 1 [bR k],.g (.slice none 0 0),.sl B9 0 2 2,bR [],bQ false,int 0,u64 0]]) (by rfl) ?_ ?_
 .intro r wI vs hle UB h;cases h with|cons h1 h=>cases h with|cons h2 h=>cases h with|nil=>
  refine .cons (h1.mono hle) (.cons ?_ .nil);cases h2 with|agg h=>
  cases h with|cons a1 h=>cases h with|cons a2 h=>cases h with|cons a3 h=>cases h with|cons a4 h=>cases h with|cons a5 h=>cases h with|cons a6 h=>cases h with|cons a7 h=>cases h with|cons a8 h=>cases h with|nil=>
  exact VR.agg (c:=[_,_,_,_,_,_,_,_]) (.cons (a1.mono hle) (.cons (UB 0 1 1 1 _ (an _) a2) (.cons (a3.mono hle) (.cons (a4.mono hle) (.cons (a5.mono hle) (.cons (a6.mono hle) (.cons (a7.mono hle) (.cons (a8.mono hle) .nil))))))))
 refine aA.fz1 (b:=B9) (cs:=[int y.ao,u64 y.bk,int x.ao,u64 x.bk]) (by rw[aj,ak cx];exact h9) rfl (args':=[a,(qU k y x).av]) (by rfl) ?_ hc;intro r wI vs hle UB h;cases h with|cons h1 h=>cases h with|cons h2 h=>cases h with|nil=>
 refine .cons (h1.mono hle) (.cons ?_ .nil);cases h2 with|agg h=>
 cases h with|cons a1 h=>cases h with|cons a2 h=>cases h with|cons a3 h=>cases h with|cons a4 h=>cases h with|cons a5 h=>cases h with|cons a6 h=>cases h with|cons a7 h=>cases h with|cons a8 h=>cases h with|nil=>
 exact VR.agg (c:=[_,_,_,_,_,_,_,_]) (.cons (a1.mono hle) (.cons (a2.mono hle) (.cons (qB (a3.mono hle)) (.cons (UB 0 2 2 4 _ (an _) a4) (.cons (a5.mono hle) (.cons (a6.mono hle) (.cons (a7.mono hle) (.cons (a8.mono hle) .nil))))))))
theorem BW.tree{t:Bl}{p:bj}(o:BW t p h nx)(aO:Hd)(size:Int):
 BW {t with aO:=aO,size:=size} p (aK h t.tb (.cells [.ptr t.a.pb 0,.ptr t.a.ab 0,int aO.ao,u64 aO.bk,.g (.int .i64 size),bQ false] 249)) nx/\
 Step nx t {t with aO:=aO,size:=size} p p h (aK h t.tb (.cells [.ptr t.a.pb 0,.ptr t.a.ab 0,int aO.ao,u64 aO.bk,.g (.int .i64 size),bQ false] 249)):=by
 have hd:=o.sd;refine⟨⟨⟨by show au _ t.tb=_;rw[aj,aw rfl],⟨by rw[aj,ak o.tk.d1.symm];exact o.tk.ok.ar,by rw[aj,ak o.tk.d2.symm];exact o.tk.ok.mp,λe he=>by rw[aj,ak (o.tk.d3 e he)];exact o.tk.ok.cl e he,o.tk.ok.rK,o.tk.ok.IL,o.tk.ok.fr,o.tk.ok.ne,o.tk.ok.la,o.tk.ok.lm⟩,o.tk.d1,o.tk.d2,o.tk.d3,o.tk.lt⟩,
  o.pk.iy (by rw[aj,ak hd.1.symm]) (by rw[aj,ak hd.2.1.symm]) (by rw[aj,ak hd.2.2.symm]) (an _),o.sp,o.sd⟩,
  ⟨rfl,rfl,rfl,rfl,rfl,rfl,rfl,λ_ h=>h,λe he=> .inl ⟨e,he,rfl⟩,λe he=>⟨e,he,rfl,rfl⟩,λe he=> .inl ⟨e,he,rfl⟩,λb _ g _ _ _ _ _=>by rw[aj,ak g]⟩⟩
theorem Sn{σ:LI}{s t u:Nat}{a b b' c:Nat×Nd}(h:t≠s):up (up (up (up σ t b) s a) t b') u c=up (up (up σ s a) t b') u c:=Mb h
set_option maxHeartbeats 4000000 in
theorem aiu(t:Bl)(p:bj)(h:aG)(nx:Nat)(B:BW t p h nx)(hd:Hd)(n:Nd)(hs:cV t.a.es hd.ao=some (hd.bk,n))(hR:n.R)(h5:n.aJ.length=5)(hc:2<=p.fr.count true):
 aA prog 243 [.ptr t.tb 0,r7 [],hd.av] h nx λv h' nx'=>∃(t':Bl) (p':bj) (x y:Hd),cV t.a.es x.ao=none/\cV t.a.es y.ao=none/\x.ao≠y.ao/\BW t' p' h' nx'/\Step nx t t' p p' h h'/\t'.aO=y/\t'.size=t.size/\p'.fr.count true+2=p.fr.count true/\
  cV t'.a.es=up (up (up (cV t.a.es) hd.ao (hd.bk,n.left x)) x.ao (x.bk,n.right)) y.ao (y.bk,qU n.sep hd x):=by
 have hc0:=hc;replace hc:p.fr.count true≠0:=ah;have db:=B.tk.lt;refine aA.ac 3 By func243 ?_;have B0:BW t p (aK h nx (.cells [int hd.ao,u64 hd.bk] 245)) (nx+1):=B.aX (aH.refl.set (an _)) (bz _);obtain⟨e,he,e1,e2,e3,e4,e5,e6⟩:=og B0.tk.ok hs;simp+decide-dsimp only[f243,go_sem,By,Hd.av,Hd.cells,B0.tk.tr];refine bm (e6 _ _ .refl ah) ?_;simp+decide-dsimp only[go_sem,B0.tk.tr];generalize tz:nx+1+Array.size _=D';have ha:nx+1<=D':=ah;refine cf (aA.Ue (args':=[.ptr t.a.ab 0,om.av]) (by rfl) (λr vs hv=>Dj hv) ((B0.aX aH.refl ha).ur hc om)) λ_ h1 cm l1 ⟨t1,p1,x,f1,f2,B1,fI,f3,f4,f5,f6⟩=>?_;subst f2;have ko:x.ao≠hd.ao:=λe'=>by rw[e',hs]at f1;cases f1
 have ya:cV t1.a.es hd.ao=some (hd.bk,n):=by rw[f3,cH ko.symm];exact hs
 obtain⟨e',tM,e1',e2',e3',IS,e5',e6'⟩:=og B1.tk.ok ya;have Kn:e'.bJ=e.bJ:=fI.qM B1 he tM (e1'.trans e1.symm);rw[Kn]at IS e5' e6';have d1:¬(e.bJ=cm):=ah;have d2:¬(e.bJ=cm+1+9):=ah;have d3:¬(e.bJ=cm+1+10):=ah;simp+decide-dsimp only[go_sem,By,d1,d2,d3,IS,Nd.cells,reduceAdd];have Sc:=acZ n hR h5 x;rw[Nd.av,Nd.cells,Hd.av,Hd.cells]at Sc;refine aZ Sc ?_;have k1:au h1 t.tb=some (.cells [.ptr t1.a.pb 0,.ptr t1.a.ab 0,int t1.aO.ao,u64 t1.aO.bk,.g (.int .i64 t1.size),bQ false] 249):=by rw[<-fI.tb];exact B1.tk.tr
 have g1:¬(t.tb=e.bJ):=λh=>B.tk.d3 e he h.symm;have g2:¬(t.tb=cm):=ah;have g3:¬(t.tb=cm+1+9):=ah;have g4:¬(t.tb=cm+1+10):=ah;have g5:¬(cm=e.bJ):=ah;have g6:¬(cm+1+9=e.bJ):=ah;have g7:¬(cm+1+10=e.bJ):=ah;simp+decide-dsimp only[go_sem,By,d1,d2,d3,IS,k1,g1,g2,g3,g4,g5,Nd.av,Nd.cells,reduceAdd];obtain⟨t2,B2,tH,q3,q4,q5⟩:=B1.kI tM e1' e2' (n.left x);rw[Kn]at B2 tH;have UF:cV t2.a.es x.ao=some (x.bk,om):=by rw[q3,cH ko,f3,cO]
 obtain⟨ex,hex,x1,x2,x3,x4,x5,x6⟩:=og B2.tk.ok UF;rw[tH.ab]at x6;refine bm (x6 _ _ ?_ ah) ?_
 .repeat' first|exact aH.refl|apply aH.fJ|(apply aH.set;rotate_left;omega)
 have Xj:¬(ex.bJ=e.bJ):=λhh=>by
  rw[hh,aj,aw rfl]at x4;injection x4 with x4;injection x4 with x4 _
  simp[Nd.cells,Nd.left,om]at x4
 have x4':au h1 ex.bJ=some (.cells (u64 x.bk::om.cells) 294):=by rw[<-x4,aj,ak Xj]
 have m1:¬(ex.bJ=cm):=ah;have m2:¬(ex.bJ=cm+1+9):=ah;have m3:¬(ex.bJ=cm+1+10):=ah;have dtx:¬(t.tb=ex.bJ):=λhh=>by have:=B2.tk.d3 ex hex;rw[tH.tb,fI.tb]at this;exact this hh.symm
 have m4:¬(cm+1+10=ex.bJ):=ah;have m5:¬(cm=ex.bJ):=ah;simp+decide-dsimp only[go_sem,By,k1,g1,g2,g3,g4,g7,Xj,x4',m1,m2,m3,dtx,om,Nd.cells,reduceAdd];obtain⟨t3,B3,pz,y3,y4,y5⟩:=B2.kI hex x1 x2 n.right;generalize Tg:cm+1+Array.size _+Array.size _=nb;have aoc:cm+1<=nb:=ah;have heb:=(B.tk.ok.fr e he).2.2;have anN:ex.bJ<nx\/D'<=ex.bJ:=by
  rcases(fI.trans tH (ah:D'<=cm)).bJ ex hex with⟨f,hf,IH⟩|h;.have:=(B.tk.ok.fr f hf).2.2;left;omega
  .exact .inr h
 have Gi:=B.pk.rY;have pl2:=B.pk.ss;have pl3:=B.pk.sr;have MQ:=B.tk.ok.lm;have kn:au h1 nx=some (.cells [int hd.ao,u64 hd.bk] 245):=by rw[fI.aX nx ah ah ah ah ah ah (λf hf=>by have:=(B.tk.ok.fr f hf).2.2;omega),aj,aw rfl]
 have o1:¬(nx=nb+6):=ah;have o2:¬(nx=ex.bJ):=ah;have o3:¬(nx=e.bJ):=ah;have o4:¬(nx=cm+1+9):=ah;have o5:¬(nx=cm+1+10):=ah;have o6:¬(nx=cm):=ah;have o7:¬(cm=nb+6):=ah;have o8:¬(cm=nb+9):=ah;have o9:¬(nb+6=nb+9):=ah;have o10:¬(t.tb=nb+6):=ah;have o11:¬(t.tb=nb+9):=ah;have o12:¬(nx=nb+9):=ah;simp+decide-dsimp only[go_sem,kn,o1,o2,o3,o4,o5,o6,o7,o8,o9,o10,o11,o12,k1,g1,g2,g3,g4,g5,m5,dtx,reduceAdd];have anr:t3.a.ab=t1.a.ab:=pz.ab.trans tH.ab;have IN:p1.fr.count true≠0:=ah;have c:∀h' nx',aH cm (aK (aK h1 e.bJ (.cells (u64 hd.bk::(n.left x).cells) 294)) ex.bJ (.cells (u64 x.bk::n.right.cells) 294)) h'->cm<=nx'->aA prog 129 [.ptr t1.a.ab 0,(qU n.sep hd x).av] h' nx' _:=λh' nx' s l=>by have:=(B3.aX s l).ur IN (qU n.sep hd x);rw[anr]at this;exact this
 refine cf (SJ (k:=n.sep) (y:=hd) (x:=x) (B6:=nb+6) (B9:=nb+9) (by rw[aj,ak ah,aj,aw rfl]) gl ah (c _ _ ?_ ah)) λ_ h4 Ie l4 ⟨t4,p2,y,b1,b2,B4,EH,b3,b4,b5,b6⟩=>?_
 .repeat' first|exact aH.refl|apply aH.fJ|(apply aH.set;rotate_left;omega)
 subst b2;have ahN:t4.tb=t.tb:=by rw[EH.tb,pz.tb,tH.tb,fI.tb]
 have k4:au h4 t.tb=some (.cells [.ptr t4.a.pb 0,.ptr t4.a.ab 0,int t4.aO.ao,u64 t4.aO.bk,.g (.int .i64 t4.size),bQ false] 249):=by rw[<-ahN];exact B4.tk.tr
 simp+decide-dsimp only[go_sem,k4,reduceAdd];obtain⟨B5,GA⟩:=B4.tree y t4.size;rw[ahN]at B5 GA;have hyx:x.ao≠y.ao:=λhh=>by rw[y3,q3,<-hh,cO]at b1;cases b1
 have CE:y.ao≠hd.ao:=λhh=>by rw[y3,q3,hh,cH ko.symm,cO]at b1;cases b1
 have hy0:cV t.a.es y.ao=none:=by rw[y3,q3,cH hyx.symm,cH CE,f3,cH hyx.symm]at b1;exact b1
 refine⟨_,p2,x,y,f1,hy0,hyx,B5.aX aH.refl ah,?_,rfl,by show t4.size=_;rw[b5,y5,q5,f5],ah,?_⟩
 .have a1:=(Step.same (aH.refl.set (an _)):Step nx t t p p h (aK h nx (.cells [int hd.ao,u64 hd.bk] 245)));have a2:=a1.trans ((fI.trans tH (ah:D'<=cm)).trans pz (ah:D'<=cm)) (ah:nx<=D');refine((a2.trans (Step.same (nx:=cm) ?_) ah).trans EH ah).trans GA ah
  repeat' first|exact aH.refl|apply aH.fJ|(apply aH.set;rotate_left;omega)
 .show cV t4.a.es=_;rw[b3,y3,q3,f3,Sn ko]
section
variable{Pk:ba->Prop}{σ:LI}{aO:Hd}{lo:Nat->ba}{lv:Nat->Nat}{iJ big':Nat->Prop}
theorem BI.Mr(I:BI Pk σ aO lo lv iJ)(h:∀s g n,iJ s->σ s=some (g,n)->n.aJ.length<=4\/(big' s/\n.aJ.length=5)):BI Pk σ aO lo lv big':=
 ⟨I.r,λs g n hs=>by
  rcases I.small _ _ _ hs with q|q;.exact .inl q
  .exact h s g n q.1 hs,I.aE,I.cQ,I.tB,I.lQ,I.next,I.uniq,I.rt,I.aJ,I.top⟩
theorem Nd.Mk{n:Nd}(k v:ba):(n.put k v).aJ.length=n.aJ.length+(if n.has k then 0 else 1):=by
 unfold Nd.put;cases n.has k with
 |true=>rfl
 |false=>exact lC (iE _ _)
theorem Nd.Au{n:Nd}{k:ba}:n.has k=true↔place n.aJ k<n.aJ.length/\n.aJ.getD (place n.aJ k) []=k:=by unfold Nd.has;simp
theorem QC{n:Nd}{k:ba}(hh:n.has k=false)(h:place n.aJ k<n.aJ.length):k<n.aJ.getD (place n.aJ k) []:=by
 have:=tU n.aJ k h;rcases jD k (n.aJ.getD (place n.aJ k) [])with q|q|q
 .exact q
 .rw[Nd.Au.2 ⟨h,q.symm⟩]at hh;cases hh
 .exact absurd q this
theorem Nd.R.put{n:Nd}(hR:n.R)(hl:n.aE=true)(bP:n.aJ.length<=10){k:ba}(hc:n.dI k=true)(v:ba):(n.put k v).R:=by
 obtain⟨e1,e2⟩:=hR.lf hl;have hp:=iE n.aJ k;unfold Nd.put;cases hh:n.has k with
 |true=>exact⟨hR.sorted,hR.wk,hR.hi,λ_=>⟨by show(n.fQ.set _ v).length=_;rw[eJ];exact e1,e2⟩,(λh=>by rw[show n.aE=true from hl]at h;cases h),hR.small⟩
 |false=>
  have oh:(ins n.aJ (place n.aJ k) k).length=n.aJ.length+1:=lC hp;refine⟨λi hi=>?_,λi hi=>?_,hR.hi,λ_=>⟨?_,e2⟩,(λh=>by rw[show n.aE=true from hl]at h;cases h),by show(ins n.aJ _ k).length<_;rw[oh];omega⟩
  .have hi:i+1<(ins n.aJ (place n.aJ k) k).length:=hi;rw[oh]at hi;show(ins n.aJ _ k).getD i []<(ins n.aJ _ k).getD (i+1) [];rcases cI (i+1) (place n.aJ k)with h|h|h
   .rw[me ah hp,me h hp];exact hR.sorted i ah
   .rw[me ah hp,<-h,mF ah];exact uI _ _ _ ah
   .rcases bg (place n.aJ k) i with h'|h';.rw[kH h' hp,kH ah hp];have:=hR.sorted (i-1) ah;rw[show i-1+1=i from ah]at this;exact this
    .have:i=place n.aJ k:=ah;rw[this,mF hp,kH ah hp,fv];exact QC hh ah
  .have hi:i<(ins n.aJ (place n.aJ k) k).length:=hi;rw[oh]at hi;show(!n.bd||decide ((ins n.aJ _ k).getD i []<n.cR))=true;rcases cI i (place n.aJ k)with h|h|h
   .rw[me h hp];exact hR.wk i ah
   .rw[h,mF hp];exact hc
   .rw[kH h hp];exact hR.wk _ ah
  .show(ins n.fQ _ v).length=(ins n.aJ _ k).length;rw[lC ah,oh,e1]
theorem oU{l:List ba}{p:Nat}:(l.eraseIdx p).getD i []=if i<p then l.getD i []else l.getD (i+1) []:=by simp only[List.getD,List.getElem?_eraseIdx];split<;>rfl
theorem Nd.R.del{n:Nd}(hR:n.R)(hl:n.aE=true)(k:ba):(n.del k).R:=by
 obtain⟨e1,e2⟩:=hR.lf hl;unfold Nd.del;cases hh:n.has k with
 |false=>exact hR
 |true=>
  have hp:=(Nd.Au.1 hh).1;have bP:(n.aJ.eraseIdx (place n.aJ k)).length=n.aJ.length-1:=iQ hp;have hs:=hR.small;refine⟨λi hi=>?_,λi hi=>?_,hR.hi,λ_=>⟨?_,e2⟩,(λh=>by rw[show n.aE=true from hl]at h;cases h),by show(n.aJ.eraseIdx _).length<_;rw[bP];omega⟩;.have hi:i+1<(n.aJ.eraseIdx (place n.aJ k)).length:=hi;rw[bP]at hi;show(n.aJ.eraseIdx _).getD i []<(n.aJ.eraseIdx _).getD (i+1) [];rw[oU,oU];split<;>split<;>exact hR.lt ah ah
  .have hi:i<(n.aJ.eraseIdx (place n.aJ k)).length:=hi;rw[bP]at hi;show(!n.bd||decide ((n.aJ.eraseIdx _).getD i []<n.cR))=true;rw[oU];split<;>exact hR.wk _ ah
  .show(n.fQ.eraseIdx _).length=(n.aJ.eraseIdx _).length;rw[bP,iQ ah,e1]
theorem BI.put(I:BI Pk σ aO lo lv (λ_=>False)){s g:Nat}{n:Nd}(hs:σ s=some (g,n))(hl:n.aE=true){k:ba}(hc:PG lo s n k)(hk:Pk k)(v:ba):BI Pk (up σ s (g,n.put k v)) aO lo lv (· =s):=by
 have hR:=I.r _ _ _ hs;have h4:n.aJ.length<=4:=by
  rcases I.small _ _ _ hs with h|h;.exact h
  .exact absurd h.1 id
 have hp:=iE n.aJ k;refine I.upd (λ_ h=>h) hs hl (by unfold Nd.put;split<;>exact hl) (by unfold Nd.put;split<;>rfl) (by unfold Nd.put;split<;>rfl) (by unfold Nd.put;split<;>rfl) (hR.put hl ah hc.2 v) ?_ ?_ ?_
 .unfold Nd.put;cases hh:n.has k with
  |true=>exact λi hi=>(I.cQ _ _ _ hs i hi).1
  |false=>
   intro i hi;have hi:i<(ins n.aJ (place n.aJ k) k).length:=hi;rw[lC hp]at hi;show¬(ins n.aJ _ k).getD i []<lo s;rcases cI i (place n.aJ k)with h|h|h
   .rw[me h hp];exact(I.cQ _ _ _ hs i ah).1
   .rw[h,mF hp];exact hc.1
   .rw[kH h hp];exact(I.cQ _ _ _ hs _ ah).1
 .rw[Nd.Mk];split;.left;omega
  .rcases bg n.aJ.length 4 with h|h;.left;omega
   .right;exact⟨rfl,ah⟩
 .intro q hq;unfold Nd.put at hq;cases hh:n.has k with
  |true=>rw[hh]at hq;exact I.aJ _ _ _ hs hl q hq
  |false=>
   rw[hh]at hq;have hq:q∈ins n.aJ (place n.aJ k) k:=hq;unfold ins at hq;rcases bp.1 hq with hq|hq
   .exact I.aJ _ _ _ hs hl q (ef hq)
   .rcases bE.1 hq with hq|hq;.rw[hq];exact hk
    .exact I.aJ _ _ _ hs hl q (ir hq)
theorem BI.del(I:BI Pk σ aO lo lv (λ_=>False)){s g:Nat}{n:Nd}(hs:σ s=some (g,n))(hl:n.aE=true)(k:ba):BI Pk (up σ s (g,n.del k)) aO lo lv (λ_=>False):=by
 have hR:=I.r _ _ _ hs;have h4:n.aJ.length<=4:=by
  rcases I.small _ _ _ hs with h|h;.exact h
  .exact absurd h.1 id
 refine I.upd (λ_ h=>h) hs hl (by unfold Nd.del;split<;>exact hl) (by unfold Nd.del;split<;>rfl) (by unfold Nd.del;split<;>rfl) (by unfold Nd.del;split<;>rfl) (hR.del hl k) ?_ ?_ ?_
 .unfold Nd.del;cases hh:n.has k with
  |false=>exact λi hi=>(I.cQ _ _ _ hs i hi).1
  |true=>intro i hi;have hp:=(Nd.Au.1 hh).1;have hi:i<(n.aJ.eraseIdx (place n.aJ k)).length:=hi;rw[iQ hp]at hi;show¬(n.aJ.eraseIdx _).getD i []<lo s;rw[oU];split<;>exact(I.cQ _ _ _ hs _ ah).1
 .left;unfold Nd.del;split;.show(n.aJ.eraseIdx _).length<=4;have:=List.length_eraseIdx_le n.aJ (place n.aJ k);omega
  .exact h4
 .intro q hq;unfold Nd.del at hq;split at hq;.exact I.aJ _ _ _ hs hl q (List.mem_of_mem_eraseIdx hq)
  .exact I.aJ _ _ _ hs hl q hq
end
variable{aO:Hd}
def Mh(Pk:ba->Prop)(σ:LI)(aO:Hd)(d:Nat):Prop:=∃lo lv,BI Pk σ aO lo lv (λ_=>False)/\lv aO.ao<=d
abbrev at_(L:List Hd)(q:Nat):Hd:=L.getD q default
structure uP(Pk:ba->Prop)(σ σ1:LI)(gz:Hd)(L:List Hd)(d c c1 j:Nat)(nu:Prop):Prop where
 bi:∃lo lv,BI Pk σ1 gz lo lv (· =(at_ L (j-1)).ao)/\lv gz.ao<=d
 old:∀q,q+1<j->∃n,σ (at_ L q).ao=some ((at_ L q).bk,n)/\σ1 (at_ L q).ao=some ((at_ L q).bk,n)/\n.aE=false/\∃i,i<n.bU.length/\n.bU.getD i default=at_ L (q+1)
 cur:∃m,σ1 (at_ L (j-1)).ao=some ((at_ L (j-1)).bk,m)/\(m.aJ.length=5->nu/\∀q,j-1<=q->q<L.length->∃n,σ (at_ L q).ao=some ((at_ L q).bk,n)/\4<=n.aJ.length)
 rt:gz=at_ L 0
 cnt:c1+(L.length-j)=c
 pos:0<j
 le:j<=L.length
theorem uP.exit{Pk σ σ1 gz L d c c1 j nu}(I:uP Pk σ σ1 gz L d c c1 j nu){m:Nd}(hm:σ1 (at_ L (j-1)).ao=some ((at_ L (j-1)).bk,m))(h:¬4<m.aJ.length):Mh Pk σ1 gz (d+1):=by obtain⟨lo,lv,I1,h1⟩:=I.bi;refine⟨lo,lv,I1.Mr λs g n hs hn=>?_,ah⟩;subst hs;rw[hm]at hn;injection hn with hn;injection hn with _ hn;subst hn;left;omega
def PX(σ:LI)(L:List Hd)(c:Nat):Prop:=∃m,m<=c/\((m<L.length/\∃n,σ (at_ L (L.length-1-m)).ao=some ((at_ L (L.length-1-m)).bk,n)/\n.aJ.length<4)\/m=L.length+1)
theorem uP.room{Pk σ σ1 gz L d c c1 j nu}(I:uP Pk σ σ1 gz L d c c1 j nu)(hN:nu->PX σ L c){m:Nd}(hm:σ1 (at_ L (j-1)).ao=some ((at_ L (j-1)).bk,m))(h:m.aJ.length=5):
 c1≠0/\(j=1->2<=c1):=by
 obtain⟨m',h1,h2⟩:=I.cur;rw[hm]at h1;injection h1 with h1;injection h1 with _ h1;subst h1;obtain⟨h3,h4⟩:=h2 h;obtain⟨M,hM,hc⟩:=hN h3;have:=I.cnt;have:=I.pos;have:=I.le;rcases hc with⟨g1,n,g2,g3⟩|g
 .have:L.length-1-M<j-1:=by
   rcases bg (L.length-1-M) (j-1)with q|q;.exact q
   .obtain⟨n',e1,e2⟩:=h4 _ q ah;rw[g2]at e1;injection e1 with e1;injection e1 with _ e1;subst e1;omega
  constructor<;>omega
 .constructor<;>omega
theorem uP.fC{Pk σ σ1 gz L d c c1 j nu}(I:uP Pk σ σ1 gz L d c c1 j nu){lo lv iJ}(B:BI Pk σ1 gz lo lv iJ):∀q' q,q<q'->q'<j->lv (at_ L q').ao<lv (at_ L q).ao:=by
 intro q'
 induction q' with
 |zero=>omega
 |succ q' ih=>
  intro q h1 h2;obtain⟨n,a1,a2,a3,i,a4,a5⟩:=I.old q' h2;obtain⟨m,b1,b2,_⟩:=B.lQ _ _ _ a2 a3 i a4;rw[a5]at b2;rcases bg q q' with h|h
  .have:=ih q h ah;omega
  .have:q=q':=ah;subst this;omega
theorem P2(es:List (jE Nd)):∃s,cV es s=none:=by
 have:∃s,∀e∈es,e.ao<s:=by
  induction es with
  |nil=>exact⟨0,λe he=>by cases he⟩
  |cons a es ih=>
   obtain⟨s,hs⟩:=ih;refine⟨s+a.ao+1,λe he=>?_⟩;rcases bE.1 he with rfl|he;.omega
   .have:=hs e he;omega
 obtain⟨s,hs⟩:=this;exact⟨s,qn λe he=>by have:=hs e he;omega⟩
theorem uP.split{Pk σ σ1 gz L d c c1 j nu}(agN:∃s,σ1 s=none)(I:uP Pk σ σ1 gz L d c c1 j nu)(hj:2<=j){n:Nd}(hn:σ1 (at_ L (j-1)).ao=some ((at_ L (j-1)).bk,n))(h5:n.aJ.length=5){u:Nd}(hu:σ1 (at_ L (j-2)).ao=some ((at_ L (j-2)).bk,u)):
 (at_ L (j-2)).ao≠(at_ L (j-1)).ao/\n.R/\u.R/\u.aE=false/\u.dI n.sep=true/\u.has n.sep=false/\
 ∀(x:Hd) (c2:Nat),σ1 x.ao=none->c2+1=c1->uP Pk σ (up (up (up σ1 (at_ L (j-1)).ao ((at_ L (j-1)).bk,n.left x)) x.ao (x.bk,n.right)) (at_ L (j-2)).ao ((at_ L (j-2)).bk,u.add n.sep x)) gz L d c c2 (j-1) nu:=by
 obtain⟨lo,lv,B,h1⟩:=I.bi;obtain⟨u',a1,a2,a3,i,a4,a5⟩:=I.old (j-2) ah;rw[hu]at a2;injection a2 with a2;injection a2 with _ a2;subst a2;rw[show j-2+1=j-1 from ah]at a5;have acL:=I.fC B;have cx:∀q q',q<q'->q'<j->(at_ L q).ao≠(at_ L q').ao:=λq q' g1 g2 e=>by have:=acL q' q g1 g2;rw[e]at this;omega
 have hr:gz.ao≠(at_ L (j-1)).ao:=by rw[I.rt];exact cx 0 (j-1) ah ah
 have key:=λ(x:Hd) (hx:σ1 x.ao=none)=>B.split (x:=x) hn h5 hx hu a3 a4 a5 hr;have yG:=B.r _ _ _ hu;have wk:u.dI n.sep=true/\u.has n.sep=false:=by obtain⟨s,hs⟩:=agN;have:=key ⟨s,0⟩ hs;exact⟨this.1,this.2.1⟩
 refine⟨cx _ _ ah ah,B.r _ _ _ hn,yG,a3,wk.1,wk.2,λx c2 hx hc=>?_⟩;obtain⟨_,k2,k3⟩:=key x hx;have Vh:∀q,q<j->(at_ L q).ao≠x.ao:=by
  intro q hq e;have:∃g m,σ1 (at_ L q).ao=some (g,m):=by
   rcases bg (q+1) j with g|g;.obtain⟨m,_,g2,_⟩:=I.old q g;exact⟨_,_,g2⟩
   .have:q=j-1:=ah;subst this;exact⟨_,_,hn⟩
  obtain⟨g,m,g2⟩:=this;rw[e,hx]at g2;cases g2
 refine⟨⟨_,_,k3,?_⟩,λq hq=>?_,⟨u.add n.sep x,cO,λhl=>?_⟩,I.rt,by have:=I.cnt;have:=I.le;omega,ah,by have:=I.le;omega⟩;.show(if gz.ao=x.ao then _ else _)<=d;rw[ak (by rw[I.rt];exact Vh 0 ah)];exact h1
 .obtain⟨m,e1,e2,e3⟩:=I.old q ah;refine⟨m,e1,?_,e3⟩;rw[cH (cx q (j-2) ah ah),cH (Vh q ah),cH (cx q (j-1) ah ah)];exact e2
 .obtain⟨m',e1,e2⟩:=I.cur;rw[hn]at e1;injection e1 with e1;injection e1 with _ e1;subst e1;obtain⟨e3,e4⟩:=e2 h5;refine⟨e3,λq g1 g2=>?_⟩;rcases bg q (j-1)with g|g;.have:q=j-2:=ah;subst this;refine⟨u,a1,?_⟩;have:(u.add n.sep x).aJ.length=u.aJ.length+1:=lC (iE _ _);omega
  .exact e4 q g g2
theorem uP.top{Pk σ σ1 gz L d c c1 nu}(I:uP Pk σ σ1 gz L d c c1 1 nu){n:Nd}(hn:σ1 (at_ L 0).ao=some ((at_ L 0).bk,n))(h5:n.aJ.length=5):
 n.R/\∀(x y:Hd),σ1 x.ao=none->σ1 y.ao=none->x.ao≠y.ao->Mh Pk (up (up (up σ1 (at_ L 0).ao ((at_ L 0).bk,n.left x)) x.ao (x.bk,n.right)) y.ao (y.bk,qU n.sep (at_ L 0) x)) y (d+1):=by
 obtain⟨lo,lv,B,h1⟩:=I.bi;refine⟨B.r _ _ _ hn,λx y hx hy FP=>?_⟩;have hr:gz=⟨(at_ L 0).ao,(at_ L 0).bk⟩:=I.rt;have:=B.Oq hn h5 hx hy FP hr;rw[show gz=at_ L 0 from hr]at this;refine⟨_,_,this,?_⟩;show(if y.ao=y.ao then _ else _)<=d+1;rw[aw rfl];have h1:lv gz.ao<=d:=h1;rw[hr]at h1;exact Nat.succ_le_succ h1
theorem uP.start{σ:LI}{lo lv d}(I:BI Pk σ aO lo lv (λ_=>False))(hd:lv aO.ao<=d){k v:ba}(P:IZ σ aO lo k L true)(hk:Pk k)(c:Nat):
 ∃n,σ (at_ L (L.length-1)).ao=some ((at_ L (L.length-1)).bk,n)/\n.R/\n.aE=true/\n.dI k=true/\uP Pk σ (up σ (at_ L (L.length-1)).ao ((at_ L (L.length-1)).bk,n.put k v)) aO L d c c L.length (n.has k=false):=by
 have cx:=P.ne;obtain⟨n,h1,h2,_,h4⟩:=P.node (L.length-1) ah;have hl:=h4 ah rfl;have zq:∀q' q,q<q'->q'<L.length->lv (at_ L q').ao<lv (at_ L q).ao:=by
  intro q'
  induction q' with
  |zero=>omega
  |succ q' ih=>
   intro q g1 g2;obtain⟨m,a1,a2,a3,_⟩:=P.node q' ah;obtain⟨a3,a4⟩:=a3 g2;obtain⟨m',b1,b2,_⟩:=I.lQ _ _ _ a1 a3 _ ((I.r _ _ _ a1).A3 a3 k);rw[<-a4]at b2;rcases bg q q' with h|h
   .have:=ih q h ah;have b2:lv (at_ L (q'+1)).ao+1=lv (at_ L q').ao:=b2;omega
   .have:q=q':=ah;subst this;have b2:lv (at_ L (q+1)).ao+1=lv (at_ L q).ao:=b2;omega
 refine⟨n,h1,I.r _ _ _ h1,hl,h2.2,⟨⟨lo,lv,I.put h1 hl h2 hk v,hd⟩,λq hq=>?_,⟨n.put k v,cO,λh5=>?_⟩,P.rt.symm,ah,cx,an _⟩⟩
 .obtain⟨m,a1,a2,a3,_⟩:=P.node q ah;obtain⟨a3,a4⟩:=a3 hq;refine⟨m,a1,?_,a3,_,(I.r _ _ _ a1).A3 a3 k,a4.symm⟩;rw[cH]; · exact a1
  intro e;have:=zq (L.length-1) q ah ah;have e:(at_ L q).ao=(at_ L (L.length-1)).ao:=e;rw[e]at this;omega
 .have hp:=Nd.Mk (n:=n) k v;have h4:n.aJ.length<=4:=by
   rcases I.small _ _ _ h1 with h|h;.exact h
   .exact absurd h.1 id
  cases hh:n.has k with
  |true=>rw[hh]at hp;simp at hp;omega
  |false=>rw[hh]at hp;simp at hp;refine⟨rfl,λq g1 g2=>⟨n,?_,ah⟩⟩;have:q=L.length-1:=ah;subst this;exact h1
theorem OW(h:i<=L.length):vq 2 L.length (L.flatMap Hd.cells) none (some (int i))=some (r7 (L.take i)):=by
 have e:((L.take i).flatMap Hd.cells)=(L.flatMap Hd.cells).take (i*2):=by exact(fg gr L i).symm
 have hl:(L.flatMap Hd.cells).length=L.length*2:=bT gr L;simp only[vq,fe,lK,fX h,eN,fS,oI];rw[bO _ _ ah,<-e];simp[bM h]
def Om:Nat->cU:=λid=>if id=6 then[(z9,[],some 10),([11,12,13],[],some 14),([],[],some 15),([],[],none)]else if id=8 then[(z8,[],some 9),([],[6],some 10),([11,12],[],none)]else if id=16 then[(z7,[],some 8),([9,10,11],[],some 12),([],[],none)]else if id=18 then[(z7,[],some 8),([],[],none)]else[]
theorem akn:(.g (.int .i64 (cF .i64 (((0:Nat):Int)-1))):AV)= .g (.int .i64 (-1)):=by rw[wrap_i64 ah ah];rfl
theorem ZO(h:i<9223372036854775808):(.g (.int .i64 (cF .i64 (((i+1:Nat):Int)-1))):AV)=int i:=by rw[wrap_i64 ah ah,show(((i+1:Nat):Int)-1)=(i:Int)by omega]
theorem yF{off:Nat}{m:Nd}:yA h b off (some 8) (some m.cells)=kR (eQ h b off m.cells):=uE rfl rfl
set_option maxHeartbeats 4000000 in
theorem aka(t:Bl)(p:bj)(h:aG)(nx:Nat)(B:BW t p h nx){d:Nat}(hT:Mh Pk (cV t.a.es) t.aO d)(hd:d<50000)(k v:ba)(hk:Pk k):
 aA prog 227 [.ptr t.tb 0,bR k,bR v] h nx λr h' nx'=>∃(t':Bl) (p':bj) (old:ba) (lS:Bool) (e:Int),r= .dN [bR old,bQ lS,.g (.int .i64 e)]/\BW t' p' h' nx'/\Step nx t t' p p' h h'/\Mh Pk (cV t'.a.es) t'.aO (d+1):=by
 obtain⟨lo,lv,I,Py⟩:=hT;have db:=B.tk.lt;refine aA.ac 3 Om func227 ?_;simp+decide-dsimp only[f227,go_sem];refine bm (Zl t _ _ B.tk) ?_;simp+decide-dsimp only[go_sem,B.tk.tr];refine cf (afc t _ _ B.tk I ah k) λ_ h1 cm l1 ⟨⟨L,e1,P,hL⟩,e2,e3⟩=>?_;rename_i XL;clear XL;subst e1;subst e2;subst e3;have cx:=P.ne;obtain⟨n,hn,hR,hl,hc,J0⟩:=uP.start I Py (v:=v) P hk (p.fr.count true);have w1:1<=L.length:=cx;have w2:L.length<9223372036854775808:=ah;have w3:L.length-1<L.length:=ah;obtain⟨e,he,jj,h2,h3,h4,h7,h6⟩:=og B.tk.ok hn;simp+decide-dsimp only[go_sem,Om,B.tk.tr,w1,w2,w3,Hd.cells,jA];refine bm (h6 _ _ .refl ah) ?_;have tk:de 8 n.cells=some n.cells:=rfl;simp+decide-dsimp only[go_sem,h4,tk];refine aZ (ML n k (by have:=hR.small;omega)) ?_;generalize tz:cm+Array.size _=xY;have hz:cm<=xY:=ah;have B0:BW t p h1 xY:=B.aX aH.refl hz;have TC:∀i,i<L.length->∃n,cV t.a.es (at_ L i).ao=some ((at_ L i).bk,n):=λi hi=>by obtain⟨m,a,_⟩:=P.node i hi;exact⟨m,a⟩
 have pt:∀(a:AV) (m:Nd),dJ 1 (a::n.cells) m.cells=some (a::m.cells):=λ_ _=>rfl;cases hh:n.has k
 case' false=>
  simp+decide-dsimp only[go_sem,Om,B.tk.tr];generalize anO:xY+Array.size _=nxc;have hz0:xY<=nxc:=ah;have B00:BW t p h1 nxc:=B0.aX aH.refl hz0;refine cf (amP t _ _ B00.tk L hL TC) λ_ h2 dU l2 ⟨⟨m,e1,IK,JH⟩,e2,e3⟩=>?_;rename_i XL;clear XL;replace e2:=e2.symm;replace e3:=e3.symm;subst e1;subst e2;subst e3;simp+decide-dsimp only[go_sem,B.tk.tr,B.sp.pb];refine bm (Qo p _ _ B00.pk m) ?_;by_cases hm:m<=p.fr.count true
  case' neg=>simp+decide-dsimp only[go_sem,hm];exact⟨t,p,[],false,5,rfl,B.aX aH.refl ah,Step.same aH.refl,lo,lv,I,ah⟩
  have hN:n.has k=false->PX (cV t.a.es) L (p.fr.count true):=λ_=>⟨m,hm,JH⟩;simp+decide-dsimp only[go_sem,hm];have hb:xY<=nxc:=ah;generalize nxc=nxb at hb
 case' true=>
  have hN:n.has k=false->PX (cV t.a.es) L (p.fr.count true):=λh=>by rw[hh]at h;cases h
  simp+decide-dsimp only[go_sem,Om];generalize an5:xY+Array.size _=nxb;have hb:xY<=nxb:=ah
 all_goals
  simp+decide-dsimp only[go_sem,h4,tk];refine aZ (al1 n hR hl k v hc) ?_;have dte:¬(t.tb=e.bJ):=λhq=>B.tk.d3 e he hq.symm;simp+decide-dsimp only[go_sem,h4,pt,hh,w1,w2,dte,B.tk.tr,Nd.av,yF];obtain⟨t1,B1,fI,y3,y4,y5⟩:=(B.aX aH.refl (ah:cm<=nxb)).kI he jj h2 (n.put k v);have J1:uP Pk (cV t.a.es) (cV t1.a.es) t1.aO L d (p.fr.count true) (p.fr.count true) L.length (n.has k=false):=by rw[y3,y4];exact J0
 case' false=>obtain⟨B2,tH⟩:=B1.tree t1.aO (cF .i64 (t.size+1));rw[fI.tb,y4,B1.sp.pb.trans B.sp.pb.symm,fI.ab]at B2 tH;have al4:Step cm t _ p p h1 _:=(Step.same aH.refl).trans (fI.trans tH (an _)) ah;have J2:uP Pk (cV t.a.es) (cV t1.a.es) t.aO L d (p.fr.count true) (p.fr.count true) L.length (n.has k=false):=by rw[<-y4];exact J1
 all_goals
  refine cL _ _ (λm s h' nx'=>∃(t1:Bl) (p1:bj) (old:ba) (lS:Bool),ao s 0= .ptr t.tb 0/\ao s 6=bR old/\ao s 7=bQ lS/\ao s 9=r7 L/\BW t1 p1 h' nx'/\Step cm t t1 p p1 h1 h'/\cm<=nx'/\
   ((m=0/\ao s 14= .g (.int .i64 (-1))/\Mh Pk (cV t1.a.es) t1.aO (d+1))\/(∃i,m=i+1/\ao s 14=int i/\uP Pk (cV t.a.es) (cV t1.a.es) t1.aO L d (p.fr.count true) (p1.fr.count true) (i+1) (n.has k=false)))) (n:=L.length) ?_ ?_
 case' false.refine_1=>simp+decide-dsimp only[go_sem];refine⟨_,p,_,_,rfl,rfl,B2,al4,ah,.inr ⟨L.length-1,(p8 cx).symm,rfl,?_⟩⟩;rw[p8 cx];exact J2
 case' true.refine_1=>simp+decide-dsimp only[go_sem];refine⟨_,p,_,_,rfl,rfl,B1,(Step.same aH.refl).trans fI (ah:cm<=nxb),ah,.inr ⟨L.length-1,(p8 cx).symm,rfl,?_⟩⟩;rw[p8 cx];exact J1
 all_goals
  rintro m s h' nx' ⟨t3,p3,old,lS,s0,s6,s7,s9,B3,pz,l3,⟨rfl,ym,J3⟩|⟨i,rfl,ym,J3⟩⟩
 case' true.refine_2.inl=>simp+decide-dsimp only[go_sem,s6,s7,ym];exact⟨t3,p3,old,lS,0,rfl,B3.aX aH.refl ah,pz,J3⟩
 case' false.refine_2.inl=>simp+decide-dsimp only[go_sem,s6,s7,ym];exact⟨t3,p3,old,lS,0,rfl,B3.aX aH.refl ah,pz,J3⟩
 all_goals
  have hi:i<L.length:=J3.le;have hi0:i<=L.length:=dP hi;obtain⟨m,hm,hmc⟩:=J3.cur;replace hm:cV t3.a.es (at_ L i).ao=some ((at_ L i).bk,m):=hm;have k3:=B3.tk.tr;obtain⟨e3,he3,e31,e32,e33,e34,e35,e36⟩:=og B3.tk.ok hm;rw[pz.ab]at e36;rw[pz.tb,pz.ab]at k3;have Cb:(0:Int)<=(i:Int):=gZ i;have tk3:de 8 m.cells=some m.cells:=rfl;simp+decide-dsimp only[go_sem,Om,s0,s9,ym,Cb,hi,k3,Hd.cells,jA];refine bm (e36 _ _ .refl ah) ?_;simp+decide-dsimp only[go_sem,e34,tk3];refine aZ (afP m) ?_;by_cases hf:4<m.aJ.length
  case' neg=>simp+decide-dsimp only[go_sem,s0,s6,s7,s9,ym,hf];exact⟨t3,p3,old,lS,0,rfl,B3.aX aH.refl ah,pz,J3.exit hm hf⟩
  simp+decide-dsimp only[go_sem,Om,s0,s9,ym,hf,hi,OW hi0,Hd.cells,jA];have h5:m.aJ.length=5:=by
   obtain⟨jn,lv',I',_⟩:=J3.bi;rcases I'.small _ _ _ hm with q|q;.omega
   .exact q.2
  have pM:=J3.room hN hm h5;have hc3:=J3.cnt;generalize anZ:nx'+Array.size _+Array.size _=nxd;have DE:nx'<=nxd:=ah;have B4:BW t3 p3 h' nxd:=B3.aX aH.refl DE;cases i with
  |zero=>obtain⟨hRm,Pw⟩:=J3.top hm h5;have c:=aiu t3 p3 h' nxd B4 (at_ L 0) m hm hRm h5 (pM.2 rfl);rw[pz.tb,Hd.av,Hd.cells]at c;refine cf c λ_ h5' Yt l5 ⟨t5,p5,x,y,f1,f2,f3,B5,GA,f4,f5,f6,f7⟩=>?_;simp+decide-dsimp only[go_sem,s0,s6,s7,s9,ym];refine⟨0,Nat.succ_pos _,t5,p5,old,lS,rfl,rfl,B5.aX aH.refl ah,pz.trans ((Step.same aH.refl).trans GA DE) l3,ah,.inl ⟨rfl,?_⟩⟩;rw[f7,f4];exact⟨akn,Pw x y f1 f2 f3⟩
  |succ i=>
   obtain⟨u,hu0,hu,_⟩:=J3.old i ah;obtain⟨g1,g2,g3,g4,g5,g6,g7⟩:=J3.split (P2 _) ah hm h5 hu;have bP:(L.take (i+1)).length=i+1:=by rw[ax];omega
   have xz:(L.take (i+1)).getD ((L.take (i+1)).length-1) default=at_ L i:=by rw[bP];simp[List.getD]
   have c:=afi t3 p3 h' nxd B4 (at_ L (i+1)) m hm g2 h5 (L.take (i+1)) ah ah u (by rw[xz];exact hu) (by rw[xz];exact g1) g3 g4 g5 g6 pM.1;rw[pz.tb,Hd.av,Hd.cells,xz]at c;refine cf c λ_ h5' Yt l5 ⟨t5,p5,x,f1,B5,GA,f4,f5,f6,f7⟩=>?_;have wi:i+1<9223372036854775808:=ah;simp+decide-dsimp only[go_sem,s0,s6,s7,s9,ym];refine⟨i+1,ah,t5,p5,old,lS,rfl,rfl,B5.aX aH.refl ah,pz.trans ((Step.same aH.refl).trans GA DE) l3,ah,.inr ⟨i,rfl,ZO ah,?_⟩⟩;have:=g7 x (p5.fr.count true) f1 f6;rw[f7,f4];exact this
def ajN:Nat->cU:=λid=>if id=4 then[(z9,[],some 10),([11,12,13],[],some 14),([],[],some 15),([],[],none)]else[]
theorem alq(t:Bl)(p:bj)(h:aG)(nx:Nat)(B:BW t p h nx){d:Nat}(hT:Mh Pk (cV t.a.es) t.aO d)(hd:d<50000)(k:ba):
 aA prog 222 [.ptr t.tb 0,bR k] h nx λr h' nx'=>∃(t':Bl) (old:ba) (lS:Bool),r= .dN [bR old,bQ lS]/\BW t' p h' nx'/\Step nx t t' p p h h'/\Mh Pk (cV t'.a.es) t'.aO d:=by
 obtain⟨lo,lv,I,Py⟩:=hT;have db:=B.tk.lt;refine aA.ac 2 ajN func222 ?_;simp+decide-dsimp only[f222,go_sem];refine bm (Zl t _ _ B.tk) ?_;simp+decide-dsimp only[go_sem,B.tk.tr];refine cf (afc t _ _ B.tk I ah k) λ_ h1 cm l1 ⟨⟨L,e1,P,hL⟩,e2,e3⟩=>?_;rename_i XL;clear XL;subst e1;subst e2;subst e3;have cx:=P.ne;obtain⟨n,hn,nh,_,jL⟩:=P.node (L.length-1) ah;replace jL:=jL ah rfl;have hR:=I.r _ _ _ hn;have w1:1<=L.length:=cx;have w2:L.length<9223372036854775808:=ah;have w3:L.length-1<L.length:=ah;obtain⟨e,he,jj,h2,h3,h4,h7,h6⟩:=og B.tk.ok hn;simp+decide-dsimp only[go_sem,ajN,B.tk.tr,w1,w2,w3,Hd.cells,jA];refine bm (h6 _ _ .refl ah) ?_;have tk:de 8 n.cells=some n.cells:=rfl;have pt:∀(a:AV) (m:Nd),dJ 1 (a::n.cells) m.cells=some (a::m.cells):=λ_ _=>rfl;have dte:¬(t.tb=e.bJ):=λhq=>B.tk.d3 e he hq.symm;simp+decide-dsimp only[go_sem,h4,tk];refine aZ (ald n hR jL k nh.2) ?_;generalize tz:cm+Array.size _=xY;have hz:cm<=xY:=ah;obtain⟨t1,B1,fI,y3,y4,y5⟩:=(B.aX aH.refl hz).kI he jj h2 (n.del k);replace fI:Step cm t t1 p p h1 _:=(Step.same aH.refl).trans fI hz;have J1:Mh Pk (cV t1.a.es) t.aO d:=⟨lo,lv,by rw[y3];exact I.del hn jL k,Py⟩;cases hh:n.has k with
 |false=>simp+decide-dsimp only[go_sem,h4,pt,Nd.av,yF];exact⟨t1,n.old k,false,rfl,B1.aX aH.refl ah,fI,by rw[y4];exact J1⟩
 |true=>simp+decide-dsimp only[go_sem,h4,pt,dte,B.tk.tr,Nd.av,yF];obtain⟨B2,tH⟩:=B1.tree t1.aO (cF .i64 (t.size-1));rw[fI.tb,y4,B1.sp.pb.trans B.sp.pb.symm,fI.ab]at B2 tH;exact⟨_,n.old k,true,rfl,B2.aX aH.refl ah,fI.trans tH hz,J1⟩
theorem ano(t:Bl)(h:aG)(nx:Nat)(ok:t.ok h nx){d:Nat}(hT:Mh Pk (cV t.a.es) t.aO d)(k:ba):
 aA prog 224 [.ptr t.tb 0,bR k,.g .nilFunc] h nx λr h' nx'=>(∃(v:ba) (lS again:Bool),r= .dN [bR v,bQ lS,bQ again])/\h'=h/\nx'=nx:=by
 obtain⟨lo,lv,I,Py⟩:=hT;refine aA.pc 3 T0 func224 ?_;simp+decide-dsimp only[f224,go_sem];refine bm (Zl t _ _ ok) ?_;simp+decide-dsimp only[go_sem];refine cf (ajT t _ _ ok I k) λ_ h1 cm l1 ⟨⟨s,g,n,e1,hs,hl,hc⟩,e2,e3⟩=>?_;rename_i XL;clear XL;subst e1;replace e2:=e2.symm;replace e3:=e3.symm;subst e2;subst e3;have hR:=I.r _ _ _ hs;have ajp:=ML n k (by have:=hR.small;omega);rw[Nd.av,Nd.cells]at ajp;simp+decide-dsimp only[go_sem,Nd.av,Nd.cells,reduceAdd];refine aZ ajp ?_;cases hh:n.has k with
 |false=>simp+decide-dsimp only[go_sem];exact⟨(aH.refl.set (an _)).set (an _),_,.lZ .bR .cA .cA,_,_,_,rfl⟩
 |true=>
  have hp:place n.aJ k<n.fQ.length:=by rw[(hR.lf hl).1];exact(Nd.Au.1 hh).1
  simp+decide-dsimp only[go_sem,hp];exact⟨(aH.refl.set (an _)).set (an _),_,.lZ .bR .cA .cA,_,_,_,rfl⟩
abbrev Pr:=ba×ba
def Nd.Lj(n:Nd):List Pr:=n.aJ.zip n.fQ
inductive Ch(σ:LI):Nat->Nd->List Pr->Prop
 |last {n:_}:n.bd=false->Ch σ 0 n n.Lj
 |more {n m:_} {j:_} {g L:_}:n.bd=true->σ n.next.ao=some (g,m)->g=n.next.bk->n.R->m.aE=true->m.R->Ch σ j m L->Ch σ (j+1) n (n.Lj++L)
theorem uv:∀(N:Nat) (l:List Nat),l.Nodup->(∀x∈l,x<N)->l.length<=N
 |0,l,_,h=>by
  cases l with
  |nil=>exact an _
  |cons a l=>exact absurd (h a (gY ..)) (bW _)
 |N+1,l,hn,h=>by
  have h1:(l.erase N).length<=N:=uv N _ (hn.erase N) λx hx=>by have:=(hn.mem_erase_iff).1 hx;have:=h x this.2;omega
  have h2:=List.length_erase (a:=N) (l:=l);split at h2<;>omega
theorem filter_lt{α:Type}{p q:α->Bool}:∀{l:List α},(∀x∈l,p x=true->q x=true)->(∃x∈l,q x=true/\p x=false)->(l.filter p).length<(l.filter q).length
 |[],_,⟨x,hx,_⟩=>by cases hx
 |a::l,h,⟨x,hx,h1,h2⟩=>by
  have hle:∀{l:List α},(∀x∈l,p x=true->q x=true)->(l.filter p).length<=(l.filter q).length:=by
   intro l
   induction l with
   |nil=>intro _;exact an _
   |cons b l ih=>
    intro h;have:=ih λx hx=>h x (bB _ hx);rw[y9,y9];have hb:=h b (gY ..);cases hp:p b with
    |true=>rw[hb hp];simpa using this
    |false=>cases q b<;>simp<;>omega
  rw[y9,y9];rcases bE.1 hx with rfl|hx
  .rw[h1,h2];have:=hle λy hy=>h y (bB _ hy);simp;omega
  .have:=filter_lt (λy hy=>h y (bB _ hy)) ⟨x,hx,h1,h2⟩;have ha:=h a (gY ..);cases hp:p a with
   |true=>rw[ha hp];simpa using this
   |false=>cases q a<;>simp<;>omega
theorem uY{n:Nd}(hR:n.R)(hl:n.aE=true):n.Lj.length=n.aJ.length:=by unfold Nd.Lj;rw[List.length_zip,(hR.lf hl).1,df]
theorem pO{n:Nd}(hR:n.R)(hl:n.aE=true):n.Lj.map Prod.fst=n.aJ:=by unfold Nd.Lj;rw[List.map_fst_zip];rw[(hR.lf hl).1];exact an _
theorem uS{n:Nd}(hR:n.R):n.aJ.Pairwise (· < ·):=by rw[fq];intro i j hi hj CT;have:=hR.lt CT hj;simpa[List.getD,hi,hj]using this
theorem R.Wu{n:Nd}(hR:n.R)(hb:n.bd=true):∀k∈n.aJ,k<n.cR:=by intro k hk;obtain⟨i,hi,rfl⟩:=cu.1 hk;have:=fZ.1 (hR.wk i hi) hb;simpa[List.getD,hi]using this
theorem EE{Pk σ aO lo lv iJ}(I:BI Pk σ aO lo lv iJ){s g n}(hs:σ s=some (g,n)):∀k∈n.aJ,¬k<lo s:=by intro k hk;obtain⟨i,hi,rfl⟩:=cu.1 hk;have:=(I.cQ _ _ _ hs i hi).1;simpa[List.getD,hi]using this
structure KB(Pk:ba->Prop)(cQ:ba)(L:List Pr):Prop where
 jr:(L.map Prod.fst).Pairwise (· < ·)
 cQ:∀k∈L.map Prod.fst,¬k<cQ
 pk:∀k∈L.map Prod.fst,Pk k
theorem BI.chain{es:List (jE Nd)}{lo lv}(I:BI Pk (cV es) aO lo lv (λ_=>False)):∀(m s g:Nat) (n:Nd),cV es s=some (g,n)->n.aE=true->
 (es.filter (λe=>decide (lo s<lo e.ao))).length<=m->∃j L,j<=m/\Ch (cV es) j n L/\L.length<=4*(j+1)/\KB Pk (lo s) L:=by
 intro m
 induction m with
 |zero=>
  intro s g n hs hl hm;have hR:=I.r _ _ _ hs;have h4:n.aJ.length<=4:=by
   rcases I.small _ _ _ hs with h|h;.exact h
   .exact absurd h.1 id
  cases hb:n.bd with
  |false=>exact⟨0,_,an _,.last hb,by rw[uY hR hl];omega,by rw[pO hR hl];exact uS hR,by rw[pO hR hl];exact EE I hs,by rw[pO hR hl];exact I.aJ _ _ _ hs hl⟩
  |true=>obtain⟨q,h1,h2,h3⟩:=I.next _ _ _ hs hl hb;obtain⟨e,he,e1,_⟩:=lG h1;have:e∈es.filter (λe=>decide (lo s<lo e.ao)):=gP.2 ⟨he,by rw[e1,h3];exact aM (I.tB _ _ _ hs hb)⟩;have:=mB this;omega
 |succ m ih=>
  intro s g n hs hl hm;have hR:=I.r _ _ _ hs;have h4:n.aJ.length<=4:=by
   rcases I.small _ _ _ hs with h|h;.exact h
   .exact absurd h.1 id
  cases hb:n.bd with
  |false=>exact⟨0,_,aY _,.last hb,by rw[uY hR hl];omega,by rw[pO hR hl];exact uS hR,by rw[pO hR hl];exact EE I hs,by rw[pO hR hl];exact I.aJ _ _ _ hs hl⟩
  |true=>
   obtain⟨q,h1,h2,h3⟩:=I.next _ _ _ hs hl hb;obtain⟨e,he,e1,_⟩:=lG h1;have db:=I.tB _ _ _ hs hb;have:=filter_lt (p:=λe=>decide (lo n.next.ao<lo e.ao)) (q:=λe=>decide (lo s<lo e.ao)) (l:=es) (λx _ hx=>by have hx:=dM hx;rw[h3]at hx;exact aM (dZ db hx)) ⟨e,he,by rw[e1,h3];exact aM db,by rw[e1];exact aU cw⟩;obtain⟨j,L,k1,k2,k3,k4⟩:=ih _ _ _ h1 h2 ah;refine⟨j+1,_,ah,.more hb h1 rfl hR h2 (I.r _ _ _ h1) k2,by rw[aq,uY hR hl];omega,?_,?_,?_⟩;.rw[dB,pO hR hl,im];refine⟨uS hR,k4.jr,λa ha b gC=>?_⟩;have g1:=R.Wu hR hb a ha;have g2:=k4.cQ b gC;rw[h3]at g2;exact NQ g1 g2
   .rw[dB,pO hR hl];intro k hk;rcases bp.1 hk with hk|hk
    .exact EE I hs k hk
    .have:=k4.cQ k hk;rw[h3]at this;intro vT;exact this (dZ vT db)
   .rw[dB,pO hR hl];intro k hk;rcases bp.1 hk with hk|hk
    .exact I.aJ _ _ _ hs hl k hk
    .exact k4.pk k hk
theorem Ch.fun{σ:LI}:∀{j j' n L L'},Ch σ j n L->Ch σ j' n L'->L=L':=by
 intro j j' n L L' h
 induction h generalizing j' L' with
 |last hb=>
  intro h';cases h' with
  |last _=>rfl
  |more gC=>rw[hb]at gC;cases gC
 |more hb h1 h2 h3 h4 h5 h6 ih=>
  intro h';cases h' with
  |last gC=>rw[hb]at gC;cases gC
  |more gC g1 _ _ _ _ g2=>
   rw[h1]at g1;injection g1 with g1;injection g1 with _ g1;subst g1
   rw[ih g2]
theorem BI.first{Pk σ aO lo lv iJ}(I:BI Pk σ aO lo lv iJ){s g n s' g' n'}(h:σ s=some (g,n))(h':σ s'=some (g',n'))(l:n.aE=true)(l':n'.aE=true)(c:PG lo s n [])(c':PG lo s' n' []):s=s':=by
 by_cases cx:s=s';.exact cx
 have e:∀{x:ba},¬[]<x->x=[]:=by
  intro x hx;cases x with
  |nil=>rfl
  |cons a x=>exact absurd bL hx
 have h1:=e c.1;have h2:=e c'.1;rcases I.uniq _ _ _ _ _ _ h h' (by rw[(I.aE _ _ _ h).1 l,(I.aE _ _ _ h').1 l']) cx with⟨b,q⟩|⟨b,q⟩
 .rw[h2]at q;exact absurd (fZ.1 c.2 b) q
 .rw[h1]at q;exact absurd (fZ.1 c'.2 b) q
abbrev Pr.cells(x:Pr):List AV:=[bR x.1,bR x.2]
abbrev ze(l:List Pr):AV:=Jm Pr.cells l
theorem Fb:∀x:Pr,x.cells.length=2:=λ_=>rfl
theorem EM(x:Pr):∀y∈x.cells,sB nx y:=λy hy=>by
 rcases bE.1 hy with rfl|hy;.trivial
 .rcases bE.1 hy with rfl|hy;.trivial
  .cases hy
section
variable{h:aG}{s x:AV}
theorem ak1:gj prog h #[68,68] s x=tw h 88 2 (dV h 2 x) s:=uy aeG abP ah0 acF bN
theorem amC{ev ps}:fy prog ev 68 1 ps=fG 88 1 (fo (λi=>some (i*2,2)) ev ps [bR [],bR []]):=ql aeG abP acF bN rfl
end
attribute[go_sem] ak1 amC
theorem Ch.len{σ:LI}{j n L}(h:Ch σ j n L):n.Lj.length<=L.length:=by
 cases h with
 |last _=>exact an _
 |more _=>rw[aq];exact gh _ _
theorem akS(t:Bl)(h:aG)(nx:Nat)(ok:t.ok h nx){lo lv}(I:BI Pk (cV t.a.es) t.aO lo lv (λ_=>False)){j0 s0 g0:Nat}{n0:Nd}{L:List Pr}(Cw:cV t.a.es s0=some (g0,n0))(hl0:n0.aE=true)(hc0:PG lo s0 n0 [])(hC:Ch (cV t.a.es) j0 n0 L)(hL:L.length<60000):
 aA prog 220 [.ptr t.tb 0] h nx (dr (ze L) h nx):=by
 refine aA.pc 1 T0 func220 ?_;simp+decide-dsimp only[f220,go_sem];refine bm (Zl t _ _ ok) ?_;simp+decide-dsimp only[go_sem,ok.tr];refine cf (ajT t _ _ ok I []) λ_ h1 cm l1 ⟨⟨s,g,n,e1,hs,hl,hc⟩,e2,e3⟩=>?_;rename_i XL;clear XL;subst e1;replace e2:=e2.symm;replace e3:=e3.symm;subst e2;subst e3;have es:=I.first Cw hs hl0 hl hc0 hc
 subst es;rw[Cw]at hs;injection hs with hs;injection hs with e1 hs
 subst e1;subst hs;simp+decide-dsimp only[go_sem,Nd.av,Nd.cells,reduceAdd];refine cL _ _ (λm s h' nx'=>∃(n:Nd) (L0 L1:List Pr) (v:AV),Ch (cV t.a.es) m n L1/\n.R/\n.aE=true/\L=L0++L1/\ao s 0= .ptr t.tb 0/\ao s 4= .ptr nx 0/\ao s 5=bQ true/\ao s 3=v/\Own Pr.cells 88 2 h' v L0/\In (nx+1) nx' v/\
  au h' nx=some (.cells n.cells 247)/\aH nx h h'/\nx+1<=nx') (n:=j0) ?_ ?_
 .simp+decide-dsimp only[go_sem];exact⟨n0,[],L,_,hC,I.r _ _ _ Cw,hl0,rfl,rfl,.inl ⟨rfl,rfl⟩,λb hb=>(by cases hb),rfl,(aH.refl.set (an _)).set (an _)⟩
 rintro m s h' nx' ⟨n,L0,L1,v,hCm,hR,hl,rfl,s0,s4,s5,s3,ho,lB,hn,tW,Ce⟩;have Wk:=(hR.lf hl).1;have US:=hR.small;simp+decide-dsimp only[go_sem,s4,s5,hn,Nd.cells];refine cL _ _ (λm s h' nx'=>∃i v,i<=n.aJ.length/\m=n.aJ.length-i/\ao s 0= .ptr t.tb 0/\ao s 4= .ptr nx 0/\ao s 5=bQ true/\ao s 3=v/\ao s 23=strs n.aJ/\ao s 24=int n.aJ.length/\ao s 25=int i/\Own Pr.cells 88 2 h' v (L0++n.Lj.take i)/\In (nx+1) nx' v/\
  au h' nx=some (.cells n.cells 247)/\aH nx h h'/\nx+1<=nx') (n:=n.aJ.length) ?_ ?_
 .simp+decide-dsimp only[go_sem];exact⟨0,v,aY _,rfl,s0,s4,s5,s3,rfl,by simpa using ho,lB,hn,tW,ah⟩
 clear s0 s4 s5 s3 ho lB hn tW Ce;rintro m1 s h' nx' ⟨i,v,hi,rfl,s0,s4,s5,s3,s23,s24,FZ,ho,lB,hn,tW,Ce⟩;by_cases db:i<n.aJ.length
 .have zq:i<n.fQ.length:=ah;have w6:i+1<9223372036854775808:=ah;simp+decide-dsimp only[go_sem,s4,s3,s23,s24,FZ,hn,db,zq,cr,cB,Nd.cells,reduceAdd];have hLl:(L0++n.Lj.take i).length+1<65536:=by simp only[aq,ax]at hL⊢;have:=uY hR hl;have:=hCm.len;omega
  refine km (c:=Pr.cells) (ho.aX λq e'=>?_) Fb (λ_=>rfl) hLl (n.aJ.getD i [],n.fQ.getD i []) ?_;.have:=lB q e';rw[aj,ak ah]
  intro v' h2 dU l2 p1 p2 p3;simp+decide-dsimp only[go_sem,s0,s4,s5,s3,s23,s24,FZ,w6];have HB:∀b,b<nx+1->au h2 b=au h' b:=λb hb=>by rw[p3 b ah (λe'=>by have:=lB b e';omega),aj,ak ah]
  have Jc:n.Lj.take (i+1)=n.Lj.take i++[(n.aJ.getD i [],n.fQ.getD i [])]:=by
   have mV:i<n.Lj.length:=by rw[uY hR hl];exact db
   rw[b9 mV];simp[Nd.Lj,List.getD,db,zq]
  refine⟨_,(ah:n.aJ.length-(i+1)<_),i+1,v',db,rfl,rfl,rfl,by rw[Jc,<-ay];exact p1,λq e'=>?_,by rw[HB nx ah];exact hn,λb hb=>by rw[HB b ah];exact tW b hb,ah⟩;rcases p2 q e' with e2|e2
  .have:=lB q e2;omega
  .omega
 .have:i=n.aJ.length:=ah;subst this;rw[aD (by rw[uY hR hl];exact an _)]at ho;simp+decide-dsimp only[go_sem,s0,s4,s5,s3,s24,FZ,hn,db,Nd.cells];cases hb:n.bd with
  |false=>
   cases hCm with
   |more gC=>rw[hb]at gC;cases gC
   |last _=>
   simp+decide-dsimp only[go_sem,s0,s4,s5,s3];exact .of tW (ho.fz (λb hb=>by have:=lB b hb;omega:In nx nx' v) EM)
  |true=>
   cases hCm with
   |last gC=>rw[hb]at gC;cases gC
   |more _ g1 g2 g3 g4 g5 g6=>
   rename_i m' j' g' L' gC;subst g2;simp+decide-dsimp only[go_sem,s0,s4,hn,Nd.cells];refine bm (agy t _ _ (ok.aX tW ah) n.next m' g1) ?_;simp+decide-dsimp only[go_sem,s0,s4,s5,s3,hn,Nd.av,Nd.cells,reduceAdd];refine⟨j',aW _,m',L0++n.Lj,L',v,g6,g5,g4,by rw[ay],rfl,ho.aX λq e'=>?_,λq e'=>?_,rfl,tW.set ah,ah⟩;.have:=lB q e';rw[aj,ak ah]
   .have:=lB q e';omega
end
end bC
end Go.Proofs.YtonnifoeokagjaaGreat
