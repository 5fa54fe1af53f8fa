/- The theorem quiet_holds of OrdersQuiet: part 13 of its proof; no conditions. -/
import Derived.Test.YtonnifoeokagjaaGreatF12
namespace Go.Proofs.YtonnifoeokagjaaGreat
set_option linter.all false
set_option maxRecDepth 8000
open Go Go.RowKit
open Option renaming some->J,none->B
open Bool renaming true->M,false->R
open List renaming length->O
open Tryz
open Nat(reduceAdd reduceMul)
namespace br
noncomputable section
variable{hx:List Pr}{i j k k' s:Nat}
def Fi(k:Nat)(s:aY):aY:=if O s<=k then s else s.take k++[0]
def Ak{x:UInt8}{s}:Fi (k+1) (x::s)=x::Fi k s:=by
 unfold Fi;by_cases h:O s<=k;.rw[au h,au (Mf h)]
 .rw[ak h,ak (Mf h)];rfl
def Ow:∀(k:Nat) (a b:aY),Fi k a<Fi k b->a<b
 |0,[],[],h=>absurd h (by simp[Fi])
 |0,[],y::b,_=>bR
 |0,x::a,[],h=>absurd h (by simp[Fi])
 |0,x::a,y::b,h=>absurd h (by simp[Fi])
 |k+1,[],[],h=>absurd h (by simp[Fi])
 |k+1,[],y::b,_=>bR
 |k+1,x::a,[],h=>by rw[Ak]at h;exact absurd h (by simp[Fi])
 |k+1,x::a,y::b,h=>by
  rw[Ak,Ak,ef]at h;rw[ef];obtain h|⟨W,F⟩:=h
  .exact .inl h
  .exact .inr ⟨W,Ow k a b F⟩
def TA{a b}(h:cut a<cut b):a<b:=Ow 8 a b h
def EE:∀(x a b:aY),x++a<x++b↔a<b
 |[],_,_=>Iff.rfl
 |c::x,a,b=>by
  rw[lC,lC,ef,EE x a b];have:¬c<c:=Es @dN
  simp[this]
def KY{m r}(hm:tv m)(h:O m=9↔r≠[]):cut (nameOf m++r)=m:=by
 have K:=hm.len;by_cases h9:O m=9
 .have hr:=h.1 h9;have qE:0<O r:=List.length_pos_iff.2 hr;have ln:O (nameOf m)=8:=by unfold nameOf;rw[ax];omega
  refine (GS _).inj hm ?_ ?_;.rw[UK];refine zO λi H=>?_;rw[aB,bX U];unfold nameOf;rw[eQ,au H,aB]
  .rw[mq,aq,ln,h9];omega
 .have hr:r=[]:=cJ λq=>h9 (h.2 q);subst hr;have e:nameOf m=m:=aH U;unfold cut;rw[cy,e,au U]
def JJ{s}:nameOf (cut s)=s.take 8:=rT s
def Lf.Pl.uniq{l:Lf}{m}(a:l.Pl m i)(b:l.Pl m j):i=j:=by
 obtain h|h|h:=cF i j;.exact absurd (b.lt i h) (a.ge (EB b.le))
 .exact h
 .exact absurd (a.lt j h) (b.ge (EB a.le))
def Lf.go(l:Lf)(m:aY)(b:Bool)(i:Nat):Nat:=if(i<l.n/\(l.e i).m=m)/\b=M then i+1 else i
inductive Fu(σ:jJ)(m:aY)(b:Bool):Mn->Nat->Option Sl->Prop
 |jA {n:Mn} {i:Nat} (pl:n.ay.Pl m i) (h:n.ay.go m b i<n.ay.n):Fu σ m b n 0 (J (n.ay.e (n.ay.go m b i)))
 |none {n:Mn} {i:Nat} (pl:n.ay.Pl m i) (h:¬n.ay.go m b i<n.ay.n) (D:n.ay.bd=R):Fu σ m b n 0 B
 |next {n n':Mn} {i k:Nat} {r:Option Sl} (pl:n.ay.Pl m i) (h:¬n.ay.go m b i<n.ay.n) (D:n.ay.bd=M) (G:σ n.ay.next.X=J (n.ay.next.bo,n')) (d:Fu σ m b n' k r):Fu σ m b n (k+1) r
def Fu.fun{σ m b n r r'}(x:Fu σ m b n k r)(y:Fu σ m b n k' r'):r=r':=by
 induction x generalizing k' r' with
 |jA pl h=>
  cases y with
  |jA CG Q=>rw[pl.uniq CG]
  |none CG Q _=>rw[pl.uniq CG]at h;exact absurd h Q
  |next CG Q _ _ _=>rw[pl.uniq CG]at h;exact absurd h Q
 |none pl h D=>
  cases y with
  |jA CG Q=>rw[pl.uniq CG]at h;exact absurd Q h
  |none _ _ _=>rfl
  |next _ _ iQ _ _=>rw[D]at iQ;cases iQ
 |next pl h D G d ih=>
  cases y with
  |jA CG Q=>rw[pl.uniq CG]at h;exact absurd Q h
  |none _ _ iQ=>rw[D]at iQ;cases iQ
  |next _ _ _ lS d'=>rw[G]at lS;injection lS with e;injection e with _ e;subst e;exact ih d'
def Cm(σ:jJ)(h:Hd)(m:aY)(b:Bool)(r:Option Sl):Prop:=∃hx f fm k,pH σ (qy m) h hx f fm/\Fu σ m b fm k r
def Cm.fun{σ h m b r r'}(x:Cm σ h m b r)(y:Cm σ h m b r'):r=r':=by have⟨hx,f,fm,k,d,e⟩:=x;have⟨L',f',fm',k',d',e'⟩:=y;obtain⟨_,_,rfl⟩:=d.fun d';exact e.fun e'
section
variable{Pk:aY->Prop}{σ:jJ}{aO:Hd}{pre lo:Nat->aY}{eo par rk:Nat->Nat}{iL:Nat->Prop}{ex:aY->Prop}
def MI.aoI(I:MI Pk σ aO pre lo eo par rk iL ex)(m b):∀(d s g:Nat) (n:Mn),σ s=J (g,n)->n.cw=M->rk s<d->
 ∃k r,Fu σ m b n k r/\∀hd,r=J hd->¬hd.m<m/\(b=M->m<hd.m)/\∃t g' n' j,σ t=J (g',n')/\n'.cw=M/\j<n'.ay.n/\hd=n'.ay.e j/\pre t=pre s:=by
 intro d
 induction d with
 |zero=>omega
 |succ d ih=>
  intro s g n G K z;have zxQ:=(I.lf _ _ _ G K).1;have⟨i,pl⟩:=zxQ.pl m;by_cases h:n.ay.go m b i<n.ay.n
  .refine⟨0,_,.jA pl h,λhd hz=>?_⟩;cases hz;unfold Lf.go at h⊢;by_cases c:(i<n.ay.n/\(n.ay.e i).m=m)/\b=M
   .rw[au c]at h⊢;have q:m<(n.ay.e (i+1)).m:=c.1.2▸(zxQ.lt (aZ i) h)
    exact⟨dA q,λ_=>q,s,g,n,_,G,K,h,Z,Z⟩
   .rw[ak c]at h⊢;refine⟨pl.ge h,λD=>?_,s,g,n,_,G,K,h,Z,Z⟩;obtain q|q|q:=kC m (n.ay.e i).m
    .exact q
    .exact absurd ⟨⟨h,q.symm⟩,D⟩ c
    .exact absurd q (pl.ge h)
  .cases D:n.ay.bd with
   |false=>exact⟨0,B,.none pl h D,λhd hz=>by cases hz⟩
   |true=>have⟨n',a1,a2,a3,a4⟩:=I.nxl G K D;have⟨k,r,e1,e2⟩:=ih _ _ _ a1 a2 U;refine⟨k+1,r,.next pl h D a1 e1,λhd hz=>?_⟩;have⟨q1,q2,t,g',n',j,q3,q4,q5,q6,q7⟩:=e2 hd hz;exact⟨q1,q2,t,g',n',j,q3,q4,q5,q6,q7.trans a3⟩
structure Head(σ:jJ)(pre lo:Nat->aY)(h:Hd)(p:aY):Prop where
 ex:∃n,σ h.X=J (h.bo,n)/\n.kM=R
 lo:lo h.X=[]
 pre:pre h.X=p
def MI.head(I:MI Pk σ aO pre lo eo par rk iL ex):Head σ pre lo aO []:=⟨I.rt.1,I.rt.2.1,I.rt.2.2.1⟩
def MI.ad9(I:MI Pk σ aO pre lo eo par rk iL ex){g n}(G:σ s=J (g,n))(K:n.cw=M)(H:i<n.ay.n)(z:(n.ay.e i).deep=M):Head σ pre lo (n.ay.e i).link (pre s++nameOf (n.ay.e i).m):=by have⟨a1,a2,a3,_⟩:=(I.X _ _ _ G K i H).link z;exact⟨a1,a3,a2⟩
def MI.go(I:MI Pk σ aO pre lo eo par rk iL ex){h p}(hi:Head σ pre lo h p)(k):∃l f m,pH σ k h l f m/\O l=eo h.X+1/\pre f.X=p/\¬k<lo f.X/\(m.kM=M->k<m.eI):=by have⟨n,W,F⟩:=hi.ex;have⟨l,f,m,a1,a2,a3,a4,a5⟩:=I.total (k:=k) _ h n W Z (hi.lo▸kF) (λD=>by rw[F]at D;cases D);exact⟨l,f,m,a1,a2,by rw[a3,hi.pre],a4,a5⟩
def MI.ags(I:MI Pk σ aO pre lo eo par rk iL ex){h p}(hi:Head σ pre lo h p)(m b):
 ∃r,Cm σ h m b r/\∀hd,r=J hd->¬hd.m<m/\(b=M->m<hd.m)/\∃t g n j,σ t=J (g,n)/\n.cw=M/\j<n.ay.n/\hd=n.ay.e j/\pre t=p:=by
 have⟨l,f,fm,a1,a2,a3,_⟩:=I.go hi (qy m);have⟨b1,b2⟩:=a1.ay;have⟨k,r,c1,c2⟩:=I.aoI m b _ _ _ _ b1 b2 (aZ _);refine⟨r,⟨l,f,fm,k,a1,c1⟩,λhd hz=>?_⟩;have⟨q1,q2,t,g,n,j,q3,q4,q5,q6,q7⟩:=c2 hd hz;exact⟨q1,q2,t,g,n,j,q3,q4,q5,q6,q7.trans a3⟩
end
def SrC(key:aY)(after:Bool)(s:Sl):Prop:=s.m≠cut key\/key<nameOf s.m++s.rest\/(nameOf s.m++s.rest=key/\after=R)
def yr(key:aY)(s:Sl):aY:=if s.m=cut key then key.drop 8 else[]
def zx(key:aY)(after:Bool)(s:Sl):Bool:=if s.m=cut key then after else R
inductive Dj(σ:jJ):Nat->Hd->aY->Bool->aY->Bool->Option (aY×aY)->Prop
 |none {h:Hd} {key fm:aY} {after fb:Bool} (e:Cm σ h fm fb B):Dj σ 0 h key after fm fb B
 |jA {h:Hd} {key fm:aY} {after fb:Bool} {s:Sl} (e:Cm σ h fm fb (J s)) (z:s.deep=R) (c:SrC key after s):Dj σ 0 h key after fm fb (J (nameOf s.m++s.rest,s.val))
 |Jz {h:Hd} {key fm:aY} {after fb:Bool} {s:Sl} {k:Nat} {r:Option (aY×aY)} (e:Cm σ h fm fb (J s)) (z:s.deep=R) (c:¬SrC key after s) (n:Dj σ k h key after s.m M r):Dj σ (k+1) h key after fm fb r
 |Jk {h:Hd} {key fm:aY} {after fb:Bool} {s:Sl} {k:Nat} {r:aY×aY} (e:Cm σ h fm fb (J s)) (z:s.deep=M) (d:Dj σ k s.link (yr key s) (zx key after s) (cut (yr key s)) R (J r)):Dj σ 0 h key after fm fb (J (nameOf s.m++r.1,r.2))
 |Bw {h:Hd} {key fm:aY} {after fb:Bool} {s:Sl} {k k':Nat} {r:Option (aY×aY)} (e:Cm σ h fm fb (J s)) (z:s.deep=M) (d:Dj σ k' s.link (yr key s) (zx key after s) (cut (yr key s)) R B) (n:Dj σ k h key after s.m M r):Dj σ (k+1) h key after fm fb r
def Dj.fun{σ k k' h key fm after fb}{r r':Option (aY×aY)}(x:Dj σ k h key after fm fb r)(y:Dj σ k' h key after fm fb r'):r=r':=by
 induction x generalizing k' r' with
 |none e=>
  cases y with
  |none _=>rfl
  |jA e' _ _=>have:=e.fun e';cases this
  |Jz e' _ _ _=>have:=e.fun e';cases this
  |Jk e' _ _=>have:=e.fun e';cases this
  |Bw e' _ _ _=>have:=e.fun e';cases this
 |jA e z c=>
  cases y with
  |none e'=>have:=e.fun e';cases this
  |jA e' _ _=>have:=e.fun e';cases this;rfl
  |Jz e' _ c' _=>have:=e.fun e';cases this;exact absurd c c'
  |Jk e' uu _=>have:=e.fun e';cases this;rw[z]at uu;cases uu
  |Bw e' uu _ _=>have:=e.fun e';cases this;rw[z]at uu;cases uu
 |Jz e z c n ih=>
  cases y with
  |none e'=>have:=e.fun e';cases this
  |jA e' _ c'=>have:=e.fun e';cases this;exact absurd c' c
  |Jz e' _ c' n'=>have:=e.fun e';cases this;exact ih n'
  |Jk e' uu _=>have:=e.fun e';cases this;rw[z]at uu;cases uu
  |Bw e' uu _ _=>have:=e.fun e';cases this;rw[z]at uu;cases uu
 |Jk e z d ih=>
  cases y with
  |none e'=>have:=e.fun e';cases this
  |jA e' uu _=>have:=e.fun e';cases this;rw[z]at uu;cases uu
  |Jz e' uu _ _=>have:=e.fun e';cases this;rw[z]at uu;cases uu
  |Jk e' _ d'=>have:=e.fun e';cases this;have:=ih d';injection this with this;rw[this]
  |Bw e' _ d' _=>have:=e.fun e';cases this;have:=ih d';cases this
 |Bw e z d n ihd ihn=>
  cases y with
  |none e'=>have:=e.fun e';cases this
  |jA e' uu _=>have:=e.fun e';cases this;rw[z]at uu;cases uu
  |Jz e' uu _ _=>have:=e.fun e';cases this;rw[z]at uu;cases uu
  |Jk e' _ d'=>have:=e.fun e';cases this;have:=ihd d';cases this
  |Bw e' _ _ n'=>have:=e.fun e';cases this;exact ihn n'
def AE{α:Type}{p q:α->Bool}:∀(l:List α),(∀x∈l,q x=M->p x=M)->(∃x∈l,p x=M/\q x=R)->l.countP q<l.countP p
 |[],_,⟨x,L,_⟩=>by cases L
 |a::l,W,F=>by
  rw[nm,nm];have le:l.countP q<=l.countP p:=List.countP_mono_left λx L=>W x (bP _ L);have⟨x,L,a1,a2⟩:=F;obtain rfl|L:=bJ.1 L
  .rw[a1,a2];simp;omega
  .have:=AE l (λx L=>W x (bP _ L)) ⟨x,L,a1,a2⟩;have:=W a bR;cases hq:q a with
   |false=>simp;split<;>omega
   |true=>rw[this hq];simp;omega
section
variable{Pk:aY->Prop}{σ:jJ}{aO:Hd}{pre lo:Nat->aY}{eo par rk:Nat->Nat}{iL:Nat->Prop}{ex:aY->Prop}
structure amd(Pk:aY->Prop)(σ:jJ)(pre:Nat->aY)(p key:aY)(after:Bool)(r:aY):Prop where
 up:key<r\/(r=key/\after=R)
 pk:Pk (p++r)
 len:O (p++r)<=24
 ne:p≠[]->r≠[]
 mem:∃t g n j,σ t=J (g,n)/\n.cw=M/\j<n.ay.n/\p++r=pre t++nameOf (n.ay.e j).m++(n.ay.e j).rest
def MI.search(I:MI Pk σ aO pre lo eo par rk iL ex)(Ms:List aY)(hM:∀t g n j,σ t=some (g,n)->n.cw=true->j<n.ay.n->(n.ay.e j).m∈Ms):
 ∀(d:Nat) (h:Hd) (p:aY),Head σ pre lo h p->24<=p.length+8*d->∀(key:aY) (after:Bool) (aw:Nat) (fm:aY) (fb:Bool),Ms.countP (λx=>if fb then decide (fm<x)else !decide (x<fm))<=aw->¬fm<cut key->
  ∃k r,Dj σ k h key after fm fb r/\∀hd,r=some hd->amd Pk σ pre p key after hd.1:=by
 intro d
 induction d with
 |zero=>intro h p hi z;have⟨n,W,_⟩:=hi.ex;have⟨i,q1,q2⟩:=I.pl _ _ _ W;rw[hi.pre]at q1;omega
 |succ d ihd=>
  intro h p hi z key after aw
  induction aw with
  |zero=>
   intro fm fb hN hf;have⟨r,e1,e2⟩:=I.ags hi fm fb;cases r with
   |none=>exact⟨0,B,.none e1,λhd hz=>by cases hz⟩
   |some s=>
    have⟨q1,q2,t,g,n,j,q3,q4,q5,q6,q7⟩:=e2 s Z;have:=List.countP_pos_iff (p:=λx=>if fb then decide (fm<x)else !decide (x<fm)).2 ⟨s.m,by rw[q6];exact hM _ _ _ _ q3 q4 q5,by
     cases fb with
     |false=>simpa using q1
     |true=>simpa using q2 Z⟩
    omega
  |succ aw ihN=>
   intro fm fb hN hf;have⟨r,e1,e2⟩:=I.ags hi fm fb;cases r with
   |none=>exact⟨0,B,.none e1,λhd hz=>by cases hz⟩
   |some s=>
    have⟨q1,q2,t,g,n,j,q3,q4,q5,q6,q7⟩:=e2 s Z;have zxQ:=(I.lf _ _ _ q3 q4).1.r j q5;rw[<-q6]at zxQ;have ok:=I.X _ _ _ q3 q4 j q5;rw[<-q6]at ok;have hsf:¬s.m<cut key:=gD hf q1;have rest:∃k r,Dj σ k h key after s.m M r/\∀hd,r=J hd->amd Pk σ pre p key after hd.1:=by
     refine ihN s.m M ?_ hsf;have:=AE (p:=λx=>if fb then decide (fm<x)else !decide (x<fm)) (q:=λx=>if M then decide (s.m<x)else !decide (x<s.m)) Ms (λx _ L=>by
      have L:s.m<x:=Mf L
      cases fb with
      |false=>simpa using dA (jV q1 L)
      |true=>simpa using dT (q2 Z) L) ⟨s.m,by rw[q6];exact hM _ _ _ _ q3 q4 q5,by
       cases fb with
       |false=>simpa using q1
       |true=>simpa using q2 Z,by simpa using bU⟩
     omega
    have⟨k2,r2,s1,s2⟩:=rest;cases tO:s.deep with
    |false=>
     by_cases c:SrC key after s
     .refine⟨0,_,.jA e1 tO c,λhd hz=>?_⟩;cases hz;have⟨k1,k2,k3⟩:=ok.key tO;rw[q7,aA]at k1 k2;have Ry:=KY zxQ.m (zxQ.n tO).2;refine⟨?_,k1,k2,λhp hr=>?_,t,g,n,j,q3,q4,q5,by rw[<-q6,q7,aA]⟩
      .obtain c|c:=c
       .left;refine TA ?_;rw[Ry];obtain w|w|w:=kC (cut key) s.m
        .exact w
        .exact absurd w.symm c
        .exact absurd w hsf
       .exact c
      .have hr:nameOf s.m++s.rest=[]:=hr;rw[hr]at Ry;exact k3 (q7▸hp) Ry.symm
     .exact⟨_,_,.Jz e1 tO c s1,s2⟩
    |true=>
     have h9:=(zxQ.d tO).1;have l8:O (nameOf s.m)=8:=by unfold nameOf;rw[ax];omega
     have Hl:=I.ad9 q3 q4 q5 (q6▸tO);rw[<-q6,q7]at Hl;have⟨k3,r3,d1,d2⟩:=ihd s.link (p++nameOf s.m) Hl (by rw[aq,l8];omega) (yr key s) (zx key after s) _ (cut (yr key s)) R (an _) bU;cases r3 with
     |none=>exact⟨_,_,.Bw e1 tO d1 s1,s2⟩
     |some z3=>
      refine⟨0,_,.Jk e1 tO d1,λhd hz=>?_⟩;cases hz;obtain⟨o1,o2,o3,o4,t',g',n',j',o5,o6,o7,o8⟩:=d2 z3 rfl;have cD:z3.1≠[]:=o4 (λe=>by have:=ff List.length e;rw[aq,l8]at this;simp at this);refine⟨?_,by rw[<-aA];exact o2,by rw[<-aA];exact o3,λ_ e=>by have:=ff List.length e;rw[aq,l8]at this;simp at this,t',g',n',j',o5,o6,o7,by rw[<-aA];exact o8⟩;by_cases hm:s.m=cut key
      .have ek:nameOf s.m++key.drop 8=key:=by rw[hm,JJ,bA]
       unfold yr zx at o1;rw[au hm,au hm]at o1;obtain o1|⟨o1,o1'⟩:=o1
       .left;have:=(EE (nameOf s.m) _ _).2 o1;rw[ek]at this;exact this
       .right;exact⟨by rw[o1,ek],o1'⟩
      .left;refine TA ?_;rw[(KY zxQ.m ⟨λ_=>cD,λ_=>h9⟩:cut (nameOf s.m++z3.1)=s.m)];obtain w|w|w:=kC (cut key) s.m
       .exact w
       .exact absurd w.symm hm
       .exact absurd w hsf
end
inductive Ss(σ:jJ)(aO:Hd):aY->Bool->List Pr->Prop
 |nil {key:aY} {after:Bool} {k:Nat} (s:Dj σ k aO key after (cut key) R B):Ss σ aO key after []
 |cons {key:aY} {after:Bool} {k:Nat} {x:Pr} {hx:List Pr} (s:Dj σ k aO key after (cut key) R (J x)) (n:Ss σ aO x.1 M hx):Ss σ aO key after (x::hx)
def Ss.fun{σ aO key after hx L'}(x:Ss σ aO key after hx)(y:Ss σ aO key after L'):hx=L':=by
 induction x generalizing L' with
 |nil s=>
  cases y with
  |nil _=>rfl
  |cons s' _=>have:=s.fun s';cases this
 |cons s n ih=>
  cases y with
  |nil s'=>have:=s.fun s';cases this
  |cons s' n'=>have:=s.fun s';cases this;rw[ih n']
section
variable{Pk:aY->Prop}{σ:jJ}{aO:Hd}{pre lo:Nat->aY}{eo par rk:Nat->Nat}{iL:Nat->Prop}{ex:aY->Prop}
def MI.all(I:MI Pk σ aO pre lo eo par rk iL ex)(Ms Ks:List aY)(hM:∀t g n j,σ t=some (g,n)->n.cw=true->j<n.ay.n->(n.ay.e j).m∈Ms)(hK:∀t g n j,σ t=some (g,n)->n.cw=true->j<n.ay.n->pre t++nameOf (n.ay.e j).m++(n.ay.e j).rest∈Ks):
 ∀(aw:Nat) (key:aY) (after:Bool),Ks.countP (λx=>if after then decide (key<x)else !decide (x<key))<=aw->
  ∃hx,Ss σ aO key after hx/\O hx<=aw/\(hx.map Prod.fst).Pairwise (· < ·)/\∀x∈hx.map Prod.fst,¬x<key/\(after=M->key<x)/\Pk x/\O x<=24:=by
 intro aw
 induction aw with
 |zero=>
  intro key after hN;have⟨k,r,s1,s2⟩:=I.search Ms hM 3 aO [] I.head bS key after _ (cut key) R (an _) bU;cases r with
  |none=>exact⟨[],.nil s1,an _,.nil,λx L=>by cases L⟩
  |some hd=>
   have⟨o1,o2,o3,_,t,g,n,j,o5,o6,o7,o8⟩:=s2 hd Z;rw[cz]at o8;have:=List.countP_pos_iff (p:=λx=>if after then decide (key<x)else !decide (x<key)).2 ⟨hd.1,by rw[o8];exact hK _ _ _ _ o5 o6 o7,by
    obtain o1|⟨o1,o1'⟩:=o1
    .cases after with
     |false=>simpa using dA o1
     |true=>simpa using o1
    .rw[o1',o1];simpa using bU⟩
   omega
 |succ aw ih=>
  intro key after hN;have⟨k,r,s1,s2⟩:=I.search Ms hM 3 aO [] I.head bS key after _ (cut key) R (an _) bU;cases r with
  |none=>exact⟨[],.nil s1,aQ _,.nil,λx L=>by cases L⟩
  |some hd=>
   have⟨o1,o2,o3,_,t,g,n,j,o5,o6,o7,o8⟩:=s2 hd Z;rw[cz]at o2 o3 o8;have hp:(if after then decide (key<hd.1)else !decide (hd.1<key))=M:=by
    obtain o1|⟨o1,o1'⟩:=o1
    .cases after with
     |false=>simpa using dA o1
     |true=>simpa using o1
    .rw[o1',o1];simpa using bU
   have ge:¬hd.1<key:=by
    obtain o1|⟨o1,_⟩:=o1;.exact dA o1
    .rw[o1];exact bU
   have dc:=AE (p:=λx=>if after then decide (key<x)else !decide (x<key)) (q:=λx=>if M then decide (hd.1<x)else !decide (x<hd.1)) Ks (λx _ L=>by
    have L:hd.1<x:=Mf L
    cases after with
    |false=>simpa using dA (jV ge L)
    |true=>
     have:key<hd.1:=Mf hp
     simpa using dT this L) ⟨hd.1,by rw[o8];exact hK _ _ _ _ o5 o6 o7,hp,by simpa using bU⟩
   have⟨hx,l1,l2,l3,l4⟩:=ih hd.1 M U;refine⟨hd::hx,.cons s1 l1,gr,?_,λx L=>?_⟩;.rw[cB];exact List.Pairwise.cons (λx L=>(l4 x L).2.1 Z) l3
   .obtain rfl|L:=bJ.1 L
    .refine⟨ge,λha=>?_,o2,o3⟩;obtain o1|⟨_,o1⟩:=o1
     .exact o1
     .rw[ha]at o1;cases o1
    .have⟨b1,b2,b3,b4⟩:=l4 x L;refine⟨dA (jV ge (b2 Z)),λha=>?_,b3,b4⟩;obtain o1|⟨_,o1⟩:=o1;.exact dT o1 (b2 Z)
     .rw[ha]at o1;cases o1
end
open Classical in
def Mt.all(t:Mt):List Pr:=if h:∃hx,Ss (ct t.a.es) t.aO [] R hx then Classical.choose h else[]
def Mt.all_eq{t:Mt}(h:Ss (ct t.a.es) t.aO [] R hx):t.all=hx:=by have hex:∃hx,Ss (ct t.a.es) t.aO [] R hx:=⟨hx,h⟩;unfold Mt.all;rw[dif_pos hex];exact(Classical.choose_spec hex).fun h
def MI.Bg{Pk:aY->Prop}{t:Mt}(CL:(t.a.es.map iB.X).Nodup){pre lo eo par rk}(I:MI Pk (ct t.a.es) t.aO pre lo eo par rk (λ_=>False) Cd):Ss (ct t.a.es) t.aO [] R t.all/\MT Pk [] t.all/\O t.all<=O t.a.es*6/\∀x∈t.all.map Prod.fst,O x<=24:=by
 let Ms:List aY:=t.a.es.flatMap λe=>if e.x.cw then(List.range e.x.ay.n).map λj=>(e.x.ay.e j).m else[]
 let Ks:List aY:=t.a.es.flatMap λe=>if e.x.cw then(List.range e.x.ay.n).map λj=>pre e.X++nameOf (e.x.ay.e j).m++(e.x.ay.e j).rest else[]
 have hM:∀s g n j,ct t.a.es s=J (g,n)->n.cw=M->j<n.ay.n->(n.ay.e j).m∈Ms:=λs g n j G K hj=>by have⟨e,V,e1,e2,e3⟩:=kz G;refine cS.2 ⟨e,V,?_⟩;rw[e3,K,au Z];exact bg.2 ⟨j,dQ.2 hj,Z⟩
 have hK:∀s g n j,ct t.a.es s=J (g,n)->n.cw=M->j<n.ay.n->pre s++nameOf (n.ay.e j).m++(n.ay.e j).rest∈Ks:=λs g n j G K hj=>by have⟨e,V,e1,e2,e3⟩:=kz G;refine cS.2 ⟨e,V,?_⟩;rw[e3,K,au Z,e1];exact bg.2 ⟨j,dQ.2 hj,Z⟩
 have⟨hx,l1,l2,l3,l4⟩:=I.all Ms Ks hM hK _ [] R (an _);have e:=Mt.all_eq l1;have cf:O Ks<=O t.a.es*6:=by
  have:∀(es:List (iB Mn)),(∀e∈es,e.x.cw=M->e.x.ay.n<=6)->O (es.flatMap λe=>if e.x.cw then(List.range e.x.ay.n).map λj=>pre e.X++nameOf (e.x.ay.e j).m++(e.x.ay.e j).rest else[])<=O es*6:=by
   intro es
   induction es with
   |nil=>intro _;exact an _
   |cons a es ih=>
    intro h;have W:=ih λe V=>h e (bP _ V);rw[bE,aq,bD];have:O (if a.x.cw then(List.range a.x.ay.n).map λj=>pre a.X++nameOf (a.x.ay.e j).m++(a.x.ay.e j).rest else[])<=6:=by
     split;.rename_i K;rw[bh,NO];exact (h a bR) K
     .exact aQ _
    omega
  exact this t.a.es λe V K=>by
   rcases(I.lf _ _ _ (om CL V) K).2 with q|q;.exact q
   .exact absurd q.1 id
 rw[e];refine⟨l1,⟨l3,λx L=>(l4 x L).1,λx L=>(l4 x L).2.2.1⟩,?_,λx L=>(l4 x L).2.2.2⟩;have:=List.countP_le_length (p:=λx=>if R then decide (([]:aY)<x)else !decide (x<[])) (l:=Ks);exact fB l2 (fB this cf)
variable{Pk:aY->Prop}{iL:Nat->Prop}{lo:Nat->aY}{Y:Nat}{par rk:Nat->Nat}
def Gk:=RB [(5,[MO z11 12,MO [13,14,15] 16,MO [] 17,RX]),(6,[MO z4 5,MO [6,7,8] 9,MO [] 10,RX]),(9,[MO [0,1,2] 3,([],[1],J 4),MO [] 5,RX]),(10,[MO z12 13,RX])]
def No(i:Nat)(up:Hd)(mk:aY):Option (Hd×aY):=if i=0 then B else J (up,mk)
def oh(key:aY)(i:Nat):aY:=cut (key.drop (8*i))
def AL(key i):tv (oh key i):=GS _
structure aen(σ:jJ)(aO:Hd)(pre lo:Nat->aY)(key:aY)(i:Nat)(hx:List Hd)(z f up:Hd)(mk:aY)(fm:Mn)(r:Nat):Prop where
 i2:i<=2
 d:pH σ (qy (oh key i)) z hx f fm
 len:O hx<=4096
 ab:OL σ aO z (No i up mk)
 ph:pre z.X=key.take (8*i)
 pf:pre f.X=key.take (8*i)
 lo:¬qy (oh key i)<lo f.X
 xP:fm.kM=M->qy (oh key i)<fm.eI
 pl:fm.ay.Pl (oh key i) r
 kl:0<i->8*i<O key
 mkr:0<i->tv mk/\O mk=9
structure aok(σ:jJ)(aO:Hd)(pre lo:Nat->aY)(key:aY)(i:Nat)(hx:List Hd)(z f up:Hd)(mk:aY)(fm:Mn)(r:Nat):Prop where
 w:aen σ aO pre lo key i hx z f up mk fm r
 nd:r<fm.ay.n->(fm.ay.e r).m=oh key i->(fm.ay.e r).deep=R
abbrev IL(i:Nat)(P:u)(up:Hd)(mk:aY):List u:=[int i,P,int up.X,u64 up.bo,u64 (bv mk 8:Nat),u8 (O mk:Nat)]
def WA(i hx up mk):tF Y (.agg (IL i (qF hx) up mk)):=⟨trivial,Kj hx,trivial,trivial,trivial,trivial,trivial⟩
abbrev S8:u:= .g (.slice B 0 0)
set_option maxHeartbeats 400000 in
def ajf(t:Mt)(h Y)(o:t.ok h Y){pre eo}{ex:aY->Prop}(I:MI Pk (ct t.a.es) t.aO pre lo eo par rk iL ex)
 (rU:∀s g n,ct t.a.es s=J (g,n)->eo s<4096) (key:aY) (hk:O key<60000):
 UP 310 [.ptr t.tb 0,cg key] h Y λv Q E=>(∃i hx z f up mk fm r,v= .dY [.agg (IL i (qF hx) up mk),.agg (fm.ay.at r).cells,bW (decide (r<fm.ay.n/\(fm.ay.e r).m=oh key i))]/\
  aok (ct t.a.es) t.aO pre lo key i hx z f up mk fm r)/\Q=h/\E=Y:=by
 have dc:=o.lt;have d2:¬(t.tb=Y+1+1):=U;have d3:¬(t.tb=Y+1+1+1):=U;have Jv:¬(Y=Y+1):=U;have PD:¬(Y=Y+1+1):=U;have YX:¬(Y=Y+1+1+1):=U;have XW:¬(Y+1=Y+1+1):=U;have e13:¬(Y+1=Y+1+1+1):=U;have e23:¬(Y+1+1=Y+1+1+1):=U;refine az.pc 2 Gk func310 ?_;refine PV f310.eq_1 o.tr (U:¬(t.tb=Y)) (U:¬(t.tb=Y+1)) d2 ?_;refine cI _ _ (λmm s Q E=>∃i z up mk,mm=2-i/\i<=2/\Head (ct t.a.es) pre lo z (key.take (8*i))/\OL (ct t.a.es) t.aO z (No i up mk)/\(0<i->8*i<O key)/\(0<i->tv mk/\O mk=9)/\
  X s 0= .ptr t.tb 0/\X s 1=cg key/\X s 4= .ptr Y 0/\X s 5= .ptr (Y+1) 0/\X s 7= .ptr (Y+1+1) 0/\X s 8= .ptr (Y+1+1+1) 0/\
  (aG Y h Q/\N Q Y=some (.cells (IL 0 S8 ⟨0,0⟩ []) 449)/\N Q (Y+1)=some (.cells zs.cells 266)/\N Q (Y+1+1)=some (.cells (IL i S8 up mk) 449)/\N Q (Y+1+1+1)=some (.cells [int z.X,u64 z.bo] 245))/\Y+4<=E) (n:=2) ?_ ?_
 .refine RC Jv PD YX XW e13 e23 ?_;exact⟨0,t.aO,⟨0,0⟩,[],Z,aQ _,I.head,Z,(λh=>absurd h (dz 0)),(λh=>absurd h (dz 0)),gU,Z,Z,Z,Z⟩
 rintro mm s Q E ⟨i,z,up,mk,rfl,Gm,hi,ab,kl,mkr,s0,s1,s4,s5,s7,s8,⟨S0,g0,g1,g2,g3⟩,l1⟩;have⟨hx,f,fm,hb,hLl,pf,flo,fcv⟩:=I.go hi (qy (oh key i));have⟨n,hn,SZ⟩:=hi.ex;have hlL:=rU _ _ _ hn;have⟨hf,uH⟩:=hb.ay;have zxQ:=(I.lf _ _ _ hf uH).1;have⟨r,pl⟩:=zxQ.pl (oh key i);have hR:=AL key i;have n0:¬(Y=E):=U;have n1:¬(Y+1=E):=U;have n2:¬(Y+1+1=E):=U;have n3:¬(Y+1+1+1=E):=U;refine J7 s1 s7 g2 ?_;refine ba (U1 key i hk U) ?_;refine L6 s0 s8 g3 n3 ?_;generalize hA:aI (aI Q E _) E _=hc;have SA:aG Y h hc:=by rw[<-hA];exact(S0.set U).set U
 have k0:=U9 hA (WV g0 n0) n0
 have k1:=U9 hA (WV g1 n1) n1
 have k2:=U9 hA (WV g2 n2) n2
 have k3:=U9 hA (WV g3 n3) n3
 have k4:N hc E=J (.cells (uW (oh key i)) 264):=by rw[<-hA,Sr];rfl
 have oA:=o.aW (Q:=hc) (E:=E+1) (λb D=>SA b (o.dL D)) U;have c:=ari t hc (E+1) oA I hR hn (hi.lo▸kF) (λD=>by rw[SZ]at D;cases D) hb U;rw[Hd.av,Hd.cells]at c;refine bc c ?_;have m0:¬(Y+1+1=Y):=U;have m1:¬(Y+1+1=Y+1):=U;have m4:¬(E=Y+1+1):=U;have Ln:¬(t.tb=Y+1+1):=d2;have oT:=oA.tr;have⟨D1,D2,D3,_⟩:=hb.node;have w1:1<=O hx:=D1;have w2:O hx<9223372036854775808:=U;have w3:O hx-1<O hx:=U;have lst:hx.getD (O hx-1) default=f:=D3;have⟨e,V,_,_,c3,c4,c5,c6⟩:=jb o.ok hf;have sE:O fm.ay.sl=15:=zxQ.sl;have F0:sN fm.cells 0 fm:=sN.mk' (pre:=[]) sE;have f2:=F0.ay;refine asD Gk.eq_1 s0 s7 k2 Ln oT w1 w2 w3 lst @Hd.cells.eq_1 @jX ?_;generalize hq:E+1+Array.size _=nq;have qf:E+1<=nq:=U;generalize hB:aI hc (Y+1+1) _=zyQ;have SB:aG Y h zyQ:=hB▸(SA.set U)
 have SB':aG Y hc zyQ:=hB▸(aG.refl.set U)
 have b0:=U9 hB k0 PD
 have b1:=U9 hB k1 XW
 have b2:=TZ hB
 have b3:=U9 hB k3
 have b4:=U9 hB k4 m4
 have b5:=(SB _ c5).trans c4
 refine bc (c6 _ _ SB U) ?_;have mm:=lB sE;simp+decide-dsimp only[go_sem,Gk,b4,b5,f2,reduceAdd];refine ba (TE fm.ay zxQ _ hR r pl) ?_;simp+decide-dsimp only[go_sem,b5,f2,reduceAdd];refine ba (HV fm.ay zxQ r) ?_;generalize hq:nq+Array.size _=np;have hnp:nq<=np:=U;have p0:¬(Y=np):=U;have p1:¬(Y+1=np):=U;have p2:¬(Y+1+1=np):=U;have p3:¬(Y+1+1+1=np):=U;have p4:¬(E=np):=U;have m5:¬(Y+1=Y):=U;have m6:¬(Y+1+1+1=Y):=U;have m7:¬(np=Y+1+1):=U;have m8:¬(np=Y+1):=U;have m9:¬(np=Y):=U;have S:aen (ct t.a.es) t.aO pre lo key i hx z f up mk fm r:=⟨Gm,hb,U,ab,hi.pre,pf,flo,fcv,pl,kl,mkr⟩;by_cases jA:r<fm.ay.n/\(fm.ay.e r).m=oh key i
 case neg=>
  simp+decide-dsimp only[go_sem,Gk,s4,s5,s7,b0,b1,b2,jA,p0,p1,p2,Jv,m5,m9,reduceAdd];refine⟨?_,_,.nD (.cw (WA i hx up mk)) (.cw (uw _)) .cP,i,hx,z,f,up,mk,fm,r,by rw[aU jA],S,λW F=>absurd ⟨W,F⟩ jA⟩
  repeat' first|exact aG.refl|apply aG.fo|(apply aG.set;rotate_left;omega)
  exact SB
 have Br:fm.ay.at r=fm.ay.e r:=au jA.1;cases tO:(fm.ay.e r).deep with
 |false=>
  simp+decide-dsimp only[go_sem,Gk,s4,s5,s7,b0,b1,b2,jA,Br,tO,p0,p1,p2,Jv,m5,m9,reduceAdd];refine⟨?_,_,.nD (.cw (WA i hx up mk)) (.cw ⟨trivial,trivial,trivial,trivial,trivial,trivial,trivial,trivial⟩) .cP,i,hx,z,f,up,mk,fm,r,by rw[aN jA,Br,Sl.cells,tO,jA.2],S,λ_ _=>tO⟩
  repeat' first|exact aG.refl|apply aG.fo|(apply aG.set;rotate_left;omega)
  exact SB
 |true=>
  simp+decide-dsimp only[go_sem,Gk,s0,s1,s4,s5,s7,s8,b0,b1,b2,b3,b4,jA,Br,tO,p0,p1,p2,p3,p4,PD,YX,XW,e13,e23,m7,w1,w2,w3,lst,Hd.cells,jX,reduceAdd];have ok:=I.X _ _ _ hf uH r jA.1;have⟨⟨ln,z1,z2⟩,z3,z4,z5⟩:=ok.link tO;have hnm:nameOf (fm.ay.e r).m=(key.drop (8*i)).take 8:=jA.2▸(rT _)
  have h9:=((zxQ.r r jA.1).d tO).1;have xC:8*(i+1)<O key:=by
   have e:O (oh key i)=9:=jA.2▸h9
   unfold oh at e;rw[mq,aC]at e;omega
  have yW:pre (fm.ay.e r).link.X=key.take (8*(i+1)):=by rw[z3,pf,hnm,<-k9];congr 1
  have hi3:i+1<=2:=by have⟨j,j1,j2⟩:=I.pl _ _ _ z1;rw[yW,ax]at j1;omega
  refine Xf (U:i+1<9223372036854775808) ?_;refine⟨2-(i+1),U,i+1,(fm.ay.e r).link,f,oh key i,Z,hi3,⟨⟨ln,z1,z2⟩,z4,yW⟩,?_,λ_=>xC,λ_=>⟨hR,by rw[<-jA.2];exact h9⟩,?_⟩;.unfold No;rw[ak U];exact⟨fm,r,hf,uH,jA.1,tO,Z,jA.2⟩
  exact⟨⟨by(repeat' first|exact aG.refl|apply aG.fo|(apply aG.set;rotate_left;omega));exact SB,Z,Z⟩,U⟩
variable{key:aY}
section
variable{Pk:aY->Prop}{σ:jJ}{aO:Hd}{pre lo:Nat->aY}{eo par rk:Nat->Nat}{iL big':Nat->Prop}{ex ex':aY->Prop}
def MI.set(I:MI Pk σ aO pre lo eo par rk iL ex){g n}(G:σ s=J (g,n))(K:n.cw=M)(H:i<n.ay.n){x:Sl}(xR:x.zxQ)(xm:x.m=(n.ay.e i).m)(ok:zd Pk σ pre lo par s x)(nd:(n.ay.e i).deep=R)(hex:∀t g m,σ t=J (g,m)->ex (pre t)->ex' (pre t)\/x.deep=M/\pre x.link.X=pre t/\eo t<=eo x.link.X):
 MI Pk (up σ s (g,{n with ay:=n.ay.upd i x})) aO pre lo eo par rk iL ex':=by
 have⟨zxQ,hn⟩:=I.lf _ _ _ G K;have Ye:=zxQ.n;refine I.upd G K (λ_ h _=>h) (zxQ.upd H xR xm) Z Z Z hn (λj hj=>?_) (λj hj=>?_) (λj hj dj=>⟨j,hj,by rw[zv zxQ U x U,ak (λe=>by rw[e,nd]at dj;cases dj)]⟩) (λt g m ht h=>(hex t g m ht h).imp id λw=>⟨i,H,?_⟩)
 .have hj:j<n.ay.n:=hj;have e:((n.ay.upd i x).e j).m=(n.ay.e j).m:=by
   rw[zv zxQ U x U];split;.rename_i e;rw[e,xm]
   .rfl
  rw[e];refine(I.Lr _ _ _ G _ ?_).1;unfold Mn.js;rw[K,au Z];exact bg.2 ⟨j,dQ.2 hj,Z⟩
 .have hj:j<n.ay.n:=hj;rw[zv zxQ U x U];split;.exact ok
  .exact I.X _ _ _ G K j hj
 .rw[zv zxQ U x U,au Z];exact w
def MI.ins(I:MI Pk σ aO pre lo eo par rk iL ex){s g n}(G:σ s=J (g,n))(K:n.cw=M){i}{x:Sl}(pl:n.ay.Pl x.m i)(xR:x.zxQ)(A:n.ay.eF x.m=M)(cD:¬(i<n.ay.n/\(n.ay.e i).m=x.m))
 (D:∀t,iL t->t≠s->big' t) (hn:n.ay.n+1<=6\/(big' s/\n.ay.n+1=7)) (xlo:¬qy x.m<lo s) (ok:zd Pk σ pre lo par s x) (hex:∀t g m,σ t=J (g,m)->ex (pre t)->ex' (pre t)\/x.deep=M/\pre x.link.X=pre t/\eo t<=eo x.link.X):
 MI Pk (up σ s (g,{n with ay:=n.ay.ins i x})) aO pre lo eo par rk big' ex':=by
 have⟨zxQ,_⟩:=I.lf _ _ _ G K;have Ye:n.ay.n<15:=by rcases hn with h|h<;>omega
 have H:=pl.le;refine I.upd G K D (zxQ.ins pl Ye xR A cD) Z Z Z hn (λj hj=>?_) (λj hj=>?_) (λj hj _=>?_) (λt g m ht h=>(hex t g m ht h).imp id λw=>⟨i,by show i<n.ay.n+1;omega,by rw[uj zxQ H Ye x U,ak U,au Z];exact w⟩)
 rotate_right
 .by_cases w:j<i;.exact⟨j,by show j<n.ay.n+1;omega,by rw[uj zxQ H Ye x U,au w]⟩
  .exact⟨j+1,by show j+1<n.ay.n+1;omega,by rw[uj zxQ H Ye x U,ak U,ak U,au U];rfl⟩
 all_goals
  have hj:j<n.ay.n+1:=hj;rw[uj zxQ H Ye x U]
 .have old:∀j,j<n.ay.n->¬qy (n.ay.e j).m<lo s:=λj hj=>by refine(I.Lr _ _ _ G _ ?_).1;unfold Mn.js;rw[K,au Z];exact bg.2 ⟨j,dQ.2 hj,Z⟩
  split;.exact old j U
  .split;.exact xlo
   .rw[au U];exact old _ U
 .split;.exact I.X _ _ _ G K j U
  .split;.exact ok
   .rw[au U];exact I.X _ _ _ G K _ U
def MI.del(I:MI Pk σ aO pre lo eo par rk iL ex){s g n}(G:σ s=J (g,n))(K:n.cw=M){i}(H:i<n.ay.n)(h6:n.ay.n<=7)(nd:(n.ay.e i).deep=R):
 MI Pk (up σ s (g,{n with ay:=n.ay.del i})) aO pre lo eo par rk iL ex:=by
 have⟨zxQ,hn⟩:=I.lf _ _ _ G K;have Ye:=zxQ.n;have e:∀j,j<n.ay.n-1->∃q,q<n.ay.n/\(n.ay.del i).e j=n.ay.e q:=λj hj=>by
  rw[BD zxQ H U];split;.exact⟨j,U,Z⟩
  .exact⟨j+1,U,Z⟩
 refine I.upd G K (λ_ h _=>h) (zxQ.del H) Z Z Z (.inl (by show n.ay.n-1<=6;omega)) (λj hj=>?_) (λj hj=>?_) (λj hj dj=>?_) (λ_ _ _ _ h=> .inl h)
 rotate_right
 .rcases cF j i with w|w|w;.exact⟨j,by show j<n.ay.n-1;omega,by rw[BD zxQ H U,au w]⟩
  .rw[w,nd]at dj;cases dj
  .exact⟨j-1,by show j-1<n.ay.n-1;omega,by rw[BD zxQ H U,ak U,au U,show j-1+1=j from U]⟩
 .have⟨q,hq,e⟩:=e j hj;rw[e];refine(I.Lr _ _ _ G _ ?_).1;unfold Mn.js;rw[K,au Z];exact bg.2 ⟨q,dQ.2 hq,Z⟩
 .have⟨q,hq,e⟩:=e j hj;rw[e];exact I.X _ _ _ G K q hq
end
def EH(key v i):(dX key i v).zxQ:=by refine⟨GS _,(λh=>by cases h),λ_=>⟨Z,?_⟩⟩;show O (cut (key.drop (8*i)))=9↔key.drop (8*(i+1))≠[];rw[mq,aC,Ne,List.drop_eq_nil_iff];omega
def DX(key v:aY)(i):key.take (8*i)++nameOf (dX key i v).m++(dX key i v).rest=key:=by show key.take (8*i)++nameOf (cut (key.drop (8*i)))++key.drop (8*(i+1))=key;have e:nameOf (cut (key.drop (8*i)))=(key.drop (8*i)).take 8:=rT _;rw[e,aA,show 8*(i+1)=8*i+8 from U,<-lM,bA,bA]
def FX{Pk:aY->Prop}{σ pre lo par}(v)(hp:pre s=key.take (8*i))(hk:Pk key)(K:O key<=24)(h0:0<i->8*i<O key):zd Pk σ pre lo par s (dX key i v):=by
 refine⟨λ_=>?_,(λh=>by cases h)⟩;rw[hp,DX];refine⟨hk,K,λcD hm=>?_⟩;have W:O (cut (key.drop (8*i)))=0:=by have:(dX key i v).m=cut (key.drop (8*i)):=rfl;rw[<-this,hm];rfl
 rw[mq,aC]at W;obtain q|q:=nW i
 .subst q;exact cD Z
 .have:=h0 q;omega
variable{b E:Nat}{h Q W F:aE}{p':bp}{t':Mt}
def jR{g:u}{n:Mn}{l:Lf}(K:O n.ay.sl=15)(mJ:O l.sl=15):eG 2 (g::n.cells) l.cells=J (g::({n with ay:=l}:Mn).cells):=by rw[cG _ _ _ (by rw[bD,qb K,eR mJ];omega),eR mJ];show J ([g,bW n.cw]++l.cells++(n.ay.cells++n.aL.cells).drop 111)=_;rw[List.drop_left' (eR K)];show _=J ([g,bW n.cw]++(l.cells++n.aL.cells));rw[aA]
def uA{g:u}{n:Mn}{d:Nd}(K:O n.ay.sl=15):eG 113 (g::n.cells) d.cells=J (g::({n with aL:=d}:Mn).cells):=by
 have ln:O (g::n.cells)=121:=by rw[bD,qb K]
 have ld:O d.cells=8:=rfl;rw[cG _ _ _ (by rw[ln,ld];omega),aX (by rw[ln,ld];omega),cy];have e:(g::n.cells)=([g,bW n.cw]++n.ay.cells)++n.aL.cells:=by show _=[g,bW n.cw]++n.ay.cells++n.aL.cells;rw[aA];rfl
 rw[e,vE (by rw[aq,eR K];rfl)];show _=J ([g,bW n.cw]++(n.ay.cells++d.cells));rw[aA]
def Gq{off}{m:Nd}:AR h b off (J 8) (J m.cells)=mz (fL h b off m.cells):=vH Z Z
def fT.heap{t p}(s:fT Y t t' p p' h W)(hk:∀b,b<Y->N F b=N W b):fT Y t t' p p' h F:=
 ⟨s.tb,s.ab,s.mb,s.pb,s.gb,s.fb,s.fl,s.fr,s.bT,s.old,s.slt,λb D g1 g2 g3 g4 g5 g6=>(hk b D).trans (s.aW b D g1 g2 g3 g4 g5 g6)⟩
def fT.wide{t p}(s:fT E t t' p p' h W)(hn:Y<=E):fT Y t t' p p' h W:=
 ⟨s.tb,s.ab,s.mb,s.pb,s.gb,s.fb,s.fl,s.fr,λe V=>(s.bT e V).imp id (λq=>U),s.old,s.slt,λb D=>s.aW b U⟩
def MW.heap{t p}(o:MW t p h Y)(hk:∀b,t.own b\/b=p.pb\/b=p.gb\/b=p.fb->N Q b=N h b)(hn:Y<=E):MW t p Q E:=
 ⟨o.tk.aW (λb D=>hk b (.inl D)) hn,o.pk.jw (hk _ (.inr (.inl Z))) (hk _ (FF (.inl Z))) (hk _ (Fe Z)) hn,o.sp,o.sd⟩
variable{Rr:Lf}{σ1:jJ}
def Lf.es(l:Lf):List Sl:=(List.range l.n).map l.e
theorem od{l:Lf}:l.es[j]?=if j<l.n then J (l.e j)else B:=by
 unfold Lf.es;rw[gY];by_cases h:j<l.n;.rw[wU h,au h];rfl
 .rw[ak h,ed (Mf h)];rfl
theorem uN{l:Lf}:O l.es=l.n:=by unfold Lf.es;simp
section
variable{l:Lf}(zxQ:l.zxQ){i:Nat}{x:Sl}
include zxQ
theorem ahb(H:i<l.n):(l.upd i x).es=l.es.set i x:=by
 have Ye:=zxQ.n;refine iX λj=>?_;rw[od,sU,od,uN];show(if j<l.n then _ else B)=_;by_cases h:j<l.n
 .rw[au h,au h,zv zxQ U x U];by_cases e:j=i;.subst e;rw[au Z,au Z,au h]
  .rw[ak e,ak (Ne.symm e)]
 .rw[ak h,ak h,ak U]
theorem ahc(H:i<=l.n)(hn:l.n<15):(l.ins i x).es=l.es.take i++x::l.es.drop i:=by
 refine iX λj=>?_;rw[od];show(if j<l.n+1 then _ else B)=_;have lt:O (l.es.take i)=i:=by rw[ax,uN];omega
 obtain h|h|h:=cF j i;.rw[au U,uj zxQ H hn x U,au h,bX U,gJ h,od,au U]
 .rw[au U,uj zxQ H hn x U,ak U,au h,cE U,lt,show j-i=0 from U];rfl
 .rw[cE U,lt,show j-i=(j-i-1)+1 from U,se,gh,od,show i+(j-i-1)=j-1 from U];by_cases w:j<l.n+1;.rw[au w,au U,uj zxQ H hn x U,ak U,ak U,au U]
  .rw[ak w,ak U]
theorem ae9(H:i<l.n):(l.del i).es=l.es.eraseIdx i:=by
 have Ye:=zxQ.n;refine iX λj=>?_;rw[od,Cz,od,od];show(if j<l.n-1 then _ else B)=_;by_cases h:j<l.n-1
 .rw[au h,BD zxQ H U];by_cases w:j<i;.rw[au w,au w,au U]
  .rw[ak w,ak w,au h,au U]
 .rw[ak h];split;.omega
  .rw[ak U]
end
theorem Yw{l hx x}(S:HZ l x hx Rr):hx.es++Rr.es=l.es:=by
 have e1:=S.ln;have e2:=S.rn;refine iX λj=>?_;rw[od];by_cases h:j<hx.n;.rw[bX (uN▸h),od,au h,au U,S.le j U]
 .rw[cE (Es @uN),uN,od];by_cases w:j<l.n;.rw[au w,au U,S.re _ U,show l.n / 2+(j-hx.n)=j from U]
  .rw[ak w,ak U]
def kO(b:Bool)(n:Mn):Nat:=if n.cw then n.ay.es.countP (λs=>s.deep==b)else 0
theorem yu{b}{n:Mn}(h:n.cw=R):kO b n=0:=by unfold kO;rw[h];rfl
theorem Hx{b}{n:Mn}(h:n.cw=M){l:Lf}:kO b {n with ay:=l}=l.es.countP (λs=>s.deep==b):=by unfold kO;rw[show({n with ay:=l}:Mn).cw=n.cw from Z,h];rfl
theorem zj{b}{n:Mn}(h:n.cw=M):kO b n=n.ay.es.countP (λs=>s.deep==b):=by unfold kO;rw[h];rfl
def one?(b:Bool):Nat:=if b then 1 else 0
theorem zg{b}{n:Mn}(K:n.cw=M)(zxQ:n.ay.zxQ){i}{x:Sl}(H:i<=n.ay.n)(hn:n.ay.n<15):kO b {n with ay:=n.ay.ins i x}=kO b n+one? (x.deep==b):=by
 rw[Hx K,zj K,ahc zxQ H hn,lL,nm]
 conv=>rhs;rw[<-bA i n.ay.es,lL]
 unfold one?;omega
theorem Cw{b}{n:Mn}(K:n.cw=M)(zxQ:n.ay.zxQ){i}{x:Sl}(H:i<n.ay.n):kO b {n with ay:=n.ay.upd i x}+one? ((n.ay.e i).deep==b)=kO b n+one? (x.deep==b):=by
 have mJ:i<O n.ay.es:=uN▸H
 have e0:n.ay.es[i]=n.ay.e i:=by have:=od (l:=n.ay) (j:=i);rw[au H,aF mJ]at this;injection this
 rw[Hx K,zj K,ahb zxQ H,gG,au mJ,lL,nm]
 conv=>rhs;rw[<-bA i n.ay.es,lL,cM mJ,nm,e0]
 unfold one?;omega
theorem Of{b}{n:Mn}(K:n.cw=M)(zxQ:n.ay.zxQ){i}(H:i<n.ay.n):kO b {n with ay:=n.ay.del i}+one? ((n.ay.e i).deep==b)=kO b n:=by
 have mJ:i<O n.ay.es:=uN▸H
 have e0:n.ay.es[i]=n.ay.e i:=by have:=od (l:=n.ay) (j:=i);rw[au H,aF mJ]at this;injection this
 rw[Hx K,zj K,ae9 zxQ H,ir,lL]
 conv=>rhs;rw[<-bA i n.ay.es,lL,cM mJ,nm,e0]
 unfold one?;omega
theorem Kn{b n nl nr sep x}(h:P5 n nl nr sep x):kO b nl+kO b nr=kO b n:=by
 obtain⟨K,hc,zyQ,S,rfl,rfl,rfl⟩|⟨K,rfl,rfl,rfl⟩:=h
 .rw[Hx K,zj K,<-Yw S,lL]
  congr 1
 .rw[yu K,yu (show({n with aL:=n.aL.left x}:Mn).cw=R from K),yu Z]
section
variable{Pk:aY->Prop}{σ:jJ}{aO:Hd}{pre lo:Nat->aY}{eo par rk:Nat->Nat}{iL:Nat->Prop}
theorem MI.via(I:MI Pk σ aO pre lo eo par rk iL Cd){p:aY}(hp:O p=8*k):∀(aw s g:Nat) (n:Mn),σ s=J (g,n)->O (pre s)<=aw->p<+:pre s->pre s≠p->
 ∃AV gu nu i,σ AV=J (gu,nu)/\nu.cw=M/\i<nu.ay.n/\(nu.ay.e i).deep=M/\pre AV=p/\p++nameOf (nu.ay.e i).m<+:pre s:=by
 intro aw
 induction aw with
 |zero=>intro s g n _ K BR cD;have e:pre s=[]:=uV U;rw[e]at BR cD;exact absurd (List.prefix_nil.1 BR).symm cD
 |succ aw ih=>
  intro s g n G K BR cD;have h0:pre s≠[]:=λe=>by rw[e]at BR cD;exact cD (List.prefix_nil.1 BR).symm
  rcases(I.lr _ _ _ G).2 h0 with w|⟨s',g',n1,i,b1,b2,b3,b4,b5,b6⟩;.exact w.elim
  have e:=((I.X _ _ _ b1 b2 i b3).link b4).2.1;rw[b5]at e;have l8:=I.xM b1 b2 b3 b4;by_cases q:pre s'=p;.exact⟨s',g',n1,i,b1,b2,b3,b4,q,by rw[e,q];exact⟨[],bR⟩⟩
  have⟨k',CT,_⟩:=I.pl _ _ _ b1;have dc:O p<O (pre s):=Nat.lt_of_le_of_ne BR.length_le λw=>cD (BR.eq_of_length w).symm;have Ly:O (pre s)=8*k'+8:=by rw[e,aq,l8,CT]
  have XY:p<+:pre s':=tL BR (e▸(nZ _ _)) U;have⟨AV,gu,nu,j,c1,c2,c3,c4,c5,c6⟩:=ih s' g' n1 b1 U XY q;exact⟨AV,gu,nu,j,c1,c2,c3,c4,c5,c6.trans (e▸(nZ _ _))⟩
end
def xV(σ:jJ)(hd ly:Int)(p:bp)(C d:Nat):Prop:=Acc (kO R) σ hd p C d/\∃hl:Nat,Sz (kO M) σ hl/\ly=((hl+1:Nat):Int)/\hl<=4*d
section
variable{σ σ':jJ}{hd z' ly ly':Int}{p p':bp}{C d s g:Nat}{n n' nl nr:Mn}{x:Hd}{sep:aY}
theorem xV.up(hc:xV σ hd ly p C d):xV σ hd ly p C (d+1):=by have⟨a,hl,b,c,e⟩:=hc;exact⟨a.up,hl,b,c,U⟩
theorem xV.half(hc:xV σ hd ly p C d)(G:σ s=J (g,n))(L:σ x.X=B)(h:P5 n nl nr sep x)(y:σ'=br.up (br.up σ s (g,nl)) x.X (x.bo,nr))(A:p'.fr.count M+1=p.fr.count M):xV σ' hd ly p' C d:=by
 have⟨a,hl,b,c,e⟩:=hc;refine⟨a.half G L y (Kn h) A,hl,?_,c,e⟩;have hh:=Kn (b:=M) h;have:=b.le G;have ne:x.X≠s:=λq=>by rw[q,G]at L;cases L
 rw[y];exact(b.up (zzQ:=hl-kO M n+kO M nl) (by rw[fP G];show _=hl+kO M nl;omega)).up (by rw[jc ((cT ne)▸L)];show _=_+kO M nr;omega)
theorem xV.set(hc:xV σ hd ly p C d)(G:σ s=J (g,n))(y:σ'=br.up σ s (g,n'))(h:∀b,kO b n'=kO b n):xV σ' hd ly p C d:=by have⟨a,hl,b,c,e⟩:=hc;exact⟨a.set G y λzzQ _ hM hz=>⟨zzQ,hz,by rw[h],hM⟩,hl,by rw[y];exact b.up (by rw[fP G];rw[h]),c,e⟩
theorem xV.ins(hc:xV σ hd ly p C d)(G:σ s=B)(y:σ'=br.up σ s (g,n))(h:∀b,kO b n=0)(A:p'.fr.count M+1=p.fr.count M):xV σ' hd ly p' C d:=by have⟨a,hl,b,c,e⟩:=hc;exact⟨a.ins G y (h _) A,hl,by rw[y];exact b.up (by rw[jc G];rw[h]),c,e⟩
theorem xV.more(hc:xV σ hd ly p C d)(G:σ s=J (g,n))(y:σ'=br.up σ s (g,n'))(h:kO R n'=kO R n+1)(Q:kO M n'=kO M n)(z:d<50000)(e:z'=cO .i64 (hd+1)):xV σ' z' ly p C (d+1):=by have⟨a,hl,b,c,q⟩:=hc;refine⟨a.set G y λzzQ _ hM hz=>⟨zzQ+1,?_,by rw[h];omega,U⟩,hl,by rw[y];exact b.up (by rw[fP G];rw[Q]),c,U⟩;rw[e,hz,wrap_i64 U U];rfl
theorem xV.less(hc:xV σ hd ly p C d)(G:σ s=J (g,n))(y:σ'=br.up σ s (g,n'))(h:kO R n'+1=kO R n)(Q:kO M n'=kO M n)(z:d<50000)(e:z'=cO .i64 (hd-1)):xV σ' z' ly p C d:=by have⟨a,hl,b,c,q⟩:=hc;refine⟨a.set G y λzzQ K hM hz=>⟨zzQ-1,?_,U,U⟩,hl,by rw[y];exact b.up (by rw[fP G];rw[Q]),c,q⟩;rw[e,hz,wrap_i64 U U];omega
def Grown(σ σ':jJ)(k:Nat):Prop:=∀aw zzQ hl,Sz (λ_=>1) σ aw->Sz (kO R) σ zzQ->Sz (kO M) σ hl->Sz (λ_=>1) σ' (aw+k+1)/\Sz (kO R) σ' (zzQ+2)/\Sz (kO M) σ' (hl+k)
theorem xV.grown(hc:xV σ hd ly p C d)(hs:Grown σ σ1 k)(hk:k<=3)(A:p'.fr.count M+(k+1)=p.fr.count M)(hly:ly'=ly+((k+1:Nat):Int))(G:σ s=J (g,n))(yf:σ1 s=J (g,n))(y:σ'=br.up σ1 s (g,n'))(h:kO R n'+1=kO R n)(Q:kO M n'=kO M n+1)(z:d<50000)(e:z'=cO .i64 (hd+1)):xV σ' z' ly' p' C (d+1):=by
 have⟨⟨aw,zzQ,a1,a2,a3,a4,a5⟩,hl,b,c,q⟩:=hc;have⟨g1,g2,g3⟩:=hs aw zzQ hl a1 a3 b;refine⟨⟨aw+k+1,zzQ+1,?_,U,?_,?_,U⟩,hl+k+1,?_,by rw[hly,c];omega,U⟩;.rw[y];exact g1.up (by rw[fP yf])
 .rw[y];exact g2.up (by rw[fP yf];show _=_+kO R n';omega)
 .rw[e,a4,wrap_i64 U U];rfl
 .rw[y];exact g3.up (by rw[fP yf];show _=_+kO M n';omega)
end
variable{C d:Nat}
def MOk(Pk:aY->Prop)(t:Mt):Prop:=∃pre lo eo par rk,MI Pk (ct t.a.es) t.aO pre lo eo par rk (λ_=>False) Cd
def Ox:=RB [(4,[MO z7 8,([9,10],[4],B)]),(6,[MO z11 12,MO [13,14,15] 16,MO [] 17,RX]),(7,[MO z6 7,MO [8,9,10,11,12,13] 14,RX])]
set_option maxHeartbeats 4000000 in
def aoD(t p h Y)(zyQ:MW t p h Y)(hT:MOk Pk t)(key:aY)(hk:O key<60000)(hA:xV (ct t.a.es) t.size t.dU p C d)(OK:d<50000):
 UP 300 [.ptr t.tb 0,cg key] h Y λv Q E=>(∃old nh,v= .dY [cg old,bW nh])/\∃t':Mt,MW t' p Q E/\fT Y t t' p p h Q/\MOk Pk t'/\xV (ct t'.a.es) t'.size t'.dU p C d:=by
 have⟨pre,lo,eo,par,rk,I⟩:=hT;have o:=zyQ.tk;have dc:=o.lt;refine az.ac 2 Ox func300 ?_;refine Xf f300.eq_1 ?_;refine bc (MN t _ _ o) ?_;refine Xf o.tr ?_;refine cm (ajf t h Y o I (zyQ.eo I) key hk) λ_ W cC l1 ⟨⟨i,hx,z,f,up,mk,fm,r,e1,S⟩,e2,e3⟩=>?_;subst e1;replace e2:=e2.symm;replace e3:=e3.symm;subst e2;subst e3;have h1:=S.w;have i2:=h1.i2;have d0:¬(Y=Y+1):=U;refine Y8 Ox.eq_1 d0 ?_;generalize hA:aI (aI (aI (aI h Y _) (Y+1) _) Y _) (Y+1) _=hc;have SA:aG Y h hc:=hA▸gU
 have a0:=U9 hA Tb d0
 have a1:N hc (Y+1)=J (.cells (fm.ay.at r).cells 266):=by rw[<-hA,Sr]
 clear hA;have BA:MW t p hc (Y+1+1):=zyQ.aW SA U;by_cases jA:r<fm.ay.n/\(fm.ay.e r).m=oh key i
 case neg=>have z:=aU jA;simp+decide-dsimp only[go_sem,z];exact⟨⟨_,_,Z⟩,t,BA.aW aG.refl U,fT.same SA,⟨pre,lo,eo,par,rk,I⟩,hA⟩
 have z:=aN jA;have Br:fm.ay.at r=fm.ay.e r:=au jA.1;rw[Br]at a1;refine L6 a0 a1 z Br ?_;refine ba (ag8 key i hk U) ?_;by_cases hr:(fm.ay.e r).rest=key.drop (8*(i+1))
 case neg=>refine J7 a1 z hr ?_;exact⟨⟨_,_,Z⟩,t,BA.aW aG.refl U,fT.same SA,⟨pre,lo,eo,par,rk,I⟩,hA⟩
 have⟨D1,D2,D3,_⟩:=h1.d.node;have⟨hf,uH⟩:=h1.d.ay;have Rf:=(I.lf _ _ _ hf uH).1;have cf:=h1.len;have w1:1<=O hx:=D1;have lst:hx.getD (O hx-1) default=f:=D3;have⟨e,V,g1,g2,c3,c4,c5,c6⟩:=jb BA.tk.ok hf;have F0:sN fm.cells 0 fm:=sN.mk' (pre:=[]) Rf.sl;have f2:=F0.ay;have b0:¬(t.tb=Y):=U;have b1:¬(t.tb=Y+1):=U;have oA:=BA.tk.tr;have he0:¬(Y=e.bT):=λq=>by have:=(o.ok.fr e V).2.2;omega
 have he1:¬(Y+1=e.bT):=λq=>by have:=(o.ok.fr e V).2.2;omega
 have het:¬(t.tb=e.bT):=λq=>o.d3 e V q.symm;refine asD Ox.eq_1 a0 a1 z hr oA w1 (U:O hx<9223372036854775808) (U:O hx-1<O hx) lst @Hd.cells.eq_1 @jX ?_;refine bc (c6 _ _ .refl U) ?_;simp+decide-dsimp only[go_sem,Ox,a1,hr,c4,f2,reduceAdd];have hm:=AL key i;have c:=al6 fm.ay Rf (oh key i) hm r h1.pl;rw[au jA,<-jA.2]at c;have Jd:O (fm.ay.del r).sl=15:=(Rf.del jA.1).sl;have pl:=jR (g:=u64 f.bo) (n:=fm) (l:=fm.ay.del r) Rf.sl Jd;have fl:=eR Jd;refine ba c ?_;refine asB a1 hr c4 pl fl @ja oA (U:¬(Y+1=t.tb)) he1 het ?_;have⟨t1,B1,gP,y3,y4,y5,y6⟩:=BA.mg V g1 g2 {fm with ay:=fm.ay.del r} Jd;have⟨B2,vD⟩:=B1.tree t1.aO (cO .i64 (t.size-1)) t1.dU;rw[gP.tb,y4,y6,B1.sp.pb.trans zyQ.sp.pb.symm,gP.ab]at B2 vD;have h6:fm.ay.n<=7:=by rcases(I.lf _ _ _ hf uH).2 with q|q<;>omega
 refine⟨⟨_,_,Z⟩,_,B2.aW aG.refl U,(fT.same SA).trans (gP.trans vD (an _)) U,⟨pre,lo,eo,par,rk,?_⟩,hA.less hf y3 ?_ ?_ OK Z⟩
 rotate_right 2
 .have:=Of (b:=R) uH Rf jA.1;rw[S.nd jA.1 jA.2]at this;exact this
 .have:=Of (b:=M) uH Rf jA.1;rw[S.nd jA.1 jA.2]at this;exact this
 have v7:=I.del hf uH jA.1 h6 (S.nd jA.1 jA.2);rw[<-y3]at v7;exact v7
variable{a:u}{z:Hd}{r:dI}
def ED:=RB [(1,[([0,1,2,3,4,5,6,7,8,13],[3,7],J 9),([10,11,12],[13],J 14),MO [] 15,RX]),(2,[MO z4 5,MO [6,7,8] 9,MO [] 10,RX]),(5,[MO z6 7,MO [8,9,10,11,12,13] 14,MO [15,16] 17,MO [] 18,RX]),(6,[MO [0,2] 1,([],[2],J 3),([],[2],J 4),RX]),(8,[MO z6 7,MO [8,9,10,11,12,13] 14,MO [15,16] 17,MO [] 18,RX]),(9,[MO [0,1] 2,MO [] 3,RX])]
def ahl:t271=ya.cells++zin:=rfl
def TL{cw vs}(h:fv r [a,.agg (bW cw::t271)] vs):fv r [a,(Mn.mk cw ya Ck).av] vs:=by rw[ahl]at h;exact Og h
set_option maxHeartbeats 1000000 in
def aqm(t p h Y)(zyQ:MW t p h Y){n}(G:ct t.a.es z.X=J (z.bo,n))(FR:Oh n)(A:p.fr.count M≠0){e:iB Mn}(V:e∈t.a.es)(e1:e.X=z.X)(e2:e.bo=z.bo)(e3:e.x=n):
 UP 348 [.ptr t.tb 0,.ptr e.bT 1] h Y λv Q E=>∃t' p' x nl nr sep,v= .dY [cg sep,x.av]/\ct t.a.es x.X=B/\P5 n nl nr sep x/\MW t' p' Q E/\fT Y t t' p p' h Q/\
  ct t'.a.es=up (up (ct t.a.es) z.X (z.bo,nl)) x.X (x.bo,nr)/\t'.aO=t.aO/\p'.fr.count M+1=p.fr.count M/\t'.size=t.size/\t'.dU=t.dU:=by
 have o:=zyQ.tk;have dc:=o.lt;have akM:=(o.ok.fr e V).2.2;have sE:O n.ay.sl=15:=e3▸(o.sl e V)
 have c4:N h e.bT=J (.cells (u64 z.bo::n.cells) 334):=by rw[o.ok.cl e V,e2,e3]
 have F0:sN n.cells 0 n:=sN.mk' (pre:=[]) sE;have f1:=F0.cw;have d0:¬(t.tb=Y):=U;have d1:∀q,¬(t.tb=Y+1+q):=λq=>U;have d2:¬(e.bT=Y):=U;have d3:∀q,¬(e.bT=Y+1+q):=λq=>U;have d4:∀q,¬(Y=Y+1+q):=λq=>U;refine az.ac 2 ED func348 ?_;simp+decide-dsimp only[f348,go_sem,ED,o.tr,c4,f1,d0,d1,d2,d3,adW];generalize hq:Y+1+Array.size _=nq;have qf:Y+1+16<=nq:=hq▸(iR bS _)
 generalize hH:aI (aI h Y _) (Y+1+13) _=hi;have S0:aG Y h hi:=hH▸gU
 have g0:=U9 hH Tb (d4 _)
 have g1:=TZ hH
 have o1:=zyQ.aW S0 (U:Y<=nq);refine cm (az.Mm (args:=[.ptr t.a.ab 0,.agg (bW n.cw::t271)]) (args':=[.ptr t.a.ab 0,(Mn.mk n.cw ya Ck).av]) (Eq.refl (2:Nat)) (λr vs hv=>TL hv) (o1.vT A ⟨n.cw,ya,Ck⟩ Z)) λ_ F dR l2 ⟨t1,p1,x,r1,r2,B1,gP,r3,r4,r5,r6⟩=>?_
 subst r2;have vP:∀c,Y<=c->c<nq->N F c=N hi c:=λc W F=>gP.aW c F U (EB zyQ.pk.tD) (EB zyQ.pk.tJ) (EB zyQ.pk.tM) (EB zyQ.tk.ok.lm) (λe V e'=>by have:=(zyQ.tk.ok.fr e V).2.2;omega)
 have q0:=(vP _ (an _) U).trans g0
 have q1:=(vP _ U U).trans g1
 have oO:∀c,t1.own c->c<Y\/nq<=c:=λc A=>by
  exact ava
 have b1:=zyQ.pk.tD;have b2:=zyQ.pk.tJ;have b3:=zyQ.pk.tM;have qt:N F t.tb=some (.cells [.ptr t1.a.pb 0,.ptr t1.a.ab 0,int t1.aO.X,u64 t1.aO.bo,.g (.int .i64 t1.size),.g (.int .i64 t1.dU),bW false] 273):=gP.tb▸B1.tk.tr
 refine RC ED.eq_1 q1 qt d1 @Hd.av.eq_1 @Hd.cells.eq_1 ?_;generalize hG:aI F (Y+1+13) _=hs;have G1:∀c,c≠Y+1+13->N hs c=N F c:=λc A=>by rw[<-hG,Xg A]
 have k1:=TZ hG
 have k0:=(G1 _ (d4 _)).trans q0
 have B2:MW t1 p1 hs dR:=⟨B1.tk.aW (λc A=>G1 c (EB (oO c A))) (an _),B1.pk.jw (G1 _ (Es gP.pb)) (G1 _ (Es gP.gb)) (G1 _ (Es gP.fb)) (an _),B1.sp,B1.sd⟩;have vD:fT Y t t1 p p1 h hs:=by
  refine⟨gP.tb,gP.ab,gP.mb,gP.pb,gP.gb,gP.fb,gP.fl,gP.fr,λe V=>?_,gP.old,gP.slt,λb D w1 w2 w3 w4 w5 w6=>?_⟩
  .obtain q|q:=gP.bT e V;.exact .inl q
   .exact .inr U
  .rw[G1 b U,gP.aW b U w1 w2 w3 w4 w5 w6,S0 b D]
 have kU:x.X≠z.X:=λe'=>by rw[e',G]at r1;cases r1
 have yf:ct t1.a.es z.X=J (z.bo,n):=by rw[r3,cT kU.symm];exact G
 have SM:ct t1.a.es x.X=J (x.bo,⟨n.cw,ya,Ck⟩):=by rw[r3,dF]
 have⟨e',tN,a1,a2,a3,a4,a5,a6⟩:=jb B2.tk.ok yf;have NB:e'.bT=e.bT:=gP.sf B1 V tN (a1.trans e1.symm);have⟨ex,hex,x1,x2,x3,x4,x5,x6⟩:=jb B2.tk.ok SM;have exo:=oO ex.bT (Fe ⟨ex,hex,Z⟩);refine bc (x6 _ _ .refl U) ?_;rw[NB]at a4 a5;simp+decide-dsimp only[go_sem,a4,f1];generalize hq:dR+Array.size _=np;have hnp:dR<=np:=U;have p0:¬(Y=np):=U;have p1':¬(Y+1+13=np):=U;have p2:¬(e.bT=np):=U;have p3:¬(ex.bT=np):=U;have dxe:¬(ex.bT=e.bT):=λq=>kU (by have:=kK B2.tk.ok.Ll hex tN (q.trans NB.symm);rw[<-x1,<-a1,this]);have dex:¬(e.bT=ex.bT):=λq=>dxe q.symm;have m0:¬(Y=e.bT):=U;have m1:¬(Y=ex.bT):=U;have m2:¬(Y+1+13=e.bT):=U;have m3:¬(Y+1+13=ex.bT):=U;have m4:¬(np=e.bT):=U;have m5:¬(np=ex.bT):=U;have jS:∀(nl nr:Mn),O nl.ay.sl=15->O nr.ay.sl=15->∃t':Mt,MW t' p1 (aI (aI hs e.bT (.cells (u64 z.bo::nl.cells) 334)) ex.bT (.cells (u64 x.bo::nr.cells) 334)) dR/\fT Y t t' p p1 h (aI (aI hs e.bT (.cells (u64 z.bo::nl.cells) 334)) ex.bT (.cells (u64 x.bo::nr.cells) 334))/\
  ct t'.a.es=up (up (ct t.a.es) z.X (z.bo,nl)) x.X (x.bo,nr)/\t'.aO=t.aO/\(t'.size=t.size/\t'.dU=t.dU)/\∀c,t'.own c->(c<Y\/nq<=c)/\c<dR:=by
  intro nl nr hnl hnr;have⟨t3,B3,qC,y3,y4,y5,y6⟩:=B2.mg tN a1 a2 nl hnl;rw[NB]at B3 qC;have hx3:ct t3.a.es x.X=J (x.bo,⟨n.cw,ya,Ck⟩):=by rw[y3,cT kU];exact SM
  have⟨ez,hez,z1,z2,_⟩:=jb B3.tk.ok hx3;have ebz:ez.bT=ex.bT:=qC.sf B3 hex hez (z1.trans x1.symm);have⟨t4,B4,IP,u3,u4,u5,u6⟩:=B3.mg hez z1 z2 nr hnr;rw[ebz]at B4 IP;refine⟨t4,B4,(vD.trans qC U).trans IP U,?_,u4.trans (y4.trans r4),⟨u5.trans (y5.trans r5.1),u6.trans (y6.trans r5.2)⟩,λc A=>?_⟩
  rotate_left
  .have K:=B4.tk.dL A;obtain q|q:=IP.p.bl c A
   .obtain q|q:=qC.p.bl c q;.exact⟨oO c q,K⟩
    .omega
   .omega
  rw[u3,y3,r3]
  funext s;unfold up
  by_cases W:s=x.X;.rw[au W,au W]
  .rw[ak W,ak W];by_cases F:s=z.X;.rw[au F,ak W]
   .rw[ak F,ak W]
 cases vy:n.cw with
 |true=>
  rw[vy]at f1 x4;have⟨zxQ,h7⟩:=FR.l vy;have f2:=F0.ay;simp+decide-dsimp only[go_sem,ED,k1,a4,f2,p1',p2,reduceAdd];have c:=anS n.ay zxQ U x;rw[Hd.av,Hd.cells]at c;refine cm (c _ _) λ_ h3 nx3 l3 ⟨⟨hc,C,v1,S⟩,v2,v3⟩=>?_;subst v1;replace v2:=v2.symm;replace v3:=v3.symm;subst v2;subst v3;have Iy:=jR (g:=u64 z.bo) (n:=n) (l:=hc) sE S.lr.sl;have ZC:=jR (g:=u64 x.bo) (n:=⟨M,ya,Ck⟩) (l:=C) Z S.rr.sl;have F6:=eR S.lr.sl;have fl2:=eR S.rr.sl;simp+decide-dsimp only[go_sem,ED,k1,a4,x4,Iy,ZC,F6,fl2,ja,p1',p2,p3,dxe,m2,m3,m4,m5,reduceAdd];have h3:n.ay.n / 2=3:=by rw[h7]
  refine ba (QY _ (zxQ.r _ U).m.len) ?_;refine Ik k0 k1 p0 p1' m0 m1 m2 m3 ?_;obtain⟨t',T1,T2,T3,T4,T6,T5⟩:=jS {n with ay:=hc} ⟨true,C,Ck⟩ S.lr.sl S.rr.sl;refine⟨t',p1,x,_,_,qy (n.ay.e 3).m,by rw[h3],r1,.inl ⟨vy,hc,C,S,rfl,rfl,rfl⟩,T1.heap (λb D=>?_) U,T2.heap (λb D=>?_),T3,T4,r6,T6⟩
  .have iQ:b≠Y/\b≠np:=by
    obtain D|D|D|D:=D;.have:=T5 b D;omega
    .rw[gP.pb]at D;omega
    .rw[gP.gb]at D;omega
    .rw[gP.fb]at D;omega
   simp only[aj,ak iQ.1,ak iQ.2]
  .have W:b≠Y:=U;have F:b≠np:=U;simp only[aj,ak W,ak F]
 |false=>
  rw[vy]at f1 x4;obtain⟨zxQ,lf,h5⟩:=FR.i vy;have f3:=F0.aL;have c:=agv n.aL zxQ h5 x;rw[Nd.av,Nd.av,Nd.av,Hd.av,Hd.cells]at c;have Iy:=uA (g:=u64 z.bo) (n:=n) (d:=n.aL.left x) sE;have ZC:=uA (g:=u64 x.bo) (n:=⟨false,ya,Ck⟩) (d:=n.aL.right) rfl;simp+decide-dsimp only[go_sem,ED,k1,a4,f3,reduceAdd];refine ba c ?_;simp+decide-dsimp only[go_sem,ED,k0,k1,a4,x4,Iy,ZC,Gq,dxe,m0,m1,m2,m3,reduceAdd];obtain⟨t',T1,T2,T3,T4,T6,T5⟩:=jS {n with aL:=n.aL.left x} ⟨false,ya,n.aL.right⟩ sE rfl;refine⟨t',p1,x,_,_,n.aL.sep,rfl,r1,.inr ⟨vy,rfl,rfl,rfl⟩,T1.heap (λb D=>?_) U,T2.heap (λb D=>?_),T3,T4,r6,T6⟩
  .have iQ:b≠Y:=by
    obtain D|D|D|D:=D;.have:=T5 b D;omega
    .rw[gP.pb]at D;omega
    .rw[gP.gb]at D;omega
    .rw[gP.fb]at D;omega
   simp only[aj,ak iQ]
  .have W:b≠Y:=U;simp only[aj,ak W]
variable{aO:Hd}{α:Type}{σ:jJ}
def Lh:=RB [(2,[MO z4 5,MO [6,7,8] 9,MO [] 10,RX]),(4,[MO [0,1,2,3,4,5,7,8,9,10,11,12,13] 6,([],[4],J 14),([15],[4],J 16),MO [17,18,19,20,21,22] 23,RX]),(6,[MO z6 7,([],[4],J 8),MO [9,10,11,12,13,14] 15,RX]),(7,[MO z6 7,([],[4],J 8),MO [9,10,11,12,13,14] 15,RX])]
def Gr(σ σ':jJ)(pre me lo ke:Nat->aY)(par par':Nat->Nat):Prop:=∀s g n,σ s=J (g,n)->σ' s=J (g,n)/\me s=pre s/\ke s=lo s/\par' s=par s
def Rk{a b}(h:0<alike a b):8<O a/\8<O b/\a.take 8=b.take 8:=cJ λq=>by rw[uy q]at h;exact dz _ h
def QE{a b:aY}(h:alike a b=0)(cD:a≠b):cut a≠cut b:=λe=>by
 have l1:=ff List.length e;rw[mq,mq]at l1;have t1:a.take 8=b.take 8:=by rw[<-rT a,<-rT b,e]
 by_cases ha:8<O a;.have D:8<O b:=U;rw[yh ⟨ha,D,t1⟩]at h;omega
 .have D:¬8<O b:=U;rw[aH U,aH U]at t1;exact cD t1
def D'{pre}{P a:aY}(v)(hp:pre s=P)(hk:Pk (P++a))(K:O (P++a)<=24)(h0:P≠[]->a≠[]):zd Pk σ pre lo par s (dX a 0 v):=by
 have e:nameOf (dX a 0 v).m++(dX a 0 v).rest=a:=by have:=DX a v 0;rw[aA]at this;exact this
 refine⟨λ_=>?_,(λh=>by cases h)⟩;rw[hp,aA,e];refine⟨hk,K,λcD hm=>?_⟩;have W:O (cut a)=0:=by have:(dX a 0 v).m=cut a:=rfl;rw[<-this,hm];rfl
 rw[mq]at W;have:=List.length_pos_iff.2 (h0 cD);omega
def aek{σ:Nat->Option (Nat×α)}{a b:Nat×α}:up (up σ s a) s b=up σ s b:=by
 funext t;unfold up
 by_cases h:t=s;.rw[au h,au h]
 .rw[ak h,ak h,ak h]
set_option maxHeartbeats 2000000 in
def aqY:∀(hb:Nat) (a v b w:aY),a.length<hb->a≠b->∀(P:aY) (i:Nat),P.length=8*i->i<=2->Pk (P++a)->Pk (P++b)->(P++a).length<=24->(P++b).length<=24->(P≠[]->a≠[]/\b≠[])->∀(hc:Nat) (t:Mt) (p:bp) (h:aE) (Y:Nat),MW t p h Y->
 ∀(pre lo:Nat->aY) (eo par rk:Nat->Nat) (iL:Nat->Prop) (xs:aY->Prop),MI Pk (ct t.a.es) aO pre lo eo par rk iL xs->(∀s g n,ct t.a.es s=some (g,n)->¬P<+:pre s)->(∃l:Nat,t.dU=(l:Int)/\l+alike a b<1000000)->alike a b+1<=p.fr.count true->
 az prog 322 [.ptr t.tb 0,cg a,cg v,cg b,cg w] h Y λr Q E=>∃(t':Mt) (p':bp) (x:Hd) (me ke:Nat->aY) (oj par':Nat->Nat),r=x.av/\MW t' p' Q E/\fT Y t t' p p' h Q/\t'.aO=t.aO/\t'.size=t.size/\MI Pk (ct t'.a.es) aO me ke oj par' rk iL (λh'=>xs h'\/h'=P)/\
  (∃n,ct t'.a.es x.X=some (x.bo,n)/\n.kM=false)/\me x.X=P/\ke x.X=[]/\par' x.X=hc/\Gr (ct t.a.es) (ct t'.a.es) pre me lo ke par par'/\
  (∀s g n,ct t'.a.es s=some (g,n)->ct t.a.es s=some (g,n)\/P<+:me s)/\(∀s g n,ct t'.a.es s=some (g,n)->me s=P->s=x.X)/\Grown (ct t.a.es) (ct t'.a.es) (alike a b)/\p'.fr.count true+(alike a b+1)=p.fr.count true/\t'.dU=t.dU+((alike a b+1:Nat):Int):=by
 intro hb
 induction hb with
 |zero=>intro a v b w h;exact absurd h (cp _)
 |succ hb ih=>
 intro a v b w hD yl P i hPi Gm pka pkb la lb cD hc t p h Y zyQ pre lo eo par rk iL xs I hP0 hly A;have dc:=zyQ.tk.lt;rw[aq]at la lb;have ha6:O a<60000:=U;have hb6:O b<60000:=U;have d0:¬(t.tb=Y):=U;refine az.ac 5 Lh func322 ?_;refine Xf f322.eq_1 ?_;have S0:aG Y h (aI h Y (.cells [int 0,u64 0] 245)):=aG.refl.set (an _);refine cm (amb t p _ (Y+1) (zyQ.aW S0 U) U) λ_ W cC l1 ⟨t1,p1,x,r1,r2,B1,gP,r3,r4,r5,r6,r7⟩=>?_;subst r2;have b1:=zyQ.pk.tD;have b2:=zyQ.pk.tJ;have b3:=zyQ.pk.tM;have Fs:N W Y=J (.cells [int 0,u64 0] 245):=by rw[gP.aW Y U U U U U (EB zyQ.tk.ok.lm) (λe V e'=>by have:=(zyQ.tk.ok.fr e V).2.2;omega),Sr]
 have Mx:∀c,t1.own c->c<Y\/Y+1<=c:=λc A=>by
  obtain q|q:=gP.p.bl c A;.have:=zyQ.tk.dL q;omega
  .omega
 have qt:N W t.tb=some (.cells [.ptr t1.a.pb 0,.ptr t1.a.ab 0,int t1.aO.X,u64 t1.aO.bo,.g (.int .i64 t1.size),.g (.int .i64 t1.dU),bW false] 273):=gP.tb▸B1.tk.tr
 have d1:¬(t.tb=cC):=U;have d2:¬(Y=cC):=U;refine PV Lh.eq_1 qt (U:¬(t.tb=cC)) @Hd.av.eq_1 @Hd.cells.eq_1 ?_;generalize hq:cC+1+Array.size _=nq;have qf:cC+1<=nq:=U;generalize hG:aI (aI W cC _) cC _=hs;have G1:∀c,c≠cC->N hs c=N W c:=λc A=>by rw[<-hG,Xg A,Xg A]
 have k1:=TZ hG
 have k0:=(G1 _ U).trans Fs
 have B2:MW t1 p1 hs nq:=B1.heap (λc A=>G1 c (by
  obtain A|A|A|A:=A;.have:=B1.tk.dL A;omega
  .rw[gP.pb]at A;omega
  .rw[gP.gb]at A;omega
  .rw[gP.fb]at A;omega)) U
 have vD:fT Y t t1 p p1 h hs:=((fT.same S0).trans (gP.wide (bG Y)) (an _)).heap λc A=>G1 c U;have SM:ct t1.a.es x.X=J (x.bo,jH):=by rw[r3,dF]
 have I1:=I.fresh r1 P ⟨i,hPi,Gm⟩ (λt g m ht e=>hP0 _ _ _ ht (by rw[e];exact⟨[],bR⟩)) hc;have⟨l0,Aa,hl1'⟩:=hly;have r8:t1.dU=((l0+1:Nat):Int):=by rw[r7,Aa,wrap_i64 U U];rfl
 rw[<-r3]at I1;have gr1:Gr (ct t.a.es) (ct t1.a.es) pre (λs=>if s=x.X then P else pre s) lo (λs=>if s=x.X then[]else lo s) par (λs=>if s=x.X then hc else par s):=λs g n G=>by
  have Cn:s≠x.X:=λe=>by rw[e,r1]at G;cases G
  exact⟨by rw[r3,cT Cn];exact G,ak Cn,ak Cn,ak Cn⟩
 have⟨ex,hex,x1,x2,x3,x4,x5,x6⟩:=jb B2.tk.ok SM;have exo:=Mx ex.bT (Fe ⟨ex,hex,Z⟩);have exl:ex.bT<cC:=(B1.tk.ok.fr ex hex).2.2;refine bc (x6 _ _ .refl U) ?_;have F0:sN jH.cells 0 jH:=sN.mk' (pre:=[]) Z;have f2:(dV 1 jH.cells).bind (dC 111)=J jq.cells:=F0.ay;refine QZ ?_;refine ba (ah9 a b ha6 hb6) ?_;by_cases hz:0<alike a b
 case pos=>
  have⟨z1,z2,z3⟩:=Rk hz;have hzi:(0:Int)<(alike a b:Int):=U;have sa:fW prog 9 (cg a) (J (int 8)) B=J (cg (a.drop 8)):=te (i:=8) U;have sb:fW prog 9 (cg b) (J (int 8)) B=J (cg (b.drop 8)):=te (i:=8) U;have Sg:=U1 a 0 ha6 U;rw[N0,nc]at Sg;simp+decide-dsimp only[go_sem,Lh,x4,f2,hzi,sa,sb,reduceAdd];generalize hq:nq+Array.size _=n3;have hn3:nq<=n3:=U;refine ba Sg ?_;simp+decide-dsimp only[go_sem,x4,f2];have hP8:O (P++a.take 8)=8*(i+1):=by rw[aq,ax,hPi];omega
  have ea:P++a.take 8++a.drop 8=P++a:=by rw[aA,bA]
  have eb:P++a.take 8++b.drop 8=P++b:=by rw[z3,aA,bA]
  have B3:MW t1 p1 hs n3:=B2.heap (λ_ _=>rfl) hn3;have hal:=yh ⟨z1,z2,z3⟩;have c:=ih (a.drop 8) v (b.drop 8) w (Es @aC) (λe=>yl (by rw[<-bA 8 a,<-bA 8 b,z3,e])) (P++a.take 8) (i+1) hP8 U (ea▸pka) (eb▸pkb) (by rw[ea,aq];exact la) (by rw[eb,aq];exact lb)
   (λ_=>⟨λe=>by have:=ff List.length e;rw[aC]at this;simp at this;omega,λe=>by have:=ff List.length e;rw[aC]at this;simp at this;omega⟩) x.X t1 p1 hs n3 B3 _ _ _ _ rk iL _ I1 (λs g n G q=>by
   by_cases e:s=x.X;.rw[au e]at q;have:=q.length_le;rw[hP8,hPi]at this;omega
   .rw[ak e]at q;rw[r3,cT e]at G;exact hP0 _ _ _ G ((nZ P _).trans q)) ⟨l0+1,r8,U⟩ U
  rw[gP.tb]at c;refine cm c λ_ F dR l2 ⟨t2,p2,y,FG,Jh,HE,Fj,s1,B4,IP,s2,s3,I2,s4,s5,s6,s7,gr2,nw2,on2,gw2,ct2,ly2⟩=>?_;subst s1;have⟨Qh,q1,q2,q3⟩:=gr2 _ _ _ SM;have⟨e2,he2,y1,y2,y3,y4,y5,y6⟩:=jb B4.tk.ok Qh;have NB:e2.bT=ex.bT:=IP.sf B4 hex he2 (y1.trans x1.symm);rw[NB]at y4 y5;have vP:∀c,Y<=c->c<n3->¬t1.own c->N F c=N hs c:=λc LG LC hc3=>IP.aW c LC (λe=>hc3 (.inl e)) (Es gP.pb) (Es gP.gb) (Es gP.fb) (λe=>hc3 (FF (.inl e))) (λe V e'=>hc3 (Fe ⟨e,V,e'⟩));have m0:N F Y=J (.cells [int 0,u64 0] 245):=by rw[vP Y (an _) U (λA=>by have:=Mx _ A;omega)];exact k0
  have m1:N F cC=J (.cells x.cells 245):=by rw[vP cC U U (λA=>by have:=B1.tk.dL A;omega)];exact k1
  let sl:Sl:=⟨cut a,[],[],M,y⟩
  have Yk:sl.zxQ:=⟨GS a,λ_=>⟨by show O (cut a)=9;rw[mq];omega,Z,Z⟩,(λh=>by cases h)⟩;have pl:jq.Pl sl.m 0:=⟨an _,λj hj=>absurd hj (cp _),λhj=>absurd hj (cp _)⟩;have Di:=Nz jq n9 sl Yk Z 0 pl bS;rw[ak (λh=>absurd h.1 (cp _))]at Di;have lR:(jq.ins 0 sl).zxQ:=n9.ins pl bS Yk Z (λh=>absurd h.1 (cp _));have Iy:=jR (g:=u64 x.bo) (n:=jH) (l:=jq.ins 0 sl) Z lR.sl;have F6:=eR lR.sl;simp+decide-dsimp only[go_sem,y4,f2,Hd.av,Hd.cells,reduceAdd];refine ba Di ?_;have nex:¬(Y=ex.bT):=U;have agP:¬(cC=ex.bT):=U;have ao5:¬(cC=Y):=U;simp+decide-dsimp only[go_sem,m0,m1,y4,Iy,F6,ja,nex,agP,Hd.av,Hd.cells,reduceAdd];have⟨t3,B5,KK,u3,u4,u5,u6⟩:=B4.mg he2 y1 y2 {jH with ay:=jq.ins 0 sl} lR.sl;rw[NB]at B5 KK;have q1':FG x.X=P:=q1.trans (au Z);have q2':Jh x.X=[]:=q2.trans (au Z);have q3':Fj x.X=hc:=q3.trans (au Z);have Ly:zd Pk (ct t2.a.es) FG Jh Fj x.X sl:=⟨(λh=>by cases h),λ_=>⟨s4,by rw[s5,q1'];show _=P++nameOf (cut a);rw[JJ],s6,s7⟩⟩;have I3:MI Pk (ct t3.a.es) aO FG Jh HE Fj rk iL (λh'=>xs h'\/h'=P):=by rw[u3];exact I2.ins (big':=iL) Qh Z pl Yk Z (λh=>absurd h.1 (cp _)) (λ_ h _=>h) (.inl bS) (q2'▸kF) Ly (λs g m G h=>h.elim .inl λq=> .inr (by obtain rfl:=on2 s g m G q;exact⟨Z,Z,an _⟩))
  have gr3:Gr (ct t.a.es) (ct t3.a.es) pre FG lo Jh par Fj:=λs g n G=>by
   have Cn:s≠x.X:=λe=>by rw[e,r1]at G;cases G
   have⟨a1,a2,a3,a4⟩:=gr1 s g n G;have⟨b1,b2,b3,b4⟩:=gr2 s g n a1;exact⟨by rw[u3,cT Cn];exact b1,b2.trans a2,b3.trans a3,b4.trans a4⟩
  have wB:∀c,t3.own c->c≠Y:=λc A e=>by
   rcases KK.p.bl c A with q|q
   .rcases IP.p.bl c q with q|q;.have:=Mx c q;omega
    .omega
   .omega
  refine⟨t3,p2,x,FG,Jh,HE,Fj,Z,B5.heap (λc A=>?_) U,((vD.trans IP U).trans KK U).heap (λc A=>Ce),u4.trans (s2.trans r4),u5.trans (s3.trans r5),I3,⟨_,by rw[u3];exact dF,Z⟩,q1',q2',q3',gr3,λs g n G=>?_,λs g n G q=>cJ λe=>?_,λaw zzQ hl a1 a2 a3=>?_,U,by rw[u6,ly2,r8,Aa];omega⟩
  rotate_left 1
  .by_cases e:s=x.X;.rw[e,q1'];exact .inr ⟨[],bR⟩
   .rw[u3,cT e]at G;rcases nw2 s g n G with q|q
    .rw[r3,cT e]at q;exact .inl q
    .exact .inr ((nZ P _).trans q)
  .rw[u3,cT e]at G;rcases nw2 s g n G with w|w
   .have g2:=(gr2 _ _ _ w).2.1;rw[r3,cT e]at w;rw[g2]at q;change(if s=x.X then P else pre s)=P at q;rw[ak e]at q;exact hP0 _ _ _ w (by rw[q];exact⟨[],bR⟩)
   .have:=w.length_le;rw[q,hP8,hPi]at this;omega
  .have⟨g1,g2,g3⟩:=gw2 (aw+1) zzQ hl (r3▸(a1.up (by rw[jc r1]))) (r3▸(a2.up (by rw[jc r1];rfl))) (r3▸(a3.up (by rw[jc r1];rfl)));have sk:∀q,kO q {jH with ay:=jq.ins 0 sl}=kO q jH+one? (M==q):=λq=>zg Z n9 (aQ _) bS;rw[u3,hal];exact⟨g1.up (by rw[fP Qh];show aw+(_+1)+1+1=aw+1+_+1+1;omega),g2.up (by rw[fP Qh];show _=_+kO R _;rw[sk];rfl),g3.up (by rw[fP Qh];show _=_+kO M _;rw[sk];show _=_+(_+1);omega)⟩
  rw[aj,ak];rcases A with A|A|A|A
  .exact wB c A
  .rw[IP.pb,gP.pb]at A;omega
  .rw[IP.gb,gP.gb]at A;omega
  .rw[IP.fb,gP.fb]at A;omega
 have hz0:alike a b=0:=U;have hzi:¬((0:Int)<(alike a b:Int)):=U;have s1R:=EH a v 0;have s2R:=EH b w 0;have m1:(dX a 0 v).m=cut a:=rfl;have m2:(dX b 0 w).m=cut b:=rfl;have Iy:jq.Pl (dX a 0 v).m 0:=⟨an _,λj hj=>absurd hj (cp _),λhj=>absurd hj (cp _)⟩;have c1:=Nz jq n9 _ s1R Z 0 Iy bS;rw[ak (λh=>absurd h.1 (cp _))]at c1;have R1:(jq.ins 0 (dX a 0 v)).zxQ:=n9.ins Iy bS s1R Z (λh=>absurd h.1 (cp _));have e1:((jq.ins 0 (dX a 0 v)).e 0).m=cut a:=by rw[uj n9 (i:=0) (aQ _) bS _ (j:=0) bS,ak (dz 0),au Z];rfl
 generalize hl1:jq.ins 0 (dX a 0 v)=f1 at c1 R1 e1;have n1:f1.n=1:=by rw[<-hl1];rfl
 have f1b:f1.bd=R:=by rw[<-hl1];rfl
 have⟨j,ZC⟩:=R1.pl (dX b 0 w).m;have Vp:¬(j<f1.n/\(f1.e j).m=(dX b 0 w).m):=λh=>by have hj:j=0:=U;rw[hj,e1,m2]at h;exact QE hz0 yl h.2
 have xP:∀m,f1.eF m=M:=λm=>by unfold Lf.eF;rw[f1b];rfl
 have c2:=Nz f1 R1 _ s2R (xP _) j ZC U;rw[ak Vp]at c2;have R2:=R1.ins ZC U s2R (xP _) Vp;have p1l:=jR (g:=u64 x.bo) (n:=jH) (l:=f1) Z R1.sl;have p2l:=jR (g:=u64 x.bo) (n:={jH with ay:=f1}) (l:=f1.ins j (dX b 0 w)) R1.sl R2.sl;have F6:=eR R1.sl;have fl2:=eR R2.sl;have F1:sN ({jH with ay:=f1}:Mn).cells 0 {jH with ay:=f1}:=sN.mk' (pre:=[]) R1.sl;have f3:(dV 1 ({jH with ay:=f1}:Mn).cells).bind (dC 111)=J f1.cells:=F1.ay;have nex:¬(Y=ex.bT):=U;have agP:¬(cC=ex.bT):=U;have ao5:¬(cC=Y):=U;simp+decide-dsimp only[go_sem,Lh,x4,f2,hzi,reduceAdd];refine ba (afC a v 0 ha6 U) ?_;simp+decide-dsimp only[go_sem,x4,f2];refine ba c1 ?_;simp+decide-dsimp only[go_sem,Lh,x4,f3,p1l,F6,ja,reduceAdd];refine ba (afC b w 0 hb6 U) ?_;simp+decide-dsimp only[go_sem,x4,f3];refine ba c2 ?_;simp+decide-dsimp only[go_sem,k0,k1,x4,p2l,fl2,ja,nex,agP,reduceAdd];have⟨t3,B5,KK,u3,u4,u5,u6⟩:=B2.mg hex x1 x2 {jH with ay:=f1.ins j (dX b 0 w)} R2.sl;have I3:MI Pk (ct t3.a.es) aO (λs=>if s=x.X then P else pre s) (λs=>if s=x.X then[]else lo s) (λs=>if s=x.X then 0 else eo s) (λs=>if s=x.X then hc else par s) rk iL (λh'=>xs h'\/h'=P):=by have J1:=I1.ins (big':=iL) (ex':=λh'=>xs h'\/h'=P) (x:=dX a 0 v) SM Z Iy s1R Z (λh=>absurd h.1 (cp _)) (λ_ h _=>h) (.inl bS) ((au Z)▸kF) (D' v (au Z) pka (aq▸la) (λh=>(cD h).1)) (λ_ _ _ _ h=> .inl h);have J2:=J1.ins (big':=iL) (ex':=λh'=>xs h'\/h'=P) (x:=dX b 0 w) (n:={jH with ay:=jq.ins 0 (dX a 0 v)}) dF Z (hl1▸ZC) s2R (hl1▸(xP _)) (hl1▸Vp) (λ_ h _=>h) (.inl (show 1+1<=6 from bS)) ((au Z)▸kF) (D' w (au Z) pkb (aq▸lb) (λh=>(cD h).2)) (λ_ _ _ _ h=> .inl h);rw[aek]at J2;rw[u3,<-hl1];exact J2
 have gr3:Gr (ct t.a.es) (ct t3.a.es) pre (λs=>if s=x.X then P else pre s) lo (λs=>if s=x.X then[]else lo s) par (λs=>if s=x.X then hc else par s):=λs g n G=>by
  have Cn:s≠x.X:=λe=>by rw[e,r1]at G;cases G
  have⟨a1,a2⟩:=gr1 s g n G;exact⟨by rw[u3,cT Cn];exact a1,a2⟩
 have wB:∀c,t3.own c->c≠Y:=λc A e=>by
  rcases KK.p.bl c A with q|q;.have:=Mx c q;omega
  .omega
 refine⟨t3,p1,x,_,_,_,_,Z,B5.heap (λc A=>?_) U,(vD.trans KK U).heap (λc A=>?_),u4.trans r4,u5.trans r5,I3,⟨_,by rw[u3];exact dF,by unfold Mn.kM;exact(au Z).trans f1b⟩,au Z,au Z,au Z,gr3,λs g n G=>?_,λs g n G q=>cJ λe=>?_,λaw zzQ hl a1 a2 a3=>?_,U,by rw[u6,r8,Aa];omega⟩
 rotate_left 2
 .by_cases e:s=x.X;.rw[au e];exact .inr ⟨[],bR⟩
  .rw[u3,cT e,r3,cT e]at G;exact .inl G
 .rw[u3,cT e,r3,cT e]at G;rw[ak e]at q;exact hP0 _ _ _ G (by rw[q];exact⟨[],bR⟩)
 .have sk:∀q,kO q {jH with ay:=f1.ins j (dX b 0 w)}=kO q jH+one? (R==q)+one? (R==q):=λq=>by have e1:=zg (b:=q) (n:={jH with ay:=f1}) (x:=dX b 0 w) Z R1 ZC.le (by show f1.n<15;omega);have e2:=zg (b:=q) (n:=jH) (i:=0) (x:=dX a 0 v) Z n9 (aQ _) bS;rw[show jH.ay=jq from Z,hl1]at e2;rw[show(dX b 0 w).deep=R from Z]at e1;rw[show(dX a 0 v).deep=R from Z]at e2;rw[<-e2];exact e1
  rw[u3,r3,aek,hz0];exact⟨a1.up (by rw[jc r1]),a2.up (by rw[jc r1];rw[sk];rfl),a3.up (by rw[jc r1];rw[sk];rfl)⟩
 .have Ry:c≠Y:=by
   obtain A|A|A|A:=A;.exact wB c A
   .rw[gP.pb]at A;omega
   .rw[gP.gb]at A;omega
   .rw[gP.fb]at A;omega
  rw[Xg Ry,aj,aj,aj];split<;>rfl
 .have Ry:c≠Y:=U;rw[Xg Ry,aj,aj,aj];split<;>rfl
def ad':=RB [(4,[MO z11 12,MO [13,14,15] 16,MO [] 17,RX])]
def apN(t:Mt)(h Y)(o:t.ok h Y)(hx:List Hd)(hL:O hx<=60000)(hn:∀i,i<O hx->∃n,ct t.a.es (at_ hx i).X=J ((at_ hx i).bo,n)/\(n.cw=M->n.ay.zxQ)):
 UP 323 [.ptr t.tb 0,qF hx] h Y λv Q E=>(∃m,v=int (m:Nat)/\∀c,m<=c->Wp (ct t.a.es) hx c)/\Q=h/\E=Y:=by
 refine az.pc 2 ad' func323 (Xf f323.eq_1 ?_);refine cI _ _ (λm s Q E=>∃i,i<=O hx/\m=O hx-i/\
  X s 0= .ptr t.tb 0/\X s 1=qF hx/\X s 9=int (O hx)/\X s 10=int i/\Q=h/\Y<=E) (n:=O hx) ?_ ?_
 .refine QZ ?_;exact⟨0,aQ _,Z,bR⟩
 rintro m s Q E ⟨i,H,rfl,s0,s1,s9,xN,rfl,l1⟩;by_cases dc:i<O hx
 .have⟨n,G,hR⟩:=hn (O hx-1-i) U;have w6:i+1<9223372036854775808:=U;have⟨e,V,_,_,c3,c4,c5,c6⟩:=jb o.ok G;have sE:O n.ay.sl=15:=c3▸(o.sl e V)
  simp+decide-dsimp only[go_sem,ad',s0,s1,s9,xN,dc,o.tr,(U:1<=O hx),(U:O hx<9223372036854775808),(U:i<=O hx-1),(U:O hx-1<9223372036854775808),(U:O hx-1-i<O hx),Hd.cells,jX];refine Av (c6 _ _ .refl U) ?_;refine bc (ary c4 U (sN.mk' (pre:=[u64 (at_ hx (O hx-1-i)).bo]) sE) hR sE) ?_;cases hk:n.tight with
  |false=>refine QZ ?_;exact⟨aG.refl,_,.cP,i,Z,λc A=>⟨i,A,.inl ⟨dc,n,G,hk⟩⟩⟩
  |true=>refine PV s0 s1 s9 xN w6 ?_;exact⟨_,(U:O hx-(i+1)<_),i+1,dc,Z,Z,U⟩
 .have:i=O hx:=U;subst this;simp+decide-dsimp only[go_sem,s1,s9,xN,(U:O hx+1<9223372036854775808),dz];exact⟨aG.refl,_,.cP,O hx+1,Z,λc A=>⟨_,A,.inr Z⟩⟩
variable{B6 B9 c:Nat}{hi:aE}{h':u->aE->Nat->Prop}{f:FuncId}
def C':=RB [(5,[MO z4 5,MO [6,7,8] 9,MO [] 10,RX]),(9,[MO z9 10,MO [11,12,13] 14,MO [] 15,RX]),(10,[MO z6 7,MO [8,9] 10,RX]),(11,[([0,1,2,3,4,5,6,7,8,9,10,15],[3,5,6,7,8],J 11),([12,13,14],[15],J 16),MO [] 17,RX]),(14,[MO z5 6,MO [7,8,9] 10,MO [] 11,RX]),(15,[MO z8 9,MO [10,11,12,13,14,15] 16,RX])]
def aiY(h:i<9223372036854775808):cO .i64 (((i+1:Nat):Int)-1)=(i:Int):=qI
def ajD{l:List u}(h:O l=8):eG 112 (Du.map u.g) l=J (bW R::(ya.cells++l)):=by have e:O (Du.map u.g)=120:=rfl;rw[cG _ _ _ (by rw[e,h];omega),h,aX (Es e),cy];rfl
def afi:cO .i64 (((0:Nat):Int)-1)= -1:=by rw[wrap_i64 U U];rfl
def QJ{k}{y x:Hd}(h6:N hi B6=J (.cells [cg k] 9))(h9:N hi B9=J (.cells [int y.X,u64 y.bo,int x.X,u64 x.bo] 245))(cD:B9≠B6)
 (A:UP f [a,(u0 k y x).av] (aI (aI hi B6 .dead) B9 .dead) Y h'):UP f [a,.agg (bW R::(ya.cells++[bW R,.sl B6 0 1 1,FB,.sl B9 0 2 2,cg [],bW R,int 0,u64 0]))] hi Y h':=by
 refine az.fz1 (b:=B6) h6 Z (args':=[a,.agg (bW R::(ya.cells++[bW R,.fz 1 [cg k],FB,.sl B9 0 2 2,cg [],bW R,int 0,u64 0]))]) (Eq.refl (2:Nat)) ?_ ?_
 .intro r vA vs hle Yl h;obtain _|⟨W,_|⟨F,⟨⟩⟩⟩:=h
  refine .cons (W.mono hle) (.cons ?_ .nil);cases F with|agg h=>
  cases h with|cons a0 h=>
  obtain⟨v1,v2,rfl,q1,q2⟩:=fv.parts h;clear h;cases q2 with|cons a1 h=>cases h with|cons a2 h=>cases h with|cons a3 h=>cases h with|cons a4 h=>cases h with|cons a5 h=>cases h with|cons a6 h=>cases h with|cons a7 h=>cases h with|cons a8 h=>cases h with|nil=>
  exact VR.agg (c:=_::(v1++[_,_,_,_,_,_,_,_])) (.cons (a0.mono hle) (fv.join (q1.mono hle) (.cons (a1.mono hle) (.cons (Yl 0 1 1 1 _ (an _) a2) (.cons (a3.mono hle) (.cons (a4.mono hle) (.cons (a5.mono hle) (.cons (a6.mono hle) (.cons (a7.mono hle) (.cons (a8.mono hle) .nil))))))))))
 refine az.fz1 (b:=B9) (cs:=[int y.X,u64 y.bo,int x.X,u64 x.bo]) (by rw[Xg cD];exact h9) Z (args':=[a,(u0 k y x).av]) (Eq.refl (2:Nat)) ?_ A;intro r vA vs hle Yl h;obtain _|⟨W,_|⟨F,⟨⟩⟩⟩:=h
 refine .cons (W.mono hle) (.cons ?_ .nil);cases F with|agg h=>
 cases h with|cons a0 h=>
 obtain⟨v1,v2,rfl,q1,q2⟩:=fv.parts h;clear h;cases q2 with|cons a1 h=>cases h with|cons a2 h=>cases h with|cons a3 h=>cases h with|cons a4 h=>cases h with|cons a5 h=>cases h with|cons a6 h=>cases h with|cons a7 h=>cases h with|cons a8 h=>cases h with|nil=>
 exact VR.agg (c:=_::(v1++[_,_,_,_,_,_,_,_])) (.cons (a0.mono hle) (fv.join (q1.mono hle) (.cons (a1.mono hle) (.cons (a2.mono hle) (.cons (rY (a3.mono hle)) (.cons (Yl 0 2 2 4 _ (an _) a4) (.cons (a5.mono hle) (.cons (a6.mono hle) (.cons (a7.mono hle) (.cons (a8.mono hle) .nil))))))))))
set_option maxHeartbeats 4000000 in
def arD(t p h Y)(zyQ:MW t p h Y){hx:List Hd}{up mk}(hL:O hx<=4096)(Gm:i<=2)(v7:vo Pk σ (ct t.a.es) t.aO hx (No i up mk) d c (p.fr.count M) (O hx))(hN:Wp σ hx c)(hmk:0<i->tv mk/\O mk=9){hd hb}(hA:xV (ct t.a.es) hd t.dU p C hb):
 UP 324 [.ptr t.tb 0,.agg (IL i (qF hx) up mk)] h Y λ_ Q E=>∃t' p',MW t' p' Q E/\fT Y t t' p p' h Q/\(∃d',MTr Pk (ct t'.a.es) t'.aO d')/\xV (ct t'.a.es) hd t'.dU p' C hb/\t'.size=t.size:=by
 have dc:=zyQ.tk.lt;have b1:=zyQ.pk.tD;have b2:=zyQ.pk.tJ;have b3:=zyQ.pk.tM;have w1:1<=O hx:=v7.pos;refine az.ac 2 C' func324 ?_;refine J7 f324.eq_1 w1 (U:O hx<9223372036854775808) ?_;generalize hA:aI h Y _=hc;have S0:aG Y h hc:=hA▸gU
 have kA:N hc Y=J (.cells (IL i (qF hx) up mk) 449):=by rw[<-hA,Sr]
 clear hA;have BA:MW t p hc (Y+1):=zyQ.aW S0 U;refine cI _ _ (λmm s Q E=>∃t1 p1,X s 0= .ptr t.tb 0/\X s 3= .ptr Y 0/\MW t1 p1 Q E/\fT (Y+1) t t1 p p1 hc Q/\(xV (ct t1.a.es) hd t1.dU p1 C hb/\t1.size=t.size)/\Y+1<=E/\
  ((mm=0/\X s 4= .g (.int .i64 (-1))/\∃d',MTr Pk (ct t1.a.es) t1.aO d')\/(∃q,mm=q+1/\X s 4=int q/\vo Pk σ (ct t1.a.es) t1.aO hx (No i up mk) d c (p1.fr.count M) (q+1)))) (n:=O hx) ?_ ?_
 .simp+decide-dsimp only[go_sem];exact⟨t,p,BA,fT.same aG.refl,⟨hA,Z⟩,.inr ⟨O hx-1,U,Z,by rw[rz w1];exact v7⟩⟩
 rintro mm s Q E ⟨t1,p1,s0,s3,B1,gP,⟨A1,Z1⟩,l1,⟨rfl,s4,J1⟩|⟨q,rfl,s4,J1⟩⟩;.refine Xf s4 ?_;exact⟨t1,p1,B1.aW aG.refl U,(fT.same S0).trans (gP.wide (bG Y)) (an _),J1,A1,Z1⟩
 have kx:N Q Y=J (.cells (IL i (qF hx) up mk) 449):=by rw[gP.aW Y U U U U U (EB zyQ.tk.ok.lm) (λe V e'=>by have:=(zyQ.tk.ok.fr e V).2.2;omega)];exact kA
 have kt:N Q t.tb=some (.cells [.ptr t1.a.pb 0,.ptr t1.a.ab 0,int t1.aO.X,u64 t1.aO.bo,.g (.int .i64 t1.size),.g (.int .i64 t1.dU),bW false] 273):=gP.tb▸B1.tk.tr
 have Mx:∀c,t1.own c->c<Y\/Y+1<=c:=λc A=>by
  exact ava
 have hql:q<O hx:=J1.le;have DF:(0:Int)<=(q:Int):=ji q;have⟨m,hm,hmc⟩:=J1.cur;replace hm:ct t1.a.es (at_ hx q).X=J ((at_ hx q).bo,m):=hm;have⟨e,V,g1,g2,g3,g4,g5,g6⟩:=jb B1.tk.ok hm;have n0:¬(Y=E):=U;have n1:¬(t.tb=E):=U;refine asC C'.eq_1 s0 s3 s4 kx kt DF hql n1 @Hd.cells.eq_1 @jX ?_;generalize hq:E+1+Array.size _=nq;have qf:E+1<=nq:=U;generalize hG:aI (aI Q E _) E _=hs;have G1:∀c,c≠E->N hs c=N Q c:=λc A=>by rw[<-hG,Xg A,Xg A]
 have k1:=TZ hG
 have kx2:=(G1 _ n0).trans kx
 have kt2:=(G1 _ n1).trans kt
 have c4:=(G1 _ U).trans g4
 have Fs:∀c,t1.own c\/c=p1.pb\/c=p1.gb\/c=p1.fb->c<E:=λc A=>by
  obtain A|A|A|A:=A;.exact B1.tk.dL A
  .rw[gP.pb]at A;omega
  .rw[gP.gb]at A;omega
  .rw[gP.fb]at A;omega
 have B2:MW t1 p1 hs nq:=B1.heap (λc A=>G1 c (EB (Fs c A))) U;have vD:fT (Y+1) t t1 p p1 hc hs:=gP.heap λc A=>G1 c U;refine bc (g6 _ _ (λc A=>G1 c U) U) ?_;have⟨pre,lo,eo,par,rk,I1,hI1⟩:=J1.bi;have sE:O m.ay.sl=15:=g3▸(B1.tk.sl e V)
 have h2:sN (u64 (at_ hx q).bo::m.cells) 1 m:=sN.mk' (pre:=[u64 (at_ hx q).bo]) sE;refine QZ ?_;refine bc (aqC c4 U h2 (λK=>(I1.lf _ _ _ hm K).1) sE) ?_;cases hf:m.full with
 |false=>refine QZ ?_;exact⟨t1,p1,B2.aW aG.refl U,(fT.same S0).trans (vD.wide (bG Y)) (an _),⟨_,J1.exit hm hf⟩,A1,Z1⟩
 |true=>
  have qL:=J1.room hN hm hf;have FR:=I1.NR hm hf;refine Xf s0 ?_;have ah7:=aqm t1 p1 hs nq B2 hm FR qL.1 V g1 g2 g3;rw[gP.tb]at ah7;refine cm ah7 λ_ h3 nx3 l3 ⟨t2,p2,x,nl,nr,sep,v1,L,hh,B3,qC,r3,r4,r5,r6,r7⟩=>?_;subst v1;have A2:xV (ct t2.a.es) hd t2.dU p2 C hb:=r7▸(A1.half hm L hh r3 r5)
  have Z2:=r6.trans Z1;have vP:∀c,¬t1.own c->c<nq->c≠p1.pb->c≠p1.gb->c≠p1.fb->N h3 c=N hs c:=λc LG LC g1 g2 g3=>qC.aW c LC (λe=>LG (.inl e)) g1 g2 g3 (λe=>LG (FF (.inl e))) (λe V e'=>LG (Fe ⟨e,V,e'⟩));have q0:N h3 Y=J (.cells (IL i (qF hx) up mk) 449):=by rw[vP Y (λA=>by have:=Mx _ A;omega) U (Es gP.pb) (Es gP.gb) (Es gP.fb)];exact kx2
  have q1:N h3 E=J (.cells [int (at_ hx q).X,u64 (at_ hx q).bo] 245):=by rw[vP E (λA=>by have:=Fs _ (.inl A);omega) U (λe=>by have:=Fs E (.inr (.inl e));omega) (λe=>by have:=Fs E (FF (.inl e));omega) (λe=>by have:=Fs E (Fe e);omega)];exact k1
  have qt:N h3 t.tb=J (.cells [.ptr t2.a.pb 0,.ptr t2.a.ab 0,int t2.aO.X,u64 t2.aO.bo,.g (.int .i64 t2.size),.g (.int .i64 t2.dU),bW R] 273):=by have:=B3.tk.tr;rw[qC.tb,gP.tb]at this;exact this
  have m0:¬(Y=nx3):=U;have m1:¬(E=nx3):=U;have m2:¬(t.tb=nx3):=U;have wB:∀c,t2.own c\/c=p2.pb\/c=p2.gb\/c=p2.fb->(c<Y\/Y+1<=c)/\c≠E/\c<nx3:=λc A=>by
   obtain A|A|A|A:=A
   .refine⟨?_,?_,B3.tk.dL A⟩
    .obtain q|q:=qC.p.bl c A;.exact Mx c q
     .omega
    .obtain q|q:=qC.p.bl c A;.have:=Fs c (.inl q);omega
     .omega
   .rw[qC.pb,gP.pb]at A;omega
   .rw[qC.gb,gP.gb]at A;omega
   .rw[qC.fb,gP.fb]at A;omega
  have IP:fT (Y+1) t t2 p p2 hc h3:=vD.trans qC U;have Qh:ct t2.a.es x.X=J (x.bo,nr):=by rw[r3,dF]
  cases q with
  |succ q=>
   have⟨AV,hu0,hu,hul,_⟩:=J1.old q U;have⟨z1,z2,z3,z4,z5,z6⟩:=J1.split U hm hf hu;have⟨z7,z8,J2⟩:=z6 x nl nr sep (p2.fr.count M) L U hh;replace z1:(at_ hx q).X≠(at_ hx (q+1)).X:=z1;replace hu:ct t1.a.es (at_ hx q).X=J ((at_ hx q).bo,AV):=hu;have HH:(at_ hx q).X≠x.X:=λe=>by rw[e,L]at hu;cases hu
   have hu2:ct t2.a.es (at_ hx q).X=J ((at_ hx q).bo,AV):=by rw[r3,cT HH,cT z1];exact hu
   have hgt:(0:Int)<((q+1:Nat):Int):=U;have hq1:q<O hx:=U;have w6:q+1<9223372036854775808:=U;have⟨eu,heu,e1,e2,e3,e4,e5,e6⟩:=jb B3.tk.ok hu2;have amS:=aiY (i:=q) U;simp+decide-dsimp only[go_sem,C',s0,s3,s4,q0,qt,m0,m2,hgt,hq1,amS,Hd.av,Hd.cells,jX,reduceAdd];generalize hq:nx3+1+Array.size _=nr0;have hnr:nx3+1<=nr0:=U;generalize hK:aI (aI h3 nx3 _) nx3 _=hl;have K1:∀c,c≠nx3->N hl c=N h3 c:=λc A=>by rw[<-hK,Xg A,Xg A]
   have k3:=TZ hK
   have B4:MW t2 p2 hl nr0:=B3.heap (λc A=>K1 c (EB (wB c A))) U;have ku:=(K1 _ U).trans e4
   refine bc (e6 _ _ (λc A=>K1 c U) U) ?_;have afA:O AV.ay.sl=15:=e3▸(B3.tk.sl eu heu)
   have U0:sN AV.cells 0 AV:=sN.mk' (pre:=[]) afA;have f3:=U0.aL;have Xz:=akv AV.aL z4 z5 sep x z7 z8;rw[Nd.av,Nd.av,Hd.av,Hd.cells]at Xz;simp+decide-dsimp only[go_sem,C',k3,ku,f3,reduceAdd];refine ba Xz ?_;have pl:=uA (g:=u64 (at_ hx q).bo) (n:=AV) (d:=AV.aL.add sep x) afA;refine YM s0 s3 s4 ku pl @Gq amS ?_;have⟨t3,B5,KK,u3,u4,u5,u6⟩:=B4.mg heu e1 e2 {AV with aL:=AV.aL.add sep x} afA;refine⟨q+1,aZ _,t3,p2,B5.aW aG.refl U,(IP.heap (λc A=>K1 c U)).trans KK U,⟨by rw[u6];exact A2.set hu2 u3 (λb=>by rw[yu hul,yu (show({AV with aL:=AV.aL.add sep x}:Mn).cw=R from hul)]),u5.trans Z2⟩,U,.inr ⟨q,Z,Z,?_⟩⟩;rw[u3,u4,r3,r4];exact J2
  |zero=>
   have⟨_,T⟩:=J1.top hm hf;have hgt:¬((0:Int)<((0:Nat):Int)):=U;have LC:p2.fr.count M≠0:=EB (qL.2 Z)
   have n1':∀q,¬(E=nx3+1+q):=λq=>U;have WO:∀q,¬(nx3=nx3+1+q):=λq=>U;have n3':∀q,¬(Y=nx3+1+q):=λq=>U;have n4':∀q,¬(t.tb=nx3+1+q):=λq=>U;have n5':¬(nx3+1+5=nx3+1+8):=U;have lb:=λ(l:List u) (h:O l=8)=>ajD (l:=l) h;simp+decide-dsimp only[go_sem,C',s0,s4,q1,qt,m1,m2,n1',WO,n4',n5',lb,Hd.av,Hd.cells,reduceAdd];generalize hq:nx3+1+Array.size _=nr0;have hnr:nx3+1+17<=nr0:=hq▸(iR bS _)
   generalize hK:aI (aI (aI (aI (aI h3 nx3 _) nx3 _) (nx3+1+5) _) (nx3+1+8) _) (nx3+1+15) _=hl;have K1:∀c,c<nx3->N hl c=N h3 c:=λc A=>by
    rw[<-hK]
    repeat rw[Xg]
   have k3:N hl nx3=some (.cells [int x.X,u64 x.bo] 245):=by
    rw[<-hK]
    repeat rw[Xg]
    rw[Sr]
   have k5:N hl (nx3+1+5)=J (.cells [cg sep] 9):=by
    rw[<-hK]
    repeat rw[Xg]
    rw[Sr]
   have k8:=U9 hK Tb
   have k15:=TZ hK
   generalize hK2:aI (aI hl (nx3+1+5) .dead) (nx3+1+8) .dead=K2;have K3:∀c,c≠nx3+1+5->c≠nx3+1+8->N K2 c=N hl c:=λc W F=>by rw[<-hK2,Xg F,Xg W]
   have B4:MW t2 p2 K2 nr0:=B3.heap (λc A=>by have:=wB c A;rw[K3 c U U,K1 c U]) U;have KK:fT (Y+1) t t2 p p2 hc K2:=IP.heap λc A=>by rw[K3 c U U,K1 c U]
   have c:=B4.vT LC (u0 sep (at_ hx 0) x) Z;rw[<-hK2]at c;refine cm (QJ (k:=sep) (y:=at_ hx 0) (x:=x) (B6:=nx3+1+5) (B9:=nx3+1+8) k5 k8 U c) λ_ h4 Gc l4 ⟨t4,p4,y,f1,f2,B5,PL,f3,f4,f5,f6⟩=>?_;rw[hK2]at PL;have A4:xV (ct t4.a.es) hd t4.dU p4 C hb:=f5.2▸(A2.ins f1 f3 (λb=>yu Z) f6)
   have Z4:=f5.1.trans Z2;subst f2;have Wq:∀c,¬t2.own c->c<nr0->c≠p2.pb->c≠p2.gb->c≠p2.fb->N h4 c=N K2 c:=λc LG LC g1 g2 g3=>PL.aW c LC (λe=>LG (.inl e)) g1 g2 g3 (λe=>LG (FF (.inl e))) (λe V e'=>LG (Fe ⟨e,V,e'⟩));have no4:∀c,((¬(c<Y\/Y+1<=c))\/c=E\/nx3<=c)->c<nr0->N h4 c=N K2 c:=λc LG LC=>by
    refine Wq c (λe=>?_) LC (λe=>?_) (λe=>?_) (λe=>?_);.have:=wB c (.inl e);omega
    .have:=wB c (.inr (.inl e));omega
    .have:=wB c (FF (.inl e));omega
    .have:=wB c (Fe e);omega
   have j0:=(no4 Y (.inl U) U).trans ((K3 _ U U).trans ((K1 _ U).trans q0))
   have j1:=(no4 _ (.inr (.inr U)) U).trans ((K3 _ U U).trans k15)
   have jt:N h4 t.tb=J (.cells [.ptr t4.a.pb 0,.ptr t4.a.ab 0,int t4.aO.X,u64 t4.aO.bo,.g (.int .i64 t4.size),.g (.int .i64 t4.dU),bW R] 273):=by have:=B5.tk.tr;rw[PL.tb,qC.tb,gP.tb]at this;exact this
   have ap2:∀c,t4.own c\/c=p4.pb\/c=p4.gb\/c=p4.fb->(c<Y\/Y+1<=c)/\(c<nx3\/nr0<=c):=λc A=>by
    obtain A|A|A|A:=A
    .obtain q|q:=PL.p.bl c A;.have:=wB c (.inl q);omega
     .omega
    .rw[PL.pb]at A;have:=wB c (.inr (.inl A));omega
    .rw[PL.gb]at A;have:=wB c (FF (.inl A));omega
    .rw[PL.fb]at A;have:=wB c (Fe A);omega
   have SS:fT (Y+1) t t4 p p4 hc h4:=KK.trans PL U;have r1:¬(Y=nx3+1+15):=U;have r2:¬(t.tb=nx3+1+15):=U;have r2':¬(nx3+1+15=t.tb):=U;have Ie:x.X≠y.X:=λe=>by rw[<-e,Qh]at f1;cases f1
   have hy1:ct t1.a.es y.X=B:=by
    rw[r3,cT Ie.symm]at f1;by_cases e:y.X=(at_ hx 0).X;.rw[e]at f1;have f1:br.up (ct t1.a.es) (at_ hx 0).X ((at_ hx 0).bo,nl) (at_ hx 0).X=B:=f1;rw[dF]at f1;cases f1
    .have f1:br.up (ct t1.a.es) (at_ hx 0).X ((at_ hx 0).bo,nl) y.X=B:=f1;rw[cT e]at f1;exact f1
   have⟨T1,T2⟩:=T x y nl nr sep L hy1 Ie hh;have s4':ct t4.a.es=br.up (br.up (br.up (ct t1.a.es) (at_ hx 0).X ((at_ hx 0).bo,nl)) x.X (x.bo,nr)) y.X (y.bo,u0 sep (at_ hx 0) x):=by rw[f3,r3]
   refine L6 s3 j0 j1 r1 ?_;generalize hM:aI h4 (nx3+1+15) _=zzQ;have M1:∀c,c≠nx3+1+15->N zzQ c=N h4 c:=λc A=>by rw[<-hM,Xg A]
   have y1:=TZ hM
   have y0:=(M1 _ r1).trans j0
   have yt:=(M1 _ r2).trans jt
   have B6:MW t4 p4 zzQ Gc:=B5.heap (λc A=>M1 c (EB (ap2 c A))) (an _);have St8:fT (Y+1) t t4 p p4 hc zzQ:=SS.heap λc A=>M1 c U;have tb4:t4.tb=t.tb:=by rw[PL.tb,qC.tb,gP.tb]
   by_cases hi0:i=0
   case pos=>have ag1:((i:Nat):Int)=0:=U;simp+decide-dsimp only[go_sem,s0,y1,yt,ag1,reduceAdd];have⟨B7,Yc⟩:=B6.tree y t4.size t4.dU;rw[tb4]at B7 Yc;refine⟨_,p4,B7.aW aG.refl U,(fT.same S0).trans ((St8.trans Yc U).wide (bG Y)) (an _),⟨d+1,?_⟩,A4,Z4⟩;have e0:No i up mk=B:=au hi0;have:=T1 e0;rw[<-s4']at this;exact this
   case neg=>
   have e0:No i up mk=J (up,mk):=ak hi0;have⟨na,r,z1,z2,z3,z4,z5,z6,z7,z8,z9,T3⟩:=T2 up mk e0;have hz4:ct t4.a.es up.X=J (up.bo,na):=by rw[s4',cT z9,cT z8,cT z7];exact z1
   have⟨eu,heu,e1,e2,e3,e4,e5,e6⟩:=jb B6.tk.ok hz4;have n15:na.ay.n<15:=by rcases(I1.lf _ _ _ z1 z2).2 with q|q<;>omega
   have⟨mkR,mk9⟩:=hmk U
   let sl:Sl:=⟨mk,[],[],M,y⟩
   have Yk:sl.zxQ:=⟨mkR,λ_=>⟨mk9,Z,Z⟩,(λh=>by cases h)⟩;have pl:na.ay.Pl sl.m r:=⟨eC z3,λj hj=>by show _<mk;rw[<-z6];exact z4.lt hj z3,λ_=>by rw[z6];exact bU⟩;have pG:na.ay.eF sl.m=M:=by
    unfold Lf.eF;cases D:na.ay.bd with
    |false=>rfl
    |true=>show decide (mk<na.ay.cQ)=M;rw[<-z6];exact aN (z4.xP r z3 D)
   have Di:=Nz na.ay z4 sl Yk pG r pl n15;rw[au ⟨z3,z6⟩]at Di;have lR:(na.ay.upd r sl).zxQ:=z4.upd z3 Yk z6.symm;have Iy:=jR (g:=u64 up.bo) (n:=na) (l:=na.ay.upd r sl) z4.sl lR.sl;have F6:=eR lR.sl;have U0:sN na.cells 0 na:=sN.mk' (pre:=[]) z4.sl;have f2:=U0.ay;refine RC C'.eq_1 s0 s3 y0 yt (U:¬(((i:Nat):Int)=0)) ?_;refine bc (e6 _ _ .refl U) ?_;simp+decide-dsimp only[go_sem,C',s3,y0,y1,e4,f2,reduceAdd];refine ba Di ?_;refine Ik s0 s3 s4 e4 Iy F6 @ja @afi ?_;have⟨t5,B7,Yc,u3,u4,u5,u6⟩:=B6.mg heu e1 e2 {na with ay:=na.ay.upd r sl} lR.sl;refine⟨0,Nat.zero_lt_one,t5,p4,B7.aW aG.refl U,St8.trans Yc U,⟨by rw[u6];exact A4.set hz4 u3 (λb=>by have:=Cw (b:=b) (x:=sl) z2 z4 z3;rw[z5]at this;exact Nat.add_right_cancel this),u5.trans Z4⟩,U,.inl ⟨Z,d+1,?_⟩⟩;rw[u3,u4,s4',f4,r4];exact T3
def ak8{hl a}(h:hl<=4*d)(z:d<50000)(ha:a<60000):hl+1+a<1000000:=U
def K6:∀(d:Nat) (a b:aY),8*qc d a b<=O a
 |0,_,_=>aQ _
 |d+1,a,b=>by
  unfold qc;split;.have:=K6 d (a.drop 8) (b.drop 8);rw[aC]at this;omega
  .omega
def DQ:=RB [(6,[MO z11 12,MO [13,14,15] 16,MO [] 17,RX]),(13,[MO z5 6,MO [7,8,9,10,11,12] 13,MO [] 14,RX]),(16,[MO z7 8,([9],[3],J 10),([11],[],B)]),(18,[MO z14 15,([16],[4,6],J 17),MO [18,19,20,21,22,23] 24,RX]),(8,[MO z6 7,([],[3],J 8),([9],[],B)]),(10,[MO z5 6,MO [7,8,9,10,11,12] 13,RX])]
set_option maxHeartbeats 4000000 in
def apk(t p h Y)(zyQ:MW t p h Y)(hT:MOk Pk t)(key v:aY)(hk:O key<=24)(hp:Pk key){Cc dd:Nat}(hAc:xV (ct t.a.es) t.size t.dU p Cc dd)(OK:dd<50000):
 UP 305 [.ptr t.tb 0,cg key,cg v] h Y λw Q E=>(∃old nh e,w= .dY [cg old,bW nh,.g (.int .i64 e)])/\∃t' p',MW t' p' Q E/\fT Y t t' p p' h Q/\MOk Pk t'/\xV (ct t'.a.es) t'.size t'.dU p' Cc (dd+1):=by
 have⟨pre,lo,eo,par,rk,I⟩:=hT;have o:=zyQ.tk;have dc:=o.lt;have hk6:O key<60000:=U;refine az.ac 3 DQ func305 ?_;refine Xf f305.eq_1 ?_;refine bc (MN t _ _ o) ?_;refine Xf o.tr ?_;refine cm (ajf t h Y o I (zyQ.eo I) key hk6) λ_ W cC l1 ⟨⟨i,hx,z,f,up,mk,fm,r,e1,S⟩,e2,e3⟩=>?_;subst e1;replace e2:=e2.symm;replace e3:=e3.symm;subst e2;subst e3;have h1:=S.w;have i2:=h1.i2;have d0:¬(Y=Y+1):=U;have⟨D1,D2,D3,_⟩:=h1.d.node;have⟨hf,uH⟩:=h1.d.ay;have Rf:=(I.lf _ _ _ hf uH).1;have cf:=h1.len;have w1:1<=O hx:=D1;have lst:hx.getD (O hx-1) default=f:=D3;have otr:=o.tr;refine asC DQ.eq_1 otr d0 (U:¬(t.tb=Y)) (U:¬(t.tb=Y+1)) w1 (U:O hx<9223372036854775808) (U:O hx-1<O hx) lst @Hd.cells.eq_1 @jX ?_;generalize hA:aI (aI (aI (aI h Y _) (Y+1) _) Y _) (Y+1) _=hc;have SA:aG Y h hc:=hA▸gU
 have a0:=U9 hA Tb d0
 have a1:=TZ hA
 have BA:MW t p hc (Y+1+1):=zyQ.aW SA U;have⟨e,V,g1,g2,c3,c4,c5,c6⟩:=jb BA.tk.ok hf;refine bc (c6 _ _ .refl U) ?_;refine Xf a0 ?_;generalize hq:Y+1+1+Array.size _=nq;have qf:Y+1+1<=nq:=U;refine AJ (afC key v i hk6 U) ?_;generalize hC:aI (aI hc nq _) nq _=C;have C1:∀c,c≠nq->N C c=N hc c:=λc A=>by rw[<-hC,Xg A,Xg A]
 have k2:=TZ hC
 have k0:=(C1 _ U).trans a0
 have k1:=(C1 _ U).trans a1
 have k4:=(C1 _ U).trans c4
 have SC:aG Y h C:=λc A=>by rw[C1 c U];exact SA c A
 have BC:MW t p C (nq+1):=zyQ.aW SC U;have kt:=BC.tk.tr;have ar4:e.bT<Y:=(o.ok.fr e V).2.2;have F0:sN fm.cells 0 fm:=sN.mk' (pre:=[]) Rf.sl;have f2:=F0.ay;have sR:=EH key v i;have sm:(dX key i v).m=oh key i:=rfl;have pG:fm.ay.eF (oh key i)=M:=by have:=(Mn.gS (I.H hf) (AL key i)).2 h1.xP;unfold Mn.eF at this;rw[uH]at this;exact this
 have h6:fm.ay.n<=6:=by
  rcases(I.lf _ _ _ hf uH).2 with q|q;.exact q
  .exact absurd q.1 id
 have Di:=Nz fm.ay Rf (dX key i v) sR pG r h1.pl U;rw[sm]at Di;have n2:¬(nq=e.bT):=U;have n3:¬(t.tb=e.bT):=λq=>o.d3 e V q.symm;by_cases jA:r<fm.ay.n/\(fm.ay.e r).m=oh key i
 case pos=>
  have z:=aN jA;have Br:fm.ay.at r=fm.ay.e r:=au jA.1;rw[Br]at k1;rw[au jA]at Di;by_cases hr:(fm.ay.e r).rest=(dX key i v).rest
  case pos=>
   have lR:=Rf.upd jA.1 sR jA.2.symm;have Iy:=jR (g:=u64 f.bo) (n:=fm) (l:=fm.ay.upd r (dX key i v)) Rf.sl lR.sl;have F6:=eR lR.sl;simp+decide-dsimp only[go_sem,DQ,k1,k2,k4,z,hr,f2,reduceAdd];refine ba Di ?_;refine YM k1 k4 hr Iy F6 @ja (U:¬(Y+1=e.bT)) ?_;have⟨t1,B1,gP,y3,y4,y5,y6⟩:=BC.mg V g1 g2 {fm with ay:=fm.ay.upd r (dX key i v)} lR.sl;refine⟨⟨_,_,_,Z⟩,t1,p,B1.heap (λc A=>?_) U,((fT.same SC).trans gP U).heap (λc A=>Ce),⟨pre,lo,eo,par,rk,?_⟩,by rw[y5,y6];exact(hAc.set hf y3 (λq=>by have:=Cw (b:=q) (x:=dX key i v) uH Rf jA.1;rw[S.nd jA.1 jA.2]at this;exact Nat.add_right_cancel this)).up⟩
   .have Ry:c≠Y+1:=by
     obtain A|A|A|A:=A
     .obtain q|q:=gP.p.bl c A;.have:=o.dL q;omega
      .omega
     .have:=zyQ.pk.tD;omega
     .have:=zyQ.pk.tJ;omega
     .have:=zyQ.pk.tM;omega
    rw[Xg Ry]
   .rw[y3,y4];exact I.set hf uH jA.1 sR jA.2.symm (FX v h1.pf hp hk h1.kl) (S.nd jA.1 jA.2) (λ_ _ _ _ h=>h.elim)
  have ok:=I.X _ _ _ hf uH r jA.1;have tO:=S.nd jA.1 jA.2;have⟨pk1,Qf,_⟩:=ok.key tO;have rR:=(Rf.r r jA.1).n tO;have Hj:O (oh key i)=9:=by
   obtain q|q:=bB (O (oh key i)) 9
   .exfalso;apply hr;have a1:(fm.ay.e r).rest=[]:=cJ λhd=>by have:=rR.2.2 hd;rw[jA.2]at this;omega
    have a2:(dX key i v).rest=[]:=cJ λhd=>by have:=(sR.n Z).2.2 hd;rw[sm]at this;omega
    rw[a1,a2]
   .have:=(AL key i).len;omega
  have hk9:8*(i+1)<O key:=by unfold oh at Hj;rw[mq,aC]at Hj;omega
  have aqL:(fm.ay.e r).rest≠[]:=rR.2.1 (jA.2▸Hj);have Vp:(dX key i v).rest≠[]:=(sR.n Z).2.1 (sm▸Hj);have hnm:nameOf (fm.ay.e r).m=(key.drop (8*i)).take 8:=jA.2▸(rT _)
  have hP:pre f.X++nameOf (fm.ay.e r).m=key.take (8*(i+1)):=by rw[h1.pf,hnm,<-k9];rfl
  rw[hP]at pk1 Qf;have Bc:key.take (8*(i+1))++(dX key i v).rest=key:=bA _ _;have l1:O (fm.ay.e r).rest<60000:=by rw[aq]at Qf;omega
  have l2:(dX key i v).rest.length<60000:=by have:=ff List.length Bc;rw[aq]at this;omega
  have hal:alike (fm.ay.e r).rest (dX key i v).rest<60000:=rm (GP _ _ _) l1;have apM:cO .i64 (1+((alike (fm.ay.e r).rest (dX key i v).rest:Nat):Int))=((1+alike (fm.ay.e r).rest (dX key i v).rest:Nat):Int):=qI;have an6:i+1<=2:=U;have ak':O (key.take (8*(i+1)))=8*(i+1):=ax▸(b9 (eC hk9))
  have ktp:=BC.sp.pb;refine RC DQ.eq_1 k1 k2 kt z hr ?_;refine ba (ah9 _ _ l1 l2) ?_;refine J7 kt apM ktp ?_;generalize hq:nq+1+Array.size _=n5;have hn5:nq+1<=n5:=U;have B5:MW t p C n5:=BC.heap (λ_ _=>rfl) hn5;refine bc (TO p C n5 B5.pk (1+alike (fm.ay.e r).rest (dX key i v).rest)) ?_;by_cases qL:1+alike (fm.ay.e r).rest (dX key i v).rest<=p.fr.count M
  case neg=>refine Xf qL ?_;exact⟨⟨_,_,_,Z⟩,t,p,B5.aW aG.refl U,fT.same SC,⟨pre,lo,eo,par,rk,I⟩,hAc.up⟩
  simp+decide-dsimp only[go_sem,DQ,k1,k2,k4,f2,qL,reduceAdd];generalize hq:n5+Array.size _=n6;have ZW:n5<=n6:=U;have B6:MW t p C n6:=BC.heap (λ_ _=>rfl) U;have c:=aqY (Pk:=Pk) (aO:=t.aO) _ (fm.ay.e r).rest (fm.ay.e r).val (dX key i v).rest v (aZ _) hr (key.take (8*(i+1))) (i+1) ak' an6 pk1 (by rw[Bc];exact hp) Qf (by rw[Bc];exact hk) (λ_=>⟨aqL,Vp⟩) f.X t p C n6 B6 pre lo eo par rk (λ_=>False) Cd I (λs g n G q=>by
   rw[<-hP]at q;have⟨AV,gu,nu,j,b1,b2,b3,b4,b5,b6⟩:=I.via (p:=pre f.X) (k:=i) (by rw[h1.pf,ax];omega) _ s g n G (an _) ((nZ _ _).trans q) (λe=>by have:=q.length_le;rw[e,aq,hnm,ax,aC]at this;omega);have e:=tL b6 q (by rw[aq,aq,I.xM b1 b2 b3 b4,hnm,ax,aC];omega);have e:=e.eq_of_length (by rw[aq,aq,I.xM b1 b2 b3 b4,hnm,ax,aC];omega);obtain⟨rfl,rfl⟩:=I.Kw b1 b2 b3 (I.Hm b1 b2 b3 b4) hf uH jA.1 (Eq.trans (ff List.length jA.2) Hj) (by rw[b5];exact e);rw[hf]at b1;injection b1 with b1;injection b1 with _ b1;subst b1
   rw[tO]at b4;cases b4) (by obtain⟨_,hl,_,q1,q2⟩:=hAc;exact⟨hl+1,q1,ak8 q2 OK hal⟩) (by rw[kV];exact qL)
  refine cm c λ_ F dR l2' ⟨t2,p2,y,FG,Jh,HE,Fj,s1,B7,SS,s2,s3,I2,s4,s5,s6,s7,gr2,nw2,on2,gw2,ct2,ly2⟩=>?_;subst s1;have⟨YE,q1,q2,q3⟩:=gr2 _ _ _ hf;have⟨e2,he2,y1,y2,y3,y4,y5,y6⟩:=jb B7.tk.ok YE;have NB:e2.bT=e.bT:=SS.sf B7 V he2 (y1.trans g1.symm);rw[NB]at y4 y5;have b1:=zyQ.pk.tD;have b2:=zyQ.pk.tJ;have b3:=zyQ.pk.tM;have vP:∀c,Y<=c->c<n6->N F c=N C c:=λc LG LC=>SS.aW c LC U U U U (EB o.ok.lm) (λe V e'=>by have:=(o.ok.fr e V).2.2;omega);have m0:=(vP Y (an _) U).trans k0
  have m1:=(vP _ U U).trans k1
  have m2:=(vP _ U U).trans k2
  let sl:Sl:=⟨oh key i,[],[],M,y⟩
  have Yk:sl.zxQ:=⟨AL key i,λ_=>⟨Hj,Z,Z⟩,(λh=>by cases h)⟩;have d320:=Nz fm.ay Rf sl Yk pG r h1.pl U;rw[au (show r<fm.ay.n/\(fm.ay.e r).m=sl.m from jA)]at d320;have lR:=Rf.upd jA.1 Yk jA.2.symm;have Iy:=jR (g:=u64 f.bo) (n:=fm) (l:=fm.ay.upd r sl) Rf.sl lR.sl;have F6:=eR lR.sl;have mt:N F t.tb=some (.cells [.ptr t2.a.pb 0,.ptr t2.a.ab 0,int t2.aO.X,u64 t2.aO.bo,.g (.int .i64 t2.size),.g (.int .i64 t2.dU),bW false] 273):=SS.tb▸B7.tk.tr
  have ar8:¬(e.bT=t.tb):=λq=>n3 q.symm;simp+decide-dsimp only[go_sem,m2,y4,f2,Hd.av,Hd.cells,reduceAdd];refine ba d320 ?_;refine RC mt y4 Iy F6 @ja n3 ?_;have⟨t3,B8,St8,u3,u4,u5,u6⟩:=B7.mg he2 y1 y2 {fm with ay:=fm.ay.upd r sl} lR.sl;rw[NB]at B8 St8;have⟨B9,Yc⟩:=B8.tree t3.aO (cO .i64 (t2.size+1)) t3.dU;have I3:MI Pk (ct t3.a.es) t.aO FG Jh HE Fj rk (λ_=>False) Cd:=by rw[u3];refine I2.set YE uH jA.1 Yk jA.2.symm ⟨(λh=>by cases h),λ_=>⟨s4,?_,s6,s7⟩⟩ (S.nd jA.1 jA.2) (λs g m G h=>h.elim (λw=>w.elim) λq=> .inr (by obtain rfl:=on2 s g m G q;exact⟨Z,Z,an _⟩));rw[s5,q1,<-hP];rw[jA.2]
  rw[St8.tb,SS.tb,u4,u6,St8.ab,B8.sp.pb.trans B7.sp.pb.symm]at B9 Yc;refine⟨⟨_,_,_,Z⟩,_,p2,B9.aW aG.refl U,((((fT.same SC).trans (fT.same aG.refl) (an Y)).trans (SS.wide (U:Y<=n6)) (an _)).trans St8 U).trans Yc U,⟨FG,Jh,HE,Fj,rk,?_⟩,hAc.grown gw2 (by have:=K6 (O (fm.ay.e r).rest) (fm.ay.e r).rest (dX key i v).rest;rw[aq,ak']at Qf;show qc _ _ _<=3;omega) ct2 ly2 hf YE u3 ?_ ?_ OK (by rw[s3])⟩
  rotate_right 2
  .have:=Cw (b:=R) (x:=sl) uH Rf jA.1;rw[tO]at this;exact this
  .have:=Cw (b:=M) (x:=sl) uH Rf jA.1;rw[tO]at this;exact this
  rw[s2];exact I3
 have z:=aU jA;rw[ak jA]at Di;have Wg:∀q,q<O hx->∃n,ct t.a.es (at_ hx q).X=J ((at_ hx q).bo,n)/\(n.cw=M->n.ay.zxQ):=λq hq=>by
  have⟨_,_,D3,D4⟩:=h1.d.node;obtain dc|DF:=bB (q+1) (O hx);.have⟨n,z1,z2,_⟩:=D4 q dc;exact⟨n,z1,λh=>by rw[z2]at h;cases h⟩
  .have:q=O hx-1:=U;subst this;rw[D3];exact⟨fm,hf,λ_=>Rf⟩
 have ktp:=BC.sp.pb;refine PV DQ.eq_1 k0 kt ktp z ?_;generalize hq:nq+1+Array.size _=n5;have hn5:nq+1<=n5:=U;have B5:MW t p C n5:=BC.heap (λ_ _=>rfl) hn5;refine cm (apN t C n5 B5.tk hx U Wg) λ_ F dR l2 ⟨⟨m,e1,hm⟩,e2,e3⟩=>?_;subst e1;replace e2:=e2.symm;replace e3:=e3.symm;subst e2;subst e3;refine Y8 kt ktp ?_;refine bc (TO p _ n5 B5.pk m) ?_;by_cases qL:m<=p.fr.count M
 case neg=>refine Xf qL ?_;exact⟨⟨_,_,_,Z⟩,t,p,B5.aW aG.refl U,fT.same SC,⟨pre,lo,eo,par,rk,I⟩,hAc.up⟩
 have lR:=Rf.ins h1.pl U sR pG jA;have Iy:=jR (g:=u64 f.bo) (n:=fm) (l:=fm.ay.ins r (dX key i v)) Rf.sl lR.sl;have F6:=eR lR.sl;simp+decide-dsimp only[go_sem,DQ,k2,k4,f2,qL,reduceAdd];refine ba Di ?_;refine RC k0 k4 Iy F6 @ja (U:¬(Y=e.bT)) ?_;have⟨t1,B6,PL,y3,y4,y5,y6⟩:=B5.mg V g1 g2 {fm with ay:=fm.ay.ins r (dX key i v)} lR.sl;generalize hq:n5+Array.size _=n6;have ZW:n5<=n6:=U;have J0:=vo.start I (d:=4096) (λt g n ht=>eC (zyQ.eo I t g n ht)) h1.d h1.ab (λ_ _ _=>h1.pf.trans h1.ph.symm) (l:=fm.ay.ins r (dX key i v))
  (I.ins hf uH h1.pl sR pG jA (λ_ h _=>h.elim) (by
   obtain q|q:=bB fm.ay.n 6;.exact .inl U
   .exact .inr ⟨Z,U⟩) h1.lo (FX v h1.pf hp hk h1.kl) (λ_ _ _ _ h=> .inl h)) (an _) (p.fr.count M)
 rw[<-y3,<-y4]at J0;have c:=arD t1 p _ n6 (B6.aW aG.refl ZW) h1.len i2 J0 (hm _ qL) h1.mkr (hd:=cO .i64 (t.size+1)) (by rw[y6];exact hAc.more hf y3 (zg (b:=R) (x:=dX key i v) uH Rf h1.pl.le U) (zg (b:=M) (x:=dX key i v) uH Rf h1.pl.le U) OK Z);rw[PL.tb]at c;refine cm c λ_ h3 nx3 l3 ⟨t4,p4,B7,SS,⟨d',me,ke,oj,par',X7,I4,_⟩,A4,Z4⟩=>?_;have mt:N h3 t.tb=J (.cells [.ptr t4.a.pb 0,.ptr t4.a.ab 0,int t4.aO.X,u64 t4.aO.bo,.g (.int .i64 t4.size),.g (.int .i64 t4.dU),bW R] 273):=by have:=B7.tk.tr;rw[SS.tb,PL.tb]at this;exact this
 refine Xf mt ?_;have⟨B9,Yc⟩:=B7.tree t4.aO (cO .i64 (t4.size+1)) t4.dU;rw[SS.tb,PL.tb]at B9 Yc;exact⟨⟨_,_,_,Z⟩,_,p4,B9.aW aG.refl U,(((fT.same SC).trans PL U).trans SS U).trans Yc U,⟨me,ke,oj,par',X7,I4⟩,by rw[Z4,y5];exact A4⟩
def OP:=RB [(12,[MO z10 11,([12,13,14],[8],B)])]
set_option maxHeartbeats 4000000 in
def aqA(t:Mt)(h Y)(o:t.ok h Y){pre eo}{ex:aY->Prop}(I:MI Pk (ct t.a.es) t.aO pre lo eo par rk iL ex)(key:aY)(hk:O key<60000):
 UP 302 [.ptr t.tb 0,cg key,.g .nilFunc] h Y λv Q E=>(∃s nh again,v= .dY [cg s,bW nh,bW again])/\Q=h/\E=Y:=by
 have dc:=o.lt;have d0:¬(t.tb=Y):=U;refine az.pc 3 OP func302 ?_;refine Xf f302.eq_1 ?_;refine bc (MN t _ _ o) ?_;refine Xf o.tr ?_;refine cI _ _ (λmm s Q E=>∃i z,mm=2-i/\i<=2/\Head (ct t.a.es) pre lo z (key.take (8*i))/\
  X s 0= .ptr t.tb 0/\X s 1=cg key/\X s 2= .g .nilFunc/\X s 9= .ptr Y 0/\X s 10=int i/\
  (aG Y h Q/\N Q Y=some (.cells [int z.X,u64 z.bo] 245))/\Y+1<=E) (n:=2) ?_ ?_
 .refine QZ ?_;exact⟨0,t.aO,Z,aQ _,I.head,bR,gU,Z⟩
 rintro mm s Q E ⟨i,z,rfl,Gm,hi,s0,s1,s2,s9,xN,⟨S0,g0⟩,l1⟩;obtain⟨hx,f,fm,hb,hLl,pf,flo,fcv⟩:=I.go hi (qy (oh key i));obtain⟨n,hn,SZ⟩:=hi.ex;obtain⟨hf,uH⟩:=hb.ay;have zxQ:=(I.lf _ _ _ hf uH).1;obtain⟨r,pl⟩:=zxQ.pl (oh key i);have hR:=AL key i;have n0:¬(Y=E):=U;refine Y8 s1 xN ?_;refine ba (U1 key i hk U) ?_;refine PV s0 s2 s9 g0 n0 ?_;generalize hA:aI (aI Q E _) E _=hc;have SA:aG Y h hc:=by rw[<-hA];exact(S0.set U).set U
 have k0:=U9 hA (WV g0 n0) n0
 have k1:N hc E=some (.cells (uW (oh key i)) 264):=by rw[<-hA,Sr];rfl
 have oA:=o.aW (Q:=hc) (E:=E+1) (λb D=>SA b (o.dL D)) U;have c:=ah6 t hc (E+1) oA I hR hn (by rw[hi.lo];exact kF) (λD=>by rw[SZ]at D;cases D) hb;rw[Hd.av,Hd.cells]at c;refine bc c ?_;have ft:=jZ (a:=ya) (b:=fm.ay) Z zxQ.sl;have fll:=eR zxQ.sl;have XO:=lB zxQ.sl;refine YM k1 @mF ft fll XO @ja (U:¬(E=E+1)) ?_;refine ba (TE fm.ay zxQ _ hR r pl) ?_;refine Xf XO ?_;refine ba (HV fm.ay zxQ r) ?_;by_cases jA:r<fm.ay.n/\(fm.ay.e r).m=oh key i
 case neg=>
  have z:=aU jA;refine Y8 OP.eq_1 z ?_;refine⟨?_,_,.nD .cg .cP .cP,_,_,_,Z⟩
  exact auf
 have z:=aN jA;have Br:fm.ay.at r=fm.ay.e r:=au jA.1;cases tO:(fm.ay.e r).deep with
 |false=>
  by_cases hr:(fm.ay.e r).rest=key.drop (8*(i+1))
  all_goals
   refine RC OP.eq_1 s1 xN z Br tO ?_;refine ba (ag8 key i hk U) ?_;refine Xf hr ?_;refine⟨?_,_,.nD .cg .cP .cP,_,_,_,Z⟩
   exact auf
 |true=>
  refine asD OP.eq_1 s0 s1 s2 s9 xN k0 z Br tO (U:¬(Y=E+1)) (U:¬(Y=E+1+1)) ?_;have ok:=I.X _ _ _ hf uH r jA.1;have⟨⟨ln,z1,z2⟩,z3,z4,z5⟩:=ok.link tO;have hnm:nameOf (fm.ay.e r).m=(key.drop (8*i)).take 8:=jA.2▸(rT _)
  have h9:=((zxQ.r r jA.1).d tO).1;have xC:8*(i+1)<O key:=by
   have e:O (oh key i)=9:=jA.2▸h9
   unfold oh at e;rw[mq,aC]at e;omega
  have yW:pre (fm.ay.e r).link.X=key.take (8*(i+1)):=by rw[z3,pf,hnm,<-k9];congr 1
  have hi3:i+1<=2:=by have⟨j,j1,j2⟩:=I.pl _ _ _ z1;rw[yW,ax]at j1;omega
  refine Xf (U:i+1<9223372036854775808) ?_;refine⟨2-(i+1),U,i+1,(fm.ay.e r).link,Z,hi3,⟨⟨ln,z1,z2⟩,z4,yW⟩,Z,?_⟩;refine⟨⟨?_,Z⟩,U⟩
  exact auf
def ajX:cZ prog 489=J 3:=aK
def ajF:dS prog 489=J [.int .u64 0,.int .u8 0,.bool R]:=aK
def Zg:aR prog 489 0=J 0:=aK
def abh:aR prog 489 1=J 2:=aK
def ai2:fieldsOf prog 489=J [(0,2),(2,1)]:=aK
attribute[go_sem] ajX ajF Zg abh ai2
abbrev slO(r:Option Sl):Sl:=r.getD zs
abbrev BB(m:aY)(b:Bool):List u:=[u64 (bv m 8:Nat),u8 (O m:Nat),bW b]
def akO(t:Mt)(h Y)(o:t.ok h Y){pre eo}{ex:aY->Prop}(I:MI Pk (ct t.a.es) aO pre lo eo par rk iL ex)
 {m} (hm:tv m) {b p} (hi:Head (ct t.a.es) pre lo z p) {r} (nx':Cm (ct t.a.es) z m b r):
 UP 341 [.ptr t.tb 0,z.av,.agg (BB m b),.g .nilFunc] h Y (dG (.dY [.agg (slO r).cells,bW r.isSome,bW R]) h Y):=by
 have dc:=o.lt;have⟨n,hn,SZ⟩:=hi.ex;have⟨hx,f,fm,k,hb,El⟩:=nx';have YX:¬(Y=Y+1+1+1):=U;have e13:¬(Y+1=Y+1+1+1):=U;have e23:¬(Y+1+1=Y+1+1+1):=U;refine az.pc 4 T0 func341 ?_;refine RC f341.eq_1 @Hd.av.eq_1 @Hd.cells.eq_1 (U:¬(Y=Y+1)) (U:¬(Y=Y+1+1)) (U:¬(Y+1=Y+1+1)) ?_;generalize hA:aI (aI (aI h Y _) _ _) _ _=hc;have SA:aG Y h hc:=hA▸gU
 have kA1:=U9 hA Tb
 have kA2:N hc (Y+1+1)=J (.cells zs.cells 266):=by rw[<-hA,Sr];rfl
 have oA:=o.aW (Q:=hc) (E:=Y+1+1+1) (λb D=>SA b (o.dL D)) U;have c:=ah6 t hc _ oA I hm hn (hi.lo▸kF) (λD=>by rw[SZ]at D;cases D) hb;rw[Hd.av,Hd.cells]at c;refine bc c ?_;have⟨hf,uH⟩:=hb.ay;have zxQ:=(I.lf _ _ _ hf uH).1;have ft:=jZ (a:=ya) (b:=fm.ay) Z zxQ.sl;have fll:=eR zxQ.sl;have XO:=lB zxQ.sl;refine L6 @mF ft fll @ja ?_;generalize hB:aI (aI hc (Y+1+1+1) _) (Y+1+1+1) _=zyQ;have SB:aG Y h zyQ:=by rw[<-hB];exact(SA.set U).set U
 have kB1:=U9 hB (WV kA1 e13) e13
 have kB2:=U9 hB (WV kA2 e23) e23
 have kB3:=TZ hB
 refine cI _ _ (λmm s Q E=>∃n sn g,Fu (ct t.a.es) m b n mm r/\ct t.a.es sn=J (g,n)/\n.cw=M/\
  X s 0= .ptr t.tb 0/\X s 3= .g .nilFunc/\X s 6= .ptr (Y+1) 0/\X s 8= .ptr (Y+1+1) 0/\X s 11= .ptr (Y+1+1+1) 0/\X s 12=bW M/\
  (aG Y h Q/\N Q (Y+1)=J (.cells (BB m b) 489)/\N Q (Y+1+1)=J (.cells zs.cells 266)/\N Q (Y+1+1+1)=J (.cells n.ay.cells 269))/\Y+4<=E) (n:=k) ?_ ?_
 .refine J7 kB1 kB2 kB3 ?_;exact⟨fm,f.X,f.bo,El,hf,uH,SB,Z⟩
 rintro mm s Q E ⟨n,sn,g,El,hn,hnl,s0,s3,s6,s8,yK,Ko,⟨S0,g1,g2,g3⟩,l1⟩;have zxQ:=(I.lf _ _ _ hn hnl).1;have sE:=zxQ.sl;have fll:=eR sE;have XO:=lB sE;have fbd:=OT sE;have fnx:=Hc sE;have n1:¬(Y+1=E):=U;have n2:¬(Y+1+1=E):=U;have n3:¬(Y+1+1+1=E):=U;have⟨i,pl⟩:=zxQ.pl m;have H:=pl.le;have Ye:=zxQ.n;have wi:i+1<9223372036854775808:=U;refine RC s6 yK Ko g1 g3 XO ?_;refine ba (TE n.ay zxQ m hm i pl) ?_;have h3:((i<n.ay.n/\(n.ay.e i).m=m)/\b=M)\/((i<n.ay.n/\(n.ay.e i).m=m)/\b=R)\/¬(i<n.ay.n/\(n.ay.e i).m=m):=by
  by_cases jA:i<n.ay.n/\(n.ay.e i).m=m
  .cases b;.exact .inr (.inl ⟨jA,Z⟩)
   .exact .inl ⟨jA,Z⟩
  .exact FF jA
 obtain⟨jA,hbt⟩|⟨jA,hbf⟩|jA:=h3
 case' inl=>have Sy:i+1=n.ay.go m b i:=(au ⟨jA,hbt⟩).symm;simp+decide-dsimp only[go_sem,s6,yK,g1,g3,XO,jA,hbt,wi];refine ba (HV n.ay zxQ (i+1)) ?_;have hj:i+1<=n.ay.n:=jA.1
 case' inr.inl=>have Sy:i=n.ay.go m b i:=(ak (λh=>by rw[hbf]at h;cases h.2)).symm;simp+decide-dsimp only[go_sem,s6,yK,g1,g3,XO,jA,hbf];refine ba (HV n.ay zxQ i) ?_;have hj:i<=n.ay.n:=H
 case' inr.inr=>have Sy:i=n.ay.go m b i:=(ak (λh=>jA h.1)).symm;simp+decide-dsimp only[go_sem,yK,g3,XO,jA];refine ba (HV n.ay zxQ i) ?_;have hj:i<=n.ay.n:=H
 all_goals
  rw[Sy]at hj⊢;by_cases PI:n.ay.go m b i<n.ay.n
  case pos=>
   obtain rfl:=El.fun (.jA pl PI);have Br:n.ay.at (n.ay.go m b i)=n.ay.e (n.ay.go m b i):=au PI;generalize hjj:n.ay.go m b i=j at hj PI Br⊢;refine PV s8 g2 PI Br n2 ?_;refine .eE ?_ (.nD (.cw (uw (n.ay.e j))) .cP .cP) rfl
   exact aug
  case' neg=>cases D:n.ay.bd
  case neg.false=>
   obtain rfl:=El.fun (.none pl PI D);have Br:n.ay.at (n.ay.go m b i)=zs:=ak PI;rw[D]at fbd;generalize hjj:n.ay.go m b i=j at hj PI Br⊢;refine asA s8 yK g2 g3 fbd PI Br n2 n3 ?_;refine .eE ?_ (.nD (.cw ⟨trivial,trivial,trivial,trivial,trivial,trivial,trivial,trivial⟩) .cP .cP) rfl
   exact aug
  case neg.true=>
   rw[D]at fbd;have⟨n',a1,a2,a3,a4⟩:=I.nxl hn hnl D;have Br:n.ay.at (n.ay.go m b i)=zs:=ak PI;cases El with
   |jA CG Q=>rw[CG.uniq pl]at Q;exact absurd Q PI
   |none _ _ iQ=>rw[D]at iQ;cases iQ
   |next pq hq bq sq dq=>
    rename_i WO i2 k2;have:=sq.symm.trans a1;injection this with this;injection this with _ this;subst this
    generalize hjj:n.ay.go m b i=j at hj PI Br⊢;have n4:¬(Y+1+1+1=E+1):=U;have n5:¬(Y+1=E+1):=U;have n6:¬(Y+1+1=E+1):=U;refine asB s0 s3 yK g3 fbd fnx PI Br n3 n4 ?_;generalize hC:aI (aI (aI Q E _) E _) (E+1) _=C;have SC:aG Y h C:=by rw[<-hC];exact((S0.set U).set U).set U
    have kC1:=U9 hC (WV (WV g1 n1) n1) n5
    have kC2:=U9 hC (WV (WV g2 n2) n2) n6
    have kC3:=U9 hC (WV (WV g3 n3) n3) n4
    have kC4:=TZ hC
    have oC:=o.aW (Q:=C) (E:=E+1+1) (λb D=>SC b (o.dL D)) U;have c:=akF t C (E+1+1) oC a1;rw[Hd.av,Hd.cells]at c;refine bc c ?_;have R2:=(I.lf _ _ _ a1 a2).1;have fs:=Et (hc:=Du.map u.g) (n:=WO) Z R2.sl;have fa:=Ew R2.sl;have fl:=qb R2.sl;have h2:sN WO.cells 0 WO:=sN.mk' (pre:=[]) R2.sl;have f2:=h2.ay;have ft:=jZ (a:=n.ay) (b:=WO.ay) sE R2.sl;have ao0:=eR R2.sl;simp+decide-dsimp only[go_sem,s0,s3,s6,s8,yK,Ko,kC1,kC2,kC3,kC4,fs,fl,HP,f2,ft,ao0,ja,n4,n5,n6]
    try subst hbt
    try subst hbf
    exact⟨k2,aZ _,WO,_,_,dq,a1,a2,⟨by(repeat' first|exact aG.refl|apply aG.fo|(apply aG.set;rotate_left;omega));exact SC,by first|rfl|exact⟨Z,Z⟩⟩,U⟩
end
end br
end Go.Proofs.YtonnifoeokagjaaGreat
