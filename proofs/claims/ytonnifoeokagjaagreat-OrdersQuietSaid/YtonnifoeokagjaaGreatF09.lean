/- The theorem quiet_holds of OrdersQuiet: part 9 of its proof; no conditions. -/
import Derived.Test.YtonnifoeokagjaaGreatF08
namespace Go.Proofs.YtonnifoeokagjaaGreat
set_option linter.all false
set_option maxRecDepth 8000
open Go Go.RowKit
open Option renaming some->J,none->B
open Bool renaming true->M,false->R
open List renaming length->O
open Tryz
open Nat(reduceAdd reduceMul)
namespace br
noncomputable section
variable{i n:Nat}{l:List Nat}
def pC(pl:List Nat)(ks:List Hd)(us:List Bool):List u:=X6 pl++(ks.flatMap Hd.cells++AP us)
structure Idx(h:aE)(Y sb:Nat)(pl:List Nat)(ks:List Hd)(us:List Bool):Prop where
 bT:N h sb=J (.cells (pC pl ks us) 438)
 lp:O pl=256
 lk:O ks=48
 lu:O us=48
 lt:sb<Y
abbrev Cf(pl:List Nat)(x:UInt8):Nat:=pl.getD x.toNat 0
structure uf(pl:List Nat)(ks:List Hd)(us:List Bool)(l:KL):Prop where
 kj:gC l
 le:∀x,Cf pl x<=48
 get:∀x,km l x=if Cf pl x=0 then B else J (ks.getD (Cf pl x-1) default)
 inj:∀x y,Cf pl x=Cf pl y->Cf pl x≠0->x=y
 us:∀i,i<48->(us.getD i R=M↔∃x,Cf pl x=i+1)
section
variable{pl:List Nat}{ks:List Hd}{us:List Bool}
def NW(h:O pl=256)(H:i<256):iS (i*1) (pC pl ks us)=J (u8 (pl.getD i 0:Nat)):=by rw[df];exact Rq (agF U)
def xz:O (X6 l)=O l:=bR
def aew(h:O pl=256)(H:i<O ks):(dV (256+i*2) (pC pl ks us)).bind (dC 2)=J (ks.getD i default).cells:=by have:=SU (hc:=X6 pl) (zyQ:=AP us) H;rw[xz,h]at this;exact this
def amQ(h:O pl=256)(Q:O ks=48)(H:i<O us)(d):iS (352+i*1) (pC pl ks us)=J (bW (us.getD i d)):=by
 have K:O (ks.flatMap Hd.cells)=96:=by rw[cj iE,Q]
 rw[df,k6];unfold pC;rw[cE (Es @xz),xz,h,cE U,K,show 352+i-256-96=i from U];exact O' H d
def GI(h:O pl=256)(H:i<256):eG (i*1) (pC pl ks us) [u8 (n:Nat)]=J (pC (pl.set i n) ks us):=by unfold pC;rw[df,JS (Es @xz),aaI]
def Bk(h:O pl=256)(H:i<O ks)(y:Hd):eG (256+i*2) (pC pl ks us) y.cells=J (pC pl (ks.set i y) us):=by have:=Pp (hc:=X6 pl) (zyQ:=AP us) (y:=y) H;rw[xz,h]at this;exact this
def GQ(h:O pl=256)(Q:O ks=48)(H:i<O us)(b):eG (352+i*1) (pC pl ks us) [bW b]=J (pC pl ks (us.set i b)):=by
 have K:O (ks.flatMap Hd.cells)=96:=by rw[cj iE,Q]
 have:=JX (hc:=X6 pl++ks.flatMap Hd.cells) (zyQ:=AP us) (i:=i) (v:=bW b) (Mf H);rw[aq,xz,h,K,JK,aA,aA]at this;rw[df];exact this
end
def aom(pl ks us l sb)(x:UInt8)(h Y)(o:Idx h Y sb pl ks us)(zxQ:uf pl ks us l):
 UP 381 [.ptr sb 0,u8 x.toNat] h Y (dG (Ca (km l x)) h Y):=by
 have dc:=o.lt;have L:x.toNat<256:=x.toNat_lt;have d1:¬(sb=Y):=U;have g:=NW (ks:=ks) (us:=us) o.lp L;have hle:=zxQ.le x;refine az.pc 2 T0 func381 ?_;have hg:=zxQ.get x;generalize hp:Cf pl x=p at hle hg;have hp:pl.getD x.toNat 0=p:=hp;rw[hp]at g;by_cases h0:p=0
 .have qX:¬(0:Int)<(p:Int):=U;refine RC f381.eq_1 o.bT d1 L g qX ?_;refine .eE ?_ (.mC (.agg (.cons .cP (.cons .cP .nil))) .cP) (by rw[hg,au h0];rfl)
  exact ata
 .have g2:=aew (us:=us) o.lp (ks:=ks) (i:=p-1) (Es o.lk);refine asC f381.eq_1 o.bT d1 L g (U:(0:Int)<(p:Int)) (U:1<=p) (U:p<256) (U:p-1<48) g2 @Hd.cells.eq_1 ?_;refine .eE ?_ (.mC (.agg (.cons .cP (.cons .cP .nil))) .cP) (by rw[hg,ak h0];rfl)
  exact ata
variable{P:Program}{b:Nat}
def Bu{l}(G:gC l){x y}(h:km l x=J y)(D:b<=x.toNat)(hn:∀hd:UInt8,b<=hd.toNat->hd.toNat<x.toNat->km l hd=B):rG l b=J (x,y):=by
 have⟨i,H,e⟩:=cN.1 ((lV G).1 h);rw[<-e];refine yB H (λj hj KX hq=>?_) (e▸D);have W:=mX.lt G hj (Mf H);have F:l[j].1<x:=by simpa[List.getD,H,KX,e]using W
 have:=hn l[j].1 hq (dN.1 F);exact(mU G).1 this l[j].2 (bO KX)
def Kf{l}(G:gC l)(hn:∀hd:UInt8,b<=hd.toNat->km l hd=B):rG l b=B:=
 yE λj hj hq=>(mU G).1 (hn l[j].1 hq) l[j].2 (bO hj)
def aho:Sh P (int b) (int 0)=J (.val (int b)):=by
 rw[aco];have:bM P (Builtin.max2 (.int .i64 b) (.int .i64 0))=J (.int .i64 b):=by show J (Value.int .i64 (if(0:Int)>(b:Int)then 0 else b))=_;rw[ak U]
 rw[this]
attribute[go_sem] aho
def ofNat_lt{k}(h:k<256):(UInt8.ofNat k).toNat=k:=j9 h
def ahs:=RB [(6,[MO z8 9,MO [] 10,MO [] 11,RX]),(8,[MO [0] 1,MO [] 2,MO [] 3,RX])]
def aoe(pl)(ks:List Hd)(us:List Bool)(l:KL)(sb b:Nat)(D:b<=256)(h:aE)(Y:Nat)(o:Idx h Y sb pl ks us)(zxQ:uf pl ks us l):
 az prog 380 [.ptr sb 0,int b] h Y (dG (K7 (rG l b)) h Y):=by
 have dc:=o.lt;have d1:¬(sb=Y):=U;refine az.pc 2 ahs func380 ?_;simp+decide-dsimp only[f380,go_sem];refine cI _ _ (λm s Q E=>∃k,b<=k/\k<=256/\m=256-k/\(∀hd:UInt8,b<=hd.toNat->hd.toNat<k->km l hd=B)/\X s 0= .ptr sb 0/\X s 5= .ptr Y 0/\X s 7=int k/\Q=aI h Y (.cells [int 0,u64 0] 245)/\E=Y+1) (n:=256-b) ?_ ?_;.refine QZ ?_;exact⟨b,an _,D,Z,λhd W F=>U,bR⟩
 rintro m s Q E ⟨k,Su,hk,rfl,hn,s0,s5,s7,rfl,rfl⟩;by_cases zS:k<256
 .have hk3:(k:Int)<256:=U;have g:=NW (ks:=ks) (us:=us) o.lp zS;have hle:=zxQ.le (UInt8.ofNat k);have hg:=zxQ.get (UInt8.ofNat k);unfold Cf at hle hg;rw[ofNat_lt zS]at hle hg;generalize pl.getD k 0=p at g hle hg;by_cases h0:p=0
  .have qX:¬(0:Int)<(p:Int):=U;have w1:k+1<9223372036854775808:=U;refine asB s0 s5 s7 hk3 zS o.bT d1 g qX w1 ?_;refine⟨_,(U:256-(k+1)<_),k+1,U,U,Z,λhd W F=>?_,Z⟩;rcases bB hd.toNat k with q|q
   .exact hn hd W q
   .have:hd=UInt8.ofNat k:=fH.1 (Es (ofNat_lt zS));rw[this,hg,au h0]
  .have qX:(0:Int)<(p:Int):=U;have w1:1<=p:=U;have w2:p<256:=U;have w3:p-1<48:=U;have g2:=aew (us:=us) o.lp (ks:=ks) (i:=p-1) (Es o.lk);simp+decide-dsimp only[go_sem,ahs,s0,s5,s7,hk3,zS,o.bT,d1,g,qX,w1,w2,w3,g2,Hd.cells,reduceAdd];have e:=Bu zxQ.kj (x:=UInt8.ofNat k) (b:=b) (by rw[hg,ak h0]) (by rw[ofNat_lt zS];exact Su) (λhd W F=>hn hd W (by rw[ofNat_lt zS]at F;exact F));refine .eE ?_ (.nD .cP (.agg (.cons .cP (.cons .cP .nil))) .cP) (by rw[e];show _=u.dY [u8 ((UInt8.ofNat k).toNat:Nat),_,_];rw[ofNat_lt zS];rfl)
   exact ata
 .refine L6 ahs.eq_1 s5 s7 (U:¬(k:Int)<256) ?_;have e:=Kf zxQ.kj (b:=b) (λhd W=>hn hd W (EB hd.toNat_lt));refine .eE ?_ (.nD .cP (.agg (.cons .cP (.cons .cP .nil))) .cP) (by rw[e];rfl)
  exact ata
variable{j:Nat}{α:Type}
def Xn:∀(aw:Nat) (l:List Nat),(∀i,i<aw->i∈l)->aw<=O l
 |0,_,_=>aQ _
 |aw+1,l,h=>by have W:=Xn aw (l.erase aw) λi H=>(F5 U).2 (h i U);have F:=zW (h aw U);have:=nX (h aw U);omega
section
variable{pl:List Nat}{ks:List Hd}{us:List Bool}{l:KL}
def uf.free(zxQ:uf pl ks us l)(hn:O l<48):∃i,i<48/\us.getD i R=R:=by
 refine cJ λA=>?_;have h:∀i,i<48->us.getD i R=M:=λi H=>by
  cases hq:us.getD i R with
  |true=>rfl
  |false=>exact absurd ⟨i,H,hq⟩ A
 have:=Xn 48 ((kf l).map λx=>Cf pl x-1) λi H=>by have⟨x,L⟩:=(zxQ.us i H).1 (h i H);refine bg.2 ⟨x,?_,by omega⟩;have:=zxQ.get x;rw[ak U]at this;exact bg.2 ⟨_,(lV zxQ.kj).1 this,Z⟩
 simp at this;omega
def kY{x hd:UInt8}(h:O pl=256):Cf (pl.set x.toNat n) hd=if hd=x then n else Cf pl hd:=by
 unfold Cf;have L:x.toNat<O pl:=h▸x.toNat_lt
 split;.rename_i e;subst e;simp[List.getD,L]
 .rename_i cD;have:x.toNat≠hd.toNat:=λe=>cD (fH.1 e.symm)
  simp[List.getD,this]
def lZ{l:List α}{y d:α}(h:i<O l):(l.set i y).getD j d=if j=i then y else l.getD j d:=by
 split;.rename_i e;subst e;simp[List.getD,h]
 .rename_i cD;simp[List.getD,Ne.symm cD]
def uf.put(zxQ:uf pl ks us l)(lk:O ks=48){x}(h0:Cf pl x≠0)(y):uf pl (ks.set (Cf pl x-1) y) us (pz l x y):=by
 have hle:=zxQ.le x;refine⟨kL zxQ.kj x y,zxQ.le,λhd=>?_,zxQ.inj,zxQ.us⟩;rw[A8 zxQ.kj];split;.rename_i e;subst e;rw[ak h0,lZ U,au Z]
 .exact ave
def uf.more(zxQ:uf pl ks us l)(lp:O pl=256)(lk:O ks=48)(lu:O us=48){x}(h0:Cf pl x=0)(H:i<48)(hu:us.getD i R=R)(y):
 uf (pl.set x.toNat (i+1)) (ks.set i y) (us.set i M) (pz l x y):=by
 have oO:∀hd,Cf pl hd≠i+1:=λhd hz=>by have:=(zxQ.us i H).2 ⟨hd,hz⟩;rw[hu]at this;cases this
 refine⟨kL zxQ.kj x y,λhd=>?_,λhd=>?_,λhd w e cD=>?_,λj hj=>?_⟩
 .rw[kY lp];split;.omega
  .exact zxQ.le hd
 .rw[A8 zxQ.kj,kY lp];split;.rw[ak U,lZ U,au U]
  .rw[zxQ.get hd];split;.rfl
   .rename_i hz;rw[lZ U,ak];intro e;exact oO hd U
 .rw[kY lp,kY lp]at e;rw[kY lp]at cD;split at e
  .rename_i hz;split at e;.rename_i hw;rw[hz,hw]
   .exact absurd e.symm (oO w)
  .rename_i hz;rw[ak hz]at cD;split at e;.exact absurd e (oO hd)
   .exact zxQ.inj hd w e cD
 .rw[lZ U];split;.rename_i e;subst e;exact⟨λ_=>⟨x,by rw[kY lp,au Z]⟩,λ_=>rfl⟩
  .exact atO
def uf.del(zxQ:uf pl ks us l)(lp:O pl=256)(lk:O ks=48)(lu:O us=48){x}(h0:Cf pl x≠0)(y):
 uf (pl.set x.toNat 0) (ks.set (Cf pl x-1) y) (us.set (Cf pl x-1) R) (qz l x):=by
 have hle:=zxQ.le x;refine⟨mG zxQ.kj x,λhd=>?_,λhd=>?_,λhd w e cD=>?_,λj hj=>?_⟩
 .rw[kY lp];split;.omega
  .exact zxQ.le hd
 .rw[Gf zxQ.kj,kY lp];split;.rw[au Z]
  .exact ave
 .rw[kY lp,kY lp]at e;rw[kY lp]at cD;split at e;.rename_i hz;rw[au hz]at cD;exact absurd Z cD
  .rename_i hz;rw[ak hz]at cD;split at e;.exact absurd e cD
   .exact zxQ.inj hd w e cD
 .rw[lZ U];split
  .rename_i e;subst e;constructor;.intro h;cases h
   .rintro⟨hd,hz⟩;rw[kY lp]at hz;split at hz;.omega
    .rename_i cD;exact absurd (zxQ.inj hd x U U) cD
  .exact atO
def uf.nil:uf (List.replicate 256 0) (List.replicate 48 ⟨0,0⟩) (List.replicate 48 R) []:=by
 have h:∀x,Cf (List.replicate 256 0) x=0:=λx=>by unfold Cf;rw[List.getD,mZ];split<;>rfl
 refine⟨List.Pairwise.nil,λx=>by rw[h];omega,λx=>by rw[h,au Z];rfl,λx y _ cD=>absurd (h x) cD,λi H=>⟨λhq=>?_,λ⟨x,L⟩=>by rw[h]at L;omega⟩⟩;rw[List.getD,mZ,au H]at hq;cases hq
end
def afd:=RB [(4,[MO [0,1,2,3,4,5,6,7,8,9,11,12] 10,MO [13] 14,RX]),(5,[MO z5 6,RX])]
def ajc{off}:fW prog 436 (.ptr b off) B B=J (.sl b off 48 48):=by simp[fW,ts4,ub,fX]
attribute[go_sem] ajc
def HY(Y sb:Nat)(h Q:aE):Prop:=∀b,b<Y->b≠sb->N Q b=N h b
def anD(pl ks us l sb)(x:UInt8)(y:Hd)(h Y)(o:Idx h Y sb pl ks us)(zxQ:uf pl ks us l)(hn:hasB (kf l) x=M\/O l<48):
 az prog 382 [.ptr sb 0,u8 x.toNat,y.av] h Y λv Q E=>v= .dY []/\(∃CG HA ZO,Idx Q E sb CG HA ZO/\uf CG HA ZO (pz l x y))/\HY Y sb h Q:=by
 have dc:=o.lt;have L:x.toNat<256:=x.toNat_lt;have lp:=o.lp;have lk:=o.lk;have lu:=o.lu;have d1:¬(sb=Y):=U;have g:=NW (ks:=ks) (us:=us) lp L;have hle:=zxQ.le x;have hg:=zxQ.get x;refine az.ac 3 afd func382 ?_;generalize hp:Cf pl x=p at hle hg;have Jf:pl.getD x.toNat 0=p:=hp;rw[Jf]at g;by_cases h0:p=0
 .subst h0;have oO:hasB (kf l) x=R:=by rw[<-vF,hg];rfl
  have K:O l<48:=by
   rcases hn with q|q;.rw[oO]at q;cases q
   .exact q
  obtain⟨j,hj,hju⟩:=zxQ.free K;have wm:cO .i64 ((0:Int)-1)= -1:=by rw[wrap_i64 U U];rfl
  simp+decide-dsimp only[f382,go_sem,o.bT,d1,L,g,Hd.av,Hd.cells];have aj0:=amG us sb 352 48 (pC pl ks us) (aI h Y (.cells [int y.X,u64 y.bo] 245)) (Y+1) 438 (by rw[aj,ak d1];exact o.bT) U R (λi H=>amQ lp lk H M) ⟨j,U,by
   have:us.getD j M=us.getD j R:=by simp[List.getD,show j<O us from U]
   show us.getD j M=R;rw[this];exact hju⟩
  rw[lu]at aj0;refine cm aj0 λ_ W cC l1 ⟨i,H,hiu,e1,e2,e3⟩=>?_;subst e1;subst e2;subst e3;have hiu':us.getD i R=R:=by
   have:us.getD i M=us.getD i R:=by simp[List.getD,show i<O us from U]
   rw[<-this];exact hiu
  have w1:i+1<9223372036854775808:=U;have w2:i+1<256:=U;have g2:=GQ (pl:=pl.set x.toNat (i+1)) (ks:=ks) (us:=us) (Mf lp) lk (i:=i) U M;have g3:=Bk (pl:=pl.set x.toNat (i+1)) (us:=us.set i M) (Mf lp) (ks:=ks) (i:=i) U y;rw[Hd.cells]at g3;have w3:¬((i:Int)<0):=U;refine asC afd.eq_1 o.bT d1 (U:¬(Y=sb)) L H w1 w2 (GI (pl:=pl) (ks:=ks) (us:=us) lp (n:=i+1) L) g2 g3 ?_;exact⟨⟨_,_,_,⟨iA,by simpa using lp,by simpa using lk,by simpa using lu,U⟩,zxQ.more lp lk lu hp H hiu' y⟩,λb D cD=>by rw[Xg cD,Xg cD,Xg cD,Xg]⟩
 .have w2:p<256:=U;have g2:=Bk (us:=us) lp (ks:=ks) (i:=p-1) U y;rw[Hd.cells]at g2;simp+decide-dsimp only[f382,go_sem,afd,o.bT,d1,L,g,(U:1<=p),(U:p-1<48),(U:p<9223372036854775808),(U:¬((p-1:Nat):Int)<0),g2,Hd.av,Hd.cells,reduceAdd];refine⟨⟨pl,ks.set (p-1) y,us,⟨iA,lp,by simpa using lk,lu,U⟩,?_⟩,λb D cD=>by rw[Xg cD,Xg]⟩;have:=zxQ.put lk (x:=x) (hp▸h0) y;rw[hp]at this;exact this
def aml:=RB [(3,[MO [0,1,2,3,4,5,6,7,8,9,10,11,13,14,17,18] 12,MO [15] 16,MO [19] 20,RX])]
def an5(pl ks us l sb)(x:UInt8)(h Y)(o:Idx h Y sb pl ks us)(zxQ:uf pl ks us l):
 UP 379 [.ptr sb 0,u8 x.toNat] h Y λv Q E=>v= .dY []/\(∃CG HA ZO,Idx Q E sb CG HA ZO/\uf CG HA ZO (qz l x))/\HY Y sb h Q:=by
 have dc:=o.lt;have L:x.toNat<256:=x.toNat_lt;have lp:=o.lp;have lk:=o.lk;have lu:=o.lu;have d2:¬(Y=sb):=U;have g:=NW (ks:=ks) (us:=us) lp L;have hle:=zxQ.le x;have hg:=zxQ.get x;refine az.ac 2 aml func379 ?_;generalize hp:Cf pl x=p at hle hg;have Jf:pl.getD x.toNat 0=p:=hp;rw[Jf]at g;by_cases h0:p=0
 .have qX:¬(0:Int)<(p:Int):=U;have oO:hasB (kf l) x=R:=by rw[<-vF,hg,au h0];rfl
  simp+decide-dsimp only[f379,go_sem,o.bT,L,g,qX];exact⟨⟨pl,ks,us,o,by rw[show qz l x=l by unfold qz;rw[oO];rfl];exact zxQ⟩,λ_ _ _=>rfl⟩
 .have g1:=Bk (us:=us) lp (ks:=ks) (i:=p-1) U ⟨0,0⟩;have g3:=GI (pl:=pl) (ks:=ks.set (p-1) ⟨0,0⟩) (us:=us.set (p-1) R) lp (n:=0) L;rw[Hd.cells]at g1;have e0:((0:Nat):Int)=0:=rfl;simp only[e0]at g1 g3;simp+decide-dsimp only[f379,go_sem,aml,o.bT,(U:¬(sb=Y)),L,g,(U:(0:Int)<(p:Int)),(U:1<=p),(U:p<256),(U:p-1<48),g1,GQ (pl:=pl) (ks:=ks.set (p-1) ⟨0,0⟩) (us:=us) lp (Mf lk) (i:=p-1) U R,g3,reduceAdd];have:=zxQ.del lp lk lu (x:=x) (hp▸h0) ⟨0,0⟩;rw[hp]at this;exact⟨⟨_,_,_,⟨iA,by simpa using lp,by simpa using lk,by simpa using lu,U⟩,this⟩,λb D cD=>by rw[Xg cD,Xg cD,Xg cD,Xg]⟩
def rS(ks:List Hd)(G:List Bool):List u:=ks.flatMap Hd.cells++AP G
structure Dir(h:aE)(Y sb:Nat)(ks:List Hd)(G:List Bool):Prop where
 bT:N h sb=J (.cells (rS ks G) 442)
 lk:O ks=256
 lh:O G=256
 lt:sb<Y
abbrev hsa(G:List Bool)(x:UInt8):Bool:=G.getD x.toNat R
structure yq(ks:List Hd)(G:List Bool)(l:KL):Prop where
 kj:gC l
 get:∀x,km l x=if hsa G x then J (ks.getD x.toNat default)else B
 zero:∀x,hsa G x=R->ks.getD x.toNat default=⟨0,0⟩
section
variable{ks:List Hd}{G:List Bool}{l:KL}
def ad6(H:i<O ks):(dV (i*2) (rS ks G)).bind (dC 2)=J (ks.getD i default).cells:=by have:=SU (hc:=[]) (zyQ:=AP G) H;simpa[rS]using this
def aes(h:O ks=256)(H:i<O G):iS (512+i*1) (rS ks G)=J (bW (G.getD i R)):=by
 have K:O (ks.flatMap Hd.cells)=512:=by rw[cj iE,h]
 rw[df,k6];unfold rS;rw[cE U,K,ij];exact O' H R
def FW(H:i<O ks)(y:Hd):eG (i*2) (rS ks G) y.cells=J (rS (ks.set i y) G):=by have:=Pp (hc:=[]) (zyQ:=AP G) (y:=y) H;simpa[rS]using this
def GK(h:O ks=256)(H:i<O G)(b):eG (512+i*1) (rS ks G) [bW b]=J (rS ks (G.set i b)):=by
 have K:O (ks.flatMap Hd.cells)=512:=by rw[cj iE,h]
 have:=JX (hc:=ks.flatMap Hd.cells) (zyQ:=AP G) (i:=i) (v:=bW b) (Mf H);rw[K,JK]at this;rw[df];exact this
def CE{x hd:UInt8}{b}(h:O G=256):hsa (G.set x.toNat b) hd=if hd=x then b else hsa G hd:=by
 unfold hsa;rw[lZ (h▸x.toNat_lt)];by_cases e:hd=x;.subst e;simp
 .rw[ak e,ak (λh=>e (fH.1 h))]
def yq.put(zxQ:yq ks G l)(lk:O ks=256)(lh:O G=256)(x:UInt8)(y):yq (ks.set x.toNat y) (G.set x.toNat M) (pz l x y):=by
 refine⟨kL zxQ.kj x y,λhd=>?_,λhd hz=>?_⟩
 .rw[A8 zxQ.kj,CE lh,lZ (lk▸x.toNat_lt)];by_cases e:hd=x;.subst e;simp
  .rw[ak e,ak e,ak (λh=>e (fH.1 h)),zxQ.get hd]
 .rw[CE lh]at hz;by_cases e:hd=x;.rw[au e]at hz;cases hz
  .rw[ak e]at hz;rw[lZ (lk▸x.toNat_lt),ak (λh=>e (fH.1 h))];exact zxQ.zero hd hz
def yq.del(zxQ:yq ks G l)(lk:O ks=256)(lh:O G=256)(x:UInt8):yq (ks.set x.toNat ⟨0,0⟩) (G.set x.toNat R) (qz l x):=by
 refine⟨mG zxQ.kj x,λhd=>?_,λhd hz=>?_⟩
 .rw[Gf zxQ.kj,CE lh,lZ (lk▸x.toNat_lt)];by_cases e:hd=x;.subst e;simp
  .rw[ak e,ak e,ak (λh=>e (fH.1 h)),zxQ.get hd]
 .rw[CE lh]at hz;rw[lZ (lk▸x.toNat_lt)];by_cases e:hd=x;.subst e;simp
  .rw[ak e]at hz;rw[ak (λh=>e (fH.1 h))];exact zxQ.zero hd hz
def yq.nil:yq (List.replicate 256 ⟨0,0⟩) (List.replicate 256 R) []:=by
 have h:∀x,hsa (List.replicate 256 R) x=R:=λx=>by unfold hsa;rw[List.getD,mZ];split<;>rfl
 refine⟨List.Pairwise.nil,λx=>by rw[h];rfl,λx _=>?_⟩;rw[List.getD,mZ];split<;>rfl
end
def al0:=RB [(1,[MO z11 12,([],[11],J 13),RX])]
def akN:=RB [(1,[MO [0,1,2,3,4,5,6,7,9,10] 8,MO [11] 12,RX])]
def ani:=RB [(1,[MO [0,1,2,3,4,5,6,7,9,10] 8,MO [11] 12,RX])]
def afI:=RB [(5,[MO z7 8,MO [] 9,MO [] 10,RX]),(7,[MO [0] 1,MO [] 2,MO [] 3,RX])]
def aqM(ks G l sb)(x:UInt8)(h Y)(o:Dir h Y sb ks G)(zxQ:yq ks G l):
 UP 385 [.ptr sb 0,u8 x.toNat] h Y (dG (Ca (km l x)) h Y):=by
 have dc:=o.lt;have L:x.toNat<256:=x.toNat_lt;have d1:¬(sb=Y):=U;have g1:=ad6 (ks:=ks) (G:=G) (i:=x.toNat) (o.lk▸L);have g2:=aes (ks:=ks) (G:=G) o.lk (i:=x.toNat) (o.lh▸L);refine az.pc 2 al0 func385 ?_;simp+decide-dsimp only[f385,go_sem,al0,o.bT,d1,L,g1,g2,Hd.cells,reduceAdd];have hg:=zxQ.get x;have hz:=zxQ.zero x;unfold hsa at hg hz;refine .eE ?_ (.mC (.agg (.cons .cP (.cons .cP .nil))) .cP) ?_
 .exact ata
 .rw[hg];cases D:G.getD x.toNat R with
  |true=>rfl
  |false=>rw[hz D];rfl
def aqy(ks G l sb)(x:UInt8)(y:Hd)(h Y)(o:Dir h Y sb ks G)(zxQ:yq ks G l):
 UP 386 [.ptr sb 0,u8 x.toNat,y.av] h Y λv Q E=>v= .dY []/\(∃HA lS,Dir Q E sb HA lS/\yq HA lS (pz l x y))/\HY Y sb h Q:=by
 have dc:=o.lt;have lk:=o.lk;have lh:=o.lh;have L:x.toNat<256:=x.toNat_lt;have g1:=FW (ks:=ks) (G:=G) (i:=x.toNat) (o.lk▸L) y;have g2:=GK (ks:=ks.set x.toNat y) (G:=G) (by simpa using lk) (i:=x.toNat) (o.lh▸L) M;rw[Hd.cells]at g1;refine az.ac 3 akN func386 ?_;refine asA f386.eq_1 akN.eq_1 o.bT (U:¬(sb=Y)) L g1 g2 @Hd.av.eq_1 @Hd.cells.eq_1 ?_;exact⟨⟨_,_,⟨iA,by simpa using lk,by simpa using lh,U⟩,zxQ.put lk lh x y⟩,λb D cD=>by rw[Xg cD,Xg cD,Xg]⟩
def ap'(ks G l sb)(x:UInt8)(h Y)(o:Dir h Y sb ks G)(zxQ:yq ks G l):
 UP 383 [.ptr sb 0,u8 x.toNat] h Y λv Q E=>v= .dY []/\(∃HA lS,Dir Q E sb HA lS/\yq HA lS (qz l x))/\HY Y sb h Q:=by
 have dc:=o.lt;have lk:=o.lk;have lh:=o.lh;have L:x.toNat<256:=x.toNat_lt;have g1:=FW (ks:=ks) (G:=G) (i:=x.toNat) (o.lk▸L) ⟨0,0⟩;have g2:=GK (ks:=ks.set x.toNat ⟨0,0⟩) (G:=G) (by simpa using lk) (i:=x.toNat) (o.lh▸L) R;have e0:((0:Nat):Int)=0:=rfl;rw[Hd.cells]at g1;simp only[e0]at g1;refine az.ac 2 ani func383 ?_;refine YM f383.eq_1 ani.eq_1 o.bT (U:¬(sb=Y)) L g1 g2 ?_;exact⟨⟨_,_,⟨iA,by simpa using lk,by simpa using lh,U⟩,zxQ.del lk lh x⟩,λb D cD=>by rw[Xg cD,Xg cD,Xg]⟩
def aoA(ks:List Hd)(G:List Bool)(l:KL)(sb b:Nat)(D:b<=256)(h:aE)(Y:Nat)(o:Dir h Y sb ks G)(zxQ:yq ks G l):
 az prog 384 [.ptr sb 0,int b] h Y (dG (K7 (rG l b)) h Y):=by
 have dc:=o.lt;have d1:¬(sb=Y):=U;refine az.pc 2 afI func384 ?_;simp+decide-dsimp only[f384,go_sem];refine cI _ _ (λm s Q E=>∃k,b<=k/\k<=256/\m=256-k/\(∀hd:UInt8,b<=hd.toNat->hd.toNat<k->km l hd=B)/\X s 0= .ptr sb 0/\X s 5= .ptr Y 0/\X s 7=int k/\Q=aI h Y (.cells [int 0,u64 0] 245)/\E=Y+1) (n:=256-b) ?_ ?_;.refine QZ ?_;exact⟨b,an _,D,Z,λhd W F=>U,bR⟩
 rintro m s Q E ⟨k,Su,hk,rfl,hn,s0,s5,s7,rfl,rfl⟩;by_cases zS:k<256
 .have hk3:(k:Int)<256:=U;have g:=aes (ks:=ks) (G:=G) o.lk (i:=k) (o.lh▸zS);have g1:=ad6 (ks:=ks) (G:=G) (i:=k) (o.lk▸zS);have hg:=zxQ.get (UInt8.ofNat k);unfold hsa at hg;rw[ofNat_lt zS]at hg;cases h0:G.getD k R with
  |false=>
   rw[h0]at g hg;refine asA s0 s5 s7 hk3 zS o.bT d1 g (U:k+1<9223372036854775808) ?_;refine⟨_,(U:256-(k+1)<_),k+1,U,U,Z,λhd W F=>?_,Z⟩;obtain q|q:=bB hd.toNat k
   .exact hn hd W q
   .have:hd=UInt8.ofNat k:=fH.1 (Es (ofNat_lt zS));rw[this,hg];rfl
  |true=>
   rw[h0]at g hg;simp+decide-dsimp only[go_sem,afI,s0,s5,s7,hk3,zS,o.bT,d1,g,g1,Hd.cells,reduceAdd];have e:=Bu zxQ.kj (x:=UInt8.ofNat k) (b:=b) hg (by rw[ofNat_lt zS];exact Su) (λhd W F=>hn hd W (by rw[ofNat_lt zS]at F;exact F));refine .eE ?_ (.nD .cP (.agg (.cons .cP (.cons .cP .nil))) .cP) (by rw[e];show _=u.dY [u8 ((UInt8.ofNat k).toNat:Nat),_,_];rw[ofNat_lt zS];rfl)
   exact ata
 .refine L6 afI.eq_1 s5 s7 (U:¬(k:Int)<256) ?_;have e:=Kf zxQ.kj (b:=b) (λhd W=>hn hd W (EB hd.toNat_lt));refine .eE ?_ (.nD .cP (.agg (.cons .cP (.cons .cP .nil))) .cP) (by rw[e];rfl)
  exact ata
variable{hl h':u->aE->Nat->Prop}{args:List u}{f:FuncId}{fn:Func}{h:aE}{Y:Nat}
section
variable(P:Program)(xt:FuncId->Option Ext)
def By{fr}{c:bY}{cs l r}{j:Option Code}(K:N h l=J (.loop r)){Au}(hf:c.finish (.g (.bool j.isNone))=J Au):
 endRound ⟨fr,c::cs,h,Y⟩ l j=J ⟨Au,cs,aI h l (.loop (r.iD (if j.isNone then .ready else .done) j)),Y⟩:=by
 unfold endRound;show(match N h l,c::cs with|some (.loop r),c::cs=>_|_,_=>B)=_;rw[K];show(match c.finish (.g (.bool j.isNone))with|some fr=>J _|none=>B)=_;rw[hf];rfl
def ko.ahB(pk:PK P xt)(T){l r}{cX:BT u}(K:N h l=J (.loop r))(hp:kr r.params args r.size r.cX=J cX)
 (d1:iW r.size r.assign=M) (d2:iW r.size r.body=M) (p1:fR P T r.assign=M) (p2:fR P T r.body=M)
 (hw:h1 P xt T r.assign (λe s h Y=>match e with
  | .jg=>∃r',N h l=J (.loop r')/\r'.state= .ready/\h1 P xt T r.body (λe s h Y=>match e with
   | .jg=>∃r',N h l=J (.loop r')/\hl (.g (.bool M)) (aI h l (.loop (r'.iD .ready B))) Y
   | .ret=>∃r',N h l=J (.loop r')/\hl (.g (.bool R)) (aI h l (.loop (r'.iD .done (J .ret)))) Y
   | .out _=>False) s (aI h l (.loop (r'.iD .busy r'.pending))) Y
  |_=>False) cX h Y):ko P l args h Y hl:=by
 refine⟨r,cX,K,hp,λwait cs zxQ hq=>?_⟩
 let x:Fx:=⟨r.fn,r.size,[],R,wait::cs,J l⟩
 refine nV P xt pk T x r.assign d1 p1 _ _ zxQ ?_ cX h Y hw;intro e s h Y V;cases e with
 |ret=>exact V.elim
 |out id=>exact V.elim
 |jg=>
 have⟨r',g1,g2,g3⟩:=V;refine .iP P xt pk ⟨x.at s (aI h l (.loop (r'.iD .busy r'.pending))) Y [.code r.body],?_,?_⟩;.show(match N h l with|some (.loop r)=>(match r.state with| .ready=>_|_=>B)|_=>B)=_;rw[g1];show(match r'.state with| .ready=>_|_=>B)=_;rw[g2];rfl
 refine nV P xt pk T x r.body d2 p2 _ [] zxQ ?_ s _ Y g3;intro e s h Y V;cases e with
 |out id=>exact V.elim
 |jg=>have⟨r2,q1,q2⟩:=V;have⟨Au,f1,f2⟩:=hq _ _ _ q2;refine .iP P xt pk ⟨_,?_,f2⟩;exact By q1 f1
 |ret=>have⟨r2,q1,q2⟩:=V;have⟨Au,f1,f2⟩:=hq _ _ _ q2;exact⟨Z,_,By q1 f1,f2⟩
def jf:Code->Bool
 | .rangeFunc _ _ _ _=>M
 | .seq a b=>jf a||jf b
 | .block _ b=>jf b
 |_=>R
def WR(T Ti:Nat->dr)(xZ:FuncId)(size:Nat):Code->(Option Nat->jT)->BT u->aE->Nat->Prop
 | .seq a b,nx',s,h,Y=>if jf a=M then WR T Ti xZ size a (λd=>jT.seq (h1 P xt T b (nx' d)) (nx' d)) s h Y else h1 P xt T a (jT.seq (WR T Ti xZ size b nx') (nx' B)) s h Y
 | .block id c,nx',s,h,Y=>WR T Ti xZ size c (λd=>jT.bT id (nx' d)) s h Y
 | .rangeFunc g ps yJ body,nx',s,h,Y=>∃f cap fn c,qw s g= .fn f cap/\P.funcs[f]?=J fn/\xt f=B/\fn.body=J c/\fn.results.toList=[]/\O cap+1<=fn.ntmps/\iW fn.ntmps c=M/\fR P Ti c=M/\
  h1 P xt Ti c (λe s' Q E=>match e with
   | .out _=>False
   |_=>∃r,N Q (Y+1)=J (.loop r)/\r.state≠ .busy/\(r.pending=B/\nx' (J Y) .jg s (aI Q (Y+1) (.loop (r.iD .exhausted r.pending))) E\/r.pending=J .ret/\nx' (J Y) .ret s (aI Q (Y+1) (.loop (r.iD .exhausted r.pending))) E))
   (eK (.um (Y+1)::cap) 0 .nil) (aI (aI h Y (.defs (J []))) (Y+1) (.loop ⟨.ready,B,xZ,s,size,ps.toList,yJ,body,Y⟩)) (Y+2)
 |_,_,_,_,_=>False
def WD(d:Option Nat):List AD:=match d with
 |none=>[]
 |some b=>[.xF b]
def Fx.wD(x:Fx)(d:Option Nat):Fx:=⟨x.fn,x.size,WD d,x.deferred,x.callers,x.round⟩
def Fx.Oc{x:Fx}(h:x.defers=[]):x.wD B=x:=by have⟨a,b,c,d,e,f⟩:=x;have h:c=[]:=h;subst h;rfl
def WT(pk:PK P xt)(T Ti)(x:Fx)(L:x.round=B)(qF:x.defers=[]):
 ∀(c:Code),jf c=M->iW x.size c=M->fR P T c=M->∀(nx':Option Nat->jT) (k:List dO) (zxQ:AM->Prop),(∀d e s h Y,nx' d e s h Y->WU P (x.wD d) k zxQ e s h Y)->∀s h Y,WR P xt T Ti x.fn x.size c nx' s h Y->eO P (x.at s h Y (.code c::k)) zxQ:=by
 intro c
 induction c with
 |seq a b iha ihb=>
  intro hr z hp nx' k zxQ hE s h Y hw;simp only[iW,aS]at z;simp only[fR,aS]at hp;refine .iP P xt pk ⟨x.at s h Y (.code a:: .code b::k),Z,?_⟩;simp only[WR]at hw;by_cases ha:jf a=M
  .rw[au ha]at hw;refine iha ha z.1 hp.1 _ _ zxQ ?_ s h Y hw;intro d e s h Y V;cases e with
   |jg=>exact nV P xt pk T (x.wD d) b z.2 hp.2 (nx' d) k zxQ (hE d) s h Y V
   |ret=>exact hE d .ret s h Y V
   |out id=>exact hE d (.out id) s h Y V
  .rw[ak ha]at hw;have D:jf b=M:=by
    simp only[jf,vu]at hr;rcases hr with h|h
    .exact absurd h ha
    .exact h
   refine nV P xt pk T x a z.1 hp.1 _ _ zxQ ?_ s h Y hw;intro e s h Y V;cases e with
   |jg=>exact ihb D z.2 hp.2 nx' k zxQ hE s h Y V
   |ret=>have:=hE B .ret s h Y V;rw[Fx.Oc qF]at this;exact this
   |out id=>have:=hE B (.out id) s h Y V;rw[Fx.Oc qF]at this;exact this
 |block id b ih=>
  intro hr z hp nx' k zxQ hE s h Y hw;refine .iP P xt pk ⟨x.at s h Y (.code b:: .inBlock id::k),Z,ih hr z hp _ _ zxQ ?_ s h Y hw⟩;intro d e s h Y V;cases e with
  |jg=>exact .iP P xt pk ⟨_,Z,hE d .jg s h Y V⟩
  |ret=>exact hE d .ret s h Y V
  |out Cg=>
   simp only[jT.bT]at V;by_cases Jg:id=Cg;.rw[au Jg]at V;refine⟨k,?_,hE d .jg s h Y V⟩;show(if id==Cg then J k else pj Cg k)=J k;rw[au (by simpa using Jg)]
   .rw[ak Jg]at V;have⟨k',W,F⟩:=hE d (.out Cg) s h Y V;exact avg
 |rangeFunc g ps yJ body=>
  intro _ _ _ nx' k zxQ hE s h Y hw;have⟨f,cap,fn,c,e1,e2,e3,e4,e5,e6,e7,e8,hw⟩:=hw;have⟨xf,xsz,xds,xdf,xcs,xr⟩:=x;have L:xr=B:=L;have qF:xds=[]:=qF;subst L;subst qF;generalize hh:aI (aI h Y (.defs (J []))) (Y+1) (.loop ⟨.ready,B,xf,s,xsz,ps.toList,yJ,body,Y⟩)=hi at hw
  let wait:bY:=⟨xf,s,xsz,.kW (Y+1)::k,[.xF Y],R,xdf,B⟩
  let x1:Fx:=⟨f,fn.ntmps,[],R,wait::xcs,B⟩
  have N7:bY.enter P f (.um (Y+1)::cap) R=J (x1.fr (eK (.um (Y+1)::cap) 0 .nil) [.code c] R):=by unfold bY.enter;rw[e2];show(match fn.body with|some c=>_|none=>_)=_;rw[e4];show(if(u.um (Y+1)::cap).length<=fn.ntmps then _ else _)=_;rw[au (by simpa using e6)];rfl
  refine .iP P xt pk ⟨x1.at (eK (.um (Y+1)::cap) 0 .nil) hi (Y+2) [.code c],?_,?_⟩
  .show ud P _ _ (p8 P xt (aI (aI h Y (.defs (J []))) (Y+1) (.loop ⟨.ready,B,xf,s,xsz,ps.toList,yJ,body,Y⟩)) (qw s g) [.um (Y+1)])=_;rw[hh,e1];show ud P _ _ (gg P xt hi f (.um (Y+1)::cap))=_;have:gg P xt hi f (.um (Y+1)::cap)=J (.enter f (.um (Y+1)::cap)):=by unfold gg;rw[e3];show(match P.funcs[f]? with|some fn=>_|none=>B)=_;rw[e2];show(match fn.body with|some _=>_|none=>B)=_;rw[e4]
   rw[this];show(match bY.enter P f (.um (Y+1)::cap) R with|some fr=>J _|none=>B)=_;rw[N7];subst hh;rfl
  have back:∀(s':BT u) (Q:aE) (E:Nat) (t:List dO),qO t=R->(∃r,N Q (Y+1)=J (.loop r)/\r.state≠ .busy/\(r.pending=B/\nx' (J Y) .jg s (aI Q (Y+1) (.loop (r.iD .exhausted r.pending))) E\/r.pending=J .ret/\nx' (J Y) .ret s (aI Q (Y+1) (.loop (r.iD .exhausted r.pending))) E))->
   eO P ⟨x1.fr s' t M,x1.callers,Q,E⟩ zxQ:=by
   intro s' Q E t ht ⟨r,q1,q2,q3⟩
   let x2:Fx:=⟨xf,xsz,[.xF Y],xdf,xcs,B⟩
   refine .iP P xt pk ⟨x2.at s Q E (.lA (Y+1)::k),?_,?_⟩;.show(if qO t=M then B else match P.funcs[f]? with|some fn=>_|none=>B)=_;rw[ht,e2];show(match eW P Q s' fn.results.toList with|some vs=>_|none=>B)=_;rw[e5];rfl
   .have jS:vh P xt (x2.at s Q E (.lA (Y+1)::k))=J (x2.at s (aI Q (Y+1) (.loop (r.iD .exhausted r.pending))) E ((match r.pending with|some c=>[.code c]|none=>[])++k)):=by
     show qU _ (Y+1) k (N Q (Y+1))=_;rw[q1];show(match r.state with| .busy=>B|_=>J _)=_;cases G:r.state with
     |busy=>exact absurd G q2
     |_=>rfl
    refine .iP P xt pk ⟨_,jS,?_⟩;obtain⟨w1,w2⟩|⟨w1,w2⟩:=q3
    .have:=hE (J Y) .jg s _ E w2;rw[w1]at this⊢;exact this
    .have:=hE (J Y) .ret s _ E w2;rw[w1]at this⊢;exact .iP P xt pk ⟨_,Z,(this:∀t,qO t=R->_) _ Z⟩
  refine nV P xt pk Ti x1 c e7 e8 _ [] zxQ ?_ _ hi (Y+2) hw;intro e s' Q E V;cases e with
  |out id=>exact V.elim
  |jg=>exact .iP P xt pk ⟨⟨x1.fr s' [] M,x1.callers,Q,E⟩,Z,back s' Q E [] Z V⟩
  |ret=>exact λt ht=>back s' Q E t ht V
 |_=>intro hr;cases hr
def az.Jm(pk:PK P xt)(T Ti){c}(hf:P.funcs[f]?=J fn)(D:fn.body=J c)(hr:jf c=M)
 (z:iW fn.ntmps c=M) (hp:fR P T c=M)  (ha:O args<=fn.ntmps)   
 (hw:WR P xt T Ti f fn.ntmps c (λd e s h Y=>match e with
  | .out _=>False
  |_=>match d with
   |none=>∃vs,eW P h s fn.results.toList=J vs/\h' (one vs) h Y
   |some b=>N h b=J (.defs (J []))/\∃vs,eW P (aI h b (.defs B)) s fn.results.toList=J vs/\h' (one vs) (aI h b (.defs B)) Y) (eK args 0 .nil) h Y):az P f args h Y h':=by
 have V:bY.enter P f args R=J ⟨f,eK args 0 .nil,fn.ntmps,[.code c],[],R,R,B⟩:=by unfold bY.enter;rw[hf];show(match fn.body with|some c=>_|none=>_)=_;rw[D];show(if O args<=fn.ntmps then _ else _)=_;rw[au ha]
 refine .Cs P V ?_
 let x:Fx:=⟨f,fn.ntmps,[],R,[],B⟩
 have ad2:∀s h Y t,qO t=R->(∃vs,eW P h s fn.results.toList=J vs/\h' (one vs) h Y)->eO P ⟨x.fr s t M,x.callers,h,Y⟩ λm=>m.fr.fn=f/\∃v,BK P m=J v/\h' v m.heap m.next:=by
  exact aty
 have iy:∀d s h Y t,qO t=R->(match d with
  |none=>∃vs,eW P h s fn.results.toList=J vs/\h' (one vs) h Y
  |some b=>N h b=J (.defs (J []))/\∃vs,eW P (aI h b (.defs B)) s fn.results.toList=J vs/\h' (one vs) (aI h b (.defs B)) Y)->eO P ⟨(x.wD d).fr s t M,x.callers,h,Y⟩ λm=>m.fr.fn=f/\∃v,BK P m=J v/\h' v m.heap m.next:=by
  intro d s h Y t ht hq;cases d with
  |none=>exact ad2 s h Y t ht hq
  |some b=>obtain⟨W,F⟩:=hq;refine .iP P xt pk ⟨⟨x.fr s t M,x.callers,aI h b (.defs B),Y⟩,?_,ad2 s _ Y t ht F⟩;show(match N h b with|some (.defs (J calls))=>_|_=>B)=_;rw[W];rfl
 refine WT P xt pk T Ti x Z Z c hr z hp _ [] _ ?_ _ h Y hw;intro d e s h Y V;cases e with
 |jg=>exact .iP P xt pk ⟨⟨(x.wD d).fr s [] M,x.callers,h,Y⟩,Z,iy d s h Y [] Z V⟩
 |ret=>exact λt ht=>iy d s h Y t ht V
 |out id=>exact V.elim
end
variable{Q:aE}{name:String}{E:Nat}{t:TypeId}
def Ru(P:Program)(xt:FuncId->Option Ext)(h:aE)(f:Option FuncId)(v:u)(args:List u):Option ER:=match f with
 |some f=>gg P xt h f (v::args)
 |none=>B
def acU{xt:FuncId->Option Ext}{v}:mQ P xt h name args (.lP t v)=Ru P xt h (nj P t name) v args:=by show(match nj P t name with|some f=>gg P xt h f (v::args)|none=>B)=_;unfold Ru;cases nj P t name<;>rfl
def Rn{xt:FuncId->Option Ext}{v:u}:Ru P xt h (J f) v args=gg P xt h f (v::args):=bQ Z
def akS:nj prog 301 "marshalling/artnode.get" =J 364:=aK
def aiT:nj prog 301 "marshalling/artnode.set" =J 365:=aK
def ai':nj prog 301 "marshalling/artnode.drop" =J 362:=aK
def ak2:nj prog 301 "marshalling/artnode.from" =J 363:=aK
def akb:nj prog 432 "marshalling/artnode.get" =J 381:=aK
def alI:nj prog 432 "marshalling/artnode.set" =J 382:=aK
def akG:nj prog 432 "marshalling/artnode.drop" =J 379:=aK
def ajd:nj prog 432 "marshalling/artnode.from" =J 380:=aK
def akL:nj prog 433 "marshalling/artnode.get" =J 385:=aK
def aim:nj prog 433 "marshalling/artnode.set" =J 386:=aK
def alG:nj prog 433 "marshalling/artnode.drop" =J 383:=aK
def am0:nj prog 433 "marshalling/artnode.from" =J 384:=aK
def akE:nE prog 432=J (.pointer B):=aK
def Qt{v}:kH prog (.lP 301 v) 301 M=J (.val (.dY [v,bW M])):=by simp[kH]
def PT{v}:kH prog (.lP 432 v) 301 M=J (.val (.dY [FE,bW R])):=by simp[kH,WY]
def Qq{v}:kH prog (.lP 432 v) 432 M=J (.val (.dY [v,bW M])):=by simp[kH]
def PR{v}:kH prog (.lP 433 v) 301 M=J (.val (.dY [FE,bW R])):=by simp[kH,WY]
def Qm{v}:kH prog (.lP 433 v) 432 M=J (.val (.dY [FE,bW R])):=by simp[kH,akE]
def PO{v}:kH prog (.lP 433 v) 433 M=J (.val (.dY [v,bW M])):=by simp[kH]
attribute[go_sem] Qt PT Qq PR Qm PO
attribute[go_sem] acU Rn akS aiT ai' ak2 akb alI akG ajd akL aim alG am0
def amT{o}:mH prog 301 (.ptr b o)=J (.val (.lP 301 (.ptr b o))):=by simp[mH]
def ah'{o}:mH prog 432 (.ptr b o)=J (.val (.lP 432 (.ptr b o))):=by simp[mH]
def alc{o}:mH prog 433 (.ptr b o)=J (.val (.lP 433 (.ptr b o))):=by simp[mH]
attribute[go_sem] amT ah' alc
structure KN where
 nb:Nat
 sb:Nat
 t:TypeId
 kind:Nat
 l:KL
 hl:u
 hi:u
inductive mN(h:aE)(Y:Nat)(k:KN):Prop
 |kj:k.t=301->(k.kind=4\/k.kind=16)->Srt h Y k.sb k.l k.hl k.hi->mN h Y k
 |idx (pl:List Nat) (ks:List Hd) (us:List Bool):k.t=432->k.kind=48->O k.l<=48->cu k.hl=B->cu k.hi=B->Idx h Y k.sb pl ks us->uf pl ks us k.l->mN h Y k
 |dir (ks:List Hd) (G:List Bool):k.t=433->k.kind=256->cu k.hl=B->cu k.hi=B->Dir h Y k.sb ks G->yq ks G k.l->mN h Y k
structure KN.ok(k:KN)(h:aE)(Y:Nat):Prop where
 bT:N h k.nb=J (.cells [.lP k.t (.ptr k.sb 0),int k.kind,int (O k.l)] 307)
 sh:mN h Y k
 lt:k.nb<Y
 d1:k.nb≠k.sb
 d2:cu k.hl≠J k.nb
 d3:cu k.hi≠J k.nb
def KN.own(k:KN)(b:Nat):Prop:=b=k.nb\/b=k.sb\/cu k.hl=J b\/cu k.hi=J b
def mN.Rd{k}(o:mN h Y k):gC k.l:=by
 cases o with
 |kj _ _ o=>exact o.kj
 |idx _ _ _ _ _ _ _ _ _ zxQ=>exact zxQ.kj
 |dir _ _ _ _ _ _ _ zxQ=>exact zxQ.kj
def aai(k:KN)(h Y)(o:k.ok h Y):UP 292 [.ptr k.nb 0] h Y (dG (bW R) h Y):=by have ob:=o.bT;refine az.ac 1 T0 func292 ?_;refine Y8 f292.eq_1 ob ?_;exact⟨Z,Z,Z⟩
def afy(k:KN)(h Y)(o:k.ok h Y):UP 279 [.ptr k.nb 0] h Y (dG (int (O k.l)) h Y):=by have ob:=o.bT;refine az.ac 1 T0 func279 ?_;refine Xf f279.eq_1 ?_;refine bc (aai k _ _ o) ?_;refine Xf ob ?_;exact⟨Z,Z,Z⟩
def mN.aW{k h Q Y E}(o:mN h Y k)(hk:∀b,b=k.sb\/cu k.hl=J b\/cu k.hi=J b->N Q b=N h b)(hn:Y<=E):mN Q E k:=by
 have G:=hk k.sb (.inl Z);cases o with
 |kj e1 e2 s=>exact .kj e1 e2 ⟨by rw[G];exact s.bT,s.k.aW λb D=>hk b (.inr (.inl D)),s.h.aW λb D=>hk b (FF D),s.kj,s.ik.le (an _) hn,s.ih.le (an _) hn,aP s.lt hn,s.d1,s.d2,s.d3⟩
 |idx pl ks us e1 e2 e3 e4 e5 s zxQ=>exact .idx pl ks us e1 e2 e3 e4 e5 ⟨by rw[G];exact s.bT,s.lp,s.lk,s.lu,aP s.lt hn⟩ zxQ
 |dir ks lS e1 e2 e3 e4 s zxQ=>exact .dir ks lS e1 e2 e3 e4 ⟨by rw[G];exact s.bT,s.lk,s.lh,aP s.lt hn⟩ zxQ
def KN.ok.aW{k:KN}{h Q Y E}(o:k.ok h Y)(hk:∀b,k.own b->N Q b=N h b)(hn:Y<=E):k.ok Q E:=
 ⟨by rw[hk _ (.inl Z)];exact o.bT,o.sh.aW (λb D=>hk b (.inr D)) hn,aP o.lt hn,o.d1,o.d2,o.d3⟩
def mN.lt{k h Y}(o:mN h Y k):∀b,b=k.sb\/cu k.hl=J b\/cu k.hi=J b->b<Y:=by
 rintro b (rfl|D|D)
 .cases o with
  |kj _ _ s=>exact s.lt
  |idx _ _ _ _ _ _ _ _ s _=>exact s.lt
  |dir _ _ _ _ _ _ s _=>exact s.lt
 .cases o with
  |kj _ _ s=>exact(s.ik b D).2
  |idx _ _ _ _ _ _ e _ _ _=>rw[e]at D;cases D
  |dir _ _ _ _ e _ _ _=>rw[e]at D;cases D
 .cases o with
  |kj _ _ s=>exact(s.ih b D).2
  |idx _ _ _ _ _ _ _ e _ _=>rw[e]at D;cases D
  |dir _ _ _ _ _ e _ _=>rw[e]at D;cases D
def KN.ok.SI{k:KN}(o:k.ok h Y):∀b,k.own b->b<Y:=by
 rintro b (rfl|D);.exact o.lt
 .exact o.sh.lt b D
def KN.ok.same{k:KN}(o:k.ok h Y)(hk:aG Y h Q)(hn:Y<=E):k.ok Q E:=o.aW (λb D=>hk b (o.SI b D)) hn
def ak4(k:KN)(name:String)(args:List u)(h:aE)(Y:Nat)(h':u->aE->Nat->Prop):Prop:=
 ∃f,Ru prog xt h (nj prog k.t name) (.ptr k.sb 0) args=J (.enter f (.ptr k.sb 0::args))/\UP f (.ptr k.sb 0::args) h Y h'
def Ps{k}(o:mN h Y k)(x:UInt8):ak4 k "marshalling/artnode.get" [u8 x.toNat] h Y (dG (Ca (km k.l x)) h Y):=by
 cases o with
 |kj e1 _ s=>exact⟨364,by simp+decide [e1,go_sem],anB k.l k.sb k.hl k.hi x _ _ s⟩
 |idx pl ks us e1 _ _ _ _ s zxQ=>exact⟨381,by simp+decide [e1,go_sem],aom pl ks us k.l k.sb x _ _ s zxQ⟩
 |dir ks G e1 _ _ _ s zxQ=>exact⟨385,by simp+decide [e1,go_sem],aqM ks G k.l k.sb x _ _ s zxQ⟩
def UT{k}(o:mN h Y k)(b:Nat)(D:b<=256):ak4 k "marshalling/artnode.from" [int b] h Y (dG (K7 (rG k.l b)) h Y):=by
 cases o with
 |kj e1 _ s=>exact⟨363,by simp+decide [e1,go_sem],anz k.l k.sb k.hl k.hi b U _ _ s⟩
 |idx pl ks us e1 _ _ _ _ s zxQ=>exact⟨380,by simp+decide [e1,go_sem],aoe pl ks us k.l k.sb b D _ _ s zxQ⟩
 |dir ks G e1 _ _ _ s zxQ=>exact⟨384,by simp+decide [e1,go_sem],aoA ks G k.l k.sb b D _ _ s zxQ⟩
def Ys(k:KN)(x:UInt8)(h Y)(o:k.ok h Y):UP 282 [.ptr k.nb 0,u8 x.toNat] h Y (dG (Ca (km k.l x)) h Y):=by have ob:=o.bT;have dc:=o.lt;refine az.pc 2 T0 func282 ?_;refine Xf f282.eq_1 ?_;have o':k.ok (aI h Y (.cells [int 0,u64 0] 245)) (Y+1):=o.same (aG.refl.set (an _)) U;refine bc (aai k _ _ o') ?_;have⟨f,e,c⟩:=Ps o'.sh x;rw[Ca]at c;refine J7 ob (U:¬(k.nb=Y)) e ?_;refine bc c ?_;refine Y8 @Hd.av.eq_1 @Hd.cells.eq_1 ?_;exact .eE ((aG.refl.set (an _)).set (an _)) (.mC (.agg (.cons .cP (.cons .cP .nil))) .cP) Z
def acu(o:Option (UInt8×Hd)):∃(b:Nat) (y:Hd) (s:Bool),K7 o= .dY [u8 (b:Int),.agg [int y.X,u64 y.bo],bW s]:=by
 cases o with
 |none=>exact⟨0,⟨0,0⟩,R,Z⟩
 |some e=>exact⟨e.1.toNat,e.2,M,Z⟩
def are:=RB [(3,[MO [0] 1,MO [] 2,MO [] 3,RX])]
def afN(k:KN)(b:Nat)(D:b<=256)(h:aE)(Y:Nat)(o:k.ok h Y):az prog 289 [.ptr k.nb 0,int b] h Y (dG (K7 (rG k.l b)) h Y):=by have ob:=o.bT;have dc:=o.lt;have d1:¬(k.nb=Y):=U;refine az.pc 2 are func289 ?_;simp+decide-dsimp only[f289,go_sem];have o':k.ok (aI h Y (.cells [int 0,u64 0] 245)) (Y+1):=o.same (aG.refl.set (an _)) U;refine bc (aai k _ _ o') ?_;have⟨f,e,c⟩:=UT o'.sh b D;have⟨q,y,t,er⟩:=acu (rG k.l b);rw[er]at c⊢;refine J7 ob d1 e ?_;refine Av c ?_;exact .eE ((aG.refl.set (an _)).set (an _)) (.nD .cP (.agg (.cons .cP (.cons .cP .nil))) .cP) Z
def af5(h Y):UP 132 [] h Y λv Q E=>∃k:KN,v= .ptr k.nb 0/\k.l=[]/\k.ok Q E/\aG Y h Q/\∀b,k.own b->Y<=b:=by
 refine az.ac 0 T0 func132 ?_;simp+decide-dsimp only[f132,go_sem];refine⟨⟨Y+1,Y,301,4,[],FB,FB⟩,Z,Z,⟨by simp[aj],.kj Z (.inl Z) ⟨by simp[aj],.inl ⟨Z,Z⟩,.inl ⟨Z,Z⟩,List.Pairwise.nil,.nil,.nil,by show Y<_;omega,(λe=>by cases e),(λe=>by cases e),(λb e=>by cases e)⟩,by show Y+1<_;omega,by show Y+1≠Y;omega,(λe=>by cases e),(λe=>by cases e)⟩,(aG.refl.set (an _)).set (bG _),?_⟩;rintro b (e|e|e|e);.have e:b=Y+1:=e;omega
 .have e:b=Y:=e;omega
 .cases e
 .cases e
variable{c g' s:Nat}
structure Ax where
 pre:aY
 val:aY
 has:Bool
 k:KN
abbrev DM:=Nat->Option (Nat×Ax)
structure AI(Pk:aY->Prop)(σ:DM)(aO:Hd)(pa:Nat->aY)(par:Nat->Nat)(ex:Nat->Prop):Prop where
 len:∀s g n,σ s=J (g,n)->O (pa s++n.pre)<=24
 kj:∀s g n,σ s=J (g,n)->gC n.k.l
 aJ:∀s g n,σ s=J (g,n)->n.has=M->Pk (pa s++n.pre)
 kD:∀s g n,σ s=J (g,n)->∀e∈n.k.l,(∃m,σ e.2.X=J (e.2.bo,m))/\pa e.2.X=pa s++n.pre++[e.1]/\par e.2.X=s
 rt:(∃n,σ aO.X=J (aO.bo,n))/\pa aO.X=[]
 up:∀s g n,σ s=J (g,n)->s≠aO.X->∃g' n',σ (par s)=J (g',n')/\∃e∈n'.k.l,e.2.X=s
 ne:∀s g n,σ s=J (g,n)->(s=aO.X->n.pre=[])/\(s≠aO.X->ex s\/n.has=M\/2<=O n.k.l)
section
variable{Pk:aY->Prop}{σ:DM}{aO:Hd}{pa:Nat->aY}{par:Nat->Nat}{ex ex':Nat->Prop}
def some_inj{g n n'}(h:σ s=J (g,n))(Q:σ s=J (g',n')):g=g'/\n=n':=by rw[h]at Q;injection Q with Q;injection Q with a b;exact⟨a,b⟩
def AI.one(I:AI Pk σ aO pa par ex){s g n s' g' n'}(h:σ s=J (g,n))(Q:σ s'=J (g',n')){e e':UInt8×Hd}(V:e∈n.k.l)(tN:e'∈n'.k.l)(G:e.2.X=e'.2.X):s=s'/\e=e':=by
 have⟨_,a2,a3⟩:=I.kD _ _ _ h e V;have⟨_,b2,b3⟩:=I.kD _ _ _ Q e' tN;have hss:s=s':=by rw[<-a3,<-b3,G]
 subst hss;obtain⟨rfl,rfl⟩:=some_inj h Q;rw[G,b2]at a2;have:e'.1=e.1:=Mf a2
 have⟨x,y⟩:=e;have⟨x',y'⟩:=e';have:x'=x:=this;subst this;exact⟨Z,by rw[(I.kj _ _ _ h).uniq V tN]⟩
def AI.M3(I:AI Pk σ aO pa par ex){s g n}(h:σ s=J (g,n)){e:UInt8×Hd}(V:e∈n.k.l):e.2.X≠aO.X:=λG=>by have:=(I.kD _ _ _ h e V).2.1;rw[G,I.rt.2]at this;simp at this
def AI.EC(I:AI Pk σ aO pa par ex){s g n}(h:σ s=some (g,n)){e:UInt8×Hd}(V:e∈n.k.l):e.2.X≠s:=λG=>by have:=(I.kD _ _ _ h e V).2.1;rw[G]at this;have:=ff List.length this;simp at this
def pR(σ:DM)(s:Nat)(x:Option (Nat×Ax)):DM:=λt=>if t=s then x else σ t
def eS{s x}:pR σ s x s=x:=au Z
def fq{s x t}(h:t≠s):pR σ s x t=σ t:=ak h
def AI.val(I:AI Pk σ aO pa par ex){s g n}(h:σ s=J (g,n))(v:aY)(b)(D:b=M->Pk (pa s++n.pre))(hex:∀t,ex t->t=s\/ex' t)(L:b=M\/ex' s):AI Pk (pR σ s (J (g,{n with val:=v,has:=b}))) aO pa par ex':=by
 have get:∀t g' m,pR σ s (J (g,{n with val:=v,has:=b})) t=J (g',m)->(t=s/\m={n with val:=v,has:=b})\/σ t=J (g',m):=by
  intro t g' m ht;by_cases e:t=s;.subst e;rw[eS]at ht;injection ht with ht;injection ht with _ ht;exact .inl ⟨Z,ht.symm⟩
  .rw[fq e]at ht;exact .inr ht
 have put:∀t g' m,σ t=J (g',m)->∃m',pR σ s (J (g,{n with val:=v,has:=b})) t=J (g',m'):=by
  intro t g' m ht;by_cases e:t=s;.subst e;obtain⟨rfl,rfl⟩:=some_inj h ht;exact⟨_,eS⟩
  .exact⟨m,by rw[fq e];exact ht⟩
 refine⟨λt g' m ht=>?_,λt g' m ht=>?_,λt g' m ht hm=>?_,λt g' m ht e V=>?_,?_,λt g' m ht hr=>?_,λt g' m ht=>?_⟩
 .obtain⟨rfl,rfl⟩|ht:=get t g' m ht;.have:=I.len _ _ _ h;exact this
  .exact I.len _ _ _ ht
 .obtain⟨rfl,rfl⟩|ht:=get t g' m ht;.have:=I.kj _ _ _ h;exact this
  .exact I.kj _ _ _ ht
 .obtain⟨rfl,rfl⟩|ht:=get t g' m ht;.exact D hm
  .exact I.aJ _ _ _ ht hm
 .have hk:(∃m,σ e.2.X=J (e.2.bo,m))/\pa e.2.X=pa t++m.pre++[e.1]/\par e.2.X=t:=by
   obtain⟨rfl,rfl⟩|ht:=get t g' m ht;.have:=I.kD _ _ _ h e V;exact this
   .exact I.kD _ _ _ ht e V
  have⟨⟨m',W⟩,F⟩:=hk;exact⟨put _ _ _ W,F⟩
 .have⟨⟨m,W⟩,F⟩:=I.rt;exact⟨put _ _ _ W,F⟩
 .have:∃g0 m0,σ t=J (g0,m0):=by
   obtain⟨rfl,rfl⟩|ht:=get t g' m ht;.exact⟨_,_,h⟩
   .exact⟨_,_,ht⟩
  have⟨g0,m0,h0⟩:=this;have⟨gp,np,a1,e,a2,a3⟩:=I.up t _ _ h0 hr;by_cases q:par t=s;.rw[q]at a1;obtain⟨rfl,rfl⟩:=some_inj h a1;exact⟨g,{n with val:=v,has:=b},(q▸eS),e,a2,a3⟩
  .exact⟨gp,np,by rw[fq q];exact a1,e,a2,a3⟩
 .by_cases e:t=s
  .subst e;rw[eS]at ht;injection ht with ht;injection ht with _ ht;subst ht
   exact⟨(I.ne _ _ _ h).1,λ_=>L.elim (λq=> .inr (.inl q)) .inl⟩
  .rw[fq e]at ht;exact⟨(I.ne _ _ _ ht).1,λw=>((I.ne _ _ _ ht).2 w).imp (λhd=>(hex t hd).resolve_left e) id⟩
def AI.ay(I:AI Pk σ aO pa par ex){s g n}(h:σ s=J (g,n)){x:Hd}(L:σ x.X=B){b r}(D:km n.k.l b=B){m:Ax}(m1:m.pre=r)(m2:m.k.l=[])(hp:Pk (pa s++n.pre++b::r))(K:O (pa s++n.pre++b::r)<=24)
 {n':Ax} (n1:n'.pre=n.pre) (n2:n'.has=n.has) (n3:n'.k.l=pz n.k.l b x) (hex:∀t,ex t->t=s\/ex' t) (hk:s=aO.X\/n.has=M\/1<=O n.k.l) (mh:m.has=M):
 AI Pk (pR (pR σ x.X (J (x.bo,m))) s (J (g,n'))) aO (λt=>if t=x.X then pa s++n.pre++[b]else pa t) (λt=>if t=x.X then s else par t) ex':=by
 have kU:x.X≠s:=λe=>by rw[e,h]at L;cases L
 have old:∀{t g' m},σ t=J (g',m)->t≠x.X:=λht e=>by rw[e,L]at ht;cases ht
 have get:∀t g' q,pR (pR σ x.X (J (x.bo,m))) s (J (g,n')) t=J (g',q)->(t=s/\q=n')\/(t=x.X/\q=m)\/(t≠s/\t≠x.X/\σ t=J (g',q)):=by
  exact atz
 have put:∀t g' q,σ t=J (g',q)->∃q',pR (pR σ x.X (J (x.bo,m))) s (J (g,n')) t=J (g',q'):=by
  exact aup
 have Jf:pa s++n.pre++[b]++r=pa s++n.pre++b::r:=bR;refine⟨λt g' q ht=>?_,λt g' q ht=>?_,λt g' q ht hm=>?_,λt g' q ht e V=>?_,?_,λt g' q ht hr=>?_,λt g' q ht=>?_⟩
 .obtain⟨rfl,rfl⟩|⟨rfl,rfl⟩|⟨e1,e2,ht⟩:=get t g' q ht;.simp only[ak kU.symm];rw[n1];exact I.len _ _ _ h
  .simp only[cA];rw[m1,Jf];exact K
  .simp only[ak e2];exact I.len _ _ _ ht
 .obtain⟨rfl,rfl⟩|⟨rfl,rfl⟩|⟨e1,e2,ht⟩:=get t g' q ht;.rw[n3];exact kL (I.kj _ _ _ h) _ _
  .rw[m2];exact List.Pairwise.nil
  .exact I.kj _ _ _ ht
 .obtain⟨rfl,rfl⟩|⟨rfl,rfl⟩|⟨e1,e2,ht⟩:=get t g' q ht;.simp only[ak kU.symm];rw[n1];exact I.aJ _ _ _ h (n2▸hm)
  .simp only[cA];rw[m1,Jf];exact hp
  .simp only[ak e2];exact I.aJ _ _ _ ht hm
 .obtain⟨rfl,rfl⟩|⟨rfl,rfl⟩|⟨e1,e2,ht⟩:=get t g' q ht
  .rw[n3]at V;rcases(ui (I.kj _ _ _ h)).1 V with rfl|⟨_,V⟩
   .exact⟨⟨m,by rw[fq kU,eS]⟩,by simp only[cA,ak kU.symm];rw[n1],by simp only[cA]⟩
   .have⟨⟨m',W⟩,F,h3⟩:=I.kD _ _ _ h e V;exact⟨put _ _ _ W,by simp only[ak (old W),ak kU.symm];rw[n1];exact F,by simp only[ak (old W)];exact h3⟩
  .rw[m2]at V;cases V
  .have⟨⟨m',W⟩,F,h3⟩:=I.kD _ _ _ ht e V;exact⟨put _ _ _ W,by simp only[ak (old W),ak e2];exact F,by simp only[ak (old W)];exact h3⟩
 .have⟨⟨m',W⟩,F⟩:=I.rt;exact⟨put _ _ _ W,by simp only[ak (old W)];exact F⟩
 .have kD:∀{e:UInt8×Hd},e∈n.k.l->e∈n'.k.l:=λ{e} w=>by rw[n3];exact(ui (I.kj _ _ _ h)).2 (.inr ⟨λq=>(mU (I.kj _ _ _ h)).1 D e.2 (q▸w),w⟩)
  by_cases e1:t=x.X;.exact⟨_,_,by rw[au e1,eS],(b,x),by rw[n3];exact(ui (I.kj _ _ _ h)).2 (.inl Z),e1.symm⟩
  have:∃g0 m0,σ t=J (g0,m0):=by
   exact auL
  have⟨g0,m0,h0⟩:=this;have⟨gp,np,a1,e,a2,a3⟩:=I.up t _ _ h0 hr;rw[ak e1];by_cases w:par t=s;.rw[w]at a1;obtain⟨rfl,rfl⟩:=some_inj h a1;exact⟨_,_,(by rw[w];exact eS),e,kD a2,a3⟩
  .exact⟨gp,np,by rw[fq w,fq (old a1)];exact a1,e,a2,a3⟩
 .obtain⟨rfl,rfl⟩|⟨rfl,rfl⟩|⟨e1,e2,ht⟩:=get t g' q ht
  .refine⟨λw=>by rw[n1];exact(I.ne _ _ _ h).1 w,λw=> .inr ?_⟩;have K:O (pz n.k.l b x)=O n.k.l+1:=by rw[DC,<-vF,D];rfl
   rw[n2,n3,K];obtain hd|hd|hd:=hk
   .exact absurd hd w
   .exact .inl hd
   .exact .inr U
  .have⟨⟨m',W⟩,_⟩:=I.rt;exact⟨λw=>absurd w (old W).symm,λ_=> .inr (.inl mh)⟩
  .exact⟨(I.ne _ _ _ ht).1,λw=>((I.ne _ _ _ ht).2 w).imp (λhd=>(hex t hd).resolve_left e1) id⟩
def AI.split(I:AI Pk σ aO pa par ex){s g n}(h:σ s=J (g,n)){x:Hd}(L:σ x.X=B)(A:c<O n.pre){lw H:Ax}(l1:lw.pre=n.pre.drop (c+1))(l2:lw.has=n.has)(l3:lw.k.l=n.k.l)
 (W:H.pre=n.pre.take c) (F:H.has=M->Pk (pa s++n.pre.take c)) (h3:H.k.l=[(n.pre.getD c 0,x)]) (hex:∀t,ex t->ex' t) (hns:¬ex s) (hh:H.has=M\/ex' s):
 AI Pk (pR (pR σ x.X (J (x.bo,lw))) s (J (g,H))) aO (λt=>if t=x.X then pa s++n.pre.take c++[n.pre.getD c 0]else pa t) (λt=>if t=x.X then s else if par t=s/\∃e∈n.k.l,e.2.X=t then x.X else par t) ex':=by
 have kU:x.X≠s:=λe=>by rw[e,h]at L;cases L
 have old:∀{t g' m},σ t=J (g',m)->t≠x.X:=λht e=>by rw[e,L]at ht;cases ht
 have get:∀t g' q,pR (pR σ x.X (J (x.bo,lw))) s (J (g,H)) t=J (g',q)->(t=s/\q=H)\/(t=x.X/\q=lw)\/(t≠s/\t≠x.X/\σ t=J (g',q)):=by
  exact atz
 have put:∀t g' q,σ t=J (g',q)->∃q',pR (pR σ x.X (J (x.bo,lw))) s (J (g,H)) t=J (g',q'):=by
  exact aup
 have Ni:n.pre=n.pre.take c++[n.pre.getD c 0]++n.pre.drop (c+1):=by
  have e1:n.pre.getD c 0=n.pre[c]:=by simp[List.getD,A]
  rw[e1,aA,EU,<-cM A,bA]
 have X5:pa s++n.pre.take c++[n.pre.getD c 0]++n.pre.drop (c+1)=pa s++n.pre:=by rw[aA,aA,<-aA (n.pre.take c),<-Ni]
 refine⟨λt g' q ht=>?_,λt g' q ht=>?_,λt g' q ht hm=>?_,λt g' q ht e V=>?_,?_,λt g' q ht hr=>?_,λt g' q ht=>?_⟩
 .obtain⟨rfl,rfl⟩|⟨rfl,rfl⟩|⟨e1,e2,ht⟩:=get t g' q ht;.simp only[ak kU.symm];rw[W];have:=I.len _ _ _ h;simp only[aq,ax]at this⊢;omega
  .simp only[cA];rw[l1,X5];exact I.len _ _ _ h
  .simp only[ak e2];exact I.len _ _ _ ht
 .obtain⟨rfl,rfl⟩|⟨rfl,rfl⟩|⟨e1,e2,ht⟩:=get t g' q ht;.rw[h3];exact BP _ _
  .rw[l3];exact I.kj _ _ _ h
  .exact I.kj _ _ _ ht
 .obtain⟨rfl,rfl⟩|⟨rfl,rfl⟩|⟨e1,e2,ht⟩:=get t g' q ht;.simp only[ak kU.symm];rw[W];exact F hm
  .simp only[cA];rw[l1,X5];exact I.aJ _ _ _ h (l2▸hm)
  .simp only[ak e2];exact I.aJ _ _ _ ht hm
 .obtain⟨rfl,rfl⟩|⟨rfl,rfl⟩|⟨e1,e2,ht⟩:=get t g' q ht
  .rw[h3]at V;have V:e=(n.pre.getD c 0,x):=Mf V
   subst V;exact⟨⟨lw,by rw[fq kU,eS]⟩,by simp only[cA,ak kU.symm];rw[W],by simp only[cA]⟩
  .rw[l3]at V;have⟨⟨m',k1⟩,k2,k3⟩:=I.kD _ _ _ h e V;refine⟨put _ _ _ k1,by simp only[ak (old k1),cA];rw[l1,X5];exact k2,?_⟩;simp only[ak (old k1)];rw[au ⟨k3,e,V,Z⟩]
  .have⟨⟨m',k1⟩,k2,k3⟩:=I.kD _ _ _ ht e V;refine⟨put _ _ _ k1,by simp only[ak (old k1),ak e2];exact k2,?_⟩;simp only[ak (old k1)];rw[ak (λhh=>e1 (k3▸hh.1))];exact k3
 .have⟨⟨m',k1⟩,k2⟩:=I.rt;exact⟨put _ _ _ k1,by simp only[ak (old k1)];exact k2⟩
 .by_cases e1:t=x.X;.exact⟨_,_,by rw[au e1,eS],(n.pre.getD c 0,x),by rw[h3];exact .head _,e1.symm⟩
  have:∃g0 m0,σ t=J (g0,m0):=by
   exact auL
  have⟨g0,m0,h0⟩:=this;have⟨gp,np,a1,e,a2,a3⟩:=I.up t _ _ h0 hr;rw[ak e1];by_cases w:par t=s;.rw[w]at a1;obtain⟨rfl,rfl⟩:=some_inj h a1;rw[au ⟨w,e,a2,a3⟩];exact⟨x.bo,lw,by rw[fq kU,eS],e,by rw[l3];exact a2,a3⟩
  .rw[ak (λhd=>w hd.1)];exact⟨gp,np,by rw[fq w,fq (old a1)];exact a1,e,a2,a3⟩
 .have sr:s≠aO.X:=λw=>by rw[(I.ne _ _ _ h).1 w]at A;exact absurd A (cp _)
  obtain⟨rfl,rfl⟩|⟨rfl,rfl⟩|⟨e1,e2,ht⟩:=get t g' q ht;.exact⟨λw=>absurd w sr,λ_=>hh.elim (λw=> .inr (.inl w)) .inl⟩
  .have⟨⟨m',k1⟩,_⟩:=I.rt;exact⟨λw=>absurd w (old k1).symm,λ_=>by rw[l2,l3];exact .inr (((I.ne _ _ _ h).2 sr).resolve_left hns)⟩
  .exact⟨(I.ne _ _ _ ht).1,λw=>((I.ne _ _ _ ht).2 w).imp (hex t) id⟩
def AI.drop(I:AI Pk σ aO pa par ex){s g n}(h:σ s=J (g,n)){b y}(D:(b,y)∈n.k.l){n':Ax}(n1:n'.pre=n.pre)(n2:n'.has=n.has)(n3:n'.k.l=qz n.k.l b)(hex:∀t,ex t->t=y.X\/ex' t)(L:ex' s)(hy:∀g m,σ y.X=J (g,m)->m.k.l=[]):
 AI Pk (pR (pR σ s (J (g,n'))) y.X B) aO pa par ex':=by
 have rM:=I.kj _ _ _ h;have CR:y.X≠s:=I.EC h D;have get:∀t g' q,pR (pR σ s (J (g,n'))) y.X B t=J (g',q)->t≠y.X/\((t=s/\q=n')\/(t≠s/\σ t=J (g',q))):=by
  intro t g' q ht;by_cases e:t=y.X;.subst e;rw[eS]at ht;cases ht
  .rw[fq e]at ht;refine⟨e,?_⟩;by_cases e':t=s;.subst e';rw[eS]at ht;injection ht with ht;injection ht with _ ht;exact .inl ⟨Z,ht.symm⟩
   .rw[fq e']at ht;exact .inr ⟨e',ht⟩
 have put:∀t g' q,t≠y.X->σ t=J (g',q)->∃q',pR (pR σ s (J (g,n'))) y.X B t=J (g',q'):=by
  intro t g' q cD ht;by_cases e:t=s;.subst e;obtain⟨rfl,rfl⟩:=some_inj h ht;exact⟨_,by rw[fq cD,eS]⟩
  .exact⟨q,by rw[fq cD,fq e];exact ht⟩
 refine⟨λt g' q ht=>?_,λt g' q ht=>?_,λt g' q ht hm=>?_,λt g' q ht e V=>?_,?_,λt g' q ht hr=>?_,λt g' q ht=>?_⟩
 .obtain⟨_,⟨rfl,rfl⟩|⟨_,ht⟩⟩:=get t g' q ht;.rw[n1];exact I.len _ _ _ h
  .exact I.len _ _ _ ht
 .obtain⟨_,⟨rfl,rfl⟩|⟨_,ht⟩⟩:=get t g' q ht;.rw[n3];exact mG rM _
  .exact I.kj _ _ _ ht
 .obtain⟨_,⟨rfl,rfl⟩|⟨_,ht⟩⟩:=get t g' q ht;.rw[n1];exact I.aJ _ _ _ h (n2▸hm)
  .exact I.aJ _ _ _ ht hm
 .obtain⟨_,⟨rfl,rfl⟩|⟨cD,ht⟩⟩:=get t g' q ht;.rw[n3]at V;have⟨q1,q2⟩:=(vQ rM).1 V;have⟨⟨m',k1⟩,k2,k3⟩:=I.kD _ _ _ h e q2;exact⟨put _ _ _ (λhh=>q1 (by rw[(I.one h h q2 D hh).2])) k1,by rw[n1];exact k2,k3⟩
  .have⟨⟨m',k1⟩,k2,k3⟩:=I.kD _ _ _ ht e V;exact⟨put _ _ _ (λhh=>cD (I.one ht h V D hh).1) k1,k2,k3⟩
 .have⟨⟨m',k1⟩,k2⟩:=I.rt;exact⟨put _ _ _ (I.M3 h D).symm k1,k2⟩
 .have⟨ty,ht⟩:=get t g' q ht;have:∃g0 m0,σ t=J (g0,m0):=by
   obtain⟨rfl,rfl⟩|⟨_,ht⟩:=ht;.exact⟨_,_,h⟩
   .exact⟨_,_,ht⟩
  have⟨g0,m0,h0⟩:=this;have⟨gp,np,a1,e,a2,a3⟩:=I.up t _ _ h0 hr;have py:par t≠y.X:=λw=>by rw[w]at a1;rw[hy _ _ a1]at a2;cases a2
  by_cases w:par t=s;.rw[w]at a1;obtain⟨rfl,rfl⟩:=some_inj h a1;exact⟨_,_,(by rw[fq py,w];exact eS),e,by rw[n3];exact(vQ rM).2 ⟨λhd=>ty (by rw[<-a3,rM.uniq (y:=e.2) (y':=y) (hd▸a2) D]),a2⟩,a3⟩
  .exact⟨gp,np,by rw[fq py,fq w];exact a1,e,a2,a3⟩
 .obtain⟨ty,⟨rfl,rfl⟩|⟨_,ht⟩⟩:=get t g' q ht;.exact⟨λw=>by rw[n1];exact(I.ne _ _ _ h).1 w,λ_=> .inl L⟩
  .exact⟨(I.ne _ _ _ ht).1,λw=>((I.ne _ _ _ ht).2 w).imp (λhd=>(hex t hd).resolve_left ty) id⟩
def AI.join(I:AI Pk σ aO pa par ex){s g n}(h:σ s=J (g,n)){b y}(K:n.k.l=[(b,y)]){m}(hy:σ y.X=J (y.bo,m)){n':Ax}(n1:n'.pre=n.pre++[b]++m.pre)(n2:n'.has=m.has)(n3:n'.k.l=m.k.l)(sr:s≠aO.X)(hex:∀t,ex t->t=s\/ex' t)(hny:¬ex y.X):
 AI Pk (pR (pR σ y.X B) s (J (g,n'))) aO pa (λt=>if par t=y.X/\∃e∈m.k.l,e.2.X=t then s else par t) ex':=by
 have D:(b,y)∈n.k.l:=K▸(aV.2 Z)
 have CR:y.X≠s:=I.EC h D;have⟨_,y2,y3⟩:=I.kD _ _ _ h _ D;have y2:pa y.X=pa s++n.pre++[b]:=y2;have X5:pa s++(n.pre++[b]++m.pre)=pa y.X++m.pre:=by rw[y2];simp
 have get:∀t g' q,pR (pR σ y.X B) s (J (g,n')) t=J (g',q)->t≠y.X/\((t=s/\q=n')\/(t≠s/\σ t=J (g',q))):=by
  intro t g' q ht;by_cases e:t=s;.subst e;rw[eS]at ht;injection ht with ht;injection ht with _ ht;exact⟨CR.symm,.inl ⟨Z,ht.symm⟩⟩
  .rw[fq e]at ht;by_cases e':t=y.X;.subst e';rw[eS]at ht;cases ht
   .rw[fq e']at ht;exact⟨e',.inr ⟨e,ht⟩⟩
 have put:∀t g' q,t≠y.X->σ t=J (g',q)->∃q',pR (pR σ y.X B) s (J (g,n')) t=J (g',q'):=by
  intro t g' q cD ht;by_cases e:t=s;.subst e;obtain⟨rfl,rfl⟩:=some_inj h ht;exact⟨_,eS⟩
  .exact⟨q,by rw[fq e,fq cD];exact ht⟩
 refine⟨λt g' q ht=>?_,λt g' q ht=>?_,λt g' q ht hm=>?_,λt g' q ht e V=>?_,?_,λt g' q ht hr=>?_,λt g' q ht=>?_⟩
 .obtain⟨_,⟨rfl,rfl⟩|⟨_,ht⟩⟩:=get t g' q ht;.rw[n1,X5];exact I.len _ _ _ hy
  .exact I.len _ _ _ ht
 .obtain⟨_,⟨rfl,rfl⟩|⟨_,ht⟩⟩:=get t g' q ht;.rw[n3];exact I.kj _ _ _ hy
  .exact I.kj _ _ _ ht
 .obtain⟨_,⟨rfl,rfl⟩|⟨_,ht⟩⟩:=get t g' q ht;.rw[n1,X5];exact I.aJ _ _ _ hy (n2▸hm)
  .exact I.aJ _ _ _ ht hm
 .obtain⟨_,⟨rfl,rfl⟩|⟨cD,ht⟩⟩:=get t g' q ht;.rw[n3]at V;have⟨⟨m',k1⟩,k2,k3⟩:=I.kD _ _ _ hy e V;refine⟨put _ _ _ (I.EC hy V) k1,by rw[n1,X5];exact k2,?_⟩;show(if _ then _ else _)=_;rw[au ⟨k3,e,V,Z⟩]
  .rename_i zQ;have⟨⟨m',k1⟩,k2,k3⟩:=I.kD _ _ _ ht e V;refine⟨put _ _ _ (λhh=>cD (I.one ht h V D hh).1) k1,k2,?_⟩;show(if _ then _ else _)=_;rw[ak (λhh=>zQ (k3▸hh.1))];exact k3
 .have⟨⟨m',k1⟩,k2⟩:=I.rt;exact⟨put _ _ _ (I.M3 h D).symm k1,k2⟩
 .have⟨ty,ht⟩:=get t g' q ht;have:∃g0 m0,σ t=J (g0,m0):=by
   obtain⟨rfl,rfl⟩|⟨_,ht⟩:=ht;.exact⟨_,_,h⟩
   .exact⟨_,_,ht⟩
  have⟨g0,m0,h0⟩:=this;have⟨gp,np,a1,e,a2,a3⟩:=I.up t _ _ h0 hr;show∃g'' m'',pR (pR σ y.X B) s (J (g,n')) (if par t=y.X/\∃e∈m.k.l,e.2.X=t then s else par t)=J (g'',m'')/\∃e∈m''.k.l,e.2.X=t;by_cases w:par t=y.X;.rw[w]at a1;obtain⟨rfl,rfl⟩:=some_inj hy a1;rw[au ⟨w,e,a2,a3⟩];exact⟨_,_,eS,e,by rw[n3];exact a2,a3⟩
  .rw[ak (λhd=>w hd.1)];by_cases hd:par t=s;.rw[hd]at a1;obtain⟨rfl,rfl⟩:=some_inj h a1;rw[K]at a2;exact absurd (by rw[<-a3,aV.1 a2]) ty
   .exact⟨gp,np,by rw[fq hd,fq w];exact a1,e,a2,a3⟩
 .obtain⟨ty,⟨rfl,rfl⟩|⟨ts,ht⟩⟩:=get t g' q ht;.exact⟨λw=>absurd w sr,λ_=>by rw[n2,n3];exact .inr (((I.ne _ _ _ hy).2 (I.M3 h D)).resolve_left hny)⟩
  .exact⟨(I.ne _ _ _ ht).1,λw=>((I.ne _ _ _ ht).2 w).imp (λhd=>(hex t hd).resolve_left ts) id⟩
def AI.Mm(I:AI Pk σ aO pa par ex)(h:∀s g n,σ s=J (g,n)->ex s->s=aO.X\/ex' s\/n.has=M\/2<=O n.k.l):AI Pk σ aO pa par ex':=
 ⟨I.len,I.kj,I.aJ,I.kD,I.rt,I.up,λs g n G=>⟨(I.ne _ _ _ G).1,λw=>((I.ne _ _ _ G).2 w).elim (λhd=>(h _ _ _ G hd).resolve_left w) .inr⟩⟩
end
def Ax.cells(n:Ax):List u:=[cg n.pre,cg n.val,bW n.has,.ptr n.k.nb 0]
def Ax.av(n:Ax):u:= .agg n.cells
def ajk{h a k ok}:nS prog h 295 a k ok=FQ (.pointer B) (mapOf h a) k ok:=HW NV Fy aeo
def ai1{h b k v}:sv prog h 295 (.mp b) k v=Q1 h b (N h b) k v:=LS NV Fy
attribute[go_sem] ajk ai1
abbrev Qx.ok(a:Ar Ax)(h:aE)(Y:Nat):Prop:=Ar.ok Ax.cells 297 300 a h Y
def akt:=RB [(3,[MO z9 10,MO [] 11,RX]),(4,[MO z10 11,MO [] 12,RX])]
def alo(a:Ar Ax)(h Y)(ok:Qx.ok a h Y)(e:iB Ax)(V:e∈a.es):UP 291 [.ptr a.ab 0,(Hd.mk e.X e.bo).av] h Y (dG (.dY [.ptr e.bT 0,bW M]) h Y):=by have⟨j,hj⟩:=Eb ok.ng V;have hf:=ok.fr e V;have X4:=ok.la;have RE:=ok.lm;refine az.pc 2 akt func291 ?_;simp+decide-dsimp only[f291,go_sem,akt,Hd.av,Hd.cells,ok.ar,ok.mp,ok.cl e V,(U:¬(a.ab=Y)),(U:¬(a.mb=Y)),(U:¬(e.bT=Y)),hj];exact .of (aG.refl.set (an _)) (.cw ⟨hf.2.2,trivial,trivial⟩)
def afq(a:Ar Ax)(h Y)(ok:Qx.ok a h Y)(e:iB Ax)(V:e∈a.es):UP 278 [.ptr a.ab 0,(Hd.mk e.X e.bo).av] h Y (dG (.dY [.ptr e.bT 1,bW M]) h Y):=by
 have hf:=ok.fr e V;refine az.pc 2 T0 func278 ?_;have LX:Qx.ok a (aI h Y (.cells (Hd.mk e.X e.bo).cells 245)) (Y+1):=by
  exact atm
 have c:=alo a _ _ LX e V;rw[Hd.av,Hd.cells]at c;refine J7 f278.eq_1 @Hd.av.eq_1 @Hd.cells.eq_1 ?_;exact atC
def aos(h Y pb):UP 130 [.ptr pb 0] h Y λv Q E=>∃ab mb,Y<=ab/\Y<=mb/\¬(ab=mb)/\ab<E/\mb<E/\v= .ptr ab 0/\N Q ab=J (.cells [.ptr pb 0,.mp mb] 297)/\N Q mb=J (.map [] 0)/\aG Y h Q:=by refine az.ac 1 T0 func130 (Xf f130.eq_1 ?_);exact⟨Y+1,Y,U,U,U,U,U,Z,by rw[au Z],by rw[ak U,au Z],(aG.refl.set (an _)).set (bG _)⟩
def aku:=RB [(6,[(z10,[3,5,7,8],J 11),RX])]
def aqQ(a:Ar Ax)(p:bp)(h Y)(ok:Qx.ok a h Y)(ug:p.ok h Y)(sp:Sep a p)(A:p.fr.count M≠0)(x):
 UP 131 [.ptr a.ab 0,.agg (Ax.cells x)] h Y λv Q E=>∃i bT,i<O p.fr/\p.fr.getD i R=M/\v= .dY [(Hd.mk i (p.gs.getD i 0)).av,int 0]/\
  ({p with fr:=p.fr.set i R}:bp).ok Q E/\Qx.ok {a with ck:=a.ck+1,es:=a.es++[⟨i,bT,a.ck,p.gs.getD i 0,x⟩]} Q E/\Y<=bT/\UE Y a p h Q:=by
 have l1:=ug.tD;have l2:=ug.tJ;have l3:=ug.tM;have X4:=ok.la;have RE:=ok.lm;have s1:=sp.sa;have s2:=sp.sm;refine az.ac 2 aku func131 ?_;have d1:¬(a.ab=Y):=U;have d2:¬(a.ab=Y+1):=U;simp+decide-dsimp only[f131,go_sem,ok.ar,sp.pb,d1,d2];refine cm (afK p _ _ (ug.aW (aG.set (aG.set .refl (an _)) (bG _)) U) A) λ_ W cC l4 ⟨i,H,ht,e,q1,q2⟩=>?_;subst e;have k1:N W a.ab=J (.cells [.ptr p.pb 0,.mp a.mb] 297):=by rw[q2 _ U s1.1 s1.2.1 s1.2.2,Xg d2,Xg d1,ok.ar,sp.pb]
 have k2:N W a.mb=J (.map (a.es.map iB.row) a.ck):=by rw[q2 _ U s2.1 s2.2.1 s2.2.2,Xg U,Xg U,ok.mp]
 have k3:N W Y=J (.cells (Ax.cells x) 256):=by rw[q2 _ U U U U,Xg U,aj,au Z]
 have k4:N W (Y+1)=J (.cells [int 0,u64 0] 245):=by rw[q2 _ U U U U,aj,au Z]
 have hm:=xe (k:=i) a.es 0 λe V G=>by have:=(sp.taken e V).2;rw[G,ht]at this;cases this
 simp+decide-dsimp only[go_sem,aku,Hd.av,Hd.cells,k1,k2,k3,k4,(U:¬(a.ab=cC)),(U:¬(a.mb=cC)),(U:¬(Y=cC)),(U:¬(Y+1=cC)),(U:¬(a.ab=cC+1+10)),(U:¬(a.mb=cC+1+10)),(U:¬(Y=cC+1+10)),(U:¬(Y+1=cC+1+10)),(U:¬(cC=a.mb)),(U:¬(Y+1=a.mb)),hm,Ax.cells,reduceAdd];exact atb
variable{body yJ:Code}{d size:Nat}{r0:nR}{xZ:FuncId}
section
variable{P:Program}{xt:FuncId->Option Ext}
def aiL(P:Program)(l:Nat)(args:List u)(h:aE)(Y:Nat)(hl:u->aE->Nat->Prop)(_:Kp hl):Prop:=ko P l args h Y hl
def ast{d op ty po af g hl s h Y l args k}:EW P (J (.round l args)) ⟨⟨d,op,ty,po,af,g⟩,hl,s,h,Y⟩ k=aiL P l args h Y (λv Q E=>hl (iz d s v) Q E) .mk:=bQ Z
def ko.mono{l}{K':u->aE->Nat->Prop}(hr:ko P l args h Y hl)(hk:∀v Q E,hl v Q E->K' v Q E):ko P l args h Y K':=by have⟨r,cX,W,F,h3⟩:=hr;exact⟨r,cX,W,F,λwait cs zxQ hq=>h3 wait cs zxQ λv Q E q=>hq v Q E (hk v Q E q)⟩
def SV{l}(A:ko P l args h Y h'){k:Kp hl}(hk:∀v Q E,h' v Q E->hl v Q E):aiL P l args h Y hl k:=A.mono hk
def amA(o:Option AO)(l:Nat)(args:List u):Option ER:=match o with
 |some (.loop r)=>if O r.params=O args then J (.round l args)else B
 |_=>B
def afH{l}:p8 P xt h (.um l) args=amA (N h l) l args:=bQ Z
def RP{r l}:amA (J (.loop r)) l args=if O r.params=O args then J (.round l args)else B:=bQ Z
def RP1(l:Nat)(r0 rb:nR)(h2:BT u->aE->Nat->Prop):jT:=λe s h Y=>match e with
 | .jg=>N h l=J (.loop r0)/\h2 s (aI h l (.loop rb)) Y
 |_=>False
def RP2(l:Nat)(r0 rb:nR)(hl:u->aE->Nat->Prop):jT:=λe s h Y=>match e with
 | .jg=>N h l=J (.loop rb)/\hl (.g (.bool M)) (aI h l (.loop r0)) Y
 | .ret=>N h l=J (.loop rb)/\hl (.g (.bool R)) (aI h l (.loop (r0.iD .done (J .ret)))) Y
 | .out _=>False
def VY{l r0 rb h2 s h Y}:RP1 l r0 rb h2 .jg s h Y=Ff (N h l=J (.loop r0)) (h2 s (aI h l (.loop rb)) Y) .mk:=bQ Z
def Wn{l r0 rb hl s h Y}:RP2 l r0 rb hl .jg s h Y=Ff (N h l=J (.loop rb)) (hl (.g (.bool M)) (aI h l (.loop r0)) Y) .mk:=bQ Z
def ZP{l r0 rb hl s h Y}:RP2 l r0 rb hl .ret s h Y=Ff (N h l=J (.loop rb)) (hl (.g (.bool R)) (aI h l (.loop (r0.iD .done (J .ret)))) Y) .mk:=bQ Z
def ko.mk(pk:PK P xt)(T){l rb}{cX:BT u}(K:N h l=J (.loop r0))(hp:kr r0.params args r0.size r0.cX=J cX)
 (G:r0.state= .ready) (hpd:r0.pending=B) (D:rb=r0.iD .busy B)
 (d1:iW r0.size r0.assign=M) (d2:iW r0.size r0.body=M) (p1:fR P T r0.assign=M) (p2:fR P T r0.body=M)
 (hw:h1 P xt T r0.assign (RP1 l r0 rb (h1 P xt T r0.body (RP2 l r0 rb hl))) cX h Y):ko P l args h Y hl:=by
 refine ko.ahB P xt pk T K hp d1 d2 p1 p2 (Hi P xt _ _ _ (λe s h Y V=>?_) _ _ _ hw);cases e with
 |ret=>exact V
 |out id=>exact V
 |jg=>
  refine⟨r0,V.1,G,?_⟩;rw[hpd,<-D];refine Hi P xt _ _ _ (λe s h Y V=>?_) _ _ _ V.2;have e1:rb.iD .ready B=r0:=by subst D;obtain⟨a,b,_⟩:=r0;have G:a= .ready:=G;have hpd:b=B:=hpd;subst G;subst hpd;rfl
  have e2:rb.iD .done (J .ret)=r0.iD .done (J .ret):=by subst D;rfl
  cases e with
  |ret=>exact⟨rb,V.1,by rw[e2];exact V.2⟩
  |out id=>exact V
  |jg=>exact⟨rb,V.1,by rw[e1];exact V.2⟩
def ko.mk2(pk:PK P xt)(T){l x y}{s:BT u}{p q}
 (xH:r0=⟨.ready,B,xZ,s,size,[p,q],yJ,body,d⟩) (K:N h l=J (.loop r0)) (z:(decide (p<size)&&decide (q<size)&&iW size yJ&&iW size body&&fR P T yJ&&fR P T body)=M)
 (hw:∀rb,h1 P xt T yJ (RP1 l r0 rb (h1 P xt T body (RP2 l r0 rb hl))) (sset (sset s p x) q y) h Y):ko P l [x,y] h Y hl:=by
 simp only[aS,fK]at z;have⟨⟨⟨⟨⟨a1,a2⟩,a3⟩,a4⟩,a5⟩,a6⟩:=z;refine ko.mk (r0:=r0) (cX:=sset (sset s p x) q y) pk T K ?_ (by rw[xH]) (by rw[xH]) Z (xH▸a3) (xH▸a4) (xH▸a5) (xH▸a6) ?_;.rw[xH];show(if p<size then(if q<size then _ else B)else B)=_;rw[au a1,au a2];rfl
 .have:=hw (r0.iD .busy B);have e1:r0.assign=yJ:=by rw[xH]
  have e2:r0.body=body:=by rw[xH]
  rw[e1,e2];exact this
def aeV{a b}:jf (.seq a b)=(jf a||jf b):=bQ Z
def XD{i b}:jf (.block i b)=jf b:=bQ Z
def Ut{a b c d}:jf (.rangeFunc a b c d)=M:=bQ Z
def Zx{a b c}:jf (.cond a b c)=R:=bQ Z
def Ql{a b c}:jf (.region a b c)=R:=bQ Z
def Q0(P:Program)(xt:FuncId->Option Ext)(Ti:Nat->dr)(xZ:FuncId)(size:Nat)(g:u)(ps:Array Tmp)(yJ body:Code)(nx':Option Nat->jT)(s:BT u)(h:aE)(Y:Nat)(_:Kp yJ)(_:Kp body)(_:Kp nx'):Prop:=
 ∃f cap fn c,g= .fn f cap/\P.funcs[f]?=J fn/\xt f=B/\fn.body=J c/\fn.results.toList=[]/\O cap+1<=fn.ntmps/\iW fn.ntmps c=M/\fR P Ti c=M/\
  h1 P xt Ti c (λe s' Q E=>match e with
   | .out _=>False
   |_=>∃r,N Q (Y+1)=J (.loop r)/\r.state≠ .busy/\(r.pending=B/\nx' (J Y) .jg s (aI Q (Y+1) (.loop (r.iD .exhausted r.pending))) E\/r.pending=J .ret/\nx' (J Y) .ret s (aI Q (Y+1) (.loop (r.iD .exhausted r.pending))) E))
   (eK (.um (Y+1)::cap) 0 .nil) (aI (aI h Y (.defs (J []))) (Y+1) (.loop ⟨.ready,B,xZ,s,size,ps.toList,yJ,body,Y⟩)) (Y+2)
@[congr] theorem agl{Ti:Nat->dr}{xZ:FuncId}{size:Nat}{g g':u}{ps:Array Tmp}{yJ body:Code}{nx':Option Nat->jT}{s:BT u}{h:aE}{Y:Nat}{a b c}(e:g=g'):Q0 P xt Ti xZ size g ps yJ body nx' s h Y a b c=Q0 P xt Ti xZ size g' ps yJ body nx' s h Y a b c:=by rw[e]
def af2{T Ti xZ size a b nx' s h Y}:WR P xt T Ti xZ size (.seq a b) nx' s h Y=F4 (jf a) (WR P xt T Ti xZ size a (λd=>jT.seq (h1 P xt T b (nx' d)) (nx' d)) s h Y) (h1 P xt T a (jT.seq (WR P xt T Ti xZ size b nx') (nx' B)) s h Y) .mk .mk:=bQ Z
def V0{T Ti xZ size id c nx' s h Y}:WR P xt T Ti xZ size (.block id c) nx' s h Y=WR P xt T Ti xZ size c (λd=>jT.bT id (nx' d)) s h Y:=bQ Z
def Xr{T Ti xZ size g ps yJ body nx' s h Y}:WR P xt T Ti xZ size (.rangeFunc g ps yJ body) nx' s h Y=Q0 P xt Ti xZ size (qw s g) ps yJ body nx' s h Y .mk .mk .mk:=bQ Z
def akc{l:List Operand}{ev:Operand->u}:qFn (.func f) #[] l.toArray ev=J (.val (.fn f (l.map ev))):=bQ Z
end
attribute[go_sem↓] af2 V0 Xr aeV XD Ut Zx Ql
attribute[go_sem] VY Wn ZP akc ast afH RP Bool.or_false qP CM PC
variable{nx':jT}{FN hia zT:Nat}{h0:aE}{ps:Array Tmp}
def ai4:=RB [(6,[([0,1,2,4,5,6],[0,2,4,5],J 3),([],[4,5,6],J 7),MO [] 8,MO [] 9,RX])]
structure Clo(h:aE)(Y H a b:Nat)(hl hi:u)(l:KL):Prop where
 ha:N h a=J (.cells [hl] 46)
 D:N h b=J (.cells [hi] 243)
 k:Own jU 5 1 h hl (kf l)
 h:Own Hd.cells 245 2 h hi (kh l)
 ia:Y<=a/\a<H
 ib:Y<=b/\b<H
 ik:In Y H hl
 ih:In Y H hi
def apf{l:KL}{a hl hi hx}(Inv:Nat->aE->Nat->Prop)(K:O l<60000)(o:Clo h0 FN hia a b hl hi l)
 (hk:∀i h Y,Inv i h Y->∀c,(c=a\/c=b\/cu hl=J c\/cu hi=J c)->N h c=N h0 c) (H:Inv 0 h0 zT)
 (jS:∀i h Y,i<O l->Inv i h Y->(∃r,N h hx=J (.loop r)/\O r.params=2)/\ko prog hx [u8 (((kf l).getD i 0).toNat:Nat),.agg ((kh l).getD i default).cells] h Y (λv Q E=>v=bW M/\Inv (i+1) Q E))
 (V:∀s h Y,Inv (O l) h Y->nx' .jg s h Y):
 h1 prog xt (λ_=>[]) (f290.body.getD .skip) nx' (eK [.um hx,.ptr a 0,.ptr b 0] 0 .nil) h0 zT:=by
 simp+decide-dsimp only[f290,go_sem,o.ha,o.k.len];refine cI _ _ (λm s Q E=>∃i,i<=O l/\m=O l-i/\X s 0= .um hx/\X s 1= .ptr a 0/\X s 2= .ptr b 0/\X s 6=hl/\X s 7=int (O l)/\X s 8=int i/\Inv i Q E) (n:=O l) ?_ ?_;.refine QZ ?_;exact⟨0,aQ _,Z,bR,Z,H⟩
 rintro m s Q E ⟨i,H,rfl,s0,s1,s2,s6,s7,s8,hI⟩;have ET:=hk i Q E hI;by_cases uk:i<O l
 .have hkf:i<O (kf l):=Mf uk
  obtain⟨kb,cap,hc,e1,e2,e3,e4,e5⟩:=(o.k.aW (Q:=Q) λc e=>ET c (.inr (.inr (.inl e)))).sl gr;obtain⟨Su,zyQ,q1,q2,q3,q4⟩:=(o.h.aW (Q:=Q) λc e=>ET c (.inr (.inr (.inr e)))).idx iE oE (Mf uk);rw[(bR:O (kf l)=O l)]at e1;rw[e1]at s6
  have⟨⟨r,hr,hp⟩,hR⟩:=jS i Q E uk hI;simp+decide-dsimp only[go_sem,s0,s2,s6,s7,s8,uk,e2,CH e5 hkf,(ET b (.inr (.inl Z))).trans o.D,q2,q3,q4,hr,hp,reduceAdd];refine SV hR λv F dR ⟨e,hI2⟩=>?_;subst e;refine YM s0 s1 s2 s6 s7 s8 (U:i+1<9223372036854775808) ?_;exact⟨_,(U:O l-(i+1)<_),i+1,uk,Z,e1.symm,Z,hI2⟩
 .have:i=O l:=U;subst this;simp+decide-dsimp only[go_sem,s7,s8,dz];exact V _ _ _ hI
def Nw{l:KL}{a hl hi}{nx':Option Nat->jT}{s:BT u}{ka kb kc}(K:O l<60000)(o:Clo h FN hia a b hl hi l)(arU:hia<=Y)
 (hp:O ps.toList=2) (lX:∀r0:nR,r0=⟨.ready,B,xZ,s,size,ps.toList,yJ,body,Y⟩->∃Inv:Nat->aE->Nat->Prop,Inv 0 (aI (aI h Y (.defs (J []))) (Y+1) (.loop r0)) (Y+2)/\
  (∀i Q E,Inv i Q E->N Q (Y+1)=J (.loop r0)/\∀c,(c=a\/c=b\/cu hl=J c\/cu hi=J c)->N Q c=N h c)/\
  (∀i Q E,i<O l->Inv i Q E->ko prog (Y+1) [u8 (((kf l).getD i 0).toNat:Nat),.agg ((kh l).getD i default).cells] Q E (λv Q E=>v=bW M/\Inv (i+1) Q E))/\
  (∀Q E,Inv (O l) Q E->nx' (J Y) .jg s (aI Q (Y+1) (.loop (r0.iD .exhausted B))) E)):
 Q0 prog xt (λ_=>[]) xZ size (.fn 290 [.ptr a 0,.ptr b 0]) ps yJ body nx' s h Y ka kb kc:=by
 obtain⟨r0,xH⟩:∃r0:nR,r0=⟨.ready,B,xZ,s,size,ps.toList,yJ,body,Y⟩:=⟨_,Z⟩;have⟨Inv,H,hk,jS,V⟩:=lX r0 xH
 have Xj:r0.state= .ready:=by rw[xH]
 have Ya:r0.pending=B:=by rw[xH]
 refine⟨290,_,_,f290.body.getD .skip,Z,func290,aK,Z,Z,by show 3<=_;decide,aK,aK,?_⟩;rw[<-xH];have q:∀c,c<Y->N (aI (aI h Y (.defs (J []))) (Y+1) (.loop r0)) c=N h c:=λc A=>by rw[Xg,Xg]
 have ia:=o.ia;have ib:=o.ib;refine apf Inv K ⟨by rw[q a U];exact o.ha,by rw[q b U];exact o.D,o.k.aW λc e=>q c (EB (o.ik c e)),o.h.aW λc e=>q c (EB (o.ih c e)),o.ia,o.ib,o.ik,o.ih⟩ (λi Q E hI c A=>?_) H (λi Q E uk hI=>⟨⟨r0,(hk i Q E hI).1,xH▸hp⟩,jS i Q E uk hI⟩) (λs' Q E hI=>?_)
 .rw[(hk i Q E hI).2 c A,q c];obtain rfl|rfl|e|e:=A
  .omega
  .omega
  .have:=o.ik c e;omega
  .have:=o.ih c e;omega
 .exact⟨r0,(hk _ _ _ hI).1,(by rw[Xj];exact λe=>(by cases e)),.inl ⟨Ya,by rw[Ya];exact V _ _ hI⟩⟩
def Db(l):rG l 0=l[0]?:=by
 cases l with
 |nil=>rfl
 |cons x l=>simp[rG]
def Me{l}(G:gC l)(H:i<O l):rG l (l[i].1.toNat+1)=l[i+1]?:=by
 have dc:∀{i j:Nat} (hj:j<O l) (EN:i<j),l[i].1<l[j].1:=λ{i j} hj EN=>by have:=G.lt (l:=kf l) EN (Mf hj);simpa[List.getD,hj,show i<O l from U]using this
 by_cases h:i+1<O l
 .rw[aF h];refine yB h (λj hj KX=>?_) ?_
  .obtain q|q:=bB j i;.have:=dN.1 (dc H q);omega
   .have:j=i:=U;subst this;omega
  .have:=dN.1 (dc h (aZ i));omega
 .rw[ed U];refine yE λj hj=>?_;obtain q|q:=bB j i
  .have:=dN.1 (dc H q);omega
  .have:j=i:=U;subst this;omega
def R0(e:UInt8×Hd):K7 (J e)= .dY [u8 (e.1.toNat:Nat),.agg [int e.2.X,u64 e.2.bo],bW M]:=rfl
def afE(k:KN)(h:aE)(Y:Nat)(o:k.ok h Y):az prog 276 [.ptr k.nb 0] h Y λv Q E=>∃a b hl hi,v= .fn 290 [.ptr a 0,.ptr b 0]/\Clo Q Y E a b hl hi k.l/\aG Y h Q:=by
 have ob:=o.bT;have dc:=o.lt;have rM:=o.sh.Rd;have cf:=rM.len;refine az.ac 1 ai4 func276 ?_;simp+decide-dsimp only[f276,go_sem];refine bc (afN k 0 U _ _ (o.same ((aG.refl.set (an _)).set U) U)) ?_;rw[Db];have key:∀o:Option (UInt8×Hd),∃(x:Nat) (y:Hd),K7 o= .dY [u8 (x:Int),.agg [int y.X,u64 y.bo],bW o.isSome]/\∀e,o=J e->x=e.1.toNat/\y=e.2:=λo=>by
  cases o with
  |none=>exact⟨0,⟨0,0⟩,Z,λe h=>by cases h⟩
  |some e=>exact⟨e.1.toNat,e.2,Z,λe' h=>by cases h;exact⟨Z,Z⟩⟩
 obtain⟨x0,y0,er,e0⟩:=key k.l[0]?;rw[er];refine QZ ?_;refine cI _ _ (λm s Q E=>∃(i x D:Nat) (y:Hd) (hl hi:u),i<=O k.l/\m=O k.l-i/\(∀e,k.l[i]?=J e->x=e.1.toNat/\y=e.2)/\X s 0= .ptr k.nb 0/\X s 3= .ptr Y 0/\X s 4= .ptr (Y+1) 0/\X s 5=u8 x/\X s 6= .ptr D 0/\X s 7=bW k.l[i]?.isSome/\
  Y+2<=D/\D<E/\N Q D=J (.cells [int y.X,u64 y.bo] 245)/\N Q Y=J (.cells [hl] 46)/\N Q (Y+1)=J (.cells [hi] 243)/\Own jU 5 1 Q hl (kf (k.l.take i))/\Own Hd.cells 245 2 Q hi (kh (k.l.take i))/\In (Y+2) E hl/\In (Y+2) E hi/\cu hl≠J D/\cu hi≠J D/\(∀b,cu hl=J b->cu hi≠J b)/\aG Y h Q/\Y+2<=E) (n:=O k.l) ?_ ?_
 .refine QZ ?_;refine⟨0,x0,Y+2,y0,.g (.slice B 0 0),.g (.slice B 0 0),aQ _,Z,e0,?_⟩;refine⟨Z,Z,Z,U,U,by simp[aj],by simp[aj],by simp[aj],.inl ⟨Z,Z⟩,.inl ⟨Z,Z⟩,.nil,.nil,(λe=>by cases e),(λe=>by cases e),(λb e=>by cases e),?_⟩
  exact ata
 rintro m s Q E ⟨i,x,D,y,hl,hi,H,rfl,Ie,s0,s3,s4,s5,s6,s7,g1,g2,g3,g4,g5,oK,oH,iK,iH,dK,dH,dKH,mA,tn⟩;by_cases uk:i<O k.l
 .have DF:k.l[i]?=J k.l[i]:=aF uk;obtain⟨rfl,rfl⟩:=Ie _ DF;simp+decide-dsimp only[go_sem,ai4,s3,s4,s5,s6,s7,g3,g4,g5,DF,(U:¬(Y=E+2)),(U:¬(Y+1=E+2)),(U:¬(D=E+2)),(U:¬(Y=E+6)),(U:¬(Y+1=E+6)),(U:¬(D=E+6)),rA,cL,cV,reduceAdd];refine lN (c:=jU) (oK.aW λq e'=>?_) Wa (λ_=>rfl) gr k.l[i].1 ?_;.have:=iK q e';rw[Xg,Xg]
  intro K' W cC l1 p1 p2 p3;replace l1:E+10<=cC:=l1;replace p2:∀b,cu K'=J b->cu hl=J b\/(E+10<=b/\b<cC):=p2;have q3:∀b,b<E+10->b≠E+2->b≠E+6->cu hl≠J b->N W b=N Q b:=λb W F h3 h4=>by rw[p3 b W h4,aj,ak h3,aj,ak F]
  have r1:N W (Y+1)=J (.cells [hi] 243):=by rw[q3 _ U U U (λe=>by have:=iK _ e;omega)];exact g5
  have r2:N W D=J (.cells [int k.l[i].2.X,u64 k.l[i].2.bo] 245):=by rw[q3 _ U U U dK];exact g3
  have r4:N W Y=J (.cells [hl] 46):=by rw[q3 _ U U U (λe=>by have:=iK _ e;omega)];exact g4
  refine YM s4 s6 r1 r2 (by rw[p3 _ (by show E+6<E+10;omega) (λe=>by have:=iK _ e;omega),Sr]:N W (E+6)=J (.cells [int k.l[i].2.X,u64 k.l[i].2.bo] 245)) @cL @cV ?_;refine lN (c:=Hd.cells) (oH.aW λq e'=>?_) iE (λ_=>rfl) gr k.l[i].2 ?_;.have:=iH q e';exact q3 _ U U U (λe=>dKH _ e e')
  intro H' F dR l2 u1 u2 u3;have v1:N F (Y+1)=J (.cells [hi] 243):=by rw[u3 _ U (λe=>by have:=iH _ e;omega)];exact r1
  have v4:N F Y=J (.cells [hl] 46):=by rw[u3 _ U (λe=>by have:=iH _ e;omega)];exact r4
  simp+decide-dsimp only[go_sem,s0,s3,s4,s5,s6,v1,((u3 _ U dH)▸r2:N F D=J (.cells [int k.l[i].2.X,u64 k.l[i].2.bo] 245)),v4,(U:¬(D=Y)),(U:¬(D=Y+1)),p1.cells.1,p1.cells.2,u1.cells.1,u1.cells.2,reduceAdd];have w1:k.l[i].1.toNat+1<9223372036854775808:=by have:=k.l[i].1.toNat_lt;omega
  have sm:aG Y h F:=λb iQ=>by rw[u3 b U (λe=>by have:=iH _ e;omega),q3 b U U U (λe=>by have:=iK _ e;omega)];exact mA b iQ
  have f3:¬(D=dR):=U;have f4:¬(Y=dR):=U;have f5:¬(Y+1=dR):=U;refine Xf w1 ?_;refine bc (afN k (k.l[i].1.toNat+1) (by have:=k.l[i].1.toNat_lt;omega) _ _ (o.same ?_ U)) ?_
  .repeat' first|exact sm|apply aG.fo|(apply aG.set;rotate_left;omega)
  rw[Me rM uk];obtain⟨x1,y1,er,e0⟩:=key k.l[i+1]?;rw[er];refine RC s0 s3 s4 s5 s6 s7 ?_;have ek:kf (k.l.take (i+1))=kf (k.l.take i)++[k.l[i].1]:=(bj uk)▸dm
  have eh:kh (k.l.take (i+1))=kh (k.l.take i)++[k.l[i].2]:=(bj uk)▸dm
  have iK2:∀b,cu K'=J b->Y+2<=b/\b<dR:=λb e=>by
   obtain q|q:=p2 b e;.have:=iK b q;omega
   .omega
  have iH2:∀b,cu H'=J b->Y+2<=b/\b<dR:=λb e=>by
   obtain q|q:=u2 b e;.have:=iH b q;omega
   .omega
  have dK2:∀b,cu K'=J b->cu H'≠J b:=λb e e'=>by
   rcases p2 b e with q|q<;>obtain r|r:=u2 b e';.exact dKH b q r
   .have:=iK b q;omega
   .have:=iH b r;omega
   .omega
  refine⟨_,(U:O k.l-(i+1)<_),i+1,x1,dR,y1,K',H',uk,Z,e0,Z,Z,Z,U,U,?_,?_,?_,?_,?_,λb e=>?_,λb e=>?_,?_,?_,dK2,?_,U⟩;.rw[au Z]
  .simp+decide [f4]
  .simp+decide [f5]
  .rw[ek];refine p1.aW λq e=>?_;have a1:=iK2 q e;have a2:q<cC:=by
    obtain r|r:=p2 q e;.have:=iK q r;omega
    .omega
   have a3:cu hi≠J q:=λe'=>by
    obtain r|r:=p2 q e;.exact dKH q r e'
    .have:=iH q e';omega
   rw[Xg,Xg,Xg,Xg,Xg,u3 q a2 a3]
  .rw[eh];refine u1.aW λq e=>?_;have a1:=iH2 q e;rw[Xg,Xg,Xg,Xg,Xg]
  .have:=iK2 b e;omega
  .have:=iH2 b e;omega
  .exact λe=>by have:=iK2 _ e;omega
  .exact λe=>by have:=iH2 _ e;omega
  .repeat' first|exact sm|apply aG.fo|(apply aG.set;rotate_left;omega)
 .have:i=O k.l:=U;subst this;simp+decide-dsimp only[go_sem,s3,s4,s7,(ed (an _):k.l[O k.l]?=B),oa];rw[fF]at oK oH;exact⟨_,_,hl,hi,Z,⟨g4,g5,oK,oH,⟨U,U⟩,⟨U,U⟩,iK.le U (an _),iH.le U (an _)⟩,mA⟩
variable{a:u}
structure jP(Y:Nat)(k k':KN)(h Q:aE):Prop where
 nb:k'.nb=k.nb
 own:∀b,k'.own b->k.own b\/Y<=b
 aW:∀b,b<Y->¬k.own b->N Q b=N h b
def af'(t:TypeId):FuncId:=if t=301 then 365 else if t=432 then 382 else 386
def Vk(t:TypeId):FuncId:=if t=301 then 362 else if t=432 then 379 else 383
def mN.ty{k}(o:mN h Y k):k.t=301\/k.t=432\/k.t=433:=by
 cases o with
 |kj e _ _=>exact .inl e
 |idx _ _ _ e=>exact .inr (.inl e)
 |dir _ _ e=>exact FF e
def NX{t}(ht:t=301\/t=432\/t=433){h v a b}:Ru prog xt h (nj prog t "marshalling/artnode.set") v [a,b]=J (.enter (af' t) [v,a,b]):=by rcases ht with rfl|rfl|rfl<;>simp+decide [go_sem,af']
def ae3(ht:t=301\/t=432\/t=433){v}:Ru prog xt h (nj prog t "marshalling/artnode.drop") v [a]=J (.enter (Vk t) [v,a]):=by rcases ht with rfl|rfl|rfl<;>simp+decide [go_sem,Vk]
def ShQ(k:KN)(l':KL)(h:aE)(Y:Nat):u->aE->Nat->Prop:=λv Q E=>v= .dY []/\∃K' H',mN Q E {k with l:=l',hl:=K',hi:=H'}/\
 (∀b,b<Y->b≠k.sb->cu k.hl≠J b->cu k.hi≠J b->N Q b=N h b)/\∀b,cu K'=J b\/cu H'=J b->cu k.hl=J b\/cu k.hi=J b\/Y<=b
def OC{k}(o:mN h Y k)(x:UInt8)(y:Hd)(K:k.t=432->hasB (kf k.l) x=M\/O k.l<48):UP (af' k.t) [.ptr k.sb 0,u8 x.toNat,y.av] h Y (ShQ k (pz k.l x y) h Y):=by
 cases o with
 |kj e1 e2 s=>rw[e1];refine(aoO k.l k.sb k.hl k.hi x y _ _ s).mono _ ?_;rintro v Q E ⟨K',H',rfl,s',q1,q2⟩;exact⟨Z,K',H',.kj e1 e2 s',λb W F h3 h4=>(q1 b W F h3 h4).symm,q2⟩
 |idx pl ks us e1 e2 e3 e4 e5 s zxQ=>
  have K:=K e1;rw[e1];refine(anD pl ks us k.l k.sb x y _ _ s zxQ K).mono _ ?_;rintro v Q E ⟨rfl,⟨CG,HA,ZO,s',R'⟩,q⟩;refine⟨Z,k.hl,k.hi,.idx CG HA ZO e1 e2 ?_ e4 e5 s' R',λb W F _ _=>q b W F,λb D=>D.imp id .inl⟩;show O (pz k.l x y)<=48;rw[DC];obtain h|h:=K
  .rw[au h];exact e3
  .split<;>omega
 |dir ks G e1 e2 e4 e5 s zxQ=>rw[e1];refine(aqy ks G k.l k.sb x y _ _ s zxQ).mono _ ?_;rintro v Q E ⟨rfl,⟨HA,lS,s',R'⟩,q⟩;exact⟨Z,k.hl,k.hi,.dir HA lS e1 e2 e4 e5 s' R',λb W F _ _=>q b W F,λb D=>D.imp id .inl⟩
def af9{k}(o:mN h Y k)(x:UInt8):UP (Vk k.t) [.ptr k.sb 0,u8 x.toNat] h Y (ShQ k (qz k.l x) h Y):=by
 cases o with
 |kj e1 e2 s=>rw[e1];refine(aq1 k.l k.sb k.hl k.hi x _ _ s).mono _ ?_;rintro v Q E ⟨K',H',rfl,s',q1,q2,q3⟩;exact⟨Z,K',H',.kj e1 e2 s',λb W F h3 h4=>(q1 b W F h3 h4).symm,λb D=>by rw[q2,q3]at D;exact D.imp id .inl⟩
 |idx pl ks us e1 e2 e3 e4 e5 s zxQ=>rw[e1];refine(an5 pl ks us k.l k.sb x _ _ s zxQ).mono _ ?_;rintro v Q E ⟨rfl,⟨CG,HA,ZO,s',R'⟩,q⟩;refine⟨Z,k.hl,k.hi,.idx CG HA ZO e1 e2 ?_ e4 e5 s' R',λb W F _ _=>q b W F,λb D=>D.imp id .inl⟩;show O (qz k.l x)<=48;rw[DI];omega
 |dir ks G e1 e2 e4 e5 s zxQ=>rw[e1];refine(ap' ks G k.l k.sb x _ _ s zxQ).mono _ ?_;rintro v Q E ⟨rfl,⟨HA,lS,s',R'⟩,q⟩;exact⟨Z,k.hl,k.hi,.dir HA lS e1 e2 e4 e5 s' R',λb W F _ _=>q b W F,λb D=>D.imp id .inl⟩
def abm:ajN.map .g=pC (List.replicate 256 0) (List.replicate 48 ⟨0,0⟩) (List.replicate 48 R):=aK
def abH:aiO.map .g=rS (List.replicate 256 ⟨0,0⟩) (List.replicate 256 R):=aK
def RI{l}(G:gC l)(H:i<O l):pz (l.take i) ((kf l).getD i 0) ((kh l).getD i default)=l.take (i+1):=by
 have ek:kf (l.take i)=(kf l).take i:=uB;have oM:i<O (kf l):=Mf H
 have cf:O (kf (l.take i))=i:=by rw[ek,ax];omega
 have hp:mD (kf (l.take i)) ((kf l).getD i 0)=i:=by
  have W:=Hq (kf (l.take i)) ((kf l).getD i 0);obtain q|q:=bB (mD (kf (l.take i)) ((kf l).getD i 0)) i
  .have:=Dr (ek▸(List.Pairwise.sublist (List.take_sublist _ _) G)) (an _) (by rw[cf];exact q);refine absurd ?_ this;rw[ek,jj (ek▸q)];have q':=q;rw[ek]at q';exact G.lt (l:=kf l) q' oM
  .omega
 have hh:hasB (kf (l.take i)) ((kf l).getD i 0)=R:=by unfold hasB;rw[hp,cf];simp
 unfold pz;rw[hh,ak bR,hp,bI,dZ,List.drop_eq_nil_of_le gr,bj H]
 congr 2
 simp[List.getD,H]
def akZ(k:KN)(kind:Nat)(hk:kind=4\/kind=16\/(kind=48/\O k.l<=48)\/kind=256)(h:aE)(Y:Nat)(o:k.ok h Y):
 az prog 294 [.ptr k.nb 0,int kind] h Y λv Q E=>v= .dY []/\∃k',k'.l=k.l/\k'.kind=kind/\k'.ok Q E/\jP Y k k' h Q:=by
 have ob:=o.bT;have dc:=o.lt;have rM:=o.sh.Rd;have cf:=rM.len;have n48:((48:Nat):Int)=48:=rfl;have anP:((256:Nat):Int)=256:=rfl;have n16:((16:Nat):Int)=16:=rfl;have n4:((4:Nat):Int)=4:=rfl;refine az.Jm prog xt pk (λ_=>[]) (λ_=>[]) func294 (c:=f294.body.getD .skip) Z Z aK aK (by show 2<=_;decide) ?_;have d1:¬(k.nb=Y):=U;have d2:¬(k.nb=Y+1):=U;have early:∀q:Nat,(q=4\/q=16)->k.t=301->∃vs,J []=J vs/\one vs= .dY []/\∃k',k'.l=k.l/\k'.kind=q/\k'.ok (aI (aI h Y (.cells [.g .nilIface] 305)) k.nb (.cells [.lP 301 (.ptr k.sb 0),int q,int (O k.l)] 307)) (Y+1)/\jP Y k k' h (aI (aI h Y (.cells [.g .nilIface] 305)) k.nb (.cells [.lP 301 (.ptr k.sb 0),int q,int (O k.l)] 307)):=by
  intro q hq ht;refine⟨[],Z,Z,{k with kind:=q},Z,Z,⟨by rw[aj,au Z,<-ht],?_,by show k.nb<_;omega,o.d1,o.d2,o.d3⟩,⟨Z,λb D=> .inl D,λb D hn=>by rw[aj,ak (λe=>hn (.inl e)),aj,ak U]⟩⟩;cases o.sh with
  |kj a1 a2 s=>
   have:mN h Y {k with kind:=q}:= .kj a1 hq s;refine this.aW (λb D=>?_) U;have a1:=this.lt b D;have a2:b≠k.nb:=by
    rcases D with e|e|e;.exact λe'=>o.d1 (by rw[<-e',e])
    .exact λe'=>o.d2 (by rw[<-e'];exact e)
    .exact λe'=>o.d3 (by rw[<-e'];exact e)
   rw[aj,ak a2,aj,ak U]
  |idx _ _ _ e=>rw[ht]at e;cases e
  |dir _ _ e=>rw[ht]at e;cases e
 rcases hk with rfl|rfl|⟨rfl,aoS⟩|rfl
 case' inr.inr.inl=>
  simp+decide-dsimp only[f294,go_sem,n48,abm];generalize hH:aI (aI (aI h Y _) (Y+1) _) Y _=H0;have e1:N H0 Y=J (.cells [.lP 432 (.ptr (Y+1) 0)] 305):=by rw[<-hH,aj,au Z]
  obtain⟨kd,sD,EO⟩:∃kd:Nat,kd=48/\mN H0 (Y+2) ⟨k.nb,Y+1,432,kd,[],.g (.slice B 0 0),.g (.slice B 0 0)⟩:=⟨48,Z,.idx _ _ _ Z Z (aQ _) Z Z ⟨by rw[<-hH];simp[aj],bR,bR,bR,by show Y+1<_;omega⟩ .nil⟩;obtain⟨t2,e1,EO,EG⟩:∃t2:TypeId,N H0 Y=J (.cells [.lP t2 (.ptr (Y+1) 0)] 305)/\mN H0 (Y+2) ⟨k.nb,Y+1,t2,kd,[],.g (.slice B 0 0),.g (.slice B 0 0)⟩/\(t2=432->O k.l<=48):=⟨432,e1,EO,λ_=>aoS⟩
 case' inr.inr.inr=>
  simp+decide-dsimp only[f294,go_sem,anP,abH];generalize hH:aI (aI (aI h Y _) (Y+1) _) Y _=H0;have e1:N H0 Y=J (.cells [.lP 433 (.ptr (Y+1) 0)] 305):=by rw[<-hH,aj,au Z]
  obtain⟨kd,sD,EO⟩:∃kd:Nat,kd=256/\mN H0 (Y+2) ⟨k.nb,Y+1,433,kd,[],.g (.slice B 0 0),.g (.slice B 0 0)⟩:=⟨256,Z,.dir _ _ Z Z Z Z ⟨by rw[<-hH];simp[aj],bR,bR,by show Y+1<_;omega⟩ .nil⟩;obtain⟨t2,e1,EO,EG⟩:∃t2:TypeId,N H0 Y=J (.cells [.lP t2 (.ptr (Y+1) 0)] 305)/\mN H0 (Y+2) ⟨k.nb,Y+1,t2,kd,[],.g (.slice B 0 0),.g (.slice B 0 0)⟩/\(t2=432->O k.l<=48):=⟨433,e1,EO,λe=>by cases e⟩
 case' inl=>
  have ht:k.t=301\/(k.t=432\/k.t=433):=by
   cases o.sh with
   |kj e _ _=>exact .inl e
   |idx _ _ _ e=>exact .inr (.inl e)
   |dir _ _ e=>exact .inr (.inr e)
  rcases ht with e|e|e
 case' inr.inl=>
  have ht:k.t=301\/(k.t=432\/k.t=433):=by
   cases o.sh with
   |kj e _ _=>exact .inl e
   |idx _ _ _ e=>exact .inr (.inl e)
   |dir _ _ e=>exact .inr (.inr e)
  rcases ht with e|e|e
 case' inl.inl=>simp+decide-dsimp only[f294,go_sem,n4,ob,e,d1];exact early 4 (.inl Z) e
 case' inr.inl.inl=>simp+decide-dsimp only[f294,go_sem,n16,ob,e,d1];exact early 16 (.inr Z) e
 case' inl.inr.inl=>
  simp+decide-dsimp only[f294,go_sem,n4,ob,e,d1];generalize hH:aI (aI (aI h Y _) (Y+1) _) Y _=H0;have e1:N H0 Y=J (.cells [.lP 301 (.ptr (Y+1) 0)] 305):=by rw[<-hH,aj,au Z]
  obtain⟨kd,sD,EO⟩:∃kd:Nat,kd=4/\mN H0 (Y+2) ⟨k.nb,Y+1,301,kd,[],FB,FB⟩:=⟨4,Z,.kj Z (.inl Z) ⟨by rw[<-hH];simp[aj],.inl ⟨Z,Z⟩,.inl ⟨Z,Z⟩,List.Pairwise.nil,.nil,.nil,by show Y+1<_;omega,(λe=>by cases e),(λe=>by cases e),(λb e=>by cases e)⟩⟩;obtain⟨t2,e1,EO,EG⟩:∃t2:TypeId,N H0 Y=J (.cells [.lP t2 (.ptr (Y+1) 0)] 305)/\mN H0 (Y+2) ⟨k.nb,Y+1,t2,kd,[],FB,FB⟩/\(t2=432->O k.l<=48):=⟨301,e1,EO,λe=>by cases e⟩
 case' inl.inr.inr=>
  simp+decide-dsimp only[f294,go_sem,n4,ob,e,d1];generalize hH:aI (aI (aI h Y _) (Y+1) _) Y _=H0;have e1:N H0 Y=J (.cells [.lP 301 (.ptr (Y+1) 0)] 305):=by rw[<-hH,aj,au Z]
  obtain⟨kd,sD,EO⟩:∃kd:Nat,kd=4/\mN H0 (Y+2) ⟨k.nb,Y+1,301,kd,[],FB,FB⟩:=⟨4,Z,.kj Z (.inl Z) ⟨by rw[<-hH];simp[aj],.inl ⟨Z,Z⟩,.inl ⟨Z,Z⟩,List.Pairwise.nil,.nil,.nil,by show Y+1<_;omega,(λe=>by cases e),(λe=>by cases e),(λb e=>by cases e)⟩⟩;obtain⟨t2,e1,EO,EG⟩:∃t2:TypeId,N H0 Y=J (.cells [.lP t2 (.ptr (Y+1) 0)] 305)/\mN H0 (Y+2) ⟨k.nb,Y+1,t2,kd,[],FB,FB⟩/\(t2=432->O k.l<=48):=⟨301,e1,EO,λe=>by cases e⟩
 case' inr.inl.inr.inl=>
  simp+decide-dsimp only[f294,go_sem,n16,ob,e,d1];generalize hH:aI (aI (aI h Y _) (Y+1) _) Y _=H0;have e1:N H0 Y=J (.cells [.lP 301 (.ptr (Y+1) 0)] 305):=by rw[<-hH,aj,au Z]
  obtain⟨kd,sD,EO⟩:∃kd:Nat,kd=16/\mN H0 (Y+2) ⟨k.nb,Y+1,301,kd,[],FB,FB⟩:=⟨16,Z,.kj Z (.inr Z) ⟨by rw[<-hH];simp[aj],.inl ⟨Z,Z⟩,.inl ⟨Z,Z⟩,List.Pairwise.nil,.nil,.nil,by show Y+1<_;omega,(λe=>by cases e),(λe=>by cases e),(λb e=>by cases e)⟩⟩;obtain⟨t2,e1,EO,EG⟩:∃t2:TypeId,N H0 Y=J (.cells [.lP t2 (.ptr (Y+1) 0)] 305)/\mN H0 (Y+2) ⟨k.nb,Y+1,t2,kd,[],FB,FB⟩/\(t2=432->O k.l<=48):=⟨301,e1,EO,λe=>by cases e⟩
 case' inr.inl.inr.inr=>
  simp+decide-dsimp only[f294,go_sem,n16,ob,e,d1];generalize hH:aI (aI (aI h Y _) (Y+1) _) Y _=H0;have e1:N H0 Y=J (.cells [.lP 301 (.ptr (Y+1) 0)] 305):=by rw[<-hH,Sr]
  obtain⟨kd,sD,EO⟩:∃kd:Nat,kd=16/\mN H0 (Y+2) ⟨k.nb,Y+1,301,kd,[],FB,FB⟩:=⟨16,Z,.kj Z (.inr Z) ⟨by rw[<-hH];simp[aj],.inl ⟨Z,Z⟩,.inl ⟨Z,Z⟩,List.Pairwise.nil,.nil,.nil,by show Y+1<_;omega,(λe=>by cases e),(λe=>by cases e),(λb e=>by cases e)⟩⟩;obtain⟨t2,e1,EO,EG⟩:∃t2:TypeId,N H0 Y=J (.cells [.lP t2 (.ptr (Y+1) 0)] 305)/\mN H0 (Y+2) ⟨k.nb,Y+1,t2,kd,[],FB,FB⟩/\(t2=432->O k.l<=48):=⟨301,e1,EO,λe=>by cases e⟩
 all_goals
  have sm0:aG Y h H0:=by
   rw[<-hH]
   exact ata
  refine cm (afE k _ _ (o.same sm0 U)) λ_ W cC l1 ⟨a,b,hl,hi,e2,C,Fa⟩=>?_
  subst e2;refine QZ ?_;refine Nw U C (an _) Z λr0 xH=>⟨λi Q E=>∃Ks Hs,mN Q E ⟨k.nb,Y+1,t2,kd,k.l.take i,Ks,Hs⟩/\N Q Y=J (.cells [.lP t2 (.ptr (Y+1) 0)] 305)/\(∀c,cu Ks=J c\/cu Hs=J c->cC+2<=c)/\
   N Q (cC+1)=J (.loop r0)/\N Q cC=J (.defs (J []))/\(∀c,c<cC->c≠Y+1->N Q c=N W c)/\cC+2<=E,?_,?_,?_,?_⟩
  .refine⟨FB,FB,EO.aW (λb D=>?_) U,?_,λc A=>(by rcases A with e|e<;>cases e),?_,?_,λc A _=>?_,an _⟩
   .have:b=Y+1:=by
     obtain e|e|e:=D;.exact e
     .cases e
     .cases e
    rw[this,Xg,Xg,Fa _ U]
   .rw[Xg,Xg,Fa _ U];exact e1
   .rw[Sr]
   .rw[Xg,Sr]
   .rw[Xg,Xg]
  .rintro i Q E ⟨Ks,Hs,q1,q2,q3,q4,q5,q6,q7⟩;refine⟨q4,λc A=>?_⟩;have:Y+2<=c/\c<cC:=by
    obtain rfl|rfl|e|e:=A;.exact C.ia
    .exact C.ib
    .exact C.ik c e
    .exact C.ih c e
   exact q6 c this.2 U
  .rintro i Q E H ⟨Ks,Hs,q1,q2,q3,q4,q5,q6,q7⟩;have f1:¬(Y=E):=U;have f2:¬(Y=cC+1):=U;have f3:¬(cC+1=E):=U;have f4:¬(E=cC+1):=U;refine ko.mk2 pk (λ_=>[]) xH q4 aK λrb=>?_
   simp+decide-dsimp only[go_sem,q2,q4,f1,f2,f3,f4, @NX t2 q1.ty,Hd.cells,reduceAdd];refine cm (OC (q1.aW (λb D=>?_) U) ((kf k.l).getD i 0) ((kh k.l).getD i default) (λe=> .inr ?_)) λ_ F dR l2 ⟨e,Ks',Hs',u1,u2,u3⟩=>?_
   .have a1:=q1.lt b D;have a2:b≠cC+1:=by
     obtain e|e|e:=D;.have e:b=Y+1:=e;omega
     .have:=q3 b (.inl e);omega
     .have:=q3 b (.inr e);omega
    rw[Xg a2,Xg,Xg]
   .show O (k.l.take i)<48;rw[ax];have:=EG e;omega
   subst e;have key:∀c,c<E->c≠Y+1->c<cC+2->N F c=if c=cC+1 then J (.loop rb)else N Q c:=λc W F h3=>by rw[u2 c U F (λe=>by have:=q3 c (.inl e);omega) (λe=>by have:=q3 c (.inr e);omega),aj,Xg (show¬c=E from U),Xg (show¬c=E from U)]
   have k1:N F (cC+1)=J (.loop rb):=by rw[key _ U U U,au Z]
   refine Xf k1 ?_;refine⟨Ks',Hs',?_,?_,?_,?_,?_,U⟩
   .rw[<-RI rM H];refine u1.aW (λb D=>?_) (an _);have a2:b≠cC+1:=by
     obtain e|e|e:=D;.have e:b=Y+1:=e;omega
     .rcases u3 b (.inl e)with r|r|r;.have:=q3 b (.inl r);omega
      .have:=q3 b (.inr r);omega
      .omega
     .rcases u3 b (.inr e)with r|r|r;.have:=q3 b (.inl r);omega
      .have:=q3 b (.inr r);omega
      .omega
    rw[Xg a2]
   .rw[ak f2,key Y U U U,ak f2];exact q2
   .intro c A;obtain r|r|r:=u3 c A
    .exact q3 c (.inl r)
    .exact q3 c (.inr r)
    .omega
   .rw[key cC U U U,ak U];exact q5
   .intro c W F;rw[ak U,key c U F U,ak U];exact q6 c W F
  .rintro Q E ⟨Ks,Hs,q1,q2,q3,q4,q5,q6,q7⟩;rw[fF]at q1;have k1:=(q6 _ U U).trans ((Fa _ U).trans ((sm0 _ dc).trans ob))
   simp+decide-dsimp only[go_sem,q2,k1,(U:¬(k.nb=cC+1)),(U:¬(Y=cC+1)),(U:¬(cC=cC+1)),(U:¬(cC=k.nb)),q5];subst sD;refine⟨[],Z,Z,⟨k.nb,Y+1,t2,_,k.l,Ks,Hs⟩,Z,Z,⟨by simp[aj,(U:¬(k.nb=cC))],q1.aW (λb D=>?_) U,by show k.nb<_;omega,by omega,λe=>by have:=q3 k.nb (.inl e);omega,λe=>by have:=q3 k.nb (.inr e);omega⟩,⟨Z,λb D=>?_,λb D hn=>?_⟩⟩
   .have a:b=Y+1\/cC+2<=b:=by
     obtain e|e|e:=D;.exact .inl e
     .exact .inr (q3 b (.inl e))
     .exact .inr (q3 b (.inr e))
    have g1:¬(b=cC+1):=U;have g2:¬(b=cC):=U;have g3:¬(b=k.nb):=U;simp[aj,g1,g2,g3]
   .obtain e|e|e|e:=D;.exact .inl (.inl e)
    .have e:b=Y+1:=e;right;omega
    .have:=q3 b (.inl e);right;omega
    .have:=q3 b (.inr e);right;omega
   .have g3:¬(b=k.nb):=λe=>hn (.inl e);simp[aj,(U:¬(b=cC+1)),(U:¬(b=cC)),g3];rw[q6 b U U,Fa b U,sm0 b D]
variable{hi:aE}{k1:KN}{l':KL}{n':Nat}
def MB:=RB [(5,[(z8,[],B)]),(13,[MO z5 6,RX])]
def KP(o):∃y:Hd,Ca o= .dY [.agg [int y.X,u64 y.bo],bW o.isSome]:=⟨o.getD default,Z⟩
def mN.t432{k}(o:mN h Y k)(e:k.t=432):k.kind=48/\O k.l<=48:=by
 cases o with
 |kj e1 _ _=>rw[e]at e1;cases e1
 |idx _ _ _ _ e2 e3=>exact⟨e2,e3⟩
 |dir _ _ e1=>rw[e]at e1;cases e1
def KN.Xu{k v}(lt:k1.nb<n)(tn:Y<=n)
 (d1:k1.nb≠k1.sb) (d2:cu k1.hl≠J k1.nb) (d3:cu k1.hi≠J k1.nb) (St:jP Y k k1 h hi) (q:ShQ k1 l' hi n v Q n'):
 ∃k',k'.l=l'/\k'.nb=k1.nb/\k'.sb=k1.sb/\k'.t=k1.t/\k'.kind=k1.kind/\mN Q n' k'/\cu k'.hl≠J k1.nb/\cu k'.hi≠J k1.nb/\jP Y k k' h Q/\N Q k1.nb=N hi k1.nb:=by
 have⟨_,K',H',u1,u2,u3⟩:=q;refine⟨{k1 with l:=l',hl:=K',hi:=H'},Z,Z,Z,Z,Z,u1,λe=>?_,λe=>?_,⟨St.nb,λb D=>?_,λb D hn=>?_⟩,u2 _ lt d1 d2 d3⟩
 .rcases u3 k1.nb (.inl e)with r|r|r;.exact d2 r
  .exact d3 r
  .omega
 .rcases u3 k1.nb (.inr e)with r|r|r;.exact d2 r
  .exact d3 r
  .omega
 .have hl:∀b,cu K'=J b\/cu H'=J b->k.own b\/Y<=b:=λb e=>by
   obtain r|r|r:=u3 b e;.exact St.own b (FF (.inl r))
   .exact St.own b (Fe r)
   .exact .inr U
  obtain e|e|e|e:=D;.exact St.own b (.inl e)
  .exact St.own b (.inr (.inl e))
  .exact hl b (.inl e)
  .exact hl b (.inr e)
 .have no:∀{p:Prop},k1.own b->p:=λe=>by
   obtain r|r:=St.own b e;.exact absurd r hn
   .omega
  rw[u2 b U (λe=>no (.inr (.inl e))) (λe=>no (FF (.inl e))) (λe=>no (Fe e))];exact St.aW b D hn
def KN.after{k v}(D:N hi k1.nb=J (.cells [.lP k1.t (.ptr k1.sb 0),int k1.kind,int (O l')] 307))(lt:k1.nb<n)(tn:Y<=n)
 (d1:k1.nb≠k1.sb) (d2:cu k1.hl≠J k1.nb) (d3:cu k1.hi≠J k1.nb) (hle:n<=n') (St:jP Y k k1 h hi) (q:ShQ k1 l' hi n v Q n'):∃k',k'.l=l'/\k'.ok Q n'/\jP Y k k' h Q:=by
 have⟨k',e1,e2,e3,e4,e5,sh,q2,q3,S,g⟩:=KN.Xu lt tn d1 d2 d3 St q;exact⟨k',e1,⟨by rw[e2,e3,e4,e5,e1,g];exact D,sh,by rw[e2];omega,by rw[e2,e3];exact d1,by rw[e2];exact q2,by rw[e2];exact q3⟩,S⟩
def jP.same{k}(s:aG Y h Q):jP Y k k h Q:=⟨Z,λ_ h=> .inl h,λb D _=>s b D⟩
def jP.set{k}(s:jP Y k k1 h Q){o}:jP Y k k1 h (aI Q k.nb o):=⟨s.nb,s.own,λb D hn=>by rw[Xg (λe=>hn (.inl e))];exact s.aW b D hn⟩
def jP.more{k}(s:jP Y k k1 h Q)(A:Y<=c){o}:jP Y k k1 h (aI Q c o):=⟨s.nb,s.own,λb D hn=>by rw[Xg];exact s.aW b D hn⟩
def aiB(k:KN)(x:UInt8)(y:Hd)(h:aE)(Y:Nat)(o:k.ok h Y):
 az prog 296 [.ptr k.nb 0,u8 x.toNat,y.av] h Y λv Q E=>(∃b,v=bW b)/\∃k',k'.l=pz k.l x y/\k'.ok Q E/\jP Y k k' h Q:=by
 have ob:=o.bT;have dc:=o.lt;have rM:=o.sh.Rd;have cf:=rM.len;refine az.ac 3 MB func296 ?_;have d1:¬(k.nb=Y):=U;have d2:¬(k.nb=Y+1):=U;have d3:¬(Y=k.nb):=U;have o1:k.ok (aI h Y (.cells [int y.X,u64 y.bo] 245)) (Y+1):=o.same (aG.refl.set (an _)) U;refine J7 f296.eq_1 @Hd.av.eq_1 @Hd.cells.eq_1 ?_;refine bc (aai k _ _ o1) ?_;obtain⟨f,e,c⟩:=Ps o1.sh x;obtain⟨y0,er⟩:=KP (km k.l x);rw[er]at c;refine J7 ob d1 e ?_;refine bc c ?_;rw[vF];have xC:=DC (l:=k.l) (x:=x) (y:=y);cases hh:hasB (kf k.l) x with
 |true=>
  rw[hh,au Z,dP]at xC;simp+decide-dsimp only[go_sem,MB,ob,d1,d2,NX o.sh.ty,reduceAdd];refine cm (OC (o.sh.aW (λb D=>?_) U) x y (λ_=> .inl hh)) λ_ F dR l2 q=>?_;.have:=o.sh.lt b D;rw[Xg,Xg,Xg]
  refine QZ ?_;refine⟨⟨_,Z⟩,KN.after (k:=k) (k1:=k) (Y:=Y) ?_ ?_ ?_ o.d1 o.d2 o.d3 l2 (jP.same ?_) q⟩;.rw[xC];simp[aj,d1,d2,ob]
  .omega
  .omega
  .exact ata
 |false=>
  rw[hh,ak bR]at xC;by_cases hn:O k.l=k.kind
  .have xd:(O k.l:Int)=(k.kind:Int):=U;have NH:∀(q:Nat) (hd:Int),(q:Int)=hd->(q=4\/q=16\/(q=48/\O k.l<=48)\/q=256)->∀hi n,aG Y h hi->Y<=n->az prog 294 [.ptr k.nb 0,int hd] hi n λv Q E=>v= .dY []/\∃k',k'.l=k.l/\k'.kind=q/\k'.ok Q E/\jP n k k' hi Q:=λq hd e hq hi n s l=>by rw[<-e];exact akZ k q hq hi n (o.same s l)
   obtain⟨q,hd,hz,hq,hql,A⟩:∃(q:Nat) (hd:Int),(q:Int)=hd/\(q=4\/q=16\/(q=48/\O k.l<=48)\/q=256)/\(q=48->O k.l<48)/\((k.kind=4/\hd=16)\/(¬k.kind=4/\k.kind=16/\hd=48)\/(¬k.kind=4/\¬k.kind=16/\hd=256)):=by
    by_cases h4:k.kind=4;.exact⟨16,16,Z,.inr (.inl Z),U,.inl ⟨h4,Z⟩⟩
    .by_cases h16:k.kind=16;.exact⟨48,48,Z,.inr (.inr (.inl ⟨Z,U⟩)),U,.inr (.inl ⟨h4,h16,Z⟩)⟩
     .exact⟨256,256,Z,.inr (.inr (.inr Z)),U,.inr (.inr ⟨h4,h16,Z⟩)⟩
   have NH:=NH q hd hz hq;obtain⟨g1,rfl⟩|⟨g1,g2,rfl⟩|⟨g1,g2,rfl⟩:=A
   case' inl=>have i1:(k.kind:Int)=4:=U;simp+decide-dsimp only[go_sem,MB,ob,d1,d2,xd,i1,reduceAdd]
   case' inr.inl=>have i1:(k.kind:Int)=16:=U;simp+decide-dsimp only[go_sem,MB,ob,d1,d2,xd,i1,reduceAdd]
   case' inr.inr=>have i1:¬(k.kind:Int)=4:=U;have i2:¬(k.kind:Int)=16:=U;simp+decide-dsimp only[go_sem,MB,ob,d1,d2,xd,i1,i2,reduceAdd]
   all_goals
    generalize hN:Y+1+1+Array.size _=aw;have hN1:Y+2<=aw:=U;generalize hH:aI (aI (aI h Y _) (Y+1) _) (Y+1) _=hi;have hH0:aG Y h hi:=by
     rw[<-hH]
     exact ata
    have Ja:N hi Y=J (.cells [int y.X,u64 y.bo] 245):=by rw[<-hH];simp[aj]
    refine cm (NH hi aw hH0 U) λ_ F dR l2 ⟨e,k1,r1,r2,Lm,St⟩=>?_
    have kb:N F k.nb=J (.cells [.lP k1.t (.ptr k1.sb 0),int k1.kind,int (O k1.l)] 307):=by rw[<-St.nb];exact Lm.bT
    have ky:N F Y=J (.cells [int y.X,u64 y.bo] 245):=by rw[St.aW Y U (λe=>by have:=o.SI Y e;omega)];exact Ja
    have w1:O k1.l+1<9223372036854775808:=by rw[r1];omega
    simp+decide-dsimp only[go_sem,MB,d3,kb,ky,w1,NX Lm.sh.ty];refine cm (OC (Lm.sh.aW (λb D=>?_) U) x y (λe=> .inr ?_)) λ_ h3 nx3 l3 q=>?_
    .have a2:b≠k.nb:=by
      rw[<-St.nb];obtain e|e|e:=D
      .exact λe'=>Lm.d1 (by rw[<-e',e])
      .exact λe'=>Lm.d2 (e'▸e)
      .exact λe'=>Lm.d3 (e'▸e)
     rw[Xg a2]
    .have:=Lm.sh.t432 e;rw[r1];exact hql U
    refine QZ ?_;rw[r1]at q;have St':jP Y k k1 h F:=⟨St.nb,λb D=>(St.own b D).imp id (λh=>U),λb D hn=>by rw[St.aW b U hn];exact hH0 b D⟩;refine⟨⟨_,Z⟩,KN.after (k:=k) (k1:=k1) (Y:=Y) ?_ ?_ ?_ Lm.d1 Lm.d2 Lm.d3 l3 (jP.set St') q⟩;.rw[xC,aj,au St.nb]
    .rw[St.nb];omega
    .omega
  .have xd:¬(O k.l:Int)=(k.kind:Int):=U;have w1:O k.l+1<9223372036854775808:=U;simp+decide-dsimp only[go_sem,MB,ob,d1,d2,d3,xd,w1,NX o.sh.ty,reduceAdd];refine cm (OC (o.sh.aW (λb D=>?_) U) x y (λe=> .inr (EB (o.sh.t432 e)))) λ_ F dR l2 q=>?_
   .have a1:=o.sh.lt b D;have a2:b≠k.nb:=by
     obtain e|e|e:=D;.exact λe'=>o.d1 (by rw[<-e',e])
     .exact λe'=>o.d2 (e'▸e)
     .exact λe'=>o.d3 (e'▸e)
    rw[Xg a2,Xg,Xg,Xg]
   refine QZ ?_;refine⟨⟨_,Z⟩,KN.after (k:=k) (k1:=k) (Y:=Y) ?_ ?_ ?_ o.d1 o.d2 o.d3 l2 (jP.set (jP.same ?_)) q⟩;.rw[xC,Sr]
   .omega
   .omega
   .exact ata
def jP.trans{Y n k k1 k2 h W F}(a:jP Y k k1 h W)(b:jP n k1 k2 W F)(hn:Y<=n):jP Y k k2 h F:=by
 refine⟨b.nb.trans a.nb,λc A=>?_,λc A oO=>?_⟩
 .obtain r|r:=b.own c A;.exact a.own c r
  .exact .inr U
 .rw[b.aW c U (λe=>by
   obtain r|r:=a.own c e;.exact oO r
   .omega)]
  exact a.aW c A oO
def aqD(k:KN)(x:UInt8)(h Y)(o:k.ok h Y):
 UP 283 [.ptr k.nb 0,u8 x.toNat] h Y λv Q E=>(∃b,v=bW b)/\∃k',k'.l=qz k.l x/\k'.ok Q E/\jP Y k k' h Q:=by
 have ob:=o.bT;have dc:=o.lt;have rM:=o.sh.Rd;have cf:=rM.len;refine az.ac 2 T0 func283 ?_;have d1:¬(k.nb=Y):=U;have d3:¬(Y=k.nb):=U;refine Xf f283.eq_1 ?_;have⟨y0,er⟩:=KP (km k.l x);refine bc (Ys k x _ _ o) ?_;rw[er,vF];have xC:=DI (l:=k.l) (x:=x);cases hh:hasB (kf k.l) x with
 |false=>
  refine QZ ?_;have e:qz k.l x=k.l:=by unfold qz;rw[hh];rfl
  exact⟨⟨_,Z⟩,k,e.symm,o.same ((aG.refl.set (an _)).set (an _)) U,jP.same ((aG.refl.set (an _)).set (an _))⟩
 |true=>
  rw[hh,au Z]at xC;have hp:0<O k.l:=by have:=(nO.1 hh).1;simp at this;omega
  simp+decide-dsimp only[go_sem,ob,d1,ae3 o.sh.ty,reduceAdd];generalize hH:aI (aI h Y _) Y _=hi;have G:aG Y h hi:=by
   rw[<-hH]
   exact ata
  have o1:=o.same G (bG Y);refine cm (af9 o1.sh x) λ_ W n1 l1 q=>?_
  have⟨k1,e1,e2,e3,e4,e5,sh,q2,q3,S,g⟩:=KN.Xu o1.lt (bG Y) o.d1 o.d2 o.d3 (jP.same G) q;rw[o1.bT]at g;rw[<-e2,<-e3,<-e4,<-e5]at g;have hw:cO .i64 ((O k.l:Int)-1)=((O k.l-1:Nat):Int):=qI;rw[<-e2];refine Y8 g hw ?_;have A:O k1.l=O k.l-1:=by rw[e1,xC]
  have Lm:k1.ok (aI W k1.nb (.cells [.lP k1.t (.ptr k1.sb 0),int k1.kind,int (O k.l-1:Nat)] 307)) n1:=by
   refine⟨by rw[Sr,A],sh.aW (λb D=>?_) (an _),by rw[e2];omega,by rw[e2,e3];exact o.d1,by rw[e2];exact q2,by rw[e2];exact q3⟩;have:b≠k1.nb:=by
    rw[e2];obtain e|e|e:=D
    .exact λe'=>o.d1 (by rw[<-e',e,e3])
    .exact λe'=>q2 (e'▸e)
    .exact λe'=>q3 (e'▸e)
   rw[Xg this]
  have S1:jP Y k k1 h (aI W k1.nb (.cells [.lP k1.t (.ptr k1.sb 0),int k1.kind,int (O k.l-1:Nat)] 307)):=e2▸S.set
  generalize hG:aI W k1.nb _=hs at Lm S1⊢;have done:∃k',k'.l=qz k.l x/\k'.ok hs n1/\jP Y k k' h hs:=⟨k1,e1,Lm,S1⟩;have NH:∀(q:Nat) (hd:Int),(q:Int)=hd->(q=4\/q=16\/(q=48/\O k1.l<=48)\/q=256)->UP 294 [.ptr k1.nb 0,int hd] hs n1 λv Q E=>v= .dY []/\∃k',k'.l=qz k.l x/\k'.ok Q E/\jP Y k k' h Q:=λq hd e hq=>by rw[<-e];refine(akZ k1 q hq hs n1 Lm).mono _ ?_;rintro v Q E ⟨r0,k',r1,r2,r3,r4⟩;exact⟨r0,k',r1.trans e1,r3,S1.trans r4 U⟩
  have gb:N hs k1.nb=_:=Lm.bT;cases hsh:Lm.sh with
  |kj a1 a2 s=>
   rw[a1]at gb⊢;by_cases h16:k1.kind=16
   .have i1:(k1.kind:Int)=16:=U;by_cases h3:O k1.l<=3;.have i3:((O k1.l:Int)<=3):=U;simp+decide-dsimp only[go_sem,gb,s.bT,s.k.len,i1,i3,bh];refine cm (NH 4 4 Z (.inl Z)) λ_ F n2 l2 ⟨e,q⟩=>?_;refine QZ ?_;exact⟨⟨_,Z⟩,q⟩
    .have i3:¬((O k1.l:Int)<=3):=U;simp+decide-dsimp only[go_sem,gb,s.bT,s.k.len,i1,i3,bh];exact⟨⟨_,Z⟩,done⟩
   .refine Y8 gb (U:¬(k1.kind:Int)=16) ?_;exact⟨⟨_,Z⟩,done⟩
  |idx pl ks us a1 a2 a3 a4 a5 s zxQ=>
   rw[a1]at gb⊢;by_cases h3:O k1.l<=12;.have i3:((O k1.l:Int)<=12):=U;refine Y8 gb i3 ?_;refine cm (NH 16 16 Z (.inr (.inl Z))) λ_ F n2 l2 ⟨e,q⟩=>?_;refine QZ ?_;exact⟨⟨_,Z⟩,q⟩
   .have i3:¬((O k1.l:Int)<=12):=U;refine Y8 gb i3 ?_;exact⟨⟨_,Z⟩,done⟩
  |dir ks lS a1 a2 a3 a4 s zxQ=>
   rw[a1]at gb⊢;by_cases h3:O k1.l<=36;.have i3:((O k1.l:Int)<=36):=U;refine Y8 gb i3 ?_;refine cm (NH 48 48 Z (FF (.inl ⟨Z,U⟩))) λ_ F n2 l2 ⟨e,q⟩=>?_;refine QZ ?_;exact⟨⟨_,Z⟩,q⟩
   .refine Y8 gb (U:¬((O k1.l:Int)<=36)) ?_;exact⟨⟨_,Z⟩,done⟩
variable{tA tC:TypeId}
def eA.trans{Y cC o0 o1 o2 l0 l1 l2 p p1 p2 h W F}(a:eA Y o0 o1 l0 l1 p p1 h W)(b:eA cC o1 o2 l1 l2 p1 p2 W F)(hn:Y<=cC):eA Y o0 o2 l0 l2 p p2 h F:=by
 refine⟨b.pb.trans a.pb,b.gb.trans a.gb,b.fb.trans a.fb,b.fl.trans a.fl,λs G=>?_,λc A=>?_,λs G=>?_,λc A oO g1 g2 g3=>?_⟩
 .obtain q|q:=a.fr s G
  .obtain r|r:=b.fr s q;.exact .inl r
   .obtain t|t:=a.slt s r;.exact .inr t
    .rw[G]at t;cases t
  .exact .inr q
 .obtain q|q:=b.bl c A;.exact a.bl c q
  .exact .inr U
 .obtain q|q:=b.slt s G;.exact a.slt s q
  .cases hf:p.fr.getD s R with
   |true=>exact .inr Z
   |false=>
    obtain r|r:=a.fr s hf;.rw[r]at q;cases q
    .exact .inl r
 .rw[b.aW c U (λe=>by
   obtain q|q:=a.bl c e;.exact oO q
   .omega) (a.pb▸g1) (a.gb▸g2) (a.fb▸g3)]
  exact a.aW c A oO g1 g2 g3
def eA.same{o l p}(s:aG Y h Q):eA Y o o l l p p h Q:=
 ⟨Z,Z,Z,Z,λ_ h=> .inl h,λ_ h=> .inl h,λ_ h=> .inl h,λb D _ _ _ _=>s b D⟩
structure At where
 tb:Nat
 a:Ar Ax
 aO:Hd
 size:Int
def At.own(t:At)(b:Nat):Prop:=b=t.tb\/t.a.own b\/∃e∈t.a.es,e.x.k.own b
structure At.ok(t:At)(h:aE)(Y:Nat):Prop where
 tr:N h t.tb=J (.cells [.ptr t.a.pb 0,.ptr t.a.ab 0,int t.aO.X,u64 t.aO.bo,.g (.int .i64 t.size),bW R] 258)
 ok:Qx.ok t.a h Y
 d1:t.tb≠t.a.ab
 d2:t.tb≠t.a.mb
 d3:∀e∈t.a.es,e.bT≠t.tb
 lt:t.tb<Y
 kn:∀e∈t.a.es,e.x.k.ok h Y
 kd:∀e∈t.a.es,∀b,e.x.k.own b->b≠t.tb/\¬t.a.own b
 kk:∀e∈t.a.es,∀f∈t.a.es,e.X≠f.X->∀b,e.x.k.own b->¬f.x.k.own b
structure AW(t:At)(p:bp)(h:aE)(Y:Nat):Prop where
 tk:t.ok h Y
 pk:p.ok h Y
 sp:Sep t.a p
 sd:∀b,t.own b->b≠p.pb/\b≠p.gb/\b≠p.fb
def Ar.ye{a:Ar α}{e:iB α}(V:e∈a.es):a.own e.bT:= FF ⟨e,V,Z⟩
def Ar.ok.dL{enc:α->List u}{a:Ar α}(o:Ar.ok enc tA tC a h Y)(D:a.own b):b<Y:=by
 obtain e|e|⟨f,hf,e⟩:=D;.have:=o.la;omega
 .have:=o.lm;omega
 .have:=(o.fr f hf).2.2;omega
def Ar.ok.jw{enc:α->List u}{a:Ar α}(o:Ar.ok enc tA tC a h Y)(s:∀b,a.own b->N Q b=N h b)(hn:Y<=E):Ar.ok enc tA tC a Q E:=
 ⟨by rw[s _ (.inl Z)];exact o.ar,by rw[s _ (.inr (.inl Z))];exact o.mp,λe V=>by rw[s _ (Ar.ye V)];exact o.cl e V,o.ng,o.Ll,λe V=>⟨(o.fr e V).1,(o.fr e V).2.1,aP (o.fr e V).2.2 hn⟩,o.ne,aP o.la hn,aP o.lm hn⟩
def At.ok.dL{t:At}{h Y}(o:t.ok h Y){b}(D:t.own b):b<Y:=by
 obtain e|e|⟨f,hf,e⟩:=D;.rw[e];exact o.lt
 .exact o.ok.dL e
 .exact(o.kn f hf).SI b e
def At.ok.aW{t:At}{h Q Y E}(o:t.ok h Y)(s:∀b,t.own b->N Q b=N h b)(hn:Y<=E):t.ok Q E:=
 ⟨by rw[s _ (.inl Z)];exact o.tr,o.ok.jw (λb D=>s b (.inr (.inl D))) hn,o.d1,o.d2,o.d3,aP o.lt hn,λe V=>(o.kn e V).aW (λb D=>s b (FF ⟨e,V,D⟩)) hn,o.kd,o.kk⟩
def AW.aW{t p h Q Y E}(o:AW t p h Y)(s:aG Y h Q)(hn:Y<=E):AW t p Q E:=
 ⟨o.tk.aW (λb D=>s b (o.tk.dL D)) hn,o.pk.aW s hn,o.sp,o.sd⟩
def Ar.qm{a:Ar α}{s:Nat}{x:α}{b:Nat}:({a with es:=jC a.es s x}:Ar α).own b↔a.own b:=by
 constructor
 .rintro(e|e|⟨f,hf,e⟩);.exact .inl e
  .exact .inr (.inl e)
  .have⟨g,hg,_,e2,_⟩:=fO hf;exact FF ⟨g,hg,e2.trans e⟩
 .rintro(e|e|⟨f,hf,e⟩);.exact .inl e
  .exact .inr (.inl e)
  .exact .inr (.inr auI)
def Ar.IN{a:Ar α}{s:Nat}{x:α}{q:Nat}:({a with es:=jC a.es s x}:Ar α).sl q↔a.sl q:=by
 constructor;.rintro⟨f,hf,e⟩;have⟨g,hg,e1,_⟩:=fO hf;exact⟨g,hg,e1.trans e⟩
 .rintro⟨f,hf,e⟩;exact auI
def Sep.upd{a:Ar α}{p}(o:Sep a p)(s:Nat)(x:α):Sep {a with es:=jC a.es s x} p:=
 ⟨o.pb,o.sa,o.sm,λf hf=>by have⟨g,hg,_,e2,_⟩:=fO hf;rw[<-e2];exact o.sc g hg,λf hf=>by have⟨g,hg,e1,_⟩:=fO hf;rw[<-e1];exact o.taken g hg⟩
def AW.bu{t p}(o:AW t p h Y){e:iB Ax}(V:e∈t.a.es){k':KN}(ok:k'.ok Q E)(St:jP n e.x.k k' h Q)(hn:Y<=n)(xd:n<=E):
 AW {t with a:={t.a with es:=jC t.a.es e.X {e.x with k:=k'}}} p Q E/\
 eA Y t.own ({t with a:={t.a with es:=jC t.a.es e.X {e.x with k:=k'}}}:At).own t.a.sl ({t.a with es:=jC t.a.es e.X {e.x with k:=k'}}:Ar Ax).sl p p h Q:=by
 have G:∀b,b<Y->¬e.x.k.own b->N Q b=N h b:=λb D oO=>St.aW b U oO;have L:∀f∈jC t.a.es e.X {e.x with k:=k'},(f.X=e.X/\f.x.k=k'/\f.x={e.x with k:=k'})\/(f.X≠e.X/\∃g∈t.a.es,g.X=f.X/\g.x=f.x):=by
  intro f hf;have⟨g,hg,e1,e2,e3,e4,e5⟩:=fO hf;by_cases hq:g.X=e.X;.have:=e4 hq;exact .inl ⟨e1▸hq,by rw[this],this⟩
  .exact .inr ⟨e1▸hq,g,hg,e1,(e5 hq).symm⟩
 have ti:∀b,k'.own b->e.x.k.own b\/Y<=b:=λb D=>(St.own b D).imp id U;have AY:∀b,({t with a:={t.a with es:=jC t.a.es e.X {e.x with k:=k'}}}:At).own b->t.own b\/Y<=b:=by
  rintro b (e1|e1|⟨f,hf,e1⟩);.exact .inl (.inl e1)
  .exact .inl (.inr (.inl (Ar.qm.1 e1)))
  .obtain⟨_,q,_⟩|⟨_,g,hg,_,q⟩:=L f hf;.rw[q]at e1;exact(ti b e1).imp (λh=> FF ⟨e,V,h⟩) id
   .rw[<-q]at e1;exact .inl (FF ⟨g,hg,e1⟩)
 refine⟨⟨⟨?_,?_,o.tk.d1,o.tk.d2,λf hf=>?_,aP o.tk.lt U,λf hf=>?_,λf hf b D=>?_,λf hf g hg cD b D iQ=>?_⟩,o.pk.jw ?_ ?_ ?_ U,o.sp.upd _ _,λb D=>?_⟩,⟨Z,Z,Z,Z,λ_ h=> .inl h,AY,λs h=> .inl (Ar.IN.1 h),λb D oO _ _ _=>G b D λe'=>oO (FF ⟨e,V,e'⟩)⟩⟩;.show N Q t.tb=_;rw[G _ o.tk.lt λe'=>(o.tk.kd e V _ e').1 Z];exact o.tk.tr
 .have a1:=(o.tk.ok.jw (λb D=>G b (o.tk.ok.dL D) λe'=>(o.tk.kd e V b e').2 D) (U:Y<=E));refine (a1.store V {e.x with k:=k'}).jw (λb D=>?_) (an _);rw[aj];split;.rename_i hq;rw[hq,a1.cl e V];show _=J (AO.cells (u64 e.bo::[cg e.x.pre,cg e.x.val,bW e.x.has,.ptr k'.nb 0]) 300);rw[St.nb];rfl
  .rfl
 .exact auV
 .obtain⟨_,q,_⟩|⟨cD,g,hg,e1,q⟩:=L f hf;.rw[q];exact ok
  .rw[<-q];exact(o.tk.kn g hg).aW ((λg hg cD b D=>G b ((o.tk.kn g hg).SI b D) λe'=>o.tk.kk g hg e V cD b D e') g hg (e1▸cD)) U
 .obtain⟨_,q,_⟩|⟨cD,g,hg,e1,q⟩:=L f hf
  .rw[q]at D;obtain r|r:=ti b D
   .exact⟨(o.tk.kd e V b r).1,λh=>(o.tk.kd e V b r).2 (Ar.qm.1 h)⟩
   .refine⟨by have:=o.tk.lt;show b≠t.tb;omega,λh=>?_⟩;have:=o.tk.ok.dL (Ar.qm.1 h);omega
  .exact aud
 .rcases L f hf with⟨s1,q,_⟩|⟨n1,f1,Vy,e1,q⟩<;>obtain⟨s2,r,_⟩|⟨n2,g1,MU,e2,r⟩:=L g hg;.exact cD (s1.trans s2.symm)
  .rw[q]at D;rw[<-r]at iQ;obtain w|w:=ti b D
   .exact o.tk.kk e V g1 MU (e2▸n2.symm) b w iQ
   .have:=(o.tk.kn g1 MU).SI b iQ;omega
  .rw[<-q]at D;rw[r]at iQ;obtain w|w:=ti b iQ
   .exact o.tk.kk f1 Vy e V (e1▸n1) b D w
   .have:=(o.tk.kn f1 Vy).SI b D;omega
  .exact aue
 .exact G _ o.pk.tD λe'=>(o.sd _ (FF ⟨e,V,e'⟩)).1 Z
 .exact G _ o.pk.tJ λe'=>(o.sd _ (FF ⟨e,V,e'⟩)).2.1 Z
 .exact G _ o.pk.tM λe'=>(o.sd _ (FF ⟨e,V,e'⟩)).2.2 Z
 .obtain q|q:=AY b D;.exact o.sd b q
  .have:=o.pk.tD;have:=o.pk.tJ;have:=o.pk.tM;exact⟨U,U,U⟩
end
end br
end Go.Proofs.YtonnifoeokagjaaGreat
