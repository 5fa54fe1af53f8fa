/- The theorem quiet_holds of OrdersQuiet: part 11 of its proof; no conditions. -/
import Derived.Test.YtonnifoeokagjaaGreatF10
namespace Go.Proofs.YtonnifoeokagjaaGreat
set_option linter.all false
set_option maxRecDepth 8000
open Go Go.RowKit
open Option renaming some->J,none->B
open Bool renaming true->M,false->R
open List renaming length->O
open Tryz
open Nat(reduceAdd reduceMul)
namespace br
noncomputable section
def agb(Pk:aY->Prop)(x:Hd){k:KN}(hk:k.l=[]):AI Pk (up (λ_=>B) x.X (x.bo,(⟨[],[],R,k⟩:Ax))) x (λ_=>[]) (λ_=>0) zY:=by
 have get:∀s g n,up (λ_=>B) x.X (x.bo,(⟨[],[],R,k⟩:Ax)) s=J (g,n)->s=x.X/\n=⟨[],[],R,k⟩:=by
  intro s g n h;by_cases e:s=x.X;.rw[e,dF]at h;injection h with h;injection h with _ h;exact⟨e,h.symm⟩
  .rw[cT e]at h;cases h
 refine⟨λs g n h=>?_,λs g n h=>?_,λs g n h=>?_,λs g n h=>?_,⟨⟨_,dF⟩,Z⟩,λs g n h hr=>absurd (get s g n h).1 hr,λs g n h=>⟨λ_=>by rw[(get s g n h).2],λw=>absurd (get s g n h).1 w⟩⟩;.obtain⟨_,rfl⟩:=get s g n h;exact aQ _
 .obtain⟨_,rfl⟩:=get s g n h;rw[hk];exact List.Pairwise.nil
 .exact avl
 .obtain⟨_,rfl⟩:=get s g n h;intro e V;rw[show(Ax.k ⟨[],[],R,k⟩).l=[]from hk]at V;cases V
def ajb:=RB [(2,[([0,1,2,3,10],[3],J 4),([5],[3,10],J 6),([7,8,9],[10],J 11),MO [] 12,RX])]
def anv(p:bp)(h Y)(ug:p.ok h Y)(A:p.fr.count M≠0)(Pk:aY->Prop):
 UP 110 [.ptr p.pb 0] h Y λr Q E=>∃t p',r= .dY [.ptr t.tb 0,int 0]/\AW t p' Q E/\eA Y (λ_=>False) t.own (λ_=>False) t.a.sl p p' h Q/\p'.fr.count M+1=p.fr.count M/\Ta Pk t/\Acc fE (ct t.a.es) t.size p' (p.fr.count M) 0:=by
 have l1:=ug.tD;have l2:=ug.tJ;have l3:=ug.tM;refine az.ac 1 ajb func110 ?_;simp+decide-dsimp only[f110,go_sem];refine cm (aos h Y p.pb) λ_ W cC l1 ⟨ab,mb,g1,g2,g3,g4,g5,g6,g7,g8,g9⟩=>?_;subst g6;simp+decide-dsimp only[go_sem,ajb];have B0:AW ⟨cC,⟨ab,mb,0,p.pb,[]⟩,⟨0,0⟩,0⟩ p (aI W cC (.cells [.ptr p.pb 0,.ptr ab 0,int 0,u64 0,int 0,bW R] 258)) (cC+1):=by
  refine⟨⟨by rw[aj,au Z];rfl,⟨by show N _ ab=_;rw[Xg U];exact g7,by show N _ mb=_;rw[Xg U];exact g8,(λe V=>by cases V),nC,nC,(λe V=>by cases V),g3,by show ab<_;omega,by show mb<_;omega⟩,by show cC≠ab;omega,by show cC≠mb;omega,(λe V=>by cases V),aZ _,(λe V=>by cases V),(λe V=>by cases V),(λe V=>by cases V)⟩,
   ug.aW (λb D=>by rw[Xg U];exact g9 b D) U,⟨Z,⟨by show ab≠_;omega,by show ab≠_;omega,by show ab≠_;omega⟩,⟨by show mb≠_;omega,by show mb≠_;omega,by show mb≠_;omega⟩,(λe V=>by cases V),(λe V=>by cases V)⟩,?_⟩
  rintro b (e|(e|e|⟨e,V,_⟩)|⟨e,V,_⟩);.have e:b=cC:=e;omega
  .have e:b=ab:=e;omega
  .have e:b=mb:=e;omega
  .cases V
  .cases V
 generalize hq:cC+1+Array.size _=nq;have qf:cC+1+12<=nq:=hq▸(iR bS _)
 generalize hG:aI W cC _=G0 at B0⊢;have G0k:∀b,b<cC->N G0 b=N W b:=λb D=>by rw[<-hG,Xg]
 generalize hH:aI G0 (cC+1+10) _=hi;have Ja:aG (cC+1) G0 hi:=hH▸(aG.refl.set U)
 have PS:=TZ hH
 refine cm (af5 hi nq) λ_ F dR l2 ⟨k,e0,kl,kok,Fa,kown⟩=>?_
 subst e0;have o1:=B0.aW (Ja.trans (Fa.le (U:cC+1<=nq)) (an _)) (U:cC+1<=dR);have g10:=(Fa _ U).trans PS
 have g11:N F cC=J (.cells [.ptr p.pb 0,.ptr ab 0,int 0,u64 0,.g (.int .i64 0),bW R] 258):=o1.tk.tr;refine Y8 g10 g11 ?_;have Te:∀b,At.own ⟨cC,⟨ab,mb,0,p.pb,[]⟩,⟨0,0⟩,0⟩ b->Y<=b/\b<=cC:=by
  rintro b (e|(e|e|⟨e,V,_⟩)|⟨e,V,_⟩);.have e:b=cC:=e;omega
  .have e:b=ab:=e;omega
  .have e:b=mb:=e;omega
  .cases V
  .cases V
 refine cm (o1.alloc A ⟨[],[],R,k⟩ kok (λb D=>?_)) λ_ h3 nx3 l3 ⟨t3,p3,x,f1,f2,o3,E3,f3,S3,f4,f5⟩=>?_;.have:=kown b D;exact⟨λe=>by have:=(Te b e).2;omega,U,U,U⟩
 subst f2;have h5:∀b,Y<=b->(∀c,k.own c->b≠c)->cC<b->b<dR->N h3 b=N F b:=λb q1 q2 q3 q4=>by
  refine S3.aW b q4 (λe=>?_) U U U;obtain e|e:=e
  .have:=(Te b e).2;omega
  .exact q2 b e Z
 have k10:N h3 (cC+1+10)=J (.cells [int 0,u64 0] 245):=by rw[h5 _ U (λc yi e=>by have:=kown c yi;omega) U U];exact g10
 have k11:N h3 cC=J (.cells [.ptr t3.a.pb 0,.ptr t3.a.ab 0,int t3.aO.X,u64 t3.aO.bo,.g (.int .i64 t3.size),bW R] 258):=by have:=o3.tk.tr;rw[E3.tb]at this;exact this
 have oO:∀c,t3.own c->c≠cC+1+10:=λc A e'=>by
  obtain (q|q)|q:=S3.bl c A;.have:=Te c q;omega
  .have:=kown c q;omega
  .omega
 have wI:∀c,t3.own c->Y<=c:=λc A=>by
  obtain (q|q)|q:=S3.bl c A;.exact(Te c q).1
  .have:=kown c q;omega
  .omega
 refine J7 k10 k11 (U:¬(cC=cC+1+10)) ?_;generalize hG:aI h3 (cC+1+10) _=hs;have G1:∀c,c≠cC+1+10->N hs c=N h3 c:=λc A=>by rw[<-hG,Xg A]
 have o4:AW t3 p3 hs nx3:=⟨o3.tk.aW (λc A=>G1 c (oO c A)) (an _),o3.pk.jw (G1 _ (Es S3.pb)) (G1 _ (Es S3.gb)) (G1 _ (Es S3.fb)) (an _),o3.sp,o3.sd⟩;have⟨o5,S5⟩:=o4.tree x t3.size;rw[E3.tb]at o5 S5;refine⟨_,p3,?_,o5,⟨S3.pb,S3.gb,S3.fb,S3.fl,λs G=>?_,λb D=>?_,λs G=>?_,λb D _ q1 q2 q3=>?_⟩,f5,⟨λ_=>[],λ_=>0,?_⟩,by rw[show t3.size=0 from f3];exact(Acc.nil p).ins Z f4 Z f5⟩;.rfl
 .obtain q|⟨e,V,_⟩:=S3.fr s G;.exact .inl q
  .cases V
 .obtain e|e|e:=D;.have e:b=cC:=e;right;omega
  .exact .inr (wI b (.inr (.inl e)))
  .exact .inr (wI b (FF e))
 .obtain⟨e,V,_⟩|q:=S3.slt s G;.cases V
  .exact .inr q
 .rw[Xg,G1 b U];rw[S3.aW b U (λe=>?_) q1 q2 q3,Fa b U,Ja b U,G0k b U,g9 b D];obtain e|e:=e
  .have:=(Te b e).1;omega
  .have:=kown b e;omega
 .rw[f4];exact agb Pk x kl
variable{b n:Nat}{h:aE}{op:BinOp}{t:TypeId}{x y:Operand}
section
variable{P:Program}
def wy{k:IntKind}{m n r}(ho:op= .and\/op= .or\/op= .mul)(hr:bM P (binOp op t (.int k m) (.int k n))=J (.int k r)):
 dE P h op t x y (.g (.int k m)) (.g (.int k n))=J (.g (.int k r)):=by
 have hg:bM P (do eqGuard op t x y (.int k m) (.int k n);binOp op t (.int k m) (.int k n))=J (.int k r):=by
  obtain rfl|rfl|rfl:=ho
  all_goals
   unfold eqGuard;simp only[cr];exact hr
 have G:jm P h op t x y (.g (.int k m)) (.g (.int k n))=J (.g (.int k r)):=by show lH P op t x y (.int k m) (.int k n)=_;unfold lH;rw[hg]
 unfold dE;simp only[eX];rcases ho with rfl|rfl|rfl<;>exact G
def xa{a:Nat}(ha:a<2^64)(D:b<2^64):dE P h .and t x y (u64 a) (u64 b)=J (u64 (a&&&b:Nat)):=by refine wy (.inl Z) ?_;show J (Value.int .u64 (IntKind.wrap .u64 ((BitVec.ofInt 64 a&&&BitVec.ofInt 64 b).toNat:Int)))=_;rw[<-je,BitVec.toNat_and,BitVec.ofInt_natCast,BitVec.ofInt_natCast,BitVec.toNat_ofNat,BitVec.toNat_ofNat,ni ha,ni D,mL U];exact sJ.2 (rm Nat.and_le_left ha)
def H8{a:Nat}(ha:a<2^64)(D:b<2^64):dE P h .or t x y (u64 a) (u64 b)=J (u64 (a|||b:Nat)):=by refine wy (.inr (.inl Z)) ?_;show J (Value.int .u64 (IntKind.wrap .u64 ((BitVec.ofInt 64 a|||BitVec.ofInt 64 b).toNat:Int)))=_;rw[<-je,BitVec.toNat_or,BitVec.ofInt_natCast,BitVec.ofInt_natCast,BitVec.toNat_ofNat,BitVec.toNat_ofNat,ni ha,ni D,mL U];exact sJ.2 (NN ha D)
def aeT{a:Nat}(ha:a<2^63)(D:b<2^63):dE P h .or t x y (int a) (int b)=J (int (a|||b:Nat)):=by refine wy (.inr (.inl Z)) ?_;show J (Value.int .i64 (IntKind.wrap .i64 ((BitVec.ofInt 64 a|||BitVec.ofInt 64 b).toNat:Int)))=_;have:=NN ha D;rw[<-je,BitVec.toNat_or,BitVec.ofInt_natCast,BitVec.ofInt_natCast,BitVec.toNat_ofNat,BitVec.toNat_ofNat,ni U,ni U,wrap_i64 U U]
def Hb{a:Nat}(D:a*b<2^63):dE P h .mul t x y (int a) (int b)=J (int (a*b:Nat)):=by refine wy (FF Z) ?_;show J (Value.int .i64 (IntKind.wrap .i64 ((a:Int)*(b:Int))))=_;rw[<-je,<-Int.natCast_mul,wrap_i64 U U]
def CU{k k':IntKind}{a}(hk:k.bits=64)(hn:n<=64)(hw:cO k ((a<<<n:Nat):Int)=((a<<<n:Nat):Int)):dE P h .shl t x y (.g (.int k a)) (.g (.int k' n))=J (.g (.int k (a<<<n:Nat))):=by
 refine Ao (.inr Z) U ?_;unfold Op.shift;rw[ak U];show J (Value.int k (k.wrap ((a:Int)*(2^min (n:Int).toNat k.bits))))=_;rw[oZ,hk,b9 hn,<-je];have:((a:Int)*(2:Int)^n)=((a<<<n:Nat):Int):=by rw[BE];simp
 rw[this,hw]
end
section
variable{P:Program}
def aeG{a:Nat}(ha:a<18446744073709551616):dE P h .and t x y (u64 a) (u64 15)=J (u64 (a%16:Nat)):=(show a&&&15=a%16 from ur a 4)▸(xa (P:=P) (h:=h) (t:=t) (x:=x) (y:=y) (a:=a) (b:=15) ha bS)
def anl{a:Nat}(ha:a<65536):dE P h .mul t x y (int 4) (int a)=J (int (4*a:Nat)):=
 Hb (a:=4) (b:=a) U
end
def afj{n}:nA prog h 71 3 (.g (.int .u64 n))=J (.g (.int .i64 (cO .i64 n))):=oD Nl Fy
def aeE{n}:nA prog h 3 71 (.g (.int .i64 n))=J (.g (.int .u64 (cO .u64 n))):=oD Fy Nl
attribute[go_sem] afj aeE aeG anl
def ahv(i:Nat)(H:i<60000):bz 186 [int i] (int (4*i+4:Nat)):=by
 refine bz.ac 1 T0 func186 λh Y=>?_;have w1:cO .i64 (4+((4*i:Nat):Int))=((4*i+4:Nat):Int):=(show(4+((4*i:Nat):Int))=((4*i+4:Nat):Int)from U)▸(wrap_i64 U U)
 refine J7 f186.eq_1 (U:i<65536) w1 ?_;exact .eE .refl .cP Z
def KB(w:Nat)(hw:w<18446744073709551616):bz 352 [u64 w] (int (w%16:Nat)):=by refine bz.ac 1 T0 func352 λh Y=>?_;refine J7 f352.eq_1 hw (U:w%16<9223372036854775808) ?_;exact .eE .refl .cP Z
def E0(w i:Nat)(hw:w<18446744073709551616)(H:i<15):bz 340 [u64 w,int i] (int ((w>>>(4*i+4))%16:Nat)):=by
 refine bz.ac 2 T0 func340 λh Y=>?_;have F:w>>>(4*i+4)<18446744073709551616:=by rw[qu];exact rm (Nat.div_le_self _ _) hw
 refine J7 f340.eq_1 (U:¬((i:Int)<0)) (U:¬((15:Int)<=(i:Int))) ?_;refine ba (ahv i U) ?_;refine L6 (U:(w>>>(4*i+4))%16<9223372036854775808) F (U:4*i+4<=64) @GY ?_;exact .eE .refl .cP Z
variable{d i:Nat}{l:List Nat}
def dg:List Nat->Nat
 |[]=>0
 |d::l=>d+16*dg l
def pw(n:Nat)(l:List Nat):Nat:=n+16*dg l
abbrev tK(l:List Nat):Prop:=l.Perm (List.range 15)
def tK.len(p:tK l):O l=15:=by have:=p.length_eq;simpa using this
def tK.lt(p:tK l)(h:d∈l):d<15:=by have:=p.mem_iff.1 h;simpa using this
def TD:∀{l:List Nat},(∀d∈l,d<16)->dg l<16^O l
 |[],_=>by simp[dg]
 |d::l,h=>by have W:=TD (l:=l) λe V=>h e (by simp[V]);have F:=h d bR;simp only[dg,bD,kZ];omega
def tK.K8(p:tK l)(hn:n<=15):pw n l<18446744073709551616:=by
 have:=TD (l:=l) λd z=>by have:=p.lt z;omega
 rw[p.len]at this;unfold pw;omega
def aeu:∀{l:List Nat} {i:Nat},(∀d∈l,d<16)->i<O l->(dg l / 16^i)%16=l.getD i 0
 |d::l,0,h,_=>by have F:=h d bR;simp only[dg,Nat.pow_zero,Nat.div_one,List.getD_cons_zero];omega
 |d::l,i+1,h,H=>by
  have F:=h d bR;have:=aeu (l:=l) (i:=i) (λe V=>h e (by simp[V])) (Mf H);rw[List.getD_cons_succ,<-this,kZ,sK (16^i),<-Ct];have:dg (d::l) / 16=dg l:=by simp only[dg];omega
  rw[this]
def tK.at(p:tK l)(hn:n<=15)(H:i<15):(pw n l>>>(4*i+4))%16=l.getD i 0:=by rw[qu,Nat.pow_add,sK,<-Ct,GU,show(2:Nat)^4=16 from Z,show pw n l / 16=dg l by unfold pw;omega];exact aeu (λd z=>by have:=p.lt z;omega) (p.len▸H)
def tK.KB{l}(p:tK l){n:Nat}(hn:n<=15):bz 352 [u64 (pw n l)] (int n):=by have:=br.KB (pw n l) (p.K8 hn);rw[show pw n l%16=n by unfold pw;omega]at this;exact this
def tK.E0{l:List Nat}(p:tK l){n i:Nat}(hn:n<=15)(H:i<15):bz 340 [u64 (pw n l),int i] (int (l.getD i 0:Nat)):=(p.at hn H)▸(br.E0 (pw n l) i (p.K8 hn) H)
def tK.nY(p:tK l)(i):l.getD i 0<15:=by
 by_cases h:i<O l;.rw[aB,aF h];exact p.lt (bO h)
 .rw[aB,ed U];decide
def seen(l:List Nat):Nat:=l.foldl (λa d=>a|||1<<<d) 0
def Z9(h:∀d∈l,d<15):seen l<32768:=by
 have:∀(l:List Nat) (a:Nat),(∀d∈l,d<15)->a<2^15->l.foldl (λa d=>a|||1<<<d) a<2^15:=by
  intro l
  induction l with
  |nil=>intro a _ h;exact h
  |cons d l ih=>intro a h ha;have z:=h d bR;refine ih _ (λe V=>h e (by simp[V])) (NN ha ?_);rw[Nat.one_shiftLeft];exact Nat.pow_lt_pow_right bS z
 exact this l 0 h bS
def Vx(p:tK l):seen l=32767:=by have:seen l=seen (List.range 15):=List.Perm.foldl_eq' p (λa _ b _ c=>by rw[Nat.or_assoc,Nat.or_comm (1<<<a),<-Nat.or_assoc]) 0;rw[this];decide
def Sd(h:i<O l):seen (l.take (i+1))=seen (l.take i)|||1<<<l.getD i 0:=by unfold seen;rw[x7,List.foldl_append,aB,aF h];rfl
def tK.adJ(p:tK l)(hn:n<=15):bz 353 [u64 (pw n l)] (bW M):=by
 refine bz.ac 1 T0 func353 λh Y=>?_;refine Xf f353.eq_1 ?_;refine cI _ _ (λm s Q E=>∃i,i<=15/\m=15-i/\X s 0=u64 (pw n l)/\X s 3=int (seen (l.take i))/\X s 5=int i/\Q=h/\E=Y) (n:=15) ?_ ?_;.refine QZ ?_;exact⟨0,U,U,Z,Z⟩
 rintro m s Q E ⟨i,H,rfl,s0,s3,s5,rfl,rfl⟩;by_cases dc:i<15
 .refine L6 s0 s3 s5 (U:((i:Int)<15)) ?_;refine ba (p.E0 hn dc) ?_;have z:=p.nY i;have q0:1<<<l.getD i 0<32768:=by rw[Nat.one_shiftLeft];exact Nat.pow_lt_pow_right (a:=2) (n:=15) bS z
  have q1:∀{h t x y},dE prog h .shl t x y (int 1) (int (l.getD i 0:Nat))=J (int (1<<<l.getD i 0:Nat)):=λ{h t x y}=>CU (a:=1) (n:=l.getD i 0) (k:= .i64) Z U (wrap_i64 (Int.le_trans bS (ji _)) (Int.lt_trans (sJ.2 q0) bS));have q2:seen (l.take i)<32768:=Z9 λd z=>p.lt (fe z);have q3:∀{h t x y},dE prog h .or t x y (int (seen (l.take i))) (int (1<<<l.getD i 0:Nat))=J (int (seen (l.take (i+1)):Nat)):=λ{h t x y}=>by rw[aeT U U,Sd (p.len▸dc)]
  refine RC s0 s3 s5 @q1 @q3 (U:i+1<9223372036854775808) ?_;exact⟨_,(U:15-(i+1)<_),i+1,dc,Z,Z,Z⟩
 .have e:i=15:=U;subst e;have G:=Vx p;rw[aH (by rw[p.len];exact an _),G]at s3;refine J7 s0 s3 s5 ?_;refine ba (p.KB hn) ?_;refine Xf (U:((n:Int)<=15)) ?_;exact .eE .refl .cP Z
variable{hc:List u}{c1 c2 Y o2:Nat}
def aii:zE prog 499=J M:=aK
def alF:cZ prog 499=J 15:=aK
def TF:prog.underlying 499=J (.array 15 3):=aK
def ai7:dS prog 499=J (List.replicate 15 (.int .i64 0)):=aK
abbrev ints(l:List Nat):List u:=l.map λn:Nat=>(int (n:Int))
def ints_at(h:i<O l):(ints l)[i]?=J (int (l.getD i 0)):=by simp[List.getD,h]
def WS(h:i<O l):iS i (ints l)=J (int (l.getD i 0)):=by rw[k6];exact ints_at h
def Kr{v}(h:i<O hc):eG i hc [v]=J (hc.set i v):=by have:=JS (hc:=hc) (zyQ:=[]) (v:=v) h;simpa using this
def KR(h:i<O l):eG i (ints l) [int n]=J (ints (l.set i n)):=by rw[Kr (Mf h),ints,ints,qj]
def JF:∀(l:List Nat),u.FH (ints l)=J (l.map λn:Nat=>Value.int .i64 (n:Int))
 |[]=>rfl
 |d::l=>by have:=JF l;show(match u.FH (ints l)with|some l=>J (_::l)|none=>B)=_;rw[this];rfl
def MZ(K:O l=15)(H:i<15):so prog 499 (.agg (ints l)) (int i)=J (.val (int (l.getD i 0))):=by
 have:u.pV (.agg (ints l))=J (.agg (l.map λn:Nat=>Value.int .i64 (n:Int)).toArray):=by show(match u.FH (ints l)with|some l=>J (Value.agg l.toArray)|none=>B)=_;rw[JF]
 unfold so;rw[this];have q:bM prog (Instr.index 499 (.agg (l.map λn:Nat=>Value.int .i64 (n:Int)).toArray) (.int .i64 i))=J (.int .i64 (l.getD i 0:Nat)):=by
  unfold Instr.index;simp only[asIntOf,cr,cW,iI TF];rw[au U];unfold part;simp only[cr,show bM prog (isAgg 3)=J R from aK,show bM prog (sizeOf 3)=J 1 from aK];have:(l.map λn:Nat=>Value.int .i64 (n:Int)).toArray[(i:Int).toNat*1]?=J (.int .i64 (l.getD i 0:Nat)):=by rw[oZ,df,List.getElem?_toArray,gY,aB,aF U];rfl
  rw[this];rfl
 simp only[u.pV];rw[q]
def mv(l:List Nat)(f t:Nat):List Nat:=(l.eraseIdx f).take t++l.getD f 0::(l.eraseIdx f).drop t
def Ix(ln:O l=15)(h:i<15):(l.take i++List.replicate (15-i) 0).set i (l.getD i 0)=l.take (i+1)++List.replicate (15-(i+1)) 0:=by rw[oQ _ _ gr,ax,show i-min i (O l)=0 from U,show 15-i=(15-(i+1))+1 from U,qD,Lz,x7,aB,aF U,aA];rfl
def air{off lo H}:fW prog 499 (.ptr b off) lo H=ub 1 b off 15 15 lo H:=by unfold fW;simp only[TF,ts3]
def akU{s x}:rO prog h #[142,142] s x=cpR h 1 (qN s) (eD h 1 x) s:=by
 unfold rO cpR;simp only[adV,ts3];exact auR
def FM{o1 l1 l2:Nat}{hc}(hA:N h Y=J (.cells (ints hc) 499))(hn:Nat.min l2 l1=n)(W:o1+n<=O hc)(F:o2+l2<=O hc):
 ∃H1,(∀b,b≠Y->N H1 b=N h b)/\N H1 Y=J (.cells (ints (hc.take o1++(hc.drop o2).take n++hc.drop (o1+n))) 499)/\rO prog h #[142,142] (.sl Y o1 l1 c1) (.sl Y o2 l2 c2)=J (.val (int n) H1):=by
 have e1:rO prog h #[142,142] (.sl Y o1 l1 c1) (.sl Y o2 l2 c2)=wS h 1 n (ints ((hc.drop o2).take l2)) (.sl Y o1 l1 c1):=by rw[akU,JC,AF,cL,hA,cV,eY _ _ gr,aT,bZ _ _ gr,eB,KA,hn,df,ints,ints,uB,zV]
 by_cases h0:n=0;.subst h0;exact⟨h,λ_ _=>rfl,by rw[hA,dJ,cy,dP,bA],by rw[e1];rfl⟩
 .have hm:n<=l2:=hn▸(X0 _ _)
  refine⟨aI h Y (.cells (ints (hc.take o1++(hc.drop o2).take n++hc.drop (o1+n))) 499),λb D=>by rw[Xg D],iA,?_⟩;rw[e1,Gi (Mf h0),df,bZ _ _ gr,Kk (by rw[fU];intro x L;obtain⟨y,_,rfl⟩:=bg.1 (fe L);rfl),zH,hA,w9,cG _ _ _ gr];simp only[eB,ints,<-uB,<-zV,<-dm,bh,ax,aC,bI,b9 hm];rw[show min n (O hc-o2)=n from U]
attribute[go_sem] aii alF TF ai7 air
def adp{f:Nat}(ln:O l=15)(hf:f<15):l.take (f*1)++(l.drop (if 15=f+1 then 0 else(f+1)*1)).take (14-f)++l.drop (f*1+(14-f))=l.eraseIdx f++[l.getD 14 0]:=by
 have e14:l.drop 14=[l.getD 14 0]:=by rw[cM U,aX U,aB,aF U];rfl
 rw[df,show f+(14-f)=14 from U,e14,ir];by_cases h:15=f+1;.rw[au h,show 14-f=0 from U,dJ,cy,aX (i:=f+1) U,cy]
 .rw[ak h,df,aH (l:=l.drop (f+1)) (Es @aC)]
def Yp{nx':List Nat}{t x y:Nat}(le:O nx'=14)(ht:t<15):
 O ((nx'++[y]).take (if 15=t+1 then 0 else(t+1)*1)++((nx'++[y]).drop (t*1)).take (14-t)++(nx'++[y]).drop ((if 15=t+1 then 0 else(t+1)*1)+(14-t)))=15/\
 ((nx'++[y]).take (if 15=t+1 then 0 else(t+1)*1)++((nx'++[y]).drop (t*1)).take (14-t)++(nx'++[y]).drop ((if 15=t+1 then 0 else(t+1)*1)+(14-t))).set t x=nx'.take t++x::nx'.drop t:=by
 by_cases h:15=t+1;.have e:t=14:=U;subst e;rw[au Z,dJ,cz,show 14-14=0 from Z,dJ,cz,nc];refine⟨by simp[le],?_⟩;rw[oQ _ _ U,aH U,aX U,le];rfl
 .have e2:((nx'++[y]).drop t).take (14-t)=nx'.drop t:=by rw[cx U,aD (Es @aC),aH (Es @aC)]
  rw[ak h,df,df,(aD U:(nx'++[y]).take (t+1)=nx'.take (t+1)),e2,(aX gr:(nx'++[y]).drop (t+1+(14-t))=[]),cy];refine⟨gr,?_⟩;rw[x7,aF U,aA,oQ _ _ gr,ax,show t-min t (O nx')=0 from U];rfl
def tK.DL(p:tK l){f t}(hf:f<15):tK (mv l f t):=by
 have nP:f<O l:=p.len▸hf
 have W:(mv l f t).Perm (l.getD f 0::l.eraseIdx f):=by have:=List.perm_middle (a:=l.getD f 0) (l₁:=(l.eraseIdx f).take t) (l₂:=(l.eraseIdx f).drop t);rw[bA]at this;exact this
 have F:(l[f]::l.eraseIdx f).Perm l:=by rw[ir];have:=(List.perm_middle (a:=l[f]) (l₁:=l.take f) (l₂:=l.drop (f+1))).symm;rw[<-cM nP,bA]at this;exact this
 rw[aB,aF nP]at W;exact(W.trans F).trans p
def tK.TK(p:tK l)(H:i<15):l.getD i 0<<<(4*i+4)<18446744073709551616:=by
 have:=p.nY i;rw[BE]
 calc _<16*2^(4*i+4):=Nat.mul_lt_mul_of_pos_right U (Nat.pow_pos bS)
  _<=16*2^60:=Je _ (Gt bS U)
  _=_:=bS
def Dh(p:tK l)(hn:n<=15)(H:i<=15):pw n (l.take i)<2^(4*i+4):=by
 have:=TD (l:=l.take i) λd z=>by have:=p.lt (fe z);omega
 rw[ax,p.len,b9 H]at this;rw[show 4*i+4=4*(i+1)by omega,GU,show(2:Nat)^4=16 from Z,kZ];unfold pw;omega
def tK.OX(p:tK l)(hn:n<=15)(H:i<=15):pw n (l.take i)<18446744073709551616:=
 aP (Dh p hn H) (Gt bS (U:4*i+4<=64))
def WZ:∀(l m:List Nat),dg (l++m)=dg l+16^O l*dg m
 |[],m=>by simp[dg]
 |d::l,m=>by have:=WZ l m;simp only[lC,dg,bD,this,kZ,Nat.mul_add];rw[sK (16^O l) 16,Ac];omega
def tK.Od(p:tK l)(hn:n<=15)(H:i<15):pw n (l.take i)|||l.getD i 0<<<(4*i+4)=pw n (l.take (i+1)):=by
 rw[Nat.or_comm,<-XN (Dh p hn (eC H)),BE];unfold pw;have:l.take (i+1)=l.take i++[l.getD i 0]:=by rw[x7,aB,aF (p.len▸H)];rfl
 rw[this,WZ,ax,p.len,b9 (eC H),show 4*i+4=4*(i+1)by omega,GU,show(2:Nat)^4=16 from Z,kZ];simp only[dg,N0,dP,Nat.mul_add];rw[sK (l.getD i 0),sK (16^i) 16,Ac];omega
def ag7:=RB [(8,[MO z4 5,RX]),(9,[MO z4 5,RX])]
def tK.am3(p:tK l){f t:Nat}(hn:n<=15)(hf:f<15)(ht:t<15):bz 354 [u64 (pw n l),int f,int t] (u64 (pw n (mv l f t))):=by
 refine bz.ac 3 ag7 func354 λh Y=>?_;refine Xf f354.eq_1 ?_;have hz:List.map u.g (List.replicate 15 (Value.int .i64 0))=ints (l.take 0++List.replicate (15-0) 0):=rfl;rw[hz];refine cI _ _ (λm s Q E=>∃i,i<=15/\m=15-i/\X s 0=u64 (pw n l)/\X s 1=int f/\X s 2=int t/\X s 7= .ptr Y 0/\X s 13=int i/\(aG Y h Q/\N Q Y=J (.cells (ints (l.take i++List.replicate (15-i) 0)) 499))/\Y+1<=E) (n:=15) ?_ ?_;.refine QZ ?_;exact⟨0,U,U,Z,⟨aG.refl.set (an _),Z⟩⟩
 rintro m s Q E ⟨i,H,rfl,s0,s1,s2,s7,D9,⟨S0,g0⟩,l1⟩;have ln:=p.len;by_cases dc:i<15
 .have w1:i+1<9223372036854775808:=U;refine J7 s0 D9 (U:((i:Int)<15)) ?_;refine ba (p.E0 hn dc) ?_;have q:eG (i*1) (ints (l.take i++List.replicate (15-i) 0)) [int (l.getD i 0:Nat)]=J (ints (l.take (i+1)++List.replicate (15-(i+1)) 0)):=by rw[df,KR gr,Ix ln dc]
  refine asA s0 s1 s2 s7 D9 w1 dc g0 q ?_;exact⟨_,(U:15-(i+1)<_),i+1,dc,Z,Z,⟨S0.set (an _),Z⟩,l1⟩
 .have e:i=15:=U;subst e;rw[aH U,show 15-15=0 from Z,IX,cy]at g0;have q:iS (f*1) (ints l)=J (int (l.getD f 0:Nat)):=by rw[df];exact WS U
  have htl:t<=14:=U;simp+decide-dsimp only[go_sem,ag7,s1,s7,D9,g0,q,hf,(U:f<=15),(U:f+1<=15),(U:¬(15=f)),(U:f+1<9223372036854775808)];have⟨H1,k1,k2,k3⟩:=FM (h:=Q) (Y:=Y) (o1:=f*1) (l1:=15-f) (c1:=15-f) (o2:=if 15=f+1 then 0 else(f+1)*1) (l2:=15-(f+1)) (c2:=15-(f+1)) (n:=14-f) g0 (by show min _ _=_;omega) U (by split<;>omega);have k2:N H1 Y=J (.cells (ints (l.eraseIdx f++[l.getD 14 0])) 499):=by rw[k2,adp ln hf]
  have akp:ub 1 Y 0 15 15 (J (int (t:Nat))) (J (int 14))=J (.sl Y (0+t*1) (14-t) (15-t)):=by have:=Pg (sz:=1) (b:=Y) (off:=0) (len:=15) (cap:=15) htl (U:14<=15);rw[ak U]at this;exact this
  rw[fC]at akp;simp+decide-dsimp only[go_sem,ag7,s2,s7,k3,(U:t+1<=15),(U:t+1<9223372036854775808),akp];have le:=iC (l:=l) (i:=f) U;have⟨H2,j1,j2,j3⟩:=FM (h:=H1) (Y:=Y) (o1:=if 15=t+1 then 0 else(t+1)*1) (l1:=15-(t+1)) (c1:=15-(t+1)) (o2:=t*1) (l2:=14-t) (c2:=15-t) (n:=14-t) k2 (by show min _ _=_;omega) (by simp only[aq,dM];split<;>omega) (by simp only[aq,dM];omega);generalize hA:List.take (if 15=t+1 then 0 else(t+1)*1) _++_++_=A2 at j2;have hA2:O A2=15/\A2.set t (l.getD f 0)=mv l f t:=hA▸(Yp (le.trans U) ht)
  have ml:O (mv l f t)=15:=by rw[<-hA2.2];simp[hA2.1]
  have pm:tK (mv l f t):=p.DL hf
  have q8:pw n l%16=n:=by unfold pw;omega
  refine asB s0 s2 s7 j3 j2 (by rw[df,KR U,hA2.2]:eG (t*1) (ints A2) [int (l.getD f 0:Nat)]=J (ints (mv l f t))) (by rw[bZ _ _ (by simp[ml]),aH (by simp[ml])]:dC 15 (ints (mv l f t))=J (ints (mv l f t))) (p.K8 hn) q8 ht ?_;generalize hq:E+Array.size _+Array.size _=nq;have qf:E<=nq:=U;generalize hH:aI H2 Y _=H3
  refine cI _ _ (λm s Q E=>∃i,i<=15/\m=15-i/\X s 10=u64 (pw n ((mv l f t).take i))/\X s 42= .agg (ints (mv l f t))/\X s 43=int i/\Q=H3/\nq<=E) (n:=15) ?_ ?_;.refine QZ ?_;exact⟨0,U,U,by rw[dJ];rfl,Z⟩
  rintro m s Q E ⟨i,H,rfl,xN,s42,s43,rfl,l2⟩;by_cases dc:i<15
  .have z:=pm.nY i;refine RC xN s42 s43 (U:((i:Int)<15)) (MZ ml dc) (U:(mv l f t).getD i 0<9223372036854775808) ?_;refine ba (ahv i U) ?_;have b1:=pm.TK (i:=i) dc;have q10:∀{h t' x y},dE prog h .shl t' x y (u64 ((mv l f t).getD i 0:Nat)) (int (4*i+4:Nat))=J (u64 ((mv l f t).getD i 0<<<(4*i+4):Nat)):=λ{h t' x y}=>CU Z U (mL (ji _) (sJ.2 b1));have q11:∀{h t' x y},dE prog h .or t' x y (u64 (pw n ((mv l f t).take i))) (u64 ((mv l f t).getD i 0<<<(4*i+4):Nat))=J (u64 (pw n ((mv l f t).take (i+1)):Nat)):=λ{h t' x y}=>by rw[H8 (pm.OX hn (eC dc)) b1,pm.Od hn dc]
   refine RC xN s42 s43 @q10 @q11 (U:i+1<9223372036854775808) ?_;exact⟨_,(U:15-(i+1)<_),i+1,dc,Z,Z,Z,l2⟩
  .have e:i=15:=U;subst e;rw[aH U]at xN;refine Y8 xN s43 ?_;exact .eE (λb D=>by rw[<-hH,Xg,j1 b U,k1 b U,S0 b D]) .cP Z
def Yh:List Nat:=List.range 15
def As:tK Yh:= .refl _
def WM(h:i<15):Yh.getD i 0=i:=by unfold Yh;rw[aB,wU h];rfl
def anx:bz 170 [] (u64 (pw 0 Yh)):=by
 refine bz.ac 0 T0 func170 λh Y=>?_;refine Xf f170.eq_1 ?_;refine cI _ _ (λm s Q E=>∃i,i<=15/\m=15-i/\X s 1=u64 (pw 0 (Yh.take i))/\X s 3=int i/\Q=h/\Y<=E) (n:=15) ?_ ?_;.refine QZ ?_;exact⟨0,U,U,by rw[dJ];rfl,Z⟩
 rintro m s Q E ⟨i,H,rfl,s1,s3,rfl,l2⟩;by_cases dc:i<15
 .refine L6 s1 s3 (U:((i:Int)<15)) (U:i<9223372036854775808) ?_;refine ba (ahv i U) ?_;have b1:=As.TK (i:=i) dc;rw[WM dc]at b1;have q10:∀{h t' x y},dE prog h .shl t' x y (u64 (i:Nat)) (int (4*i+4:Nat))=J (u64 (i<<<(4*i+4):Nat)):=λ{h t' x y}=>CU Z U (mL (ji _) (sJ.2 b1));have q11:∀{h t' x y},dE prog h .or t' x y (u64 (pw 0 (Yh.take i))) (u64 (i<<<(4*i+4):Nat))=J (u64 (pw 0 (Yh.take (i+1)):Nat)):=λ{h t' x y}=>by rw[H8 (As.OX U (eC dc)) b1];have:=As.Od (n:=0) (i:=i) U dc;rw[WM dc]at this;rw[this]
  refine PV s1 s3 @q10 @q11 (U:i+1<9223372036854775808) ?_;exact⟨_,(U:15-(i+1)<_),i+1,dc,Z,Z,Z,l2⟩
 .have e:i=15:=U;subst e;rw[aH (Es As.len)]at s1;refine Y8 s1 s3 ?_;exact .eE .refl .cP Z
def tK.aeW(p:tK l)(hn:n<15)(H:i<=n):bz 345 [u64 (pw n l),int i] (.dY [u64 (pw (n+1) (mv l n i)),int (l.getD n 0:Nat),bW M]):=by
 refine bz.ac 2 T0 func345 λh Y=>?_;simp+decide-dsimp only[Tryz.f345,go_sem];refine AJ (p.KB U) ?_;refine ba (p.adJ U) ?_;have c3':¬n<i:=U;refine J7 (U:¬((15:Int)<=n)) (U:¬((i:Int)<0)) (U:¬((n:Int)<(i:Int))) ?_;refine ba (p.am3 U hn U) ?_;have pm:=p.DL (f:=n) (t:=i) hn;have b:=pm.K8 (n:=n+1) U;have w:cO .u64 (((pw n (mv l n i):Nat):Int)+1)=((pw (n+1) (mv l n i):Nat):Int):=by
  have:pw (n+1) (mv l n i)=pw n (mv l n i)+1:=by unfold pw;omega
  rw[this]at b⊢;exact mL U U
 refine Xf w ?_;refine AJ (p.E0 U hn) ?_;exact .eE .refl (.nD .cP .cP .cP) Z
def tK.anQ(p:tK l)(hn:n+1<=15)(H:i<=n):bz 331 [u64 (pw (n+1) l),int i] (.dY [u64 (pw n (mv l i n)),int (l.getD i 0:Nat),bW M]):=by
 refine bz.ac 2 T0 func331 λh Y=>?_;refine Xf f331.eq_1 ?_;refine AJ (p.KB hn) ?_;refine ba (p.adJ hn) ?_;have c3':¬n+1<=i:=U;have w1:cO .i64 (((n+1:Nat):Int)-1)=((n:Nat):Int):=(show((n+1:Nat):Int)-1=(n:Int)from U)▸(wrap_i64 U U)
 refine J7 (U:¬((i:Int)<0)) (U:¬(((n+1:Nat):Int)<=(i:Int))) w1 ?_;refine ba (p.am3 hn U U) ?_;have pm:=p.DL (f:=i) (t:=n) U;have b:=pm.K8 (n:=n+1) hn;have w:cO .u64 (((pw (n+1) (mv l i n):Nat):Int)-1)=((pw n (mv l i n):Nat):Int):=by
  have:pw (n+1) (mv l i n)=pw n (mv l i n)+1:=by unfold pw;omega
  rw[this]at b⊢;rw[show((pw n (mv l i n)+1:Nat):Int)-1=((pw n (mv l i n):Nat):Int)from U];exact mL U U
 refine Xf w ?_;refine AJ (p.E0 hn U) ?_;exact .eE .refl (.nD .cP .cP .cP) Z
variable{k:Nat}
def bv(s:aY):Nat->Nat
 |0=>0
 |k+1=>bv s k*256+(s.getD k 0).toNat
def GO(s):∀k,bv s k<256^k
 |0=>by simp[bv]
 |k+1=>by have:=GO s k;have:=(s.getD k 0).toNat_lt;simp only[bv,kZ];omega
def zO{s t:aY}:∀{k:Nat},(∀i,i<k->s.getD i 0=t.getD i 0)->bv s k=bv t k
 |0,_=>rfl
 |k+1,h=>by rw[bv,bv,zO (k:=k) λi H=>h i U,h k U]
def V8(s)(k:Nat):∀j,bv s (k+j) / 256^j=bv s k
 |0=>bR
 |j+1=>by
  have W:=V8 s k j;have F:=(s.getD (k+j) 0).toNat_lt;have h3:bv s (k+(j+1)) / 256=bv s (k+j):=by rw[show k+(j+1)=(k+j)+1 from U,bv];omega
  rw[kZ,sK (256^j),<-Ct,h3,W]
def ame(s)(hk:k<8):(bv s 8>>>(8*(7-k)))%256=(s.getD k 0).toNat:=by have W:=V8 s (k+1) (7-k);rw[show k+1+(7-k)=8 from U]at W;have F:=(s.getD k 0).toNat_lt;rw[qu,GU,show(2:Nat)^8=256 from Z,W,bv];omega
def cut(s:aY):aY:=if O s<=8 then s else s.take 8++[0]
structure tv(m:aY):Prop where
 len:O m<=9
 hd:O m=9->m.getD 8 0=0
def mq(s):O (cut s)=min (O s) 9:=by
 unfold cut;split;.omega
 .simp;omega
def GS(s):tv (cut s):=by refine⟨by rw[mq];omega,λh=>?_⟩;rw[mq]at h;unfold cut;rw[ak U,aB,cE gr];simp[show min 8 (O s)=8 from U]
def Xi{s}(hk:k<8):(cut s).getD k 0=s.getD k 0:=by
 unfold cut;split;.rfl
 .rw[aB,bX gr,eQ,au hk,aB]
def UK(s):bv (cut s) 8=bv s 8:=zO λ_ H=>Xi H
def rT(s):(cut s).take 8=s.take 8:=by
 unfold cut;split;.rfl
 .rw[aD gr,bI];simp
abbrev uW(m:aY):List u:=[u64 (bv m 8:Nat),u8 (O m:Nat)]
section
variable{P:Program}
def ama{a:Nat}(ha:a<65536):dE P h .quo t x y (int a) (int 8)=J (int (a / 8:Nat)):=by
 have hr:bM P (binOp .quo t (.int .i64 a) (.int .i64 8))=J (.int .i64 (a / 8:Nat)):=by show J (Value.int .i64 (IntKind.wrap .i64 ((a:Int).tdiv 8)))=_;rw[show(a:Int).tdiv 8=((a / 8:Nat):Int)from Z,<-je,wrap_i64 U U]
 have hg:bM P (do eqGuard .quo t x y (.int .i64 a) (.int .i64 8);binOp .quo t (.int .i64 a) (.int .i64 8))=J (.int .i64 (a / 8:Nat)):=by unfold eqGuard;simp only[cr];exact hr
 have G:jm P h .quo t x y (.g (.int .i64 a)) (.g (.int .i64 8))=some (.g (.int .i64 (a / 8:Nat))):=by show lH P .quo t x y (.int .i64 a) (.int .i64 8)=_;unfold lH;rw[hg]
 unfold dE;simp only[eX];exact G
def amy{a:Nat}(ha:a<65536):dE P h .mul t x y (int a) (int 8)=J (int (a*8:Nat)):=
 Hb (a:=a) (b:=8) U
def ahP{a:Nat}(ha:a<65536):dE P h .mul t x y (int 8) (int a)=J (int (8*a:Nat)):=
 Hb (a:=8) (b:=a) U
end
def aeQ{n}:nA prog h 5 71 (.g (.int .u8 n))=J (.g (.int .u64 (cO .u64 n))):=oD Yj Nl
def agL{n}:nA prog h 71 5 (.g (.int .u64 n))=J (.g (.int .u8 (cO .u8 n))):=oD Nl Yj
attribute[go_sem] aeQ agL ama amy ahP
def apX(s:aY)(i:Nat)(G:O s<60000)(H:i<6000):bz 332 [cg s,int i] (.dY [u64 (bv (s.drop (8*i)) 8:Nat),int (min (O (s.drop (8*i))) 9:Nat)]):=by
 refine bz.ac 2 T0 func332 λh Y=>?_;have c1:¬((i:Int)<0):=U;have c2:O s<65536:=U;have c3:i<65536:=U;by_cases z:s.drop (8*i)=[]
 .have K:O s<=8*i:=Mf z
  rw[z];by_cases c4:O s / 8<i;.have c4':((O s / 8:Nat):Int)<(i:Int):=U;refine L6 f332.eq_1 c1 c2 c4' ?_;exact .eE .refl (.mC .cP .cP) Z
  .have c4':¬((O s / 8:Nat):Int)<(i:Int):=U;have c5:(O s:Int)<=((i*8:Nat):Int):=U;have c5':O s<=i*8:=U;refine RC f332.eq_1 c1 c2 c3 c4' c5 ?_;exact .eE .refl (.mC .cP .cP) Z
 .have K:8*i<O s:=by
   obtain h|h:=bB (8*i) (O s);.exact h
   .exact absurd (aX h) z
  have c4:¬O s / 8<i:=U;have c5':¬O s<=i*8:=U;refine YM f332.eq_1 c1 c2 c3 (U:¬((O s / 8:Nat):Int)<(i:Int)) (U:¬(O s:Int)<=((i*8:Nat):Int)) (U:i*8<=O s) ?_;have e0:s.drop (i*8)=s.drop (8*i):=by rw[sK]
  rw[e0];generalize ht:s.drop (8*i)=t;have tl:O t<60000:=by rw[<-ht,aC];omega
  refine cI _ _ (λm s Q E=>∃k,k<=8/\m=8-k/\X s 0=cg t/\X s 4=u64 (bv t k:Nat)/\X s 27=int k/\Q=h/\E=Y) (n:=8) ?_ ?_;.refine QZ ?_;exact⟨0,U,U,Z,Z⟩
  rintro m s Q E ⟨k,hk,rfl,s0,s4,IE,rfl,rfl⟩;by_cases dc:k<8
  .have c0:((k:Int)<8):=U;have w1:k+1<9223372036854775808:=U;have b0:=GO t k;have b1:(256:Nat)^k<=256^7:=Gt bS U;have b2:bv t k<<<8=bv t k*256:=BE _ _;have q1:∀{h t' x y},dE prog h .shl t' x y (u64 (bv t k:Nat)) (u64 8)=J (u64 (bv t k*256:Nat)):=λ{h t' x y}=>by have:=CU (P:=prog) (h:=h) (t:=t') (x:=x) (y:=y) (k:= .u64) (k':= .u64) (a:=bv t k) (n:=8) Z bS (b2▸(mL U U));rw[b2]at this;exact this
   by_cases xC:k<O t
   .have hkl':((k:Int)<(O t:Int)):=U;have L:=(t.getD k 0).toNat_lt;have w3:cO .u64 (((t.getD k 0).toNat:Nat):Int)=((t.getD k 0).toNat:Nat):=mL U U;have q2:∀{h t' x y},dE prog h .or t' x y (u64 (bv t k*256:Nat)) (u64 ((t.getD k 0).toNat:Nat))=J (u64 (bv t (k+1):Nat)):=λ{h t' x y}=>by rw[H8 U U];have:=XN (a:=bv t k) (b:=(t.getD k 0).toNat) (i:=8) L;rw[b2]at this;rw[<-this];rfl
    refine asB s0 s4 IE c0 @q1 @q2 w3 xC hkl' w1 ?_;exact⟨_,(U:8-(k+1)<_),k+1,dc,Z,Z,Z⟩
   .have e:bv t (k+1)=bv t k*256:=by rw[bv,aB,ed U];rfl
    refine YM s0 s4 IE c0 @q1 (U:¬((k:Int)<(O t:Int))) w1 ?_;exact⟨_,(U:8-(k+1)<_),k+1,dc,Z,by rw[e],Z⟩
  .have e:k=8:=U;subst e;have hm:(if(9:Int)<(O t:Int)then(9:Int)else(O t:Int))=((min (O t) 9:Nat):Int):=by split<;>omega
   refine L6 s0 s4 IE hm ?_;exact .eE .refl (.mC .cP .cP) Z
variable{j:Nat}
def pad(s:aY)(n:Nat):aY:=(List.range n).map λk=>s.getD k 0
def zu(s):∀k,bv s (k+1)=(s.getD 0 0).toNat*256^k+bv (s.drop 1) k
 |0=>by simp[bv]
 |k+1=>by
  have e:(s.drop 1).getD k 0=s.getD (k+1) 0:=by rw[ou,kV]
  rw[bv,zu s k,bv,e,kZ,bC,Ac,fZ]
def KQ(s)(k:Nat):pad s (k+1)=s.getD 0 0::pad (s.drop 1) k:=by
 unfold pad;rw[List.range_succ_eq_map,cB,sY]
 congr 1
 refine fD λi _=>?_;show s.getD (i+1) 0=(s.drop 1).getD i 0;rw[ou,kV]
def Vh:∀(k:Nat) (m n:aY) (x y:UInt8),pad m k++[x]<pad n k++[y]↔bv m k<bv n k\/(bv m k=bv n k/\x<y)
 |0,m,n,x,y=>by show[x]<[y]↔_;rw[ef];simp[bv]
 |k+1,m,n,x,y=>by
  have ih:=Vh k (m.drop 1) (n.drop 1) x y;have W:=GO (m.drop 1) k;have F:=GO (n.drop 1) k;rw[KQ,KQ,lC,lC,ef,ih,zu m,zu n];generalize m.getD 0 0=a;generalize n.getD 0 0=b;generalize bv (m.drop 1) k=AV at*;generalize bv (n.drop 1) k=v at*;generalize 256^k=P at*;rw[dN,<-fH];obtain h|h|h:=cF a.toNat b.toNat
  .exact auQ
  .rw[h];constructor
   .rintro(Q|⟨_,Q|⟨ki,qK⟩⟩);.omega
    .left;omega
    .right;exact⟨U,qK⟩
   .rintro(Q|⟨ki,qK⟩);.exact .inr ⟨Z,.inl U⟩
    .exact .inr ⟨Z,.inr ⟨U,qK⟩⟩
  .exact auF
def U6:∀(k:Nat) (m n:aY),O m<=k+1->O n<=k+1->(O m=k+1->m.getD k 0=0)->(O n=k+1->n.getD k 0=0)->(m<n↔bv m k<bv n k\/(bv m k=bv n k/\O m<O n))
 |0,m,n,hm,hn,zm,zn=>by
  have get:∀l:aY,O l<=0+1->(O l=0+1->l.getD 0 0=0)->l=[]\/l=[0]:=λl h hd=>by
   match l,h,hd with
   |[],_,_=>exact .inl Z
   |[a],_,hd=>exact .inr (by rw[show a=0 from by simpa using hd Z])
  rcases get m hm zm with rfl|rfl<;>rcases get n hn zn with rfl|rfl<;>simp[bv]
 |k+1,[],[],_,_,_,_=>bR
 |k+1,[],b::n,_,_,_,_=>by
  simp only[List.nil_lt_cons,true_iff,fx,bD];have:bv [] (k+1)=0:=by
   exact auU
  omega
 |k+1,a::m,[],_,_,_,_=>by
  have:bv [] (k+1)=0:=by
   exact auU
  simp[this]
 |k+1,a::m,b::n,hm,hn,zm,zn=>by
  have ih:=U6 k m n (Mf hm) (Mf hn) (λh=>by simpa using zm (by simp[h])) (λh=>by simpa using zn (by simp[h]));have W:=GO m k;have F:=GO n k;rw[ef,ih,zu (a::m),zu (b::n)];rw[bD,bD];show a<b\/a=b/\_↔a.toNat*256^k+bv m k<b.toNat*256^k+bv n k\/(a.toNat*256^k+bv m k=b.toNat*256^k+bv n k/\_);generalize bv m k=AV at*;generalize bv n k=v at*;generalize 256^k=P at*;rw[dN,<-fH];obtain h|h|h:=cF a.toNat b.toNat
  .exact auQ
  .rw[h];constructor
   .rintro(Q|⟨_,Q|⟨ki,qK⟩⟩);.omega
    .left;omega
    .right;exact⟨U,U⟩
   .rintro(Q|⟨ki,qK⟩);.exact .inr ⟨Z,.inl U⟩
    .exact .inr ⟨Z,.inr ⟨U,U⟩⟩
  .exact auF
def tv.lt{m n}(hm:tv m)(hn:tv n):m<n↔bv m 8<bv n 8\/(bv m 8=bv n 8/\O m<O n):=
 U6 8 m n hm.len hn.len hm.hd hn.hd
def tv.inj{m n}(hm:tv m)(hn:tv n)(W:bv m 8=bv n 8)(F:O m=O n):m=n:=by
 obtain h|h|h:=kC m n;.rcases(hm.lt hn).1 h with h|h<;>omega
 .exact h
 .rcases(hn.lt hm).1 h with h|h<;>omega
def qy(m:aY):aY:=pad m 8++[UInt8.ofNat (O m)]
def C8{m n}(hm:tv m)(hn:tv n):qy m<qy n↔m<n:=by have W:=hm.len;have F:=hn.len;rw[hm.lt hn,qy,qy,Vh,dN,j9 (by show _<256;omega),j9 (by show _<256;omega)]
def Zs{m:aY}(h:O m<=k):bv m (k+j)=bv m k*256^j:=by
 induction j with
 |zero=>simp
 |succ j ih=>rw[<-fZ,bv,ih,aB,ed U,kZ,<-Ac];rfl
def WL(m):pad m (min (O m) 8)=m.take 8:=by
 apply iX;intro i;unfold pad;by_cases h:i<min (O m) 8;.rw[gY,wU h,eQ,au U,aF U];simp[aF (show i<O m from U)]
 .rw[ed gr,ed gr]
abbrev SP(l:aY):List u:=l.map λb:UInt8=>(u8 (b.toNat:Nat))
def Dt:∀(l:aY),pD (SP l)=J l
 |[]=>rfl
 |b::l=>by have:=Dt l;show(match pD (SP l)with|some r=>J (UInt8.ofNat ((b.toNat:Nat):Int).toNat::r)|none=>B)=_;rw[this,oZ,Oe]
def Pe:∀(n:Nat),gT n [u8 0]=SP (List.replicate n 0)
 |0=>rfl
 |n+1=>by rw[qD];show u8 0::gT n [u8 0]=_;rw[Pe n];rfl
def apP(h:n<=65536):sg prog 46 (int n) (int n)=J (.ri (.cells (SP (List.replicate n 0)) 5) n n):=by unfold sg;rw[yz];show PZ prog 5 n n=_;unfold PZ;rw[SK,tb5,tz5];show(if decide (n<=n)&&decide (n<=65536)&&M&&M then J (QR.ri (.cells (gT n [u8 0]) 5) n n)else B)=_;rw[aN (an n),aN h,Pe];rfl
def Re:cO .u8 (n:Int)=((n%256:Nat):Int):=by rw[je];show(n:Int)%(2^8:Int)=_;omega
def yS(s n):O (pad s n)=n:=by simp[pad]
def ahT{s}(h:k<n):(pad s n).getD k 0=s.getD k 0:=by unfold pad;rw[aB,gY,wU h];rfl
def asT{l:aY}(ln:O l=n)(h:i<n):(l.take i++List.replicate (n-i) 0).set i (l.getD i 0)=l.take (i+1)++List.replicate (n-(i+1)) 0:=by rw[oQ _ _ gr,ax,show i-min i (O l)=0 from U,show n-i=(n-(i+1))+1 from U,qD,Lz,x7,aB,aF U,aA];rfl
def ac9{l:aY}{b:UInt8}(h:i<O l):eG i (SP l) [u8 (b.toNat:Nat)]=J (SP (l.set i b)):=by rw[Kr (Mf h),SP,SP,qj]
def anh(s)(c:Nat)(A:c<=9):bz 342 [u64 (bv s 8:Nat),int c] (cg (pad s (min c 8))):=by
 refine bz.ac 2 T0 func342 λh Y=>?_;by_cases h0:c<1;.have qX:(c:Int)<1:=U;have e:c=0:=U;subst e;refine Xf f342.eq_1 ?_;exact .eE .refl .cg Z
 .have hm:(if(8:Int)<(c:Int)then(8:Int)else(c:Int))=((min c 8:Nat):Int):=by split<;>omega
  refine L6 f342.eq_1 (U:¬(c:Int)<1) (U:¬(9:Int)<c) hm ?_;have hM:min c 8<=8:=U;generalize min c 8=zzQ at hM;have e0:(pad s zzQ).take 0++List.replicate (zzQ-0) 0=List.replicate zzQ 0:=rfl;refine Xf (apP (n:=zzQ) U) ?_;refine cI _ _ (λm s' Q E=>∃k,k<=zzQ/\m=zzQ-k/\X s' 0=u64 (bv s 8:Nat)/\X s' 5= .sl Y 0 zzQ zzQ/\X s' 17=int zzQ/\X s' 18=int k/\(aG Y h Q/\N Q Y=J (.cells (SP ((pad s zzQ).take k++List.replicate (zzQ-k) 0)) 5))/\Y+1<=E) (n:=zzQ) ?_ ?_;.refine QZ ?_;exact⟨0,aQ _,Z,Z,aG.refl.set (an _),by rw[e0]⟩
  rintro m s' Q E ⟨k,hk,rfl,s0,s5,PM,GC,⟨S0,g0⟩,l1⟩;by_cases dc:k<zzQ
  .have c0:((k:Int)<(zzQ:Int)):=U;have w1:k+1<9223372036854775808:=U;have w2:cO .i64 (7-(k:Int))=((7-k:Nat):Int):=(show(7-(k:Int))=((7-k:Nat):Int)from U)▸(wrap_i64 U U)
   have w3:7-k<65536:=U;have w4:8*(7-k)<=64:=U;have w5:cO .u8 ((bv s 8>>>(8*(7-k)):Nat):Int)=((s.getD k 0).toNat:Nat):=by rw[Re,ame s U]
   have q:eG (k*1) (SP ((pad s zzQ).take k++List.replicate (zzQ-k) 0)) [u8 ((s.getD k 0).toNat:Nat)]=J (SP ((pad s zzQ).take (k+1)++List.replicate (zzQ-(k+1)) 0)):=by have:=asT (yS s zzQ) dc;rw[ahT dc]at this;rw[df,ac9 (by simp[yS];omega),this]
   simp+decide-dsimp only[go_sem,s0,s5,PM,GC,c0,dc,w1,w2,w3,w4,w5,GY,g0,q];exact⟨_,(U:zzQ-(k+1)<_),k+1,dc,Z,Z,⟨S0.set (an _),Z⟩,l1⟩
  .have e:k=zzQ:=U;subst e;rw[aH (Es @yS),kX,IX,cy]at g0;have q:dt Q Y 0 k=J (SP (pad s k)):=by rw[cL,g0,cV,iq,aT,bZ _ _ (by simp[yS]),aH (by simp[yS])]
   simp+decide-dsimp only[go_sem,s5,PM,GC,q,Dt,dz];exact .eE S0 .cg Z
def U1(s:aY)(i:Nat)(G:O s<60000)(H:i<6000):bz 314 [cg s,int i] (.agg (uW (cut (s.drop (8*i))))):=by
 refine bz.ac 2 T0 func314 λh Y=>?_;refine Xf f314.eq_1 ?_;refine ba (apX s i G H) ?_;refine Xf (U:min (O (s.drop (8*i))) 9<256) ?_;refine .eE ?_ (.agg (.cons .cP (.cons .cP .nil))) ?_
 .exact ata
 .rw[uW,UK,mq]
def aju:=RB [(1,[([0,1,3,4,5,6],[1,4],J 2),([7],[4,5,6],J 8),RX])]
def QY(m:aY)(hm:O m<=9):bz 336 [.agg (uW m)] (cg (qy m)):=by
 refine bz.ac 1 aju func336 λh Y=>?_;have K:O m<256:=U;have e1:((O m:Nat):Int)=(((UInt8.ofNat (O m)).toNat:Nat):Int):=by rw[j9 K]
 have q:pD [u8 (O m:Nat)]=J [UInt8.ofNat (O m)]:=e1▸ajY
 refine PV f336.eq_1 aju.eq_1 @cL @cV q ?_;have c:=anh m 8 U;rw[show((8:Nat):Int)=8 from Z,show min 8 8=8 from Z]at c;refine ba c ?_;have q3:∀{h t x y},dE prog h .add t x y (cg (pad m 8)) (cg [UInt8.ofNat (O m)])=J (cg (pad m 8++[UInt8.ofNat (O m)])):=λ{h t x y}=>kG (by simp[pad]);refine L6 @cL @cV q @q3 ?_;refine .eE ?_ .cg Z
 exact ata
def ahd(m n)(hm:tv m)(hn:tv n):bz 339 [.agg (uW m),.agg (uW n)] (bW (decide (m<n))):=by
 refine bz.ac 2 T0 func339 λh Y=>?_;have dc:=hm.lt hn;have d0:∀q:Nat,¬(Y=Y+1):=U;by_cases W:bv m 8<bv n 8
 .have e:=dc.2 (.inl W);have ki:((bv m 8:Nat):Int)<(bv n 8:Nat):=U;refine Y8 f339.eq_1 ki ?_;refine .eE ?_ .cP (by rw[aN e])
  exact ata
 .by_cases F:bv m 8=bv n 8
  .have qK:((bv m 8:Nat):Int)=(bv n 8:Nat):=U;have ti:m<n↔O m<O n:=dc.trans ⟨λh=>h.elim (λh=>absurd h W) And.right,λh=> .inr ⟨F,h⟩⟩;simp+decide-dsimp only[f339,go_sem,F,dz];refine .eE ?_ .cP (by rw[jl.2 ti])
   exact ata
  .refine J7 f339.eq_1 (U:¬((bv m 8:Nat):Int)<(bv n 8:Nat)) (U:¬((bv m 8:Nat):Int)=(bv n 8:Nat)) ?_;refine .eE ?_ .cP (by rw[aU λe=>by obtain e|⟨e,_⟩:=dc.1 e;exact W e;exact F e])
   exact ata
def alB(m)(hm:tv m):bz 355 [.agg (uW m)] (bW M):=by
 refine bz.ac 1 T0 func355 λh Y=>?_;have K:=hm.len;by_cases h8:8<=O m;.have h8':(8:Int)<=(O m:Int):=U;have h9':(O m:Int)<=9:=U;simp+decide-dsimp only[f355,go_sem,h8',h9'];exact .of (aG.refl.set (an _)) .cP
 .have q1:∀{h t x y},dE prog h .mul t x y (u8 8) (u8 (O m:Nat))=J (u8 (8*O m:Nat)):=λ{h t x y}=>by refine wy (FF Z) ?_;show J (Value.int .u8 (IntKind.wrap .u8 ((8:Int)*(O m:Int))))=_;rw[<-je,show(8:Int)*(O m:Int)=((8*O m:Nat):Int)by omega,wrap_u8 U U]
  have q2:∀{h t x y},dE prog h .shl t x y (u64 (bv m 8:Nat)) (u8 (8*O m:Nat))=J (u64 0):=λ{h t x y}=>by
   refine Ao (.inr Z) U ?_;unfold Op.shift;rw[ak U];show J (Value.int .u64 (IntKind.wrap .u64 (((bv m 8:Nat):Int)*(2^min ((8*O m:Nat):Int).toNat 64))))=_;have e:bv m 8*2^(8*O m)=bv m (O m)*18446744073709551616:=by have:=Zs (m:=m) (k:=O m) (j:=8-(O m)) (an _);rw[show O m+(8-(O m))=8 from U]at this;rw[this,GU,show(2:Nat)^8=256 from Z,Ac,<-Nat.pow_add,show 8-(O m)+O m=8 from U]
   rw[oZ,b9 U];have e2:((bv m 8:Nat):Int)*(2:Int)^(8*O m)=((bv m (O m)*18446744073709551616:Nat):Int):=by rw[<-e];simp
   rw[e2];show J (Value.int .u64 (((bv m (O m)*18446744073709551616:Nat):Int)%18446744073709551616))=_;rw[show((bv m (O m)*18446744073709551616:Nat):Int)%18446744073709551616=0 from U]
  refine L6 f355.eq_1 (U:¬(8:Int)<=(O m:Int)) @q1 @q2 ?_;exact .eE (aG.refl.set (an _)) .cP Z
variable{n':Nat}{vs:List u}
theorem mk_eq(a b c d)(q:Nat):bM prog (Op.equalIn (q+2) 264 (.agg #[.int .u64 a,.int .u8 b]) (.agg #[.int .u64 c,.int .u8 d]))=J (a==c&&b==d):=by
 rw[Af (q+1) 264 _ _ aK aK];rw[uc,show((prog.fieldsOf 264).toList.map λf=>(f.type,f.offset,decide (f.name= "_")))=[(71,0,R),(5,1,R)]from aK,
  tX aK aK (IF q 71 .u64 .u64 a c Nl),tX aK aK (IF q 5 .u8 .u8 b d Yj)]
 cases a==c<;>cases b==d<;>rfl
theorem aa9{a b c d:Int}:dE prog h .eql 264 x y (.agg [u64 a,u8 b]) (.agg [u64 c,u8 d])=J (bW (a==c&&b==d)):=(yM (AV:=[_,_]) (v:=[_,_]) Z Z aK (mk_eq a b c d 9998)).1
theorem ac7{m n}(hm:tv m)(hn:tv n):((((bv m 8:Nat):Int)==((bv n 8:Nat):Int))&&(((O m:Nat):Int)==((O n:Nat):Int)))=decide (m=n):=by
 by_cases h:m=n;.subst h;simp
 .rw[aU h];by_cases W:bv m 8=bv n 8;.have F:O m≠O n:=λF=>h (hm.inj hn W F);simp;intro _;exact λh3=>F (Int.ofNat_inj.1 h3)
  .simp;intro h3;exact absurd (Int.ofNat_inj.1 h3) W
theorem Wv{m n}(hm:tv m)(hn:tv n):dE prog h .eql 264 x y (.agg (uW m)) (.agg (uW n))=J (bW (decide (m=n))):=by rw[uW,uW,aa9,ac7 hm hn]
structure Sl where
 m:aY
 rest:aY
 val:aY
 deep:Bool
 link:Hd
abbrev Sl.cells(s:Sl):List u:=[u64 (bv s.m 8:Nat),u8 (O s.m:Nat),cg s.rest,cg s.val,bW s.deep,int s.link.X,u64 s.link.bo]
def zs:Sl:=⟨[],[],[],R,⟨0,0⟩⟩
structure Sl.zxQ(s:Sl):Prop where
 m:tv s.m
 d:s.deep=M->O s.m=9/\s.rest=[]/\s.val=[]
 n:s.deep=R->s.link=⟨0,0⟩/\(O s.m=9↔s.rest≠[])
structure Lf where
 n:Nat
 ds:List Nat
 sl:List Sl
 cQ:aY
 bd:Bool
 next:Hd
def Lf.cells(l:Lf):List u:=u64 (pw l.n l.ds:Nat)::(l.sl.flatMap Sl.cells++[u64 (bv l.cQ 8:Nat),u8 (O l.cQ:Nat),bW l.bd,int l.next.X,u64 l.next.bo])
abbrev Lf.av(l:Lf):u:= .agg l.cells
theorem uC(l:List Sl):O (l.flatMap Sl.cells)=O l*7:=by
 induction l with
 |nil=>rfl
 |cons a l ih=>rw[bE,aq,ih];show 7+O l*7=(O l+1)*7;omega
theorem Oy:∀(l:List Sl) (k:Nat) (zyQ:List u),k<=O l->(l.flatMap Sl.cells++zyQ).drop (k*7)=(l.drop k).flatMap Sl.cells++zyQ
 |l,0,zyQ,_=>bR
 |a::l,k+1,zyQ,h=>by rw[bE,aA,qi,kV,jo,aX (i:=7+k*7) (l:=a.cells) (by show 7<=_;omega),cz];show(l.flatMap Sl.cells++zyQ).drop (7+k*7-7)=_;rw[ij,Oy l k zyQ (Mf h)];rfl
section
variable{l:Lf}(K:O l.sl=15)
include K
theorem eR:O l.cells=111:=by unfold Lf.cells;rw[bD,aq,uC,K];rfl
theorem yV:l.cells.drop (106+k)=[u64 (bv l.cQ 8:Nat),u8 (O l.cQ:Nat),bW l.bd,int l.next.X,u64 l.next.bo].drop k:=by unfold Lf.cells;rw[show 106+k=(105+k)+1 from U,kS,jo,aX (by rw[uC,K];omega),cz,uC,K,show 105+k-15*7=k from U]
theorem NM:iS 0 l.cells=J (u64 (pw l.n l.ds:Nat)):=bQ Z
theorem He:(dV 106 l.cells).bind (dC 2)=J (uW l.cQ):=by rw[eY _ _ (Es (eR K)),yV K (k:=0)];rfl
theorem OT:iS 108 l.cells=J (bW l.bd):=by have:=yV K (k:=2);rw[k6,<-List.head?_drop,this];rfl
theorem Hc:(dV 109 l.cells).bind (dC 2)=J [int l.next.X,u64 l.next.bo]:=by rw[eY _ _ (Es (eR K)),yV K (k:=3)];rfl
theorem lB:dC 111 l.cells=J l.cells:=by rw[bZ _ _ (Es (eR K)),aH (Es (eR K))]
theorem FK(hk:k<15):(dV (1+k*7) l.cells).bind (dC 7)=J (l.sl.getD k zs).cells:=by
 have e:l.cells.drop (1+k*7)=(l.sl.drop k).flatMap Sl.cells++[u64 (bv l.cQ 8:Nat),u8 (O l.cQ:Nat),bW l.bd,int l.next.X,u64 l.next.bo]:=by unfold Lf.cells;rw[kV,kS,Oy _ _ _ U]
 rw[eY _ _ (Es (eR K)),e,aT,cM U,bE,aB,aF U];exact bZ 7 _ bR
theorem Dl{ds'}:eG 0 l.cells [u64 (pw n' ds':Nat)]=J ({l with n:=n',ds:=ds'}:Lf).cells:=by rw[cG _ _ _ (by rw[eR K];simp)];rfl
theorem Am(hk:k<15)(s:Sl):eG (1+k*7) l.cells s.cells=J ({l with sl:=l.sl.set k s}:Lf).cells:=by
 rw[cG _ _ _ (by rw[eR K];show _+7<=_;omega)];have e:l.sl=l.sl.take k++l.sl.getD k zs::l.sl.drop (k+1):=by rw[aB,aF U];show l.sl=l.sl.take k++l.sl[k]::l.sl.drop (k+1);rw[<-cM U,bA]
 have e1:l.sl.set k s=l.sl.take k++s::l.sl.drop (k+1):=by
  conv=>lhs;rw[e]
  rw[oQ _ _ gr,ax,show k-min k (O l.sl)=0 from U];rfl
 have f1:O ((l.sl.take k).flatMap Sl.cells)=k*7:=by rw[uC,ax,b9 U]
 unfold Lf.cells;show J (List.take (1+k*7) _++s.cells++List.drop (1+k*7+7) _)=J (_::(({l with sl:=l.sl.set k s}:Lf).sl.flatMap Sl.cells++_));rw[e1]
 conv=>lhs;rw[e]
 rw[bL,bL,bE,bE,show 1+k*7=k*7+1 from U,mV,show k*7+1+7=(k*7+7)+1 from U,kS];simp only[aA];rw[aD U,aH U,jo,aX U,f1,ij];simp[aA]
theorem EL(hk:k+O vs<=5):eG (106+k) l.cells vs=J (l.cells.take 106++([u64 (bv l.cQ 8:Nat),u8 (O l.cQ:Nat),bW l.bd,int l.next.X,u64 l.next.bo].take k++vs++[u64 (bv l.cQ 8:Nat),u8 (O l.cQ:Nat),bW l.bd,int l.next.X,u64 l.next.bo].drop (k+O vs))):=by rw[cG _ _ _ (Es (eR K)),fZ,yV K,k9,yV K (k:=0)];simp[aA]
theorem IT:l.cells.take 106=u64 (pw l.n l.ds:Nat)::l.sl.flatMap Sl.cells:=by unfold Lf.cells;rw[mV,aD (by rw[uC,K];omega),aH (by rw[uC,K];omega)]
theorem Bn(m):eG 106 l.cells (uW m)=J ({l with cQ:=m}:Lf).cells:=by rw[EL K (k:=0) bR,IT K];rfl
theorem Gb(b):eG 108 l.cells [bW b]=J ({l with bd:=b}:Lf).cells:=by rw[EL K (k:=2) bR,IT K];rfl
theorem Bp(x:Hd):eG 109 l.cells [int x.X,u64 x.bo]=J ({l with next:=x}:Lf).cells:=by rw[EL K (k:=3) bR,IT K];rfl
end
def Lf.e(l:Lf)(i:Nat):Sl:=l.sl.getD (l.ds.getD i 0) zs
structure Lf.zxQ(l:Lf):Prop where
 p:tK l.ds
 n:l.n<=15
 sl:O l.sl=15
 hd:∀i,l.n<=i->i<15->l.e i=zs
 r:∀i,i<l.n->(l.e i).zxQ
 kj:∀i,i+1<l.n->(l.e i).m<(l.e (i+1)).m
 xP:∀i,i<l.n->l.bd=M->(l.e i).m<l.cQ
 H:tv l.cQ
 nb:l.bd=R->l.cQ=[]
def Lf.eF(l:Lf)(m:aY):Bool:= !l.bd||decide (m<l.cQ)
def gU{p:Prop}(h:p:=by repeat' first|exact aG.refl|apply aG.fo|(apply aG.set;rotate_left;omega)):p:=h
def Yv(l:Lf)(K:O l.sl=15)(hh:tv l.cQ)(m)(hm:tv m):bz 344 [l.av,.agg (uW m)] (bW (l.eF m)):=by
 refine bz.ac 2 T0 func344 λh Y=>?_;have d0:¬(Y=Y+1):=U;have f1:=OT K;have f2:=He K;cases D:l.bd with
 |false=>rw[D]at f1;simp+decide-dsimp only[f344,go_sem,f1,d0];refine .eE ?_ .cP (by unfold Lf.eF;rw[D];rfl);exact gU
 |true=>rw[D]at f1;simp+decide-dsimp only[f344,go_sem,f1,f2,d0];refine AJ (ahd m l.cQ hm hh) ?_;refine .eE ?_ .cP (by unfold Lf.eF;rw[D];rfl);exact gU
def K9(l:Lf)(p:tK l.ds)(hn:l.n<=15)(K:O l.sl=15):bz 327 [l.av] (int l.n):=by refine bz.ac 1 T0 func327 λh Y=>?_;have f0:=NM K;simp+decide-dsimp only[f327,go_sem,f0];refine AJ (p.KB hn) ?_;exact .eE (aG.refl.set (an _)) .cP Z
def amu(l:Lf)(p:tK l.ds)(hn:l.n<=15)(K:O l.sl=15):bz 357 [l.av] (bW (decide (6<l.n))):=by refine bz.ac 1 T0 func357 λh Y=>?_;have fa:=lB K;refine Y8 f357.eq_1 fa ?_;refine AJ (K9 l p hn K) ?_;refine .eE (aG.refl.set (an _)) .cP ?_;exact ff (λb=>u.g (.bool b)) (jl.2 U)
def ajS:(((0:Nat):Int)==0)=M:=rfl
def akJ(s:Sl)(zxQ:s.zxQ):bz 343 [.agg s.cells] (bW M):=by
 refine bz.ac 1 T0 func343 λh Y=>?_;refine Xf f343.eq_1 ?_;refine ba (alB s.m zxQ.m) ?_;cases z:s.deep with
 |true=>have⟨W,F,h3⟩:=zxQ.d z;refine L6 z W F h3 ?_;exact .eE (aG.refl.set (an _)) .cP Z
 |false=>
  have⟨W,F⟩:=zxQ.n z;by_cases h9:O s.m=9;.have h3:=F.1 h9;refine PV z W h3 h9 @ajS ?_;exact .eE (aG.refl.set (an _)) .cP Z
  .have h3:s.rest=[]:=cJ λh=>h9 (F.2 h);refine PV z W h3 (U:¬((O s.m:Nat):Int)=9) @ajS ?_;exact .eE (aG.refl.set (an _)) .cP Z
def afX:dE prog h .neq 266 x y (.agg zs.cells) (.agg [u64 0,u8 0,cg [],cg [],bW R,int 0,u64 0])=J (bW R):=aK
def ack:dE prog h .neq 264 x y (.agg (uW [])) (.agg [u64 0,u8 0])=J (bW R):=aK
def Vm(l:Lf)(zxQ:l.zxQ):bz 337 [l.av] (bW M):=by
 refine bz.ac 1 T0 func337 λh Y=>?_;have K:=zxQ.sl;have hn:=zxQ.n;have f0:=NM K;have f1:=OT K;have f2:=He K;have fa:=lB K;simp+decide-dsimp only[f337,go_sem,f0];refine ba (zxQ.p.adJ hn) ?_;cases D:l.bd
 case' true=>rw[D]at f1;simp+decide-dsimp only[go_sem,f1,f2];refine ba (alB l.cQ zxQ.H) ?_;simp+decide-dsimp only[go_sem,f1]
 case' false=>have h0:=zxQ.nb D;rw[D]at f1;rw[h0]at f2;simp+decide-dsimp only[go_sem,f1,f2,ack]
 all_goals
  refine cI _ _ (λm s Q E=>∃i lm,i<=15/\m=15-i/\(0<i->i<=l.n->lm=(l.e (i-1)).m)/\X s 1= .ptr Y 0/\X s 3= .ptr (Y+1) 0/\X s 31=int i/\(aG Y h Q/\N Q Y=J (.cells l.cells 269)/\N Q (Y+1)=J (.cells (uW lm) 264))/\Y+2<=E) (n:=15) ?_ ?_;.refine Xf (U:¬(Y=Y+1)) ?_;exact⟨0,[],aQ _,Z,(λh=>absurd h (dz 0)),Z,gU,Z⟩
  rintro m s Q E ⟨i,lm,H,rfl,RE,s1,s3,s31,⟨S0,g0,g1⟩,l1⟩;by_cases dc:i<15
  .have c0:((i:Int)<15):=U;have w1:i+1<9223372036854775808:=U;have d1:¬(Y=E):=U;have d2:¬(Y+1=E):=U;simp+decide-dsimp only[go_sem,s1,s31,c0,g0,f0];refine ba (zxQ.p.E0 hn dc) ?_;have z:=zxQ.p.nY i;have fs:=FK K z;have V:l.sl.getD (l.ds.getD i 0) zs=l.e i:=rfl;rw[V]at fs;simp+decide-dsimp only[go_sem,s1,g0,f0,z,fs,d1,reduceAdd];refine ba (zxQ.p.KB hn) ?_;have JG:l.n<=i->l.e i=zs:=λh=>zxQ.hd i h dc;have d3:¬(E=Y):=U;have d4:¬(E=Y+1):=U;by_cases DF:l.n<=i;.have ahg:((l.n:Int)<=(i:Int)):=U;have hz:=JG DF;rw[hz];refine Ik s1 s3 s31 ahg @afX w1 d1 d2 ?_;exact⟨_,(U:15-(i+1)<_),i+1,lm,dc,Z,(λ_ h=>U),Z,⟨by(repeat' first|exact S0|apply aG.fo|(apply aG.set;rotate_left;omega)),g0,g1⟩,U⟩
   .have hr:=zxQ.r i U;have pG:l.eF (l.e i).m=M:=by
     unfold Lf.eF;cases iQ:l.bd with
     |false=>rfl
     |true=>rw[aN (zxQ.xP i U iQ)];rfl
    refine Xf (U:¬((l.n:Int)<=(i:Int))) ?_;refine ba (akJ (l.e i) hr) ?_;by_cases h0:0<i;.have qX:(0:Int)<(i:Int):=U;have aqb:=RE h0 U;have rM:=zxQ.kj (i-1) U;rw[show i-1+1=i from U]at rM;have qE:=zxQ.r (i-1) U;subst aqb;refine L6 s3 qX g1 d2 ?_;refine ba (ahd _ _ qE.m hr.m) ?_;refine PV s1 rM g0 fa d1 ?_;refine ba (Yv l K zxQ.H _ hr.m) ?_;refine Ik s1 s3 s31 pG g1 w1 d1 d2 ?_;exact⟨_,(U:15-(i+1)<_),i+1,(l.e i).m,dc,Z,(λ_ _=>rfl),Z,⟨by(repeat' first|exact S0|apply aG.fo|(apply aG.set;rotate_left;omega)),g0,Z⟩,U⟩
    .refine PV s1 (U:¬(0:Int)<(i:Int)) g0 fa d1 ?_;refine ba (Yv l K zxQ.H _ hr.m) ?_;refine Ik s1 s3 s31 pG g1 w1 d1 d2 ?_;exact⟨_,(U:15-(i+1)<_),i+1,(l.e i).m,dc,Z,(λ_ _=>rfl),Z,⟨by(repeat' first|exact S0|apply aG.fo|(apply aG.set;rotate_left;omega)),g0,Z⟩,U⟩
  .have e:i=15:=U;subst e;refine Xf s31 ?_;exact .eE S0 .cP Z
def Lf.at(l:Lf)(i:Nat):Sl:=if i<l.n then l.e i else zs
def jq:Lf:=⟨0,Yh,List.replicate 15 zs,[],R,⟨0,0⟩⟩
def ya:Lf:=⟨0,[],List.replicate 15 zs,[],R,⟨0,0⟩⟩
def Wy:(List.replicate 15 zs).getD k zs=zs:=by rw[aB,mZ];split<;>rfl
def n9:jq.zxQ:=⟨As,bS,by simp[jq],λi _ _=>Wy,(λi h=>absurd h (cp _)),(λi h=>absurd h (cp _)),(λi h=>absurd h (cp _)),⟨bS,(λh=>by cases h)⟩,λ_=>rfl⟩
def apw:List Value:=[.int .u64 0,.int .u8 0,.string ⟨#[]⟩,.string ⟨#[]⟩,.bool R,.int .i64 0,.int .u64 0]
def acN:List Value:= .int .u64 0::((List.replicate 15 apw).flatten++[.int .u64 0,.int .u8 0,.bool R,.int .i64 0,.int .u64 0])
def ah4:dS prog 269=J acN:=aK
def mF:acN.map u.g=ya.cells:=rfl
attribute[go_sem] ah4
def jz.app{Y}:∀{a b:List u},jz Y a->jz Y b->jz Y (a++b)
 |[],_,_,D=>D
 |_::_,_,ha,D=>⟨ha.1,jz.app ha.2 D⟩
def OI{Y}:∀(l:List Sl),jz Y (l.flatMap Sl.cells)
 |[]=>trivial
 |a::l=>by rw[bE];exact jz.app ⟨trivial,trivial,trivial,trivial,trivial,trivial,trivial,trivial⟩ (OI l)
def OS(l:Lf):jz Y l.cells:=⟨trivial,jz.app (OI _) ⟨trivial,trivial,trivial,trivial,trivial,trivial⟩⟩
def we(l:Lf):tF Y l.av:=OS l
def uw(s:Sl):tF Y (.agg s.cells):=⟨trivial,trivial,trivial,trivial,trivial,trivial,trivial,trivial⟩
def jZ{a b:Lf}(ha:O a.sl=15)(D:O b.sl=15):eG 0 a.cells b.cells=J b.cells:=by rw[cG _ _ _ (by rw[eR ha,eR D];omega),dJ,cz,fC,aX (by rw[eR ha,eR D];omega),cy]
def HV(l:Lf)(zxQ:l.zxQ)(i:Nat):bz 317 [l.av,int i] (.dY [.agg (l.at i).cells,bW (decide (i<l.n))]):=by
 refine bz.ac 2 T0 func317 λh Y=>?_;have K:=zxQ.sl;have hn:=zxQ.n;have f0:=NM K;have fa:=lB K;have d0:¬(Y=Y+1):=U;refine L6 f317.eq_1 (U:¬((i:Int)<0)) fa d0 ?_;refine ba (K9 l zxQ.p hn K) ?_;by_cases H:i<l.n
 .have c2:¬((l.n:Int)<=(i:Int)):=U;refine J7 c2 fa d0 ?_;refine ba (Vm l zxQ) ?_;simp+decide-dsimp only[go_sem,f0,d0];refine ba (zxQ.p.E0 hn U) ?_;have z:=zxQ.p.nY i;have fs:=FK K z;have V:l.sl.getD (l.ds.getD i 0) zs=l.at i:=by unfold Lf.at;rw[au H];rfl
  rw[V]at fs;refine J7 z fs d0 ?_;refine .eE ?_ (.mC (.cw (uw _)) .cP) (by rw[aN H]);exact gU
 .refine Xf (U:((l.n:Int)<=(i:Int))) ?_;refine .eE ?_ (.mC (.cw (uw zs)) .cP) (by rw[aU H];unfold Lf.at;rw[ak H];rfl);exact gU
def amt:bz 148 [] jq.av:=by refine bz.ac 0 T0 func148 λh Y=>?_;refine Y8 f148.eq_1 @mF ?_;refine ba anx ?_;have q:eG 0 ya.cells [u64 (pw 0 Yh:Nat)]=J jq.cells:=Dl (l:=ya) Z (n':=0) (ds':=Yh);have q2:=jZ (a:=ya) (b:=jq) Z Z;refine L6 @mF q q2 (lB (l:=jq) Z) ?_;refine .eE ?_ (.cw (we _)) Z;exact gU
variable{nx':jT}{body yJ:Code}{h0:aE}{ps:Array Tmp}{size zT:Nat}{xZ:FuncId}
def aqa(w:Nat)(h Y):UP 338 [u64 w] h Y λv Q E=>v= .fn 356 [.ptr Y 0]/\N Q Y=J (.cells [u64 w] 71)/\aG Y h Q/\E=Y+1:=by refine az.ac 1 T0 func338 (Xf f338.eq_1 ?_);exact aG.refl.set (an _)
def aq8{ds:List Nat}(p:tK ds)(hn:n<=15){hx}(Inv:Nat->aE->Nat->Prop)(Out:aE->Nat->Prop)
 (D:N h0 b=J (.cells [u64 (pw n ds:Nat)] 71)) (hk:∀i h Y,Inv i h Y->N h b=N h0 b) (H:Inv 0 h0 zT)
 (jS:∀i h Y,i<n->Inv i h Y->(∃r,N h hx=J (.loop r)/\O r.params=2)/\ko prog hx [int i,int (ds.getD i 0:Nat)] h Y (λv Q E=>v=bW M/\Inv (i+1) Q E\/v=bW R/\Out Q E))
 (V:∀s h Y,Inv n h Y->nx' .jg s h Y) (ho:∀s h Y,Out h Y->nx' .ret s h Y):
 h1 prog xt (λ_=>[]) (f356.body.getD .skip) nx' (eK [.um hx,.ptr b 0] 0 .nil) h0 zT:=by
 refine Y8 f356.eq_1 D ?_;refine ba (p.adJ hn) (Xf D ?_);refine AJ (p.KB hn) (cI _ _ (λm s Q E=>∃i,i<=n/\m=n-i/\X s 0= .um hx/\X s 1= .ptr b 0/\X s 8=int n/\X s 9=int i/\Inv i Q E) (n:=n) ?_ ?_);.refine QZ ?_;exact⟨0,aQ _,Z,Z,H⟩
 rintro m s Q E ⟨i,H,rfl,s0,s1,s8,s9,hI⟩
 by_cases uk:i<n
 .have⟨⟨r,hr,hp⟩,hR⟩:=jS i Q E uk hI;refine RC s0 s1 s8 s9 uk ((hk _ _ _ hI).trans D) ?_;refine ba (p.E0 hn U) (Y8 hr hp ?_);refine SV hR λv F dR hv=>?_;obtain⟨rfl,hI2⟩|⟨rfl,hO⟩:=hv
  .refine PV s0 s1 s8 s9 (U:i+1<9223372036854775808) ?_;exact⟨_,(U:n-(i+1)<_),i+1,uk,Z,Z,hI2⟩
  .refine QZ ?_;exact ho _ _ _ hO
 .have:i=n:=U;subst this;simp+decide-dsimp only[go_sem,s8,s9,dz];exact V _ _ _ hI
def ahD{ds:List Nat}(p:tK ds)(hn:n<=15){nx':Option Nat->jT}{s:BT u}{ka kb kc}
 (D:N h b=some (.cells [u64 (pw n ds:Nat)] 71)) (KO:b<Y)
 (hp:ps.toList.length=2) (lX:∀r0:nR,r0=⟨.ready,none,xZ,s,size,ps.toList,yJ,body,Y⟩->∃(Inv:Nat->aE->Nat->Prop) (Out:aE->Nat->Prop),Inv 0 (aI (aI h Y (.defs (some []))) (Y+1) (.loop r0)) (Y+2)/\
  (∀i Q E,Inv i Q E->N Q (Y+1)=some (.loop r0)/\N Q b=N h b)/\
  (∀Q E,Out Q E->N Q (Y+1)=some (.loop (r0.iD .done (some .ret))))/\
  (∀i Q E,i<n->Inv i Q E->ko prog (Y+1) [int i,int (ds.getD i 0:Nat)] Q E (λv Q E=>v=bW true/\Inv (i+1) Q E\/v=bW false/\Out Q E))/\
  (∀Q E,Inv n Q E->nx' (some Y) .jg s (aI Q (Y+1) (.loop (r0.iD .exhausted none))) E)/\
  (∀Q E,Out Q E->nx' (some Y) .ret s (aI Q (Y+1) (.loop ((r0.iD .done (some .ret)).iD .exhausted (some .ret)))) E)):
 Q0 prog xt (λ_=>[]) xZ size (.fn 356 [.ptr b 0]) ps yJ body nx' s h Y ka kb kc:=by
 obtain⟨r0,xH⟩:∃r0:nR,r0=⟨.ready,B,xZ,s,size,ps.toList,yJ,body,Y⟩:=⟨_,Z⟩;have⟨Inv,Out,H,hk,Tv,jS,V,ho⟩:=lX r0 xH
 have Xj:r0.state= .ready:=by rw[xH]
 have Ya:r0.pending=B:=by rw[xH]
 refine⟨356,_,_,f356.body.getD .skip,Z,func356,aK,Z,Z,by show 2<=_;decide,aK,aK,?_⟩;rw[<-xH];have q:N (aI (aI h Y (.defs (J []))) (Y+1) (.loop r0)) b=N h b:=by rw[Xg,Xg]
 refine aq8 p hn Inv Out (q▸D) (λi Q E hI=>by rw[(hk i Q E hI).2,q]) H (λi Q E uk hI=>⟨⟨r0,(hk i Q E hI).1,xH▸hp⟩,jS i Q E uk hI⟩) (λs' Q E hI=>?_) (λs' Q E hO=>?_);.exact⟨r0,(hk _ _ _ hI).1,(by rw[Xj];exact λe=>(by cases e)),.inl ⟨Ya,by rw[Ya];exact V _ _ hI⟩⟩
 .exact⟨_,Tv _ _ hO,(λe=>by cases e),.inr ⟨Z,ho _ _ hO⟩⟩
def aib{l:Lf}(K:O l.sl=15)(hk:k<15):(dV (1+k*7) l.cells).bind (dC 2)=J (uW (l.sl.getD k zs).m):=by
 have h7:=FK K hk;rw[eY _ _ (Es (eR K)),aT]at h7⊢;rw[bZ _ _ (by rw[aC,eR K];omega)]at h7⊢;injection h7 with h7
 have:=ff (List.take 2) h7;rw[bI]at this;exact ff J this
structure Lf.Pl(l:Lf)(m:aY)(i:Nat):Prop where
 le:i<=l.n
 lt:∀j,j<i->(l.e j).m<m
 ge:i<l.n->¬(l.e i).m<m
def adi:=RB [(6,[MO z5 6,([7],[],B)]),(7,[MO z7 8,([],[5,6,7],J 9),RX])]
def TE(l:Lf)(zxQ:l.zxQ)(m)(hm:tv m)(i:Nat)(pl:l.Pl m i):bz 316 [l.av,.agg (uW m)] (.dY [int i,bW (decide (i<l.n/\(l.e i).m=m))]):=λh Y=>by
 have K:=zxQ.sl;have hn:=zxQ.n;have fa:=lB K;refine az.tG (?_:UP 316 [l.av,.agg (uW m)] h Y (Pure h Y λv=>v= .dY [int i,bW (decide (i<l.n/\(l.e i).m=m))])) λ_ _ _ q=>q;refine az.Jm prog xt pk adi (λ_=>[]) func316 (c:=f316.body.getD .skip) Z Z aK aK (by show 2<=_;decide) ?_;have d0:¬(Y=Y+1):=U;have d2:¬(Y=Y+1+1):=U;have d3:¬(Y=Y+1+1+1):=U;refine PV f316.eq_1 d0 d2 d3 fa ?_;refine ba (Vm l zxQ) ?_;simp+decide-dsimp only[go_sem,d0,d2,d3,NM K];generalize hH:aI (aI (aI (aI h Y _) (Y+1) _) (Y+1+1) _) (Y+1+1+1) _=hi;have H0:aG Y h hi:=hH▸gU
 have g0:=U9 hH (WV (WV Tb d0) d2) d3
 have g2:=U9 hH Tb
 have g3:=TZ hH
 refine cm (aqa _ hi (Y+1+1+1+1)) λ_ H1 cC l1 ⟨ev,gb,Fa,e1⟩=>?_
 subst ev;subst e1;refine QZ ?_;refine ahD zxQ.p hn gb U Z λr0 xH=>?_
 generalize hHs:aI (aI H1 (Y+1+1+1+1+1) _) (Y+1+1+1+1+1+1) _=Hs;have k0:∀c,c<Y+4->N Hs c=N hi c:=λc A=>by rw[<-hHs,Xg,Xg,Fa c U]
 have k2:=U9 hHs Tb
 have k3:=TZ hHs
 refine⟨λj Q E=>(∀k,k<j->(l.e k).m<m)/\(∀c,c<Y+7->N Q c=N Hs c)/\Y+7<=E,
  λQ E=>i<l.n/\N Q (Y+2)=J (.cells [int i] 3)/\N Q (Y+3)=J (.cells [bW (decide ((l.e i).m=m))] 4)/\N Q (Y+5)=J (.defs (J []))/\N Q (Y+6)=J (.loop (r0.iD .done (J .ret)))/\(∀c,c<Y->N Q c=N h c)/\Y+7<=E,?_,?_,?_,?_,?_,?_⟩
 .exact⟨λk hk=>absurd hk (cp _),λ_ _=>rfl,an _⟩
 .rintro j Q E ⟨q1,q2,q3⟩;exact⟨by rw[q2 _ U];exact k3,by rw[q2 _ U,show Y+1+1+1+1=Y+4 from Z,U9 hHs (WV gb)];exact gb.symm⟩
 .rintro Q E ⟨_,_,_,_,q,_⟩;exact q
 .rintro j Q E hj ⟨q1,q2,q3⟩;have a0:=(q2 _ U).trans ((k0 _ U).trans g0)
  have a1:=(q2 _ U).trans ((k0 _ U).trans (U9 hH (WV Tb)))
  have a2:=(q2 _ U).trans ((k0 _ U).trans g2)
  have a3:=(q2 _ U).trans ((k0 _ U).trans g3)
  have a5:=(q2 _ U).trans k2
  have a6:=(q2 _ U).trans k3
  have z:=zxQ.p.nY j;have fs:=FK K z;have V:l.sl.getD (l.ds.getD j 0) zs=l.e j:=rfl;rw[V]at fs;have hr:=zxQ.r j hj;refine ko.mk2 pk adi xH a6 aK λrb=>?_;have b1:¬(Y=E):=U;have b2:¬(Y+1=E):=U;have b3:∀q,¬(Y=Y+1+q):=λq=>U;have b4:∀q,¬(Y+1=Y+1+1+q):=λq=>U;have b6:¬(Y=Y+1+1+1+1+1+1):=U;have b7:¬(Y+1=Y+1+1+1+1+1+1):=U;have fs2:(dV (1+l.ds.getD j 0*7) l.cells).bind (dC 2)=J (uW (l.e j).m):=aib K z;refine Ik adi.eq_1 a0 a1 a6 z b6 b7 fs2 ?_;refine ba (ahd _ m hr.m hm) ?_;by_cases dc:(l.e j).m<m
  .refine Y8 a6 dc ?_;refine .inl ⟨λk hk=>?_,λc A=>?_,U⟩
   .obtain h|h:=bB k j;.exact q1 k h
    .have:k=j:=U;subst this;exact dc
   .split;.rename_i e;subst e;exact k3.symm
    .exact q2 c A
  .have EN:i=j:=by
    obtain h|h|h:=cF i j;.exact absurd (q1 i h) (pl.ge U)
    .exact h
    .exact absurd (pl.lt j h) dc
   subst EN;simp+decide-dsimp only[go_sem,adi,a0,a1,a6,dc,z,a2,a3,(U:¬(Y+1+1=Y+1+1+1+1+1+1)),(U:¬(Y+1+1+1=Y+1+1+1+1+1+1)),(U:¬(Y+1+1+1=Y+1+1)),(U:¬(Y+1+1+1+1+1+1=Y+1+1)),(U:¬(Y+1+1+1+1+1+1=Y+1+1+1)),b6,b7,fs2,Wv hr.m hm];refine .inr ⟨hj,?_,λc A=>?_,U⟩;.rw[ak U,ak U];exact a5
   .rw[ak U,ak U,ak U,q2 c U,k0 c U,H0 c A,ak U]
 .rintro Q E ⟨q1,q2,q3⟩;have H:i=l.n:=by
   obtain h|h:=bB i l.n;.exact absurd (q1 i h) (pl.ge h)
   .have:=pl.le;omega
  have a5:=(q2 _ U).trans k2
  refine J7 ((q2 _ U).trans ((k0 _ U).trans g0)) fa (U:¬(Y=Y+1+1+1+1+1+1)) ?_;refine ba (K9 l zxQ.p hn K) ?_;refine PV ((q2 _ U).trans ((k0 _ U).trans g2)) ((q2 _ U).trans ((k0 _ U).trans g3)) @a5 (U:¬(Y+1+1=Y+1+1+1+1+1+1)) (U:¬(Y+1+1+1=Y+1+1+1+1+1+1)) ?_;refine⟨_,Z,.eE ?_ (.mC .cP .cP) (by rw[aU (λh=>U),H])⟩;have S1:aG Y h Q:=λc A=>by rw[q2 c U,k0 c U,H0 c A]
  repeat' first|exact S1|apply aG.fo|(apply aG.set;rotate_left;omega)
 .rintro Q E ⟨q1,q2,q3,q4,q5,q6,q7⟩;dsimp only[jT.bT];refine L6 q2 q3 q4 (U:¬(Y+1+1+1+1+1=Y+1+1+1+1+1+1)) ?_;refine⟨_,Z,.eE ?_ (.mC .cP .cP) (by rw[jl.2 (⟨λh=>h.2,λh=>⟨q1,h⟩⟩:i<l.n/\(l.e i).m=m↔(l.e i).m=m)])⟩
  repeat' first|exact q6|apply aG.fo|(apply aG.set;rotate_left;omega)
def Lf.upd(l:Lf)(i:Nat)(s:Sl):Lf:={l with sl:=l.sl.set (l.ds.getD i 0) s}
def Lf.ins(l:Lf)(i:Nat)(s:Sl):Lf:={l with n:=l.n+1,ds:=mv l.ds l.n i,sl:=l.sl.set (l.ds.getD l.n 0) s}
def O4:∀(l:List Sl),(l.flatMap Sl.cells).all u.dh=M
 |[]=>rfl
 |a::l=>by rw[bE,vt,O4 l];rfl
def ja(l:Lf):l.cells.all u.dh=M:=by unfold Lf.cells;rw[List.all_cons,vt,O4];rfl
def aih:=RB [(8,[MO [0,1] 2,([],[1],J 3),MO [] 4,RX])]
def Nz(l:Lf)(zxQ:l.zxQ)(s:Sl)(G:s.zxQ)(A:l.eF s.m=M)(i)(pl:l.Pl s.m i)(hn:l.n<15):
 bz 320 [l.av,.agg s.cells] (if i<l.n/\(l.e i).m=s.m then .dY [(l.upd i s).av,.agg (l.e i).cells,bW M]else .dY [(l.ins i s).av,.agg zs.cells,bW R]):=by
 refine bz.ac 2 aih func320 λh Y=>?_;have K:=zxQ.sl;have H:=pl.le;have f0:=NM K;have fa:=lB K;have d0:¬(Y=Y+1):=U;have d1:¬(Y=Y+1+1):=U;have d2:¬(Y=Y+1+1+1):=U;have d3:¬(Y+1=Y+1+1):=U;have d4:¬(Y+1=Y+1+1+1):=U;have d5:¬(Y+1+1=Y+1+1+1):=U;have d6:¬(Y+1+1+1=Y+1+1):=U;have d7:¬(Y+1+1+1=Y):=U;have d8:¬(Y+1+1=Y):=U;refine RC f320.eq_1 @mF fa d0 d1 d2 ?_;refine ba (Vm l zxQ) ?_;refine Y8 d3 d4 ?_;refine ba (akJ s G) ?_;refine RC fa d0 d1 d2 d3 d4 ?_;refine ba (Yv l K zxQ.H s.m G.m) ?_;rw[A];refine RC fa d0 d1 d2 d3 d4 ?_;refine ba (TE l zxQ s.m G.m i pl) ?_;by_cases hf:i<l.n/\(l.e i).m=s.m
 .rw[au hf];simp+decide-dsimp only[go_sem,hf,f0,d0,d1,d2];refine ba (zxQ.p.E0 zxQ.n U) ?_;have z:=zxQ.p.nY i;have fs:=FK K z;have V:l.sl.getD (l.ds.getD i 0) zs=l.e i:=rfl;rw[V]at fs;have fp:eG (1+l.ds.getD i 0*7) l.cells s.cells=J (l.upd i s).cells:=Am K z s;have mJ:O (l.upd i s).sl=15:=by show O (List.set _ _ _)=15;rw[fG];exact K
  have fa':=lB mJ;have fl':=eR mJ;have ft:=jZ (a:=ya) (b:=l.upd i s) Z mJ;simp+decide-dsimp only[go_sem,aih,z,fs,fp,fa',fl',ja,ft,d0,d1,d2,d3,d4,d5,d6,d7,d8,reduceAdd];refine .eE ?_ (.nD (.cw (we _)) (.cw (uw (l.e i))) .cP) Z;exact gU
 .rw[ak hf];simp+decide-dsimp only[go_sem,hf,f0,d0,d1,d2];refine ba (zxQ.p.aeW hn H) ?_;have z:=zxQ.p.nY l.n;have fw:eG 0 l.cells [u64 (pw (l.n+1) (mv l.ds l.n i):Nat)]=J ({l with n:=l.n+1,ds:=mv l.ds l.n i}:Lf).cells:=Dl K;have fp:eG (1+l.ds.getD l.n 0*7) ({l with n:=l.n+1,ds:=mv l.ds l.n i}:Lf).cells s.cells=J (l.ins i s).cells:=Am (l:={l with n:=l.n+1,ds:=mv l.ds l.n i}) K z s;have mJ:O (l.ins i s).sl=15:=by show O (List.set _ _ _)=15;rw[fG];exact K
  have fa':=lB mJ;have fl':=eR mJ;have ft:=jZ (a:=ya) (b:=l.ins i s) Z mJ;simp+decide-dsimp only[go_sem,z,fw,fp,fa',fl',ja,ft,d0,d1,d2,d3,d4,d5,d6,d7,d8,reduceAdd];refine .eE ?_ (.nD (.cw (we _)) (.cw (uw zs)) .cP) Z;exact gU
def Lf.del(l:Lf)(i:Nat):Lf:={l with n:=l.n-1,ds:=mv l.ds i (l.n-1),sl:=l.sl.set (l.ds.getD i 0) zs}
def amX:=RB [(8,[MO [0,1] 2,([],[1],J 3),MO [] 4,RX])]
def al6(l:Lf)(zxQ:l.zxQ)(m)(hm:tv m)(i)(pl:l.Pl m i):
 bz 313 [l.av,.agg (uW m)] (if i<l.n/\(l.e i).m=m then .dY [(l.del i).av,.agg (l.e i).cells,bW M]else .dY [l.av,.agg zs.cells,bW R]):=by
 refine bz.ac 2 amX func313 λh Y=>?_;have K:=zxQ.sl;have H:=pl.le;have hn:=zxQ.n;have f0:=NM K;have fa:=lB K;have fl:=eR K;have d0:¬(Y=Y+1):=U;have d1:¬(Y=Y+1+1):=U;have d2:¬(Y=Y+1+1+1):=U;have d5:¬(Y+1+1=Y+1+1+1):=U;have d6:¬(Y+1+1+1=Y+1+1):=U;have d7:¬(Y+1+1+1=Y):=U;have d8:¬(Y+1+1=Y):=U;refine Ik f313.eq_1 @mF fa d0 d1 d2 (U:¬(Y+1=Y+1+1)) (U:¬(Y+1=Y+1+1+1)) ?_;refine ba (TE l zxQ m hm i pl) ?_;by_cases hf:i<l.n/\(l.e i).m=m
 .rw[au hf];obtain⟨n',xd⟩:∃n',l.n=n'+1:=⟨l.n-1,U⟩;have z:=zxQ.p.nY i;have fs:=FK K z;have V:l.sl.getD (l.ds.getD i 0) zs=l.e i:=rfl;rw[V]at fs;have fw:eG 0 l.cells [u64 (pw n' (mv l.ds i n'):Nat)]=J ({l with n:=n',ds:=mv l.ds i n'}:Lf).cells:=Dl K;have fd:({l with n:=n',ds:=mv l.ds i n',sl:=l.sl.set (l.ds.getD i 0) zs}:Lf)=l.del i:=by unfold Lf.del;rw[xd];rfl
  have fp:eG (1+l.ds.getD i 0*7) ({l with n:=n',ds:=mv l.ds i n'}:Lf).cells zs.cells=J (l.del i).cells:=fd▸(Am (l:={l with n:=n',ds:=mv l.ds i n'}) K z zs)
  have fp':eG (1+l.ds.getD i 0*7) ({l with n:=n',ds:=mv l.ds i n'}:Lf).cells [u64 0,u8 0,cg [],cg [],bW R,int 0,u64 0]=J (l.del i).cells:=fp;have mJ:O (l.del i).sl=15:=by show O (List.set _ _ _)=15;rw[fG];exact K
  have fa':=lB mJ;have fl':=eR mJ;have ft:=jZ (a:=ya) (b:=l.del i) Z mJ;have f0':iS 0 l.cells=J (u64 (pw (n'+1) l.ds:Nat)):=xd▸f0
  refine PV hf f0' d0 d1 d2 ?_;refine ba (zxQ.p.anQ U U) ?_;simp+decide-dsimp only[go_sem,amX,z,fs,fw,fp',fa',fl',ja,ft,d0,d1,d2,d5,d6,d7,d8,reduceAdd];refine .eE ?_ (.nD (.cw (we _)) (.cw (uw (l.e i))) .cP) Z;exact gU
 .rw[ak hf];have ft:=jZ (a:=ya) (b:=l) Z K;refine asD hf fa fl @ja ft d0 d1 d2 d5 d6 d7 d8 ?_;refine .eE ?_ (.nD (.cw (we _)) (.cw (uw zs)) .cP) Z;exact gU
theorem Cu{l:List Nat}{p}:(l.eraseIdx p).getD i 0=if i<p then l.getD i 0 else l.getD (i+1) 0:=by simp only[aB,Cz];split<;>rfl
theorem Oq{l:List Nat}(ln:O l=15){f t}(hf:f<15)(ht:t<15):(mv l f t).getD j 0=if j<t then(l.eraseIdx f).getD j 0 else if j=t then l.getD f 0 else(l.eraseIdx f).getD (j-1) 0:=by
 have le:=iC (l:=l) (i:=f) U;have e1:O ((l.eraseIdx f).take t)=t:=Es @ax
 unfold mv;by_cases W:j<t;.rw[au W,aB,bX U,eQ,au W,aB]
 .rw[ak W,aB,cE U,e1];by_cases F:j=t;.rw[au F,F,kX];rfl
  .rw[ak F,show j-t=(j-1-t)+1 from U,se,gh,show t+(j-1-t)=j-1 from U,aB]
theorem tK.inj{l}(p:tK l)(H:i<15)(hj:j<15)(h:l.getD i 0=l.getD j 0):i=j:=by have nd:l.Nodup:=p.nodup_iff.2 List.nodup_range;have ln:=p.len;rw[aB,aB,aF U,aF U]at h;exact(List.getElem_inj nd).1 h
theorem LH{l:List Sl}{s}(hk:k<O l):(l.set k s).getD j zs=if j=k then s else l.getD j zs:=by
 simp only[aB,sU];by_cases h:k=j;.subst h;rw[au Z,au hk,au Z];rfl
 .rw[ak h,ak (λe=>h e.symm)]
section
variable{l:Lf}(zxQ:l.zxQ)
include zxQ
theorem zv(H:i<15)(s)(hj:j<15):(l.upd i s).e j=if j=i then s else l.e j:=by
 show(l.sl.set (l.ds.getD i 0) s).getD (l.ds.getD j 0) zs=_;rw[LH (zxQ.sl▸(zxQ.p.nY i))];by_cases h:j=i;.rw[au h,au (by rw[h])]
 .rw[ak h,ak (λe=>h (zxQ.p.inj hj H e))];rfl
theorem uj(H:i<=l.n)(hn:l.n<15)(s)(hj:j<15):(l.ins i s).e j=if j<i then l.e j else if j=i then s else if j<=l.n then l.e (j-1)else l.e j:=by
 show(l.sl.set (l.ds.getD l.n 0) s).getD ((mv l.ds l.n i).getD j 0) zs=_;rw[LH (zxQ.sl▸(zxQ.p.nY _)),Oq zxQ.p.len hn U];by_cases W:j<i;.rw[au W,au W,Cu,au (show j<l.n from U),ak (λe=>by have:=zxQ.p.inj hj hn e;omega)];rfl
 .rw[ak W,ak W];by_cases F:j=i;.rw[au F,au F,au Z]
  .rw[ak F,ak F,Cu];by_cases h3:j<=l.n;.rw[au (show j-1<l.n from U),au h3,ak (λe=>by have:=zxQ.p.inj U hn e;omega)];rfl
   .rw[ak (show¬j-1<l.n from U),ak h3,show j-1+1=j from U,ak (λe=>by have:=zxQ.p.inj hj hn e;omega)];rfl
theorem BD(H:i<l.n)(hj:j<15):(l.del i).e j=if j<i then l.e j else if j<l.n-1 then l.e (j+1)else if j=l.n-1 then zs else l.e j:=by
 have hn:=zxQ.n;show(l.sl.set (l.ds.getD i 0) zs).getD ((mv l.ds i (l.n-1)).getD j 0) zs=_;rw[LH (zxQ.sl▸(zxQ.p.nY _)),Oq zxQ.p.len U U];by_cases W:j<l.n-1
 .rw[au W,Cu];by_cases F:j<i;.rw[au F,au F,ak (λe=>by have:=zxQ.p.inj hj U e;omega)];rfl
  .rw[ak F,ak F,au W,ak (λe=>by have:=zxQ.p.inj U U e;omega)];rfl
 .rw[ak W,ak W,ak (show¬j<i from U)];by_cases F:j=l.n-1;.rw[au F,au F,au Z]
  .rw[ak F,ak F,Cu,ak (show¬j-1<i from U),show j-1+1=j from U,ak (λe=>by have:=zxQ.p.inj hj U e;omega)];rfl
theorem Lf.zxQ.lt:∀{i j:Nat},i<j->j<l.n->(l.e i).m<(l.e j).m:=by
 intro i j EN hj
 induction j with
 |zero=>omega
 |succ j ih=>
  have W:=zxQ.kj j hj;obtain h|h:=bB i j
  .exact dT (ih h U) W
  .have:i=j:=U;subst this;exact W
theorem Lf.zxQ.pl(m):∃i,l.Pl m i:=by
 have:∀d i,i+d=l.n->(∀j,j<i->(l.e j).m<m)->∃i,l.Pl m i:=by
  intro d
  induction d with
  |zero=>intro i h q;exact⟨i,U,q,λQ=>absurd Q U⟩
  |succ d ih=>
   intro i h q;by_cases dc:(l.e i).m<m
   .refine ih (i+1) U λj hj=>?_;obtain h|h:=bB j i
    .exact q j h
    .have:j=i:=U;subst this;exact dc
   .exact⟨i,U,q,λ_=>dc⟩
 exact this l.n 0 U λj hj=>absurd hj (cp _)
theorem Lf.zxQ.upd{i}(H:i<l.n){s:Sl}(G:s.zxQ)(hm:s.m=(l.e i).m):(l.upd i s).zxQ:=by
 have hn:=zxQ.n;have em:∀j,j<l.n->((l.upd i s).e j).m=(l.e j).m:=λj hj=>by
  rw[zv zxQ U s U];split;.rename_i e;rw[e,hm]
  .rfl
 refine⟨zxQ.p,hn,by show O (List.set _ _ _)=15;rw[fG];exact zxQ.sl,λj W F=>?_,λj hj=>?_,λj hj=>?_,λj hj D=>?_,zxQ.H,zxQ.nb⟩;.have W:l.n<=j:=W;rw[zv zxQ U s F,ak U];exact zxQ.hd j W F
 .have hj:j<l.n:=hj;rw[zv zxQ U s U];split;.exact G
  .exact zxQ.r j hj
 .have hj:j+1<l.n:=hj;rw[em j U,em (j+1) hj];exact zxQ.kj j hj
 .have hj:j<l.n:=hj;rw[em j hj];exact zxQ.xP j hj D
end
section
variable{l:Lf}(zxQ:l.zxQ)
include zxQ
theorem Lf.zxQ.ins{i}{s:Sl}(pl:l.Pl s.m i)(hn:l.n<15)(G:s.zxQ)(A:l.eF s.m=M)(cD:¬(i<l.n/\(l.e i).m=s.m)):(l.ins i s).zxQ:=by
 have H:=pl.le;have gt:i<l.n->s.m<(l.e i).m:=λh=>by
  obtain q|q|q:=kC s.m (l.e i).m;.exact q
  .exact absurd ⟨h,q.symm⟩ cD
  .exact absurd q (pl.ge h)
 have e1:∀j,j<i->(l.ins i s).e j=l.e j:=λj h=>by rw[uj zxQ H hn s U,au h]
 have e2:(l.ins i s).e i=s:=by rw[uj zxQ H hn s U,ak (dz i),au Z]
 have e3:∀j,i<j->j<=l.n->(l.ins i s).e j=l.e (j-1):=λj h Q=>by rw[uj zxQ H hn s U,ak U,ak U,au Q]
 have e4:∀j,l.n<j->j<15->(l.ins i s).e j=l.e j:=λj h Q=>by rw[uj zxQ H hn s Q,ak U,ak U,ak U]
 refine⟨zxQ.p.DL hn,by show l.n+1<=15;omega,by show O (List.set _ _ _)=15;rw[fG];exact zxQ.sl,λj W F=>?_,λj hj=>?_,λj hj=>?_,λj hj D=>?_,zxQ.H,zxQ.nb⟩;.have W:l.n+1<=j:=W;rw[e4 j W F];exact zxQ.hd j U F
 .have hj:j<l.n+1:=hj;obtain h|h|h:=cF j i
  .rw[e1 j h];exact zxQ.r j U
  .rw[h,e2];exact G
  .rw[e3 j h U];exact zxQ.r _ U
 .have hj:j+1<l.n+1:=hj;obtain h|h|h:=cF j i
  .rw[e1 j h];by_cases Q:j+1=i;.rw[Q,e2];exact pl.lt j h
   .rw[e1 (j+1) U];exact zxQ.kj j U
  .rw[h,e2,e3 (i+1) U U,gj];exact gt U
  .rw[e3 j h U,e3 (j+1) U U,gj];have:=zxQ.kj (j-1) U;rw[show j-1+1=j from U]at this;exact this
 .have hj:j<l.n+1:=hj;have iQ:l.bd=M:=D;rcases cF j i with h|h|h
  .rw[e1 j h];exact zxQ.xP j U iQ
  .rw[h,e2];show s.m<l.cQ;unfold Lf.eF at A;rw[iQ]at A;simpa using A
  .rw[e3 j h U];exact zxQ.xP _ U iQ
theorem Lf.zxQ.del{i}(H:i<l.n):(l.del i).zxQ:=by
 have hn:=zxQ.n;have e1:∀j,j<i->(l.del i).e j=l.e j:=λj h=>by rw[BD zxQ H U,au h]
 have e2:∀j,i<=j->j<l.n-1->(l.del i).e j=l.e (j+1):=λj h Q=>by rw[BD zxQ H U,ak U,au Q]
 refine⟨zxQ.p.DL U,by show l.n-1<=15;omega,by show O (List.set _ _ _)=15;rw[fG];exact zxQ.sl,λj W F=>?_,λj hj=>?_,λj hj=>?_,λj hj D=>?_,zxQ.H,zxQ.nb⟩
 .have W:l.n-1<=j:=W;rw[BD zxQ H F,ak U,ak U];split;.rfl
  .exact zxQ.hd j U F
 .have hj:j<l.n-1:=hj;obtain h|h:=bB j i
  .rw[e1 j h];exact zxQ.r j U
  .rw[e2 j h hj];exact zxQ.r _ U
 .have hj:j+1<l.n-1:=hj;obtain h|h:=bB j i
  .rw[e1 j h];obtain Q|Q:=bB (j+1) i
   .rw[e1 _ Q];exact zxQ.kj j U
   .rw[e2 _ Q hj];exact zxQ.lt U U
  .rw[e2 j h U,e2 (j+1) U hj];exact zxQ.kj _ U
 .have hj:j<l.n-1:=hj;have iQ:l.bd=M:=D;obtain h|h:=bB j i
  .rw[e1 j h];exact zxQ.xP j U iQ
  .rw[e2 j h hj];exact zxQ.xP _ U iQ
end
variable{P:Program}
def W9:=RB [(4,[MO [0] 1,([],[0],J 2),MO [] 3,RX]),(5,[MO z6 7,([8],[3,5],J 9),([10],[5],J 11),RX]),(12,[([0,1,8],[0,1],J 2),([3],[0,8],J 4),([5,6,7],[8],J 9),MO [] 10,RX]),(15,[MO [0,1,2] 3,([4],[1],J 5),([6],[1],J 7),RX]),(16,[MO [0,1,2] 3,([],[1,2],J 4),([],[2],J 5),RX])]
def adQ{a:Nat}(ha:a<65536):dE P h .quo t x y (int a) (int 2)=J (int (a / 2:Nat)):=by
 have hr:bM P (binOp .quo t (.int .i64 a) (.int .i64 2))=J (.int .i64 (a / 2:Nat)):=by show J (Value.int .i64 (IntKind.wrap .i64 ((a:Int).tdiv 2)))=_;rw[show(a:Int).tdiv 2=((a / 2:Nat):Int)from Z,<-je,wrap_i64 U U]
 have hg:bM P (do eqGuard .quo t x y (.int .i64 a) (.int .i64 2);binOp .quo t (.int .i64 a) (.int .i64 2))=J (.int .i64 (a / 2:Nat)):=by unfold eqGuard;simp only[cr];exact hr
 have G:jm P h .quo t x y (.g (.int .i64 a)) (.g (.int .i64 2))=some (.g (.int .i64 (a / 2:Nat))):=by show lH P .quo t x y (.int .i64 a) (.int .i64 2)=_;unfold lH;rw[hg]
 unfold dE;simp only[eX];exact G
attribute[go_sem] adQ
structure HZ(l:Lf)(x:Hd)(hx Rr:Lf):Prop where
 lr:hx.zxQ
 rr:Rr.zxQ
 ln:hx.n=l.n / 2
 rn:Rr.n=l.n-l.n / 2
 le:∀j,j<l.n / 2->hx.e j=l.e j
 re:∀j,j<l.n-l.n / 2->Rr.e j=l.e (l.n / 2+j)
 lh:hx.cQ=(l.e (l.n / 2)).m/\hx.bd=M/\hx.next=x
 rh:Rr.cQ=l.cQ/\Rr.bd=l.bd/\Rr.next=l.next
def anS(l:Lf)(zxQ:l.zxQ)(F:2<=l.n)(x:Hd)(h Y):
 UP 358 [l.av,x.av] h Y λv Q E=>(∃hx Rr:Lf,v= .dY [hx.av,Rr.av,.agg (uW (l.e (l.n / 2)).m)]/\HZ l x hx Rr)/\Q=h/\E=Y:=by
 refine az.pc 2 W9 func358 ?_;have K:=zxQ.sl;have hn:=zxQ.n;have f0:=NM K;have fa:=lB K;have fl:=eR K;have ft:=jZ (a:=ya) (b:=l) Z K;have c2:¬((l.n:Int)<2):=U;have Jv:¬(Y=Y+1):=U;have PD:¬(Y=Y+1+1):=U;have YX:¬(Y=Y+1+1+1):=U;have e04:¬(Y=Y+1+1+1+1):=U;have XW:¬(Y+1=Y+1+1):=U;have e13:¬(Y+1=Y+1+1+1):=U;have e14:¬(Y+1=Y+1+1+1+1):=U;have e23:¬(Y+1+1=Y+1+1+1):=U;have e24:¬(Y+1+1=Y+1+1+1+1):=U;have e32:¬(Y+1+1+1=Y+1+1):=U;have e34:¬(Y+1+1+1=Y+1+1+1+1):=U;have e43:¬(Y+1+1+1+1=Y+1+1+1):=U;have e42:¬(Y+1+1+1+1=Y+1+1):=U;simp+decide-dsimp only[f358,go_sem,Hd.av,Hd.cells,mF,fa,Jv,PD,YX,e04];refine ba (K9 l zxQ.p hn K) ?_;simp+decide-dsimp only[go_sem,c2,fa,Jv,PD,YX,e04];refine ba (Vm l zxQ) ?_;simp+decide-dsimp only[go_sem,W9,fa,Jv,PD,YX,e04];refine ba amt ?_;have f1:=OT K;have f2:=He K;have f3:=Hc K;have fn:=jZ (a:=ya) (b:=jq) Z Z;have fnl:=eR (l:=jq) Z;have p1:eG 106 jq.cells (uW l.cQ)=J ({jq with cQ:=l.cQ}:Lf).cells:=Bn (l:=jq) Z l.cQ;have p2:eG 108 ({jq with cQ:=l.cQ}:Lf).cells [bW l.bd]=J ({jq with cQ:=l.cQ,bd:=l.bd}:Lf).cells:=Gb (l:={jq with cQ:=l.cQ}) Z l.bd;have p3:eG 109 ({jq with cQ:=l.cQ,bd:=l.bd}:Lf).cells [int l.next.X,u64 l.next.bo]=J ({jq with cQ:=l.cQ,bd:=l.bd,next:=l.next}:Lf).cells:=Bp (l:={jq with cQ:=l.cQ,bd:=l.bd}) Z l.next;generalize hR1:({jq with cQ:=l.cQ}:Lf)=N1 at p1 p2;generalize hR2:({jq with cQ:=l.cQ,bd:=l.bd}:Lf)=N2 at p2 p3;generalize hR3:({jq with cQ:=l.cQ,bd:=l.bd,next:=l.next}:Lf)=N3 at p3;have q2:l.n<65536:=U;simp+decide-dsimp only[go_sem,W9,f1,f2,f3,fn,fnl,fl,ft,ja,p1,p2,p3,q2,fa,Jv,PD,YX,e04,e23,e24,e34,e32,reduceAdd];generalize hq:Y+1+1+1+1+1+Array.size _+Array.size _=nq;have qf:Y+5<=nq:=U;clear hq;generalize hH:aI _ (Y+1+1+1) (.cells N3.cells 269)=hi;have S0:aG Y h hi:=hH▸gU
 have g0:N hi Y=J (.cells l.cells 269):=by rw[<-hH];simp[aj,PD,YX,e04]
 have g1:N hi (Y+1)=some (.cells [int x.X,u64 x.bo] 245):=by rw[<-hH];simp[aj]
 have g2:N hi (Y+1+1)=J (.cells l.cells 269):=by rw[<-hH];simp[aj]
 have g3:N hi (Y+1+1+1)=J (.cells N3.cells 269):=by rw[<-hH];simp[aj]
 have g4:N hi (Y+1+1+1+1)=J (.cells (uW []) 264):=by rw[<-hH];simp[aj];rw[ak U];rfl
 clear hH;have RN:N3.zxQ/\N3.n=0/\N3.cQ=l.cQ/\N3.bd=l.bd/\N3.next=l.next:=by rw[<-hR3];exact⟨⟨As,by show 0<=15;omega,Z,n9.hd,n9.r,n9.kj,(λi h=>absurd h (cp _)),zxQ.H,zxQ.nb⟩,Z,Z,Z,Z⟩
 clear p1 p2 p3 hR1 hR2 hR3;refine cI _ _ (λmm s Q E=>∃(i:Nat) (RR:Lf),l.n / 2<=i/\i<=l.n/\mm=l.n-i/\RR.zxQ/\RR.n=i-l.n / 2/\(∀j,j<RR.n->RR.e j=l.e (l.n / 2+j))/\(RR.cQ=l.cQ/\RR.bd=l.bd/\RR.next=l.next)/\
  X s 2= .ptr Y 0/\X s 3= .ptr (Y+1) 0/\X s 4= .ptr (Y+1+1) 0/\X s 5= .ptr (Y+1+1+1) 0/\X s 6= .ptr (Y+1+1+1+1) 0/\X s 7=int l.n/\X s 8=int i/\
  (aG Y h Q/\N Q Y=some (.cells l.cells 269)/\N Q (Y+1)=some (.cells [int x.X,u64 x.bo] 245)/\N Q (Y+1+1)=some (.cells l.cells 269)/\N Q (Y+1+1+1)=some (.cells RR.cells 269)/\N Q (Y+1+1+1+1)=some (.cells (uW []) 264))/\Y+5<=E) (n:=l.n-l.n / 2) ?_ ?_
 .simp+decide-dsimp only[go_sem];exact⟨l.n / 2,N3,an _,Nat.div_le_self _ _,Z,RN.1,by rw[RN.2.1,kX],(λj hj=>by rw[RN.2.1]at hj;exact absurd hj (cp _)),RN.2.2,Z,⟨S0,g0,g1,g2,g3,g4⟩,qf⟩
 clear S0 g0 g1 g2 g3 g4 qf RN;rintro mm s Q E ⟨i,RR,Gu,Gm,rfl,rr,rn,re,rh,s2,s3,s4,s5,s6,s7,s8,⟨S0,g0,g1,g2,g3,g4⟩,qf⟩;have n0:¬(Y=E):=U;have n1:¬(Y+1=E):=U;have n2:¬(Y+1+1=E):=U;have n3:¬(Y+1+1+1=E):=U;have n4:¬(Y+1+1+1+1=E):=U;have n5:¬(E=Y+1+1+1):=U;by_cases dc:i<l.n
 .have w1:i+1<9223372036854775808:=U;simp+decide-dsimp only[go_sem,s2,s7,s8,g0,dc,fa];refine ba (HV l zxQ i) ?_;have Br:l.at i=l.e i:=au dc;rw[Br];have rl:=rr.sl;have ra:=lB rl;have hr:=zxQ.r i dc;simp+decide-dsimp only[go_sem,s5,g3,dc,ra,n3,reduceAdd];have pG:RR.eF (l.e i).m=M:=by
   unfold Lf.eF;rw[rh.1,rh.2.1];cases D:l.bd with
   |false=>rfl
   |true=>rw[aN (zxQ.xP i dc D)];rfl
  have pl:RR.Pl (l.e i).m RR.n:=⟨an _,λj hj=>by rw[re j hj];exact zxQ.lt U dc,λh=>absurd h (dz _)⟩;have c:=Nz RR rr (l.e i) hr pG RR.n pl U;rw[ak (λh=>dz _ h.1)]at c;refine ba c ?_;have nr:=rr.ins pl U hr pG (λh=>dz _ h.1);have ft':=jZ (a:=RR) (b:=RR.ins RR.n (l.e i)) rl nr.sl;have fl':=eR nr.sl;simp+decide-dsimp only[go_sem,s2,s3,s4,s5,s6,s7,s8,g0,g1,g2,g3,g4,n0,n1,n2,n3,n4,ft',fl',ja,w1];refine⟨_,(U:l.n-(i+1)<_),i+1,RR.ins RR.n (l.e i),U,dc,Z,nr,(by show RR.n+1=_;omega),λj hj=>?_,rh,?_⟩
  .have hj:j<RR.n+1:=hj;rw[uj rr (an _) U _ U];by_cases h:j<RR.n;.rw[au h];exact re j h
   .rw[ak h,au U,show l.n / 2+j=i from U]
  .exact⟨Z,⟨by(repeat' first|exact S0|apply aG.fo|(apply aG.set;rotate_left;omega)),rfl⟩,U⟩
 .have:i=l.n:=U;subst this;simp+decide-dsimp only[go_sem,s7,s8,dz];clear n0 n1 n2 n3 n4 n5 dc s8;refine cI _ _ (λmm s Q E=>∃(LL:Lf) (sp:aY),l.n / 2<=LL.n/\LL.n<=l.n/\mm=LL.n-l.n / 2/\LL.zxQ/\(∀j,j<LL.n->LL.e j=l.e j)/\(LL.n<l.n->sp=(l.e LL.n).m)/\
   X s 2= .ptr Y 0/\X s 3= .ptr (Y+1) 0/\X s 4= .ptr (Y+1+1) 0/\X s 5= .ptr (Y+1+1+1) 0/\X s 6= .ptr (Y+1+1+1+1) 0/\X s 7=int l.n/\
   (aG Y h Q/\N Q (Y+1)=some (.cells [int x.X,u64 x.bo] 245)/\N Q (Y+1+1)=some (.cells LL.cells 269)/\N Q (Y+1+1+1)=some (.cells RR.cells 269)/\N Q (Y+1+1+1+1)=some (.cells (uW sp) 264))/\Y+5<=E) (n:=l.n-l.n / 2) ?_ ?_
  .simp+decide-dsimp only[go_sem,s2,s3,s4,s5,s6,s7];exact⟨l,[],U,an _,Z,zxQ,λ_ _=>rfl,λh=>absurd h (dz _),⟨S0,g1,g2,g3,g4⟩,qf⟩
  clear S0 g0 g1 g2 g3 g4 qf s2 s3 s4 s5 s6 s7 s;rintro mm s Q E ⟨LL,sp,hk1,zS,rfl,lr,le,hsp,s2,s3,s4,s5,s6,s7,⟨S0,g1,g2,g3,g4⟩,qf⟩;have n1:¬(Y+1=E+8):=U;have n2:¬(Y+1+1=E+8):=U;have n3:¬(Y+1+1+1=E+8):=U;have n4:¬(Y+1+1+1+1=E+8):=U;have n5:¬(E+8=Y+1+1):=U;have ll:=lr.sl;have la:=lB ll;simp+decide-dsimp only[go_sem,s4,g2,la];refine ba (K9 LL lr.p lr.n ll) ?_;by_cases dc:l.n / 2<LL.n
  .have ti:((l.n / 2:Nat):Int)<(LL.n:Int):=U;have w1:cO .i64 ((LL.n:Int)-1)=((LL.n-1:Nat):Int):=by rw[show(LL.n:Int)-1=((LL.n-1:Nat):Int)from U];exact wrap_i64 U U
   simp+decide-dsimp only[go_sem,W9,s4,s7,g2,la,q2,ti,n2];generalize hq:E+Array.size _=nq;have arR:E+9<=nq:=hq▸(iR bS _)
   clear hq;refine ba (K9 LL lr.p lr.n ll) ?_;simp+decide-dsimp only[go_sem,s4,g2,la,w1,n2];refine ba (HV LL lr (LL.n-1)) ?_;have Br:LL.at (LL.n-1)=LL.e (LL.n-1):=au U;rw[Br];simp+decide-dsimp only[go_sem,s4,g2,la,n2,reduceAdd];have hr:=lr.r (LL.n-1) U;have pl:LL.Pl (LL.e (LL.n-1)).m (LL.n-1):=⟨U,λj hj=>lr.lt hj U,λ_=>bU⟩;have c:=al6 LL lr (LL.e (LL.n-1)).m hr.m (LL.n-1) pl;rw[au ⟨U,Z⟩]at c;refine ba c ?_;have nr:=lr.del (i:=LL.n-1) U;have ft':=jZ (a:=LL) (b:=LL.del (LL.n-1)) ll nr.sl;have fl':=eR nr.sl;simp+decide-dsimp only[go_sem,s2,s3,s4,s5,s6,s7,g1,g2,g3,g4,n1,n2,n3,n4,n5,ft',fl',ja,reduceAdd];refine⟨_,?_,LL.del (LL.n-1),(LL.e (LL.n-1)).m,(by show _<=LL.n-1;omega),(by show LL.n-1<=_;omega),Z,nr,λj hj=>?_,λhj=>?_,?_⟩;.show LL.n-1-l.n / 2<LL.n-l.n / 2;omega
   .have hj:j<LL.n-1:=hj;rw[BD lr U U,au hj];exact le j U
   .show(LL.e (LL.n-1)).m=(l.e (LL.n-1)).m;rw[le _ U]
   .exact⟨⟨by(repeat' first|exact S0|apply aG.fo|(apply aG.set;rotate_left;omega)),Z,Z⟩,U⟩
  .have hk:LL.n=l.n / 2:=U;have ti:¬((l.n / 2:Nat):Int)<(LL.n:Int):=U;have Zz:sp=(l.e (l.n / 2)).m:=hk▸(hsp U)
   have arn:tv sp:=by rw[Zz];exact(zxQ.r _ U).m
   have p1:eG 106 LL.cells (uW sp)=J ({LL with cQ:=sp}:Lf).cells:=Bn ll sp;have p2:eG 108 ({LL with cQ:=sp}:Lf).cells [bW M]=J ({LL with cQ:=sp,bd:=M}:Lf).cells:=Gb (l:={LL with cQ:=sp}) ll M;have p3:eG 109 ({LL with cQ:=sp,bd:=M}:Lf).cells [int x.X,u64 x.bo]=J ({LL with cQ:=sp,bd:=M,next:=x}:Lf).cells:=Bp (l:={LL with cQ:=sp,bd:=M}) ll x;generalize RU:({LL with cQ:=sp}:Lf)=N1 at p1 p2;generalize hL2:({LL with cQ:=sp,bd:=M}:Lf)=N2 at p2 p3;generalize hL3:({LL with cQ:=sp,bd:=M,next:=x}:Lf)=N3 at p3;have l3:O N3.sl=15:=hL3▸ll
   have la3:=lB l3;have lr3:=lB rr.sl;have ft3:=jZ l3 l3;have ftr:=jZ rr.sl rr.sl;have fl3:=eR l3;have flr:=eR rr.sl;simp+decide-dsimp only[go_sem,W9,s3,s4,s5,s6,s7,g1,g2,g3,g4,q2,ti,p1,p2,p3,la3,lr3,ft3,ftr,fl3,flr,ja,e32,e43,e42,e23,e24,e34,reduceAdd];refine⟨?_,_,.dY (.cons (.cw (we _)) (.cons (.cw (we _)) (.cons (.cw ⟨trivial,trivial,trivial⟩) .nil))),N3,RR,by rw[Zz],?_⟩
   .show aG Y h _
    repeat' first|exact S0|apply aG.fo|(apply aG.set;rotate_left;omega)
   .have L:N3.ds=LL.ds/\N3.n=LL.n/\N3.sl=LL.sl/\N3.cQ=sp/\N3.bd=M/\N3.next=x:=by rw[<-hL3];exact⟨Z,Z,Z,Z,Z,Z⟩
    have⟨x1,x2,x3,x4,x5,x6⟩:=L;have ee:∀j,N3.e j=LL.e j:=λj=>by unfold Lf.e;rw[x1,x3]
    refine⟨⟨by rw[x1];exact lr.p,by rw[x2];exact lr.n,l3,λj W F=>?_,λj hj=>?_,λj hj=>?_,λj hj D=>?_,by rw[x4];exact arn,λh=>by rw[x5]at h;cases h⟩,rr,x2.trans hk,by rw[rn],λj hj=>?_,λj hj=>?_,⟨x4.trans Zz,x5,x6⟩,rh⟩;.rw[ee];exact lr.hd j (x2▸W) F
    .rw[ee];exact lr.r j (x2▸hj)
    .rw[ee,ee];exact lr.kj j (x2▸hj)
    .rw[x2]at hj;rw[ee,x4,Zz,le j hj];exact zxQ.lt U U
    .rw[ee];exact le j U
    .exact re j U
structure Mn where
 cw:Bool
 ay:Lf
 aL:Nd
def Mn.cells(n:Mn):List u:=bW n.cw::(n.ay.cells++n.aL.cells)
abbrev Mn.av(n:Mn):u:= .agg n.cells
def ajK{h a k ok}:nS prog h 308 a k ok=FQ (.pointer B) (mapOf h a) k ok:=HW Xm Fy ad5
def ajy{h b k v}:sv prog h 308 (.mp b) k v=Q1 h b (N h b) k v:=LS Xm Fy
attribute[go_sem] ajK ajy
def qb{x:Mn}(L:O x.ay.sl=15):O x.cells=120:=by unfold Mn.cells;rw[bD,aq,eR L];rfl
def Ew{x:Mn}(L:O x.ay.sl=15):dC 120 x.cells=J x.cells:=by rw[bZ _ _ (Es (qb L)),aH (Es (qb L))]
def aaA:List Value:= .int .u64 0:: .bool R::(acN++[.bool R,.slice B 0 0,.slice B 0 0,.slice B 0 0,.string ⟨#[]⟩,.bool R,.int .i64 0,.int .u64 0])
def ano:dS prog 334=J aaA:=aK
def t334:List u:=(aaA.map u.g).drop 1
def aiP{g:Int}:eG 0 (aaA.map u.g) [u64 g]=J (u64 g::t334):=by rw[cG _ _ _ (by simp[aaA])];rfl
def alQ{x:Mn}(L:O x.ay.sl=15):eG 0 t334 x.cells=J x.cells:=by have l:O t334=120:=rfl;rw[cG _ _ _ (by rw[qb L,l];omega),dJ,cz,fC,aX (by rw[qb L,l];omega),cy]
attribute[go_sem] ano
abbrev MAr.ok(a:Ar Mn)(h:aE)(Y:Nat):Prop:=Ar.ok Mn.cells 310 334 a h Y
def am4:=RB [(3,[MO z9 10,MO [] 11,RX]),(4,[MO z10 11,MO [] 12,RX])]
def ape(a:Ar Mn)(h Y)(ok:MAr.ok a h Y)(e:iB Mn)(V:e∈a.es):UP 330 [.ptr a.ab 0,(Hd.mk e.X e.bo).av] h Y (dG (.dY [.ptr e.bT 0,bW M]) h Y):=by have⟨j,hj⟩:=Eb ok.ng V;have hf:=ok.fr e V;have X4:=ok.la;have RE:=ok.lm;refine az.pc 2 am4 func330 (asC f330.eq_1 am4.eq_1 @Hd.av.eq_1 @Hd.cells.eq_1 ok.ar ok.mp (ok.cl e V) (U:¬(a.ab=Y)) (U:¬(a.mb=Y)) (U:¬(e.bT=Y)) hj ?_);exact .of (aG.refl.set (an _)) (.cw ⟨hf.2.2,trivial,trivial⟩)
def ao3(a:Ar Mn)(h Y)(ok:MAr.ok a h Y)(e:iB Mn)(V:e∈a.es):UP 312 [.ptr a.ab 0,(Hd.mk e.X e.bo).av] h Y (dG (.dY [.ptr e.bT 1,bW M]) h Y):=by
 have hf:=ok.fr e V;refine az.pc 2 T0 func312 ?_;have LX:MAr.ok a (aI h Y (.cells (Hd.mk e.X e.bo).cells 245)) (Y+1):=by
  exact atm
 have c:=ape a _ _ LX e V;rw[Hd.av,Hd.cells]at c;refine J7 f312.eq_1 @Hd.av.eq_1 @Hd.cells.eq_1 ?_;exact atC
def apZ(h Y pb):UP 133 [.ptr pb 0] h Y λv Q E=>∃ab mb,Y<=ab/\Y<=mb/\¬(ab=mb)/\ab<E/\mb<E/\v= .ptr ab 0/\N Q ab=J (.cells [.ptr pb 0,.mp mb] 310)/\N Q mb=J (.map [] 0)/\aG Y h Q:=by refine az.ac 1 T0 func133 (Xf f133.eq_1 ?_);exact⟨Y+1,Y,U,U,U,U,U,Z,by rw[au Z],by rw[ak U,au Z],(aG.refl.set (an _)).set (bG _)⟩
def alj:=RB [(6,[(z10,[3,5,7,8],J 11),RX])]
def aoU(a:Ar Mn)(p:bp)(h Y)(ok:MAr.ok a h Y)(ug:p.ok h Y)(sp:Sep a p)(A:p.fr.count M≠0)(x:Mn)(L:O x.ay.sl=15):
 UP 147 [.ptr a.ab 0,.agg (Mn.cells x)] h Y λv Q E=>∃i bT,i<O p.fr/\p.fr.getD i R=M/\v= .dY [(Hd.mk i (p.gs.getD i 0)).av,int 0]/\
  ({p with fr:=p.fr.set i R}:bp).ok Q E/\MAr.ok {a with ck:=a.ck+1,es:=a.es++[⟨i,bT,a.ck,p.gs.getD i 0,x⟩]} Q E/\Y<=bT/\UE Y a p h Q:=by
 have l1:=ug.tD;have l2:=ug.tJ;have l3:=ug.tM;have X4:=ok.la;have RE:=ok.lm;have s1:=sp.sa;have s2:=sp.sm;refine az.ac 2 alj func147 ?_;have d1:¬(a.ab=Y):=U;have d2:¬(a.ab=Y+1):=U;simp+decide-dsimp only[f147,go_sem,ok.ar,sp.pb,d1,d2];refine cm (afK p _ _ (ug.aW (aG.set (aG.set .refl (an _)) (bG _)) U) A) λ_ W cC l4 ⟨i,H,ht,e,q1,q2⟩=>?_;subst e;have k1:N W a.ab=J (.cells [.ptr p.pb 0,.mp a.mb] 310):=by rw[q2 _ U s1.1 s1.2.1 s1.2.2,Xg d2,Xg d1,ok.ar,sp.pb]
 have k2:N W a.mb=J (.map (a.es.map iB.row) a.ck):=by rw[q2 _ U s2.1 s2.2.1 s2.2.2,Xg U,Xg U,ok.mp]
 have k3:N W Y=J (.cells (Mn.cells x) 271):=by rw[q2 _ U U U U,Xg U,aj,au Z]
 have k4:N W (Y+1)=J (.cells [int 0,u64 0] 245):=by rw[q2 _ U U U U,aj,au Z]
 have hm:=xe (k:=i) a.es 0 λe V G=>by have:=(sp.taken e V).2;rw[G,ht]at this;cases this
 simp+decide-dsimp only[go_sem,alj,Hd.av,Hd.cells,k1,k2,k3,k4,(U:¬(a.ab=cC)),(U:¬(a.mb=cC)),(U:¬(Y=cC)),(U:¬(Y+1=cC)),(U:¬(a.ab=cC+1+10)),(U:¬(a.mb=cC+1+10)),(U:¬(Y=cC+1+10)),(U:¬(Y+1=cC+1+10)),(U:¬(cC=a.mb)),(U:¬(Y+1=a.mb)),hm,Ew L,qb L,aiP,alQ L,reduceAdd];refine⟨i,cC+1+10,H,ht,Z,?_,?_,U,?_⟩
 .refine q1.jw ?_ ?_ ?_ (by show cC<=cC+1+12;omega);.show N _ p.pb=N _ p.pb;have:=s2.1;rw[Xg U,Xg (λe=>this e.symm),Xg U,Xg U,Xg U]
  .show N _ p.gb=N _ p.gb;have:=s2.2.1;rw[Xg U,Xg (λe=>this e.symm),Xg U,Xg U,Xg U]
  .show N _ p.fb=N _ p.fb;have:=s2.2.2;rw[Xg U,Xg (λe=>this e.symm),Xg U,Xg U,Xg U]
 .refine⟨?_,?_,λe V=>?_,?_,?_,λe V=>?_,ok.ne,?_,?_⟩;.show N _ a.ab=_;rw[Xg U,Xg ok.ne,Xg U,Xg U,Xg U,k1]
  .show N _ a.mb=_;rw[Xg U,aj,au Z,dm];rfl
  .rcases bN.1 V with V|V;.have:=ok.fr e V;have g:=sp.sc e V;rw[Xg U,Xg this.2.1,Xg U,Xg U,Xg U,q2 _ U g.1 g.2.1 g.2.2,Xg U,Xg U];exact ok.cl e V
   .simp only[aV]at V;subst V;show N _ (cC+1+10)=_;rw[Xg U,Xg U,aj,au Z]
  .show((a.es++[_]).map iB.X).Nodup;rw[dm,mu];refine⟨ok.ng,bR,λy hy hd hz=>?_⟩;obtain⟨e,V,rfl⟩:=bg.1 hy;simp only[cB,n7,aV]at hz;intro G;have:=(sp.taken e V).2;rw[G,hz,ht]at this;cases this
  .show((a.es++[_]).map iB.bT).Nodup;rw[dm,mu];refine⟨ok.Ll,bR,λy hy hd hz=>?_⟩;obtain⟨e,V,rfl⟩:=bg.1 hy;simp only[cB,n7,aV]at hz;have:=ok.fr e V;omega
  .show e.bT≠a.ab/\e.bT≠a.mb/\e.bT<cC+1+12;rcases bN.1 V with V|V
   .have:=ok.fr e V;exact⟨this.1,this.2.1,U⟩
   .simp only[aV]at V;subst V;show cC+1+10≠a.ab/\cC+1+10≠a.mb/\cC+1+10<cC+1+12;omega
  .show a.ab<cC+1+12;omega
  .show a.mb<cC+1+12;omega
 .intro b D g1 g2 g3 g4;rw[Xg,Xg g4,Xg,Xg,Xg,q2 b U g1 g2 g3,Xg,Xg]
variable{zyQ:List u}
structure sN(C:List u)(off:Nat)(n:Mn):Prop where
 cw:iS off C=J (bW n.cw)
 ay:(dV (off+1) C).bind (dC 111)=J n.ay.cells
 aL:(dV (off+112) C).bind (dC 8)=J n.aL.cells
 ajC:(dV (off+1+109) C).bind (dC 2)=J [int n.ay.next.X,u64 n.ay.next.bo]
 amf:(dV (off+112+6) C).bind (dC 2)=J [int n.aL.next.X,u64 n.aL.next.bo]
 aJ:iS (off+112+1) C=J (strs n.aL.aJ)
 all:(dV off C).bind (dC 120)=J n.cells
theorem XM{pre:List u}:(pre++zyQ).drop (O pre+k)=zyQ.drop k:=by rw[jo,aX U,cz,ij]
theorem sN.mk'{pre:List u}{n:Mn}(L:O n.ay.sl=15):sN (pre++n.cells) (O pre) n:=by
 have ll:=eR L;have cf:O (pre++n.cells)=O pre+120:=by rw[aq,qb L]
 have d:∀k,k<=120->dV (O pre+k) (pre++n.cells)=J (n.cells.drop k):=λk hk=>by rw[eY _ _ U,XM]
 have nth:∀k,iS (O pre+k) (pre++n.cells)=n.cells[k]?:=λk=>by rw[k6,cE U,ij]
 have c1:n.cells.drop 1=n.ay.cells++n.aL.cells:=rfl;have afp:n.cells.drop 112=n.aL.cells:=by show(n.ay.cells++n.aL.cells).drop 111=_;rw[<-ll,List.drop_left]
 refine⟨by have:=nth 0;rw[dP]at this;rw[this];rfl,?_,?_,?_,?_,?_,?_⟩;.rw[d 1 U,c1,aT,bZ _ _ (by rw[aq,ll];omega),aD U,aH U]
 .rw[d 112 U,afp];rfl
 .have:=Hc L;rw[eY _ _ U]at this;rw[fZ,d (1+109) U,<-lM,c1,cx U,aT];have l2:O (n.ay.cells.drop 109)=2:=by rw[aC,ll]
  rw[aT,bZ _ _ U]at this;rw[bZ _ _ (by rw[aq,l2];omega),aD U];exact this
 .rw[fZ,d (112+6) U,<-lM,afp];rfl
 .rw[fZ,nth,<-List.head?_drop,<-lM,afp];rfl
 .have:=d 0 U;rw[dP]at this;rw[this,nc,aT,Ew L]
def Mn.eF(n:Mn)(m:aY):Bool:=if n.cw then n.ay.eF m else n.aL.eF (qy m)
def Mn.next(n:Mn):Hd:=if n.cw then n.ay.next else n.aL.next
def Mn.full(n:Mn):Bool:=if n.cw then decide (6<n.ay.n)else decide (4<O n.aL.aJ)
def Mn.tight(n:Mn):Bool:=if n.cw then decide (6<=n.ay.n)else decide (4<=O n.aL.aJ)
def Wt:=RB [(2,[MO z4 5,MO [] 6,RX]),(3,[MO z4 5,([],[3],J 6),MO [] 7,RX])]
section
variable{n:Mn}{C:List u}{b off:Nat}{T:TypeId}{h:aE}{Y:Nat}(hC:N h b=J (.cells C T))(D:b<Y)(h2:sN C off n)
include hC D h2
theorem aqP(K:O n.ay.sl=15)(hh:n.cw=M->tv n.ay.cQ)(m)(hm:tv m):UP 334 [.ptr b off,.agg (uW m)] h Y (dG (bW (n.eF m)) h Y):=by
 refine az.pc 2 Wt func334 ?_;have d0:¬(b=Y):=U;have f1:=h2.cw;have f3:=h2.aL;unfold Mn.eF;cases lW:n.cw with
 |true=>rw[lW]at f1;simp+decide-dsimp only[f334,go_sem,Wt,hC,d0,f1,h2.ay];refine AJ (Yv n.ay K (hh lW) m hm) ?_;exact .eE (aG.refl.set (an _)) .cP Z
 |false=>rw[lW]at f1;simp+decide-dsimp only[f334,go_sem,Wt,hC,d0,f1,f3];refine ba (QY m hm.len) ?_;simp+decide-dsimp only[go_sem,hC,d0,f3];refine AJ (P7 n.aL (qy m)) ?_;exact .eE (aG.refl.set (an _)) .cP Z
theorem apb:UP 335 [.ptr b off] h Y (dG n.next.av h Y):=by
 refine az.pc 1 T0 func335 ?_;have d0:¬(b=Y):=U;have f1:=h2.cw;unfold Mn.next;cases lW:n.cw with
 |true=>rw[lW]at f1;simp+decide-dsimp only[f335,go_sem,hC,d0,f1,h2.ajC,reduceAdd];refine .eE ?_ (.agg (.cons .cP (.cons .cP .nil))) Z;exact gU
 |false=>rw[lW]at f1;simp+decide-dsimp only[f335,go_sem,hC,d0,f1,h2.amf,reduceAdd];refine .eE ?_ (.agg (.cons .cP (.cons .cP .nil))) Z;exact gU
theorem ary(p:n.cw=M->n.ay.zxQ)(K:O n.ay.sl=15):UP 346 [.ptr b off] h Y (dG (bW n.tight) h Y):=by
 refine az.pc 1 T0 func346 ?_;have f1:=h2.cw;unfold Mn.tight;cases lW:n.cw with
 |true=>rw[lW]at f1 p;simp+decide-dsimp only[Tryz.f346,go_sem,hC,f1,h2.ay];refine AJ (K9 n.ay (p Z).p (p Z).n K) ?_;exact .eE .refl .cP (ff (λb=>u.g (.bool b)) (jl.2 U))
 |false=>rw[lW]at f1;simp+decide-dsimp only[Tryz.f346,go_sem,hC,f1,h2.aJ];exact .eE .refl .cP (ff (λb=>u.g (.bool b)) (jl.2 U))
theorem aqC(p:n.cw=M->n.ay.zxQ)(K:O n.ay.sl=15):UP 347 [.ptr b off] h Y (dG (bW n.full) h Y):=by
 refine az.pc 1 T0 func347 ?_;have f1:=h2.cw;unfold Mn.full;cases lW:n.cw with
 |true=>rw[lW]at f1 p;simp+decide-dsimp only[f347,go_sem,hC,f1,h2.ay];refine AJ (amu n.ay (p Z).p (p Z).n K) ?_;exact .eE .refl .cP Z
 |false=>rw[lW]at f1;simp+decide-dsimp only[f347,go_sem,hC,f1,h2.aL];refine AJ (aax n.aL) ?_;exact .eE .refl .cP Z
end
def ag8(s:aY)(i:Nat)(G:O s<60000)(H:i<6000):bz 311 [cg s,int i] (cg (s.drop (8*(i+1)))):=by
 refine bz.ac 2 T0 func311 λh Y=>?_;have w1:i+1<9223372036854775808:=U;have w2:i+1<65536:=U;have hm:(if 8*(i+1)<O s then((8*(i+1):Nat):Int)else(O s:Int))=((min (O s) (8*(i+1)):Nat):Int):=by split<;>omega
 have hle:min (O s) (8*(i+1))<=O s:=X0 _ _;simp+decide-dsimp only[f311,go_sem,w1,w2,hm,hle];refine .eE .refl .cg ?_;by_cases h:8*(i+1)<=O s;.rw[Nat.min_eq_right h]
 .rw[b9 U,aX U,aX U]
def dX(key:aY)(i:Nat)(v:aY):Sl:=⟨cut (key.drop (8*i)),key.drop (8*(i+1)),v,R,⟨0,0⟩⟩
def afC(s v:aY)(i:Nat)(G:O s<60000)(H:i<6000):bz 319 [cg s,int i,cg v] (.agg (dX s i v).cells):=by refine bz.ac 3 T0 func319 λh Y=>?_;refine Xf f319.eq_1 ?_;refine AJ (U1 s i G H) ?_;refine AJ (ag8 s i G H) ?_;refine .eE ?_ (.cw (uw (dX s i v))) Z;exact gU
def qc:Nat->aY->aY->Nat
 |0,_,_=>0
 |d+1,a,b=>if 8<O a/\8<O b/\a.take 8=b.take 8 then qc d (a.drop 8) (b.drop 8)+1 else 0
def GP:∀(d:Nat) (a b:aY),qc d a b<=d
 |0,_,_=>an _
 |d+1,a,b=>by
  unfold qc;split;.have:=GP d (a.drop 8) (b.drop 8);omega
  .omega
def BN:∀(d d':Nat) (a b:aY),O a<=8*d->d<=d'->qc d a b=qc d' a b
 |0,d',a,b,h,_=>by
  cases d' with
  |zero=>rfl
  |succ d'=>unfold qc;rw[ak U]
 |d+1,d',a,b,h,z=>by
  cases d' with
  |zero=>omega
  |succ d'=>
   unfold qc;split;.rw[BN d d' (a.drop 8) (b.drop 8) (Es @aC) U]
   .rfl
def alike(a b:aY):Nat:=qc (O a) a b
def yh{x y:aY}(h:8<O x/\8<O y/\x.take 8=y.take 8):alike x y=alike (x.drop 8) (y.drop 8)+1:=by unfold alike;obtain⟨n,hn⟩:∃n,O x=n+1:=⟨O x-1,U⟩;rw[hn,qc,au h,BN (O (x.drop 8)) n (x.drop 8) (y.drop 8) U (Es @aC)]
def uy{x y:aY}(h:¬(8<O x/\8<O y/\x.take 8=y.take 8)):alike x y=0:=by
 unfold alike;cases L:O x with
 |zero=>rfl
 |succ n=>rw[qc,ak h]
def TB:=RB [(2,[(z14,[],B)]),(3,[MO [0,1,2,3] 4,MO [] 5,RX])]
def ah9(a b:aY)(ha:O a<60000)(D:O b<60000):bz 321 [cg a,cg b] (int (alike a b)):=by
 refine bz.ac 2 TB func321 λh Y=>?_;refine Xf f321.eq_1 ?_;refine cI _ _ (λm s Q E=>∃k x y,O x<60000/\O y<60000/\m=O x/\k+O x<=O a/\alike a b=k+alike x y/\X s 0=cg x/\X s 1=cg y/\X s 5=int k/\Q=h/\Y<=E) (n:=O a) ?_ ?_;.refine QZ ?_;exact⟨0,a,b,ha,D,Z,U,U,Z,Z,Z⟩
 rintro m s Q E ⟨k,x,y,L,hy,rfl,hk,V,s0,s1,s5,rfl,l1⟩;by_cases W:8<O x
 .have ki:(8:Int)<(O x:Int):=U;have h1'':8<=O x:=U;by_cases F:8<O y
  .have qK:(8:Int)<(O y:Int):=U;have h2'':8<=O y:=U;have w1:k+1<9223372036854775808:=U;have sx:fW prog 9 (cg x) B (J (int 8))=J (cg (x.take 8)):=Pz (i:=8) h1'';have sy:fW prog 9 (cg y) B (J (int 8))=J (cg (y.take 8)):=Pz (i:=8) h2'';have tx:fW prog 9 (cg x) (J (int 8)) B=J (cg (x.drop 8)):=te (i:=8) h1'';have ty:fW prog 9 (cg y) (J (int 8)) B=J (cg (y.drop 8)):=te (i:=8) h2'';by_cases h3:x.take 8=y.take 8;.simp+decide-dsimp only[go_sem,TB,s0,s1,s5,ki,qK,sx,sy,tx,ty,h3,w1];have e:=yh ⟨W,F,h3⟩;exact⟨_,(by rw[aC];omega:O (x.drop 8)<_),k+1,x.drop 8,y.drop 8,by rw[aC];omega,by rw[aC];omega,Z,by rw[aC];omega,U,Z,Z,Z,U⟩
   .refine asA TB.eq_1 s0 s1 s5 ki qK sx sy h3 ?_;exact .eE .refl .cP (by rw[V,uy (λh=>h3 h.2.2),dP])
  .refine RC TB.eq_1 s0 s1 s5 ki (U:¬(8:Int)<(O y:Int)) ?_;exact .eE .refl .cP (by rw[V,uy (λh=>F h.2.1),dP])
 .refine L6 TB.eq_1 s0 s5 (U:¬(8:Int)<(O x:Int)) ?_;exact .eE .refl .cP (by rw[V,uy (λh=>W h.1),dP])
variable{Q:aE}{z:Hd}{E:Nat}
structure Mt where
 tb:Nat
 a:Ar Mn
 aO:Hd
 size:Int
 dU:Int
def Mt.own(t:Mt)(b:Nat):Prop:=b=t.tb\/t.a.own b
structure Mt.ok(t:Mt)(h:aE)(Y:Nat):Prop where
 tr:N h t.tb=J (.cells [.ptr t.a.pb 0,.ptr t.a.ab 0,int t.aO.X,u64 t.aO.bo,.g (.int .i64 t.size),.g (.int .i64 t.dU),bW R] 273)
 ok:MAr.ok t.a h Y
 d1:t.tb≠t.a.ab
 d2:t.tb≠t.a.mb
 d3:∀e∈t.a.es,e.bT≠t.tb
 lt:t.tb<Y
 sl:∀e∈t.a.es,O e.x.ay.sl=15
structure MW(t:Mt)(p:bp)(h:aE)(Y:Nat):Prop where
 tk:t.ok h Y
 pk:p.ok h Y
 sp:Sep t.a p
 sd:t.tb≠p.pb/\t.tb≠p.gb/\t.tb≠p.fb
def Mt.ok.dL{t:Mt}{h Y}(o:t.ok h Y){b}(D:t.own b):b<Y:=by
 obtain e|e:=D;.rw[e];exact o.lt
 .exact o.ok.dL e
def Mt.ok.aW{t:Mt}(o:t.ok h Y)(s:∀b,t.own b->N Q b=N h b)(hn:Y<=E):t.ok Q E:=
 ⟨by rw[s _ (.inl Z)];exact o.tr,o.ok.jw (λb D=>s b (.inr D)) hn,o.d1,o.d2,o.d3,aP o.lt hn,o.sl⟩
def MW.aW{t p h Q Y E}(o:MW t p h Y)(s:aG Y h Q)(hn:Y<=E):MW t p Q E:=
 ⟨o.tk.aW (λb D=>s b (o.tk.dL D)) hn,o.pk.aW s hn,o.sp,o.sd⟩
def MN(t:Mt)(h Y)(o:t.ok h Y):UP 307 [.ptr t.tb 0] h Y (dG (bW R) h Y):=by refine az.pc 1 T0 func307 ?_;refine Y8 f307.eq_1 o.tr ?_;exact .eE .refl .cP Z
def jb{a:Ar Mn}(ok:MAr.ok a h Y){n}(G:ct a.es z.X=J (z.bo,n)):
 ∃e∈a.es,e.X=z.X/\e.bo=z.bo/\e.x=n/\N h e.bT=J (.cells (u64 z.bo::n.cells) 334)/\e.bT<Y/\∀Q E,aG Y h Q->Y<=E->UP 312 [.ptr a.ab 0,.agg [int z.X,u64 z.bo]] Q E (dG (.dY [.ptr e.bT 1,bW M]) Q E):=by
 have⟨e,V,e1,e2,e3⟩:=kz G;have A:=ok.cl e V;refine⟨e,V,e1,e2,e3,?_,(ok.fr e V).2.2,λQ E s hn=>?_⟩;.rw[A,e2,e3]
 .have:=ao3 a Q E (ok.jw (λb D=>s b (ok.dL D)) hn) e V;rw[e1,e2]at this;exact this
def aeq:=RB [(3,[MO z4 5,MO [6,7,8] 9,MO [] 10,RX])]
def Du:List Value:= .bool R::(acN++[.bool R,.slice B 0 0,.slice B 0 0,.slice B 0 0,.string ⟨#[]⟩,.bool R,.int .i64 0,.int .u64 0])
def alD:dS prog 271=J Du:=aK
attribute[go_sem] alD
def Et{n:Mn}(hA:O hc=120)(K:O n.ay.sl=15):eG 0 hc n.cells=J n.cells:=by rw[cG _ _ _ (by rw[qb K,hA];omega),dJ,cz,fC,aX (by rw[qb K,hA];omega),cy]
def HP(n:Mn):n.cells.all u.dh=M:=by unfold Mn.cells;rw[List.all_cons,vt,ja];rfl
def ru(l):tF Y (strs l):=by
 show jz Y _;rw[jz.iff];intro a ha;simp at ha;have⟨x,_,h⟩:=ha;have:a=cg x:=by simpa[gv]using h
 subst this;trivial
def Kj(l):tF Y (qF l):=by show jz Y _;rw[jz.iff];intro a ha;simp[Hd.cells]at ha;have⟨x,_,h⟩:=ha;rcases h with rfl|rfl<;>trivial
def Y6(n:Mn):jz Y n.cells:=⟨trivial,jz.app (OS _) ⟨trivial,ru _,ru _,Kj _,trivial,trivial,trivial,trivial,trivial⟩⟩
def ahL(n:Mn):tF Y n.av:=Y6 n
def akF(t:Mt)(h Y)(o:t.ok h Y){n}(G:ct t.a.es z.X=J (z.bo,n)):
 UP 333 [.ptr t.tb 0,z.av,.g .nilFunc] h Y (dG (.dY [n.av,bW M]) h Y):=by
 have⟨e,V,e1,e2,e3,e4,e5,e6⟩:=jb o.ok G;have K:O n.ay.sl=15:=e3▸(o.sl e V)
 have dc:=o.lt;refine az.pc 3 aeq func333 ?_;refine Ik f333.eq_1 aeq.eq_1 @Hd.av.eq_1 @Hd.cells.eq_1 o.tr (U:¬(t.tb=Y)) (U:¬(t.tb=Y+1)) (U:¬(Y=Y+1)) ?_;generalize hq:Y+1+1+Array.size _=nq;have qf:Y+2<=nq:=U;refine bc (e6 _ nq ?_ U) ?_;.exact gU
 have fa:=Ew K;have fl:=qb K;have fs:=Et (hc:=Du.map u.g) (n:=n) Z K;refine YM e4 (U:¬(e.bT=Y)) (U:¬(e.bT=Y+1)) fa fl fs @HP ?_;refine .eE ?_ (.mC (.cw (ahL n)) .cP) Z;exact gU
variable{F:aE}{p':bp}{t':Mt}
structure fT(Y:Nat)(t t':Mt)(p p':bp)(h Q:aE):Prop where
 tb:t'.tb=t.tb
 ab:t'.a.ab=t.a.ab
 mb:t'.a.mb=t.a.mb
 pb:p'.pb=p.pb
 gb:p'.gb=p.gb
 fb:p'.fb=p.fb
 fl:O p'.fr=O p.fr
 fr:∀s,p.fr.getD s R=R->p'.fr.getD s R=R
 bT:∀e∈t'.a.es,(∃f∈t.a.es,f.bT=e.bT)\/Y<=e.bT
 old:∀e∈t.a.es,∃f∈t'.a.es,f.X=e.X/\f.bT=e.bT
 slt:∀e∈t'.a.es,(∃f∈t.a.es,f.X=e.X)\/p.fr.getD e.X R=M
 aW:∀b,b<Y->b≠t.tb->b≠p.pb->b≠p.gb->b≠p.fb->b≠t.a.mb->(∀e∈t.a.es,e.bT≠b)->N Q b=N h b
def fT.same{t p}(s:aG Y h Q):fT Y t t p p h Q:=⟨Z,Z,Z,Z,Z,Z,Z,λ_ h=>h,λe V=> .inl ⟨e,V,Z⟩,λe V=>⟨e,V,Z,Z⟩,λe V=> .inl ⟨e,V,Z⟩,λb D _ _ _ _ _ _=>s b D⟩
def fT.trans{Y cC t t1 t2 p p1 p2 h W F}(s1:fT Y t t1 p p1 h W)(s2:fT cC t1 t2 p1 p2 W F)(hn:Y<=cC):fT Y t t2 p p2 h F:=by
 exact atc
def MW.store{t p h Y}(o:MW t p h Y){e:iB Mn}(V:e∈t.a.es)(x:Mn)(L:O x.ay.sl=15):
 MW {t with a:={t.a with es:=jC t.a.es e.X x}} p (aI h e.bT (.cells (u64 e.bo::x.cells) 334)) Y/\fT Y t {t with a:={t.a with es:=jC t.a.es e.X x}} p p h (aI h e.bT (.cells (u64 e.bo::x.cells) 334)):=by
 have hf:=o.tk.ok.fr e V;have z:=o.tk.d3 e V;have G:=o.sp.sc e V;refine⟨⟨⟨by rw[Xg z.symm];exact o.tk.tr,o.tk.ok.store V x,o.tk.d1,o.tk.d2,λf nP=>?_,o.tk.lt,λf nP=>?_⟩,o.pk.jw (by rw[Xg G.1.symm]) (by rw[Xg G.2.1.symm]) (by rw[Xg G.2.2.symm]) (an _),⟨o.sp.pb,o.sp.sa,o.sp.sm,λf nP=>?_,λf nP=>?_⟩,o.sd⟩,⟨Z,Z,Z,Z,Z,Z,Z,λ_ h=>h,λf nP=>?_,λf nP=>?_,λf nP=>?_,λb _ _ _ _ _ _ g=>?_⟩⟩;.have⟨g,hg,_,e2,_⟩:=fO nP;rw[<-e2];exact o.tk.d3 g hg
 .have⟨g,hg,e1,e2,e3,e4,e5⟩:=fO nP;by_cases Nf:g.X=e.X;.rw[e4 Nf];exact L
  .rw[e5 Nf];exact o.tk.sl g hg
 .have⟨g,hg,_,e2,_⟩:=fO nP;rw[<-e2];exact o.sp.sc g hg
 .have⟨g,hg,e1,_⟩:=fO nP;rw[<-e1];exact o.sp.taken g hg
 .have⟨g,hg,_,e2,_⟩:=fO nP;exact .inl ⟨g,hg,e2⟩
 .exact auB
 .have⟨g,hg,e1,_⟩:=fO nP;exact .inl ⟨g,hg,e1⟩
 .rw[aj,ak (g e V).symm]
def MW.alloc{t p}(o:MW t p h Y)(A:p.fr.count M≠0)(x:Mn)(L:O x.ay.sl=15):
 UP 147 [.ptr t.a.ab 0,x.av] h Y λv Q E=>∃i bT,ct t.a.es i=B/\v= .dY [(Hd.mk i (p.gs.getD i 0)).av,int 0]/\
  MW {t with a:={t.a with ck:=t.a.ck+1,es:=t.a.es++[⟨i,bT,t.a.ck,p.gs.getD i 0,x⟩]}} {p with fr:=p.fr.set i R} Q E/\
  fT Y t {t with a:={t.a with ck:=t.a.ck+1,es:=t.a.es++[⟨i,bT,t.a.ck,p.gs.getD i 0,x⟩]}} p {p with fr:=p.fr.set i R} h Q/\({p with fr:=p.fr.set i R}:bp).fr.count M+1=p.fr.count M/\Y<=bT:=by
 refine(aoU t.a p h Y o.tk.ok o.pk o.sp A x L).le.mono _ ?_;rintro v Q E ⟨ln,i,bT,H,ht,rfl,q1,q2,q3,q4⟩;have oO:∀e∈t.a.es,e.X≠i:=λe V G=>by have:=(o.sp.taken e V).2;rw[G,ht]at this;cases this
 have wI:∀s,(p.fr.set i R).getD s R=R\/(p.fr.set i R).getD s R=p.fr.getD s R:=by
  exact aul
 have htb:N Q t.tb=N h t.tb:=q4 _ o.tk.lt o.sd.1 o.sd.2.1 o.sd.2.2 o.tk.d2;refine⟨i,bT,rC oO,Z,⟨⟨by rw[htb];exact o.tk.tr,q2,o.tk.d1,o.tk.d2,λe V=>?_,aP o.tk.lt ln,λe V=>?_⟩,q1,⟨o.sp.pb,o.sp.sa,o.sp.sm,λe V=>?_,λe V=>?_⟩,o.sd⟩,⟨Z,Z,Z,Z,Z,Z,bR,λs G=>?_,λe V=>?_,λe V=>⟨e,jn _ V,Z,Z⟩,λe V=>?_,λb D g1 g2 g3 g4 g5 g6=>q4 b D g2 g3 g4 g5⟩,count_set H ht,q3⟩
 .exact avd
 .obtain V|V:=bN.1 V;.exact o.tk.sl e V
  .simp only[aV]at V;subst V;exact L
 .exact aua
 .exact atk
 .obtain h|h:=wI s;.exact h
  .exact h.trans G
 .obtain V|V:=bN.1 V;.exact .inl ⟨e,V,Z⟩
  .simp only[aV]at V;subst V;exact .inr q3
 .exact auc
def MW.vT{t:Mt}{p:bp}(o:MW t p h Y)(A:p.fr.count true≠0)(x:Mn)(L:x.ay.sl.length=15):
 az prog 147 [.ptr t.a.ab 0,x.av] h Y λv Q E=>∃(t':Mt) (p':bp) (z:Hd),ct t.a.es z.X=none/\v= .dY [.agg [int z.X,u64 z.bo],int 0]/\MW t' p' Q E/\fT Y t t' p p' h Q/\
  ct t'.a.es=up (ct t.a.es) z.X (z.bo,x)/\t'.aO=t.aO/\(t'.size=t.size/\t'.dU=t.dU)/\p'.fr.count true+1=p.fr.count true:=by
 refine(o.alloc A x L).mono _ ?_;rintro v Q E ⟨i,bT,f1,f2,B1,gP,f3,f4⟩;refine⟨_,_,⟨i,p.gs.getD i 0⟩,f1,f2,B1,gP,?_,Z,⟨Z,Z⟩,f3⟩;exact atT
def MW.mg{t p}(o:MW t p h Y){e:iB Mn}(V:e∈t.a.es)(W:e.X=z.X)(F:e.bo=z.bo)(x:Mn)(L:O x.ay.sl=15):
 ∃t':Mt,MW t' p (aI h e.bT (.cells (u64 z.bo::x.cells) 334)) Y/\fT Y t t' p p h (aI h e.bT (.cells (u64 z.bo::x.cells) 334))/\ct t'.a.es=up (ct t.a.es) z.X (z.bo,x)/\t'.aO=t.aO/\t'.size=t.size/\t'.dU=t.dU:=by
 have:=o.store V x L;rw[F]at this;exact⟨_,this.1,this.2,by rw[<-W,<-F];exact qW o.tk.ok.ng V x,Z,Z,Z⟩
def fT.sf{t p}(s:fT Y t t' p p' h Q)(o:MW t' p' F E){e e':iB Mn}(V:e∈t.a.es)(tN:e'∈t'.a.es)(G:e'.X=e.X):e'.bT=e.bT:=by have⟨f,hf,a1,a2⟩:=s.old e V;rw[kK o.tk.ok.ng tN hf (G.trans a1.symm),a2]
end
end br
end Go.Proofs.YtonnifoeokagjaaGreat
