/- The theorem quiet_holds of OrdersQuiet: part 18 of its proof; no conditions. -/
import Derived.Test.YtonnifoeokagjaaGreatF17
import Derived.ProofKit
import Derived.OpenShut
import Derived.Deep.Slices
import Derived.Deep.Fields
import Derived.ChangeSame
namespace Go.Proofs.YtonnifoeokagjaaGreat
set_option linter.all false
set_option maxRecDepth 8000
open Go Go.RowKit
open Option renaming some->J,none->B
open Bool renaming true->M,false->R
open List renaming length->O
open Tryz
open Nat(reduceAdd reduceMul)
namespace br
noncomputable section
variable{Pk:aY->Prop}{args:List u}{q:Nat}
theorem X8.Ft{α:Type}{c:α->Nat}{es:List (iB α)}{hd d}(b:X8 c (ct es) hd d)(hn:(es.map iB.X).Nodup):hd=(Ft c es:Int)/\br.Ft c es<=d:=by have⟨zzQ,W,F,h3⟩:=b;rw[(Sz.Cb hn).uniq W];exact⟨F,h3⟩
namespace Tr
def Vg:Tr->FuncId
 |b _=>221
 |a _=>265
 |m _=>299
def Vd:Tr->FuncId
 |b _=>228
 |a _=>272
 |m _=>306
end Tr
theorem Tr.YI(T:Tr){h}{v:u}:mQ prog xt h "Check" args (.lP T.ty v)=J (.enter T.Vg (v::args)):=by cases T<;>exact inv_of aK aK
theorem Tr.abw(T:Tr){h}{v:u}:mQ prog xt h "Slots" args (.lP T.ty v)=J (.enter T.Vd (v::args)):=by cases T<;>exact inv_of aK aK
theorem Tr.check(T:Tr){p h Y}(o:T.h1 p h Y){k}(hk:k<1001)(ok:T.ok Pk k):UP T.Vg [.ptr T.tb 0] h Y (dG (bW M) h Y):=by
 cases T with
 |b t=>have⟨d,z,⟨lo,lv,I,_⟩,hc⟩:=ok;have o:BW t p h Y:=o;have⟨z1,z2⟩:=hc.Ft o.tk.ok.ng;exact apY t h Y o.tk I z1 U o.yG
 |a t=>have⟨⟨pa,par,I⟩,hc⟩:=ok;have o:AW t p h Y:=o;have⟨z1,z2⟩:=hc.Ft o.tk.ok.ng;exact aog t h Y o.tk I z1 U o.yG
 |m t=>have⟨⟨pre,lo,eo,par,rk,I⟩,hc,hl,y1,y2,y3⟩:=ok;have o:MW t p h Y:=o;have⟨z1,z2⟩:=hc.Ft o.tk.ok.ng;have e:=(Sz.Cb o.tk.ok.ng).uniq y1;exact apy t h Y o.tk I o.yG (λb=>by cases b<;>omega) z1 (by rw[y2,e,kV])
theorem Tr.cX(T:Tr){p h Y}(o:T.h1 p h Y):UP T.Vd [.ptr T.tb 0] h Y (dG (int T.len) h Y):=by
 cases T with
 |b t=>exact apK t h Y (BW.tk o)
 |a t=>exact anR t h Y (AW.tk o)
 |m t=>exact aqd t h Y (MW.tk o)
section
variable(T:Tr)(k:Nat){h:aE}{Y ib:Nat}(D:N h ib=J (.cells (D8 T k) 175)){p:bp}(o:T.h1 p h Y)
include D o
theorem a66(hq:q<1001)(ok:T.ok Pk q):UP 66 [.ptr ib 0] h Y (dG (bW M) h Y):=by refine az.ac 1 T0 func66 ?_;refine Xf f66.eq_1 ?_;refine bc (a74 T k D) ?_;simp+decide-dsimp only[go_sem,D,T.YI];refine bc (T.check o hq ok) ?_;simp+decide-dsimp only[go_sem];exact⟨rfl,rfl,rfl⟩
theorem a68:UP 68 [.ptr ib 0] h Y (dG (int T.len) h Y):=by refine az.ac 1 T0 func68 ?_;refine Xf f68.eq_1 ?_;refine bc (a74 T k D) ?_;simp+decide-dsimp only[go_sem,D,T.abw];refine bc (T.cX o) ?_;simp+decide-dsimp only[go_sem];exact⟨rfl,rfl,rfl⟩
end
def T25:=RB [(3,[MO z9 10,RX])]
theorem a25(p:bp)(h Y)(ok:p.ok h Y):UP 25 [.ptr p.pb 0] h Y (dG (int ((O p.fr-p.fr.count M:Nat))) h Y):=by have hle:=GM (a:=M) (l:=p.fr);have mA:=ok.small;have e:cO .i64 ((O p.fr:Int)-(p.fr.count M:Int))=((O p.fr-p.fr.count M:Nat):Int):=qI;refine az.pc 1 T25 func25 ?_;refine L6 f25.eq_1 T25.eq_1 ok.a e ?_;exact .eE .refl .cP Z
variable{nx':jT}{P:Program}{b bx ck eb m Y size:Nat}{body yJ:Code}{cs:List u}{h:aE}{ps:Array Tmp}{xZ:FuncId}
def W7{ev:Operand->u}{d ty po af g t x}:en P h ev ⟨d,.range t x,ty,po,af,g⟩=Bf P t h (ev x):=bQ Z
def SW{t x}:cH (.range t x)=R:=bQ Z
def aau{ev:Operand->u}{d ty po af g x s}:en P h ev ⟨d,.next x s,ty,po,af,g⟩=BS h (ev x) s:=bQ Z
def abB{x s}:cH (.next x s)=R:=bQ Z
def agy{es:List (u×u×Nat)}(hm:N h m=J (.map es ck)):Bf prog 188 h (.mp m)=J (.wF (.it m)):=by unfold Bf;rw[adZ];show(match N h m with|some (.map _ _)=>J (QR.wF (.it m))|_=>B)=_;rw[hm]
def apB(D:N h b=J (.it m))(hm:N h m=J (.map [] ck)):BS h (.ptr b 0) R=J (.val (.dY [bW R])):=by
 have:BS h (.ptr b 0) R=match N h b with|some (.it m)=>KI (N h m)|_=>B:=bQ rfl
 rw[this,D];show KI (N h m)=_;rw[hm];rfl
attribute[go_sem] W7 SW aau abB
def aq3{hx}(D:N h bx=J (.cells [.mp m] 188))(hm:N h m=J (.map [] ck))(K:bx<Y)(XP:m<Y)
 (V:∀s Q E,aG Y h Q->Y<=E->nx' .jg s Q E):
 h1 prog xt (λ_=>[]) (f125.body.getD .skip) nx' (eK [.um hx,.ptr bx 0] 0 .nil) h Y:=by
 have d1:¬(m=Y):=U;have r0:=agy hm;refine J7 f125.eq_1 D r0 ?_;refine cI _ _ (λ_ s Q E=>X s 5= .ptr Y 0/\Q=aI h Y (.it m)/\E=Y+1) (n:=0) ?_ ?_;.exact VU
 rintro mm s Q E ⟨s5,rfl,rfl⟩;have n0:=apB (h:=aI h Y (.it m)) (b:=Y) iA (by rw[Xg d1];exact hm);refine Y8 s5 n0 ?_;exact V _ _ _ (aG.refl.set (an _)) (bG _)
def agM{nx':Option Nat->jT}{s:BT u}{ka kb kc}(D:N h bx=J (.cells [.mp m] 188))(hm:N h m=J (.map [] ck))(W:bx<Y)(F:m<Y)
 (V:∀Q E,aG Y h Q->N Q Y=J (.defs (J []))->Y<=E->nx' (J Y) .jg s Q E):
 Q0 prog xt (λ_=>[]) xZ size (.fn 125 [.ptr bx 0]) ps yJ body nx' s h Y ka kb kc:=by
 obtain⟨r0,xH⟩:∃r0:nR,r0=⟨.ready,B,xZ,s,size,ps.toList,yJ,body,Y⟩:=⟨_,Z⟩;have Xj:r0.state= .ready:=by rw[xH]
 have Ya:r0.pending=none:=by rw[xH]
 refine⟨125,_,_,f125.body.getD .skip,rfl,func125,aK,rfl,rfl,by show 2<=_;decide,aK,aK,?_⟩;rw[<-xH];have q:∀c,c<Y->N (aI (aI h Y (.defs (J []))) (Y+1) (.loop r0)) c=N h c:=λc A=>by rw[Xg,Xg]
 refine aq3 ((q _ W).trans D) ((q _ F).trans hm) U U λs' Q E hS hn=>?_;refine⟨r0,by rw[hS _ U,Sr],(by rw[Xj];exact λe=>(by cases e)),.inl ⟨Ya,?_⟩⟩;rw[Ya];refine V _ _ (λb D=>?_) ?_ U;.rw[Xg,hS b U,q b D]
 .rw[Xg,hS _ U,Xg,Sr]
theorem aoH(D:N h bx=some (.cells [.mp m] 188))(hm:N h m=some (.map [] ck))(W:bx<Y)(F:m<Y):
 az prog 142 [.g (.slice none 0 0),.fn 125 [.ptr bx 0]] h Y λw Q E=>w= .g (.slice none 0 0)/\aG Y h Q/\Y<=E:=by
 refine az.Jm prog xt pk (λ_=>[]) (λ_=>[]) func142 (c:=f142.body.getD .skip) rfl rfl aK aK (by show 2<=_;decide) ?_;simp+decide-dsimp only[f142,go_sem];generalize hG:aI h Y _=hs;have SG:aG Y h hs:=hG▸(aG.refl.set (an _))
 have g0:=TZ hG
 refine agM ((SG _ W).trans D) ((SG _ F).trans hm) U U λQ E hS z hn=>?_
 have g1:=(hS Y U).trans g0;refine Y8 g1 z ?_;exact⟨_,Z,Z,λb D=>by rw[Xg,hS b U];exact SG b D,U⟩
def aqE(D:N h bx=J (.cells [.mp m] 188))(hm:N h m=J (.map [] ck))(W:bx<Y)(F:m<Y):
 UP 123 [.fn 125 [.ptr bx 0]] h Y λw Q E=>w= FB/\aG Y h Q/\Y<=E:=by
 refine az.ac 1 T0 func123 ?_;refine Xf f123.eq_1 ?_;refine cm (aoH D hm W F) λ_ Q E _ ⟨e,S,l⟩=>?_;subst e;refine QZ ?_;exact⟨S,l⟩
def aoh:=RB [(4,[MO z12 13,([14],[],B)]),(6,[MO z14 15,MO [16] 17,RX])]
def aqz:bz 158 [FB,int 0,int 0] (.dY []):=by
 refine bz.ac 3 aoh func158 λh Y=>?_;refine Xf f158.eq_1 ?_;refine cI _ _ (λ_ s Q E=>X s 2=int 0/\X s 6=int 1/\Q=h/\E=Y) (n:=0) ?_ ?_;.refine QZ ?_;rfl
 rintro mm s Q E ⟨s2,s6,rfl,rfl⟩;refine Y8 s2 s6 ?_;exact .eE .refl (.cw trivial) Z
def anY:=RB [(17,[MO z11 12,([13,14],[],B)])]
def aoQ(n):bz 143 [FB,int 0,int 0,.g (.int .i64 n)] (.dY []):=by
 refine bz.ac 4 anY func143 λh Y=>?_;refine Xf f143.eq_1 ?_;refine cI _ _ (λ_ s Q E=>X s 0= FB/\X s 1=int 0/\X s 2=int 0/\Q=h/\E=Y) (n:=0) ?_ ?_;.exact VU
 rintro mm s Q E ⟨s0,s1,s2,rfl,rfl⟩;have e:cO .i64 (0-0)=0:=bS;refine L6 s0 s1 s2 e ?_;refine AJ aqz ?_;exact .eE .refl (.cw trivial) Z
def ap1:bz 168 [u64 0] (int 0):=by
 refine bz.ac 1 T0 func168 λh Y=>?_;have c1:nA prog h 71 5 (u64 0)=J (u8 0):=aK;have c2:nA prog h 5 3 (u8 0)=J (int 0):=aK;refine Y8 f168.eq_1 c1 ?_;generalize L:so prog 9 _ _=x;have e:x=J (.val (u8 0)):=by rw[<-L];kernel_rfl
 subst e;refine Xf c2 ?_;exact .eE .refl .cP Z
def aqZ:bz 144 [u64 0] (int 0):=by refine bz.ac 1 T0 func144 λh Y=>?_;refine Xf f144.eq_1 ?_;refine AJ ap1 ?_;exact .eE .refl .cP Z
def aps:bz 124 [FB] (.dY []):=by refine bz.ac 1 T0 func124 λh Y=>?_;have c1:nA prog h 3 286 (int ((0:Nat):Int))=J (u64 0):=aK;refine Y8 f124.eq_1 c1 ?_;refine AJ aqZ ?_;refine AJ (aoQ 0) ?_;exact .eE .refl (.cw trivial) Z
def ao4(D:N h bx=J (.cells [.mp m] 188))(hm:N h m=J (.map [] ck))(W:bx<Y)(F:m<Y):
 UP 104 [.fn 125 [.ptr bx 0]] h Y λw Q E=>w= FB/\aG Y h Q/\Y<=E:=by
 refine az.ac 1 T0 func104 ?_;refine Xf f104.eq_1 ?_;refine cm (aqE D hm W F) λ_ Q E _ ⟨e,S,l⟩=>?_;subst e;refine QZ ?_;refine AJ aps ?_;exact⟨S,l⟩
def anw:UP 105 [.mp m] h Y λw Q E=>w= .fn 125 [.ptr Y 0]/\Q=aI h Y (.cells [.mp m] 188)/\E=Y+1:=by refine az.ac 1 T0 func105 ?_;exact Xa f105.eq_1
def a61(V:N h eb=J (.cells (.mp m::cs) 191))(hm:N h m=J (.map [] ck))(W:eb<Y)(F:m<Y):
 UP 61 [.ptr eb 0] h Y λw Q E=>w= FB/\aG Y h Q/\Y<=E:=by
 refine az.ac 1 T0 func61 ?_;refine Y8 f61.eq_1 V ?_;refine cm anw λ_ Q E _ ⟨e1,e2,e3⟩=>?_;subst e1 e2 e3;simp+decide-dsimp only[go_sem];refine cm (ao4 iA (by rw[aj,ak U];exact hm) (aZ _) U) λ_ F dR _ ⟨e,S,l⟩=>?_;subst e;refine QZ ?_;exact⟨λb D=>by rw[S b U,Xg],U⟩
variable{ep:Nat}
theorem aeg(n):(4*n)&&&1=0/\(4*n)&&&2=0:=by
 have a3:∀x:Nat,x&&&3=x%4:=λx=>ur x 2;refine⟨by rw[Nat.and_one_is_mod];omega,?_⟩;have:4*n&&&2=(4*n&&&3)&&&2:=by rw[Nat.and_assoc,show(3&&&2:Nat)=2 from Z]
 rw[this,a3,show 4*n%4=0 from U];rfl
section
variable{n:Nat}(hn:n<1000)
include hn
theorem arE:bz 64 [u64 (4*n:Nat)] (bW R):=by
 refine bz.ac 1 T0 func64 λh Y=>?_;have e:∀{h t x y},dE prog h .and t x y (u64 (4*n:Nat)) (u64 1)=some (u64 0):=λ{h t x y}=>by have:=xa (h:=h) (P:=prog) (t:=t) (x:=x) (y:=y) (a:=4*n) (b:=1) U bS;rw[(aeg n).1]at this;exact this
 simp+decide-dsimp only[f64,go_sem,e];exact .eE .refl .cP rfl
theorem ao7:bz 65 [u64 (4*n:Nat)] (bW R):=by
 refine bz.ac 1 T0 func65 λh Y=>?_;have e:∀{h t x y},dE prog h .and t x y (u64 (4*n:Nat)) (u64 2)=some (u64 0):=λ{h t x y}=>by have:=xa (h:=h) (P:=prog) (t:=t) (x:=x) (y:=y) (a:=4*n) (b:=2) U bS;rw[(aeg n).2]at this;exact this
 simp+decide-dsimp only[f65,go_sem,e];exact .eE .refl .cP rfl
end
abbrev SD(m:Nat)(b:Bool):List u:=[.mp m,.g (.slice B 0 0),u64 0,bW b]
theorem a62(V:N h ep=J (.cells (SD m R) 191)):UP 62 [.ptr ep 0] h Y (dG (int 0) h Y):=by refine az.ac 1 T0 func62 ?_;refine Y8 f62.eq_1 V ?_;exact⟨Z,Z,Z⟩
theorem d101(L:N h bx=some (.cells [.ptr ep 0] 63))(V:N h ep=some (.cells (SD m true) 191)):zb 101 [.ptr bx 0] h Y (aI h ep (.cells (SD m false) 191)):=by refine zb.of (T:=λ_=>[]) func101 (c:=f101.body.getD .skip) rfl rfl aK (by show 1<=_;decide) ?_;simp+decide-dsimp only[f101,go_sem,L,V]
theorem al'{s x}:iJ prog h #[189,189] s x=vp h 205 2 (eD h 2 x) s:=w7 aem aeC ad3 aed bS
attribute[go_sem] al'
def T60:=RB [(16,[MO [0,1,3,4,5,6] 2,([],[0],J 7),([8,9],[0],J 10),RX]),(18,[MO z5 6,([7,8],[0],J 9),RX]),(20,[MO z6 7,([8,9],[0],J 10),RX]),(22,[MO z5 6,([7,8],[0],J 9),RX])]
theorem a60(V:N h ep=some (.cells (SD m false) 191))(K:ep<Y):
 az prog 60 [.ptr ep 0] h Y λw Q E=>w=int 0/\aG Y h Q/\Y<=E:=by
 refine .Cs (fr:=⟨60,eK [.ptr ep 0] 0 .nil,99,[.code (f60.body.getD .skip)],[],false,false,none⟩) prog rfl ?_
 let x:Fx:=⟨60,99,[],false,[],none⟩
 show eO prog (x.at (eK [.ptr ep 0] 0 .nil) h Y [.code (f60.body.getD .skip)]) _;have ho:∀{x:Fx} {c1 c2:Code} {s h Y k zxQ},eO prog (x.at s h Y (.code c1:: .code c2::k)) zxQ->eO prog (x.at s h Y (.code (.seq c1 c2)::k)) zxQ:=λhr=> .iP prog xt pk ⟨_,rfl,hr⟩;have hq:∀{x:Fx} {id:Nat} {ops:Array Oper} {s h Y k zxQ},eO prog (x.at s h Y (.ops ops.toList ops::k)) zxQ->eO prog (x.at s h Y (.code (.region id ops false)::k)) zxQ:=λhr=> .iP prog xt pk ⟨_,rfl,hr⟩;have hz:∀{x:Fx} {ops:Array Oper} {s h Y k zxQ},eO prog (x.at s h Y k) zxQ->eO prog (x.at s h Y (.ops [] ops::k)) zxQ:=λhr=> .iP prog xt pk ⟨_,rfl,hr⟩;have hw:∀{x:Fx} {c:Code} {s h Y k zxQ},(iW x.size c&&fR prog (λ_=>[]) c)=true->h1 prog xt (λ_=>[]) c (λe s h Y=>WU prog x k zxQ e s h Y) s h Y->eO prog (x.at s h Y (.code c::k)) zxQ:=λz hw=>by rw[aS]at z;exact nV prog xt pk (λ_=>[]) _ _ z.1 z.2 _ _ _ (λe s Q E V=>V) _ _ _ hw
 have e1:¬(ep=Y):=U;have e2:¬(Y=ep):=U;dsimp only[f60,Option.getD];refine ho (hw aK ?_);refine QZ ?_;refine ho (hw aK ?_);refine Y8 V e1 ?_;refine ho (hw aK ?_);refine Y8 V e1 ?_;refine ho (hq ?_);refine eO.quiet (v:= .fn 101 [.ptr Y 0]) Z Z Z bS (by simp+decide-dsimp only[go_sem]) ?_;refine eO.defer (d:= .fn 101 [.ptr Y 0] []) Z Z Z Z Z ?_;refine hz ?_
 let x2:Fx:=⟨60,99,[.fn 101 [.ptr Y 0] []],R,[],B⟩
 generalize hH:aI _ ep _=hi;have gE:=TZ hH
 have gX:=U9 hH Tb e2
 have gO:∀b,b<Y->b≠ep->N hi b=N h b:=λb q1 q2=>by rw[<-hH,Xg q2,Xg]
 refine nV prog xt pk T60 x2 _ aK aK _ _ _ (λe s Q E V=>V) _ _ _ ?_;refine Y8 gE gX ?_;refine cI _ _ (λ_ s Q E=>X s 1= .ptr Y 0/\X s 4= FB/\X s 5=int 0/\X s 30=int 0/\X s 31=int 0/\Q=aI hi ep (.cells (SD m M) 191)/\E=Y+1) (n:=0) ?_ ?_;.refine QZ ?_;rfl
 rintro mm s Q E ⟨s1,s4,s5,s30,s31,rfl,rfl⟩;have gE':N (aI hi ep (.cells (SD m M) 191)) ep=J (.cells (SD m M) 191):=iA;have gX':N (aI hi ep (.cells (SD m M) 191)) Y=J (.cells [.ptr ep 0] 63):=by rw[Xg e2];exact gX
 refine asC s1 s4 s5 s30 s31 gE' gX' T60.eq_1 @DW @L3 @DP ?_;show∀t,qO t=R->_;intro t ht;generalize hJ:aI _ ep _=v7;have jO:∀b,N v7 b=if b=ep then J (.cells (SD m M) 191)else N hi b:=λb=>by rw[<-hJ,aj];try rw[aj];split<;>rfl
 clear hJ gE' gX';refine eO.deferred (F:=aI v7 ep (.cells (SD m false) 191)) (d101 (by rw[jO,ak e2];exact gX) (by rw[jO,au rfl])) λn1 KC=>?_
 refine .done prog ⟨rfl,int 0,?_,rfl,λb D=>?_,by show Y<=n1;omega⟩;.show(if true&& !false&& !qO t then _ else _)=_;rw[ht];show(match prog.funcs[60]? with|some fn=>(match eW prog (aI v7 ep (.cells (SD m R) 191)) _ fn.results.toList with|some vs=>J (one vs)|none=>B)|none=>B)=_;rw[func60];show some (X _ 2)=_;simp+decide-dsimp only[go_sem]
 .show N (aI v7 ep _) b=_;rw[aj];by_cases e:b=ep;.rw[au e,e,V]
  .rw[ak e,jO,ak e,gO b D e]
variable{x y:Operand}
def aph:dE prog h .eql 25 x y (.fp cs) (FE)=J (bW R):=PJ afP
def akH:dE prog h .neq 25 x y (.fp cs) (FE)=J (bW M):=Pv afP
attribute[go_sem] aph akH
structure I9 where
 i:Int
 n:Int
 los:List aY
 ks:List UInt8
abbrev I9.cells(p:I9):List u:=[i6 p.i,i6 p.n,strs p.los,I0 p.ks]
abbrev I9.av(p:I9):u:= .agg p.cells
structure Jb where
 eb:Nat
 pb:Nat
 p:I9
 d:List u
 fr:u
abbrev Jb.cells(j:Jb):List u:=[.ptr j.eb 0,.ptr j.pb 0,i6 j.p.i,i6 j.p.n,strs j.p.los,I0 j.p.ks,.fp j.d,u64 0,j.fr,.g (.slice B 0 0),.g (.slice B 0 0),cg [],bW R,i6 0,i6 0,i6 1,cg [],bW R,bW R,bW R,bW R]
abbrev Jb.av(j:Jb):u:= .fp j.cells
def a38(j:Jb):bz 38 [j.av] (bW R):=by refine bz.ac 1 T0 func38 λh Y=>?_;refine Xf f38.eq_1 ?_;exact .eE .refl .cP Z
def a22(j:Jb):bz 22 [j.av] (int 1):=by refine bz.ac 1 T0 func22 λh Y=>?_;refine Xf f22.eq_1 ?_;refine AJ (a38 j) ?_;exact .eE .refl .cP Z
def MC:∀x,∀y∈jU x,tF Y y:=λx y h=>by simp[jU]at h;subst h;exact trivial
def aoW(l:List aY)(K:O l<65536):bz 39 [strs l] (strs l):=λh Y=>
 az.tG (a39 l K h Y) λ_ _ _ ⟨S,i,o⟩=>⟨S,_,o.fz i mE,Z⟩
def aqS(l:List UInt8)(K:O l<65536):bz 40 [I0 l] (I0 l):=λh Y=>
 az.tG (a40 l K h Y) λ_ _ _ ⟨S,i,o⟩=>⟨S,_,o.fz i MC,Z⟩
def NQ(l):tF Y (I0 l):=by exact jz.mem λy hy=>by have⟨x,_,L⟩:=cS.1 hy;exact MC x y L
def a14(j:Jb)(W:O j.p.los<65536)(F:O j.p.ks<65536):bz 14 [j.av] j.p.av:=by refine bz.ac 1 T0 func14 λh Y=>?_;refine Xf f14.eq_1 ?_;refine AJ (a38 j) ?_;refine AJ (aoW _ W) ?_;refine AJ (aqS _ F) ?_;refine .eE (gU) (.agg (.cons .cP (.cons .cP (.cons (.cw (ru _)) (.cons (.cw (NQ _)) .nil))))) Z
variable{v1 v2:u}
def T13:=RB [(6,[(z23,[],B)])]
def a13(p:I9)(K:O p.ks=O p.los)(G:O p.los<60000):bz 13 [p.av,p.av] (bW M):=by
 refine bz.ac 2 T13 func13 λh Y=>?_;refine Xf f13.eq_1 ?_;refine cI _ _ (λm s Q E=>∃k,k<=O p.los/\m=O p.los-k/\X s 2= .ptr Y 0/\X s 3= .ptr (Y+1) 0/\X s 5=int k/\Q=aI (aI h Y (.cells p.cells 48)) (Y+1) (.cells p.cells 50)/\Y+2<=E) (n:=O p.los) ?_ ?_;.refine QZ ?_;exact⟨0,aQ _,Z,Z⟩
 rintro m s Q E ⟨k,q1,rfl,s2,s3,s5,rfl,l1⟩;have d1:¬(Y=Y+1):=U;by_cases W:k<O p.los;.have ki:(k:Int)<(O p.los:Int):=U;refine asA T13.eq_1 s2 s3 s5 W ki (U:k<O p.ks) d1 (U:k+1<9223372036854775808) ?_;exact⟨O p.los-(k+1),U,k+1,W,Z,Z,U⟩
 .refine L6 s2 s5 (U:¬(k:Int)<(O p.los:Int)) d1 ?_;exact .eE (gU) .cP Z
def ahX(v:u):Option I9->Prop
 |none=>v= .g (.pointer B)
 |some p=>∃j:Jb,v=j.av/\j.p=p
structure I9.zxQ(p:I9):Prop where
 len:O p.ks=O p.los
 sm:O p.los<60000
def T23:=RB [(6,[MO [0,2,3,4,5,6,7,8,9,10] 1,([],[3,5,7,9],J 11),MO [] 12,RX])]
def a23{o}(r1:ahX v1 o)(r2:ahX v2 o)(hp:∀p,o=J p->p.zxQ)(e:Int):bz 23 [v1,v2,i6 e,i6 e] (bW M):=by
 refine bz.ac 4 T23 func23 λh Y=>?_;cases o with
 |none=>cases r1;cases r2;simp+decide-dsimp only[f23,go_sem,Km,gL,iZ];exact .eE (gU) .cP Z
 |some p=>obtain⟨j,rfl,rfl⟩:=r1;obtain⟨k,rfl,hk⟩:=r2;have zxQ:=hp _ Z;simp+decide-dsimp only[f23,go_sem,Bool.false_beq,gL,iZ];refine ba (a14 k (by rw[hk];have:=zxQ.sm;omega) (by rw[hk];have:=zxQ.sm;have:=zxQ.len;omega)) ?_;rw[hk];refine Xf T23.eq_1 ?_;refine ba (a14 j (EB zxQ.sm) (by have:=zxQ.sm;have:=zxQ.len;omega)) ?_;refine QZ ?_;refine AJ (a13 j.p zxQ.len zxQ.sm) ?_;exact .eE (gU) .cP Z
def a78(n:Int):bz 78 [i6 n] (u8 (if n<1\/3<n then 0 else n)):=by
 refine bz.ac 1 T0 func78 λh Y=>?_;by_cases W:n<1;.refine Y8 f78.eq_1 W ?_;exact .eE .refl .cP Z
 .by_cases F:3<n;.refine J7 f78.eq_1 W F ?_;exact .eE .refl .cP Z
  .refine J7 f78.eq_1 W F ?_;exact .eE .refl .cP (by rw[wrap_u8 U U])
def a72(k:UInt8):bz 72 [u8 (k.toNat:Nat)] (bW (decide (k.toNat<1\/3<k.toNat))):=by
 refine bz.ac 1 T0 func72 λh Y=>?_;by_cases W:k.toNat<1;.have ki:(k.toNat:Int)<1:=U;have e:=aN (p:=k.toNat<1\/3<k.toNat) (.inl W);refine Y8 f72.eq_1 ki ?_;exact .eE .refl .cP (by rw[e])
 .have ki:¬(k.toNat:Int)<1:=U;by_cases F:3<k.toNat;.have qK:(3:Int)<(k.toNat:Int):=U;have e:=aN (p:=k.toNat<1\/3<k.toNat) (.inr F);refine J7 f72.eq_1 ki qK ?_;exact .eE .refl .cP (by rw[e])
  .have e:=aU (p:=k.toNat<1\/3<k.toNat) U;refine J7 f72.eq_1 ki (U:¬(3:Int)<(k.toNat:Int)) ?_;exact .eE .refl .cP (by rw[e])
def zD(l:List UInt8):Bool:=l.any λk=>decide (k.toNat<1\/3<k.toNat)
def arp(l:List UInt8)(K:O l<60000):bz 107 [I0 l,.fn 72 []] (i6 (if zD l then(l.findIdx λk=>decide (k.toNat<1\/3<k.toNat):Nat)else -1)):=by
 refine bz.ac 2 T0 func107 λh Y=>?_;refine Xf f107.eq_1 ?_;refine cI _ _ (λm s Q E=>∃k,k<=O l/\m=O l-k/\X s 0=I0 l/\X s 1= .fn 72 []/\X s 7=int (O l)/\X s 8=int k/\(∀j,j<k->(decide ((l.getD j default).toNat<1\/3<(l.getD j default).toNat))=R)/\Q=h/\Y<=E) (n:=O l) ?_ ?_;.refine QZ ?_;exact⟨0,aQ _,Z,Z,λj hj=>absurd hj (cp _)⟩
 rintro m s Q E ⟨k,q1,rfl,s0,s1,s7,s8,hj,rfl,l1⟩;by_cases W:k<O l
 .have ki:(k:Int)<(O l:Int):=U;refine RC s0 s1 s7 s8 W ki ?_;refine ba (a72 _) ?_;cases D:decide ((l.getD k default).toNat<1\/3<(l.getD k default).toNat)with
  |true=>
   refine QZ ?_;have e1:zD l=M:=uo.2 ⟨_,jY W,D⟩;have e2:l.findIdx (λk=>decide (k.toNat<1\/3<k.toNat))=k:=by
    refine(List.findIdx_eq W).2 ⟨?_,λj hjk=>?_⟩;.rw[aB,aF W]at D;exact D
    .have:=hj j hjk;rw[aB,aF U]at this;exact this
   exact .eE .refl .cP (by rw[e1,e2];rfl)
  |false=>
   refine PV s0 s1 s7 s8 (U:k+1<9223372036854775808) ?_;refine⟨O l-(k+1),U,k+1,W,Z,Z,λj hj2=>?_,U⟩;obtain q|q:=bB j k
   .exact hj j q
   .rw[show j=k from U];exact D
 .refine J7 s7 s8 (U:¬(k:Int)<(O l:Int)) ?_;have e1:zD l=R:=by refine List.any_eq_false.2 λx L=>?_;obtain⟨j,KX,rfl⟩:=List.getElem_of_mem L;have:=hj j U;rw[aB,aF KX]at this;rw[fI]at this;rw[this];decide
  exact .eE .refl .cP (by rw[e1];rfl)
def a71(l:List UInt8)(K:O l<60000):bz 71 [I0 l,.fn 72 []] (bW (zD l)):=by
 refine bz.ac 2 T0 func71 λh Y=>?_;refine Xf f71.eq_1 ?_;refine ba (arp l K) ?_;cases D:zD l with
 |true=>refine Xf (U:(0:Int)<=((l.findIdx λk=>decide (k.toNat<1\/3<k.toNat):Nat):Int)) ?_;exact .eE .refl .cP Z
 |false=>refine QZ ?_;exact .eE .refl .cP Z
variable{Q:aE}{i k k' E pb rb:Nat}
section
variable{h:aE}{Y eb:Nat}
def a30(V:N h eb=J (.cells [.ptr rb 0,.ptr ep 0] 65)):UP 30 [.ptr eb 0,.ptr pb 0] h Y (dG (bW R) h Y):=by refine az.pc 2 T0 func30 ?_;refine Y8 f30.eq_1 V ?_;exact .eE .refl .cP Z
end
structure Wd.JW(d:Wd)(k:Nat)(h:aE)(Y:Nat):Prop where
 o:d.ok k h Y
 w:LU h d.rb d.rx d.dv
def Wd.JW.same{d:Wd}{h Y}(o:d.JW k h Y)(S:aG Y h Q)(hn:Y<=E):d.JW k Q E:=by have⟨⟨q,bq,g1⟩,g2⟩:=o.w;exact⟨o.o.to S hn (an _),⟨⟨q,bq,by rw[S _ o.o.r.OM];exact g1⟩,by rw[S _ o.o.r.LA];exact g2⟩⟩
def Wd.ok.upd{d:Wd}{h Y}(o:d.ok k h Y)(G:∀b,d.all b->N Q b=N h b)(hn:Y<=E)(hk:k<=k'):d.ok k' Q E:=by have g:∀b,d.bT b->N Q b=N h b:=λb D=>G b (.inl D);exact⟨by rw[g _ (.inl Z)];exact o.w,by rw[g _ (.inr (.inl Z))];exact o.e,by rw[g _ (FF (.inl Z))];exact o.m,o.r.aW (g _ (Fe (.inl Z))) (g _ (Fg (.inl Z))) hn,by rw[g _ (Fk (.inl Z))];exact o.s,o.sA,o.hv.aW λb D=>g b (Fl D),λb D=>⟨aQ _,aP (o.mO b D).2 hn⟩,fB o.yG (Je _ hk),o.P.to (λb D=>G b (.inr D)) hn hk,λb D=>aP (o.lt b D) hn,o.wo,o.bn,fB o.aw.1 hn,o.aw.2⟩
def Wd.JW.upd{d:Wd}{k h Q Y E}(o:d.JW k h Y)(G:∀b,d.all b->N Q b=N h b)(hn:Y<=E):d.JW k Q E:=by have⟨⟨q,bq,g1⟩,g2⟩:=o.w;exact⟨o.o.upd G hn (an _),⟨⟨q,bq,by rw[G _ (.inl (Fe (.inl Z)))];exact g1⟩,by rw[G _ (.inl (Fg (.inl Z)))];exact g2⟩⟩
def Wd.ok.RG{d:Wd}{h Y}(o:d.ok k h Y):tF Y (.fp d.dir):=⟨ru _,Oo o.aw.1 _,trivial⟩
def Wd.ok.at{d:Wd}{h Y}(o:d.ok k h Y)(H:i<O d.xs):cqv ((d.xs.map λx=>JP d.aw x.xb).getD i B)= .ptr (d.xs[i]).xb 0:=by rw[aB,gY,aF H];exact Ha (o.aw.2 _ (bO H))
def a31{d:Wd}{h Y}(o:d.JW k h Y)(H:i<O d.xs):
 UP 31 [.ptr d.eb 0,int i] h Y (dG (.dY [.ptr (d.xs[i]).xb 0,cg (d.los.getD i []),int (O d.los),bW M]) h Y):=by
 refine az.pc 2 T0 func31 ?_;have bn:=o.o.bn;have K:=bn.len;have DV:=bn.yG;have h0:=bn.one;refine Y8 f31.eq_1 o.o.e ?_;refine bc (Um o.w o.o.r.OM o.o.r.LA o.o.RG) ?_;refine QZ ?_;refine bc (a69 h0 U (by rw[bh];exact K) i U o.o.aw.1) ?_;rw[o.o.at H];refine QZ ?_;refine AJ (a70 h0) ?_;have L:(d.xs[i]).xb<Y:=(o.o.P.all _ (bO H)).xl;exact .eE .refl (.dY (.cons (.cw (show(d.xs[i]).xb<Y from L)) (.cons .cg (.cons .cP (.cons .cP .nil))))) Z
def aeK{d:Wd}{h Y}(o:d.JW k h Y){i:Int}(H:i<0\/(O d.los:Int)<=i):
 UP 31 [.ptr d.eb 0,i6 i] h Y (dG (.dY [FE,cg [],int (O d.los),bW R]) h Y):=by
 refine az.pc 2 T0 func31 ?_;have bn:=o.o.bn;have DV:=bn.yG;have h0:=bn.one;refine Y8 f31.eq_1 o.o.e ?_;refine Av (Um o.w o.o.r.OM o.o.r.LA o.o.RG) ?_;refine AJ (aoz h0 U i H) ?_;refine AJ (a70 h0) ?_;exact .eE .refl (.dY (.cons .cP (.cons .cg (.cons .cP (.cons .cP .nil))))) Z
variable{n sz:Nat}{α:Type}
def aqJ{l v}(o:Own gv 9 1 h v l)(h0:0<O l)(K:O l<65536)(hv:∀b,cu v=J b->b<Y):UP 39 [v] h Y (dG (strs l) h Y):=by
 obtain⟨b,cap,hc,rfl,hA,g1,g2,g3⟩:=o.sl h0;have D:=hv b Z;have hn:(O l==0)=R:=beq_eq_false_iff_ne.2 U;have ne:¬(b=Y):=U;have W:¬(O l<=0):=U;have F:∀o e,dt (aI h Y (.cells o e)) Y 0 0=J []:=λo e=>by rw[cL,Sr,cV,iq,aT,qR]
 have h3:dt (aI h Y (.cells [] 9)) b 0 (O l)=J (l.flatMap gv):=by rw[cL,Xg ne,hA,cV,iq,aT,bZ _ _ U];rw[df]at g3;rw[g3]
 refine az.tG (Q':=λw Q E=>aG Y h Q/\In Y E w/\Own gv 9 1 Q w l) (az.ac 1 T0 func39 ?_) λ_ _ _ ⟨S,i,o⟩=>⟨S,_,o.fz i mE,Z⟩;simp+decide-dsimp only[f39,go_sem,hn,K,W,F,h3,df];refine pO λcap gs A hg=>?_;refine QZ ?_;exact⟨(aG.refl.set (an _)).set (bG _),.sl (bG _) (aZ _),.inr ⟨_,cap,_,Z,iA,A,by simp only[aq,bh,C0,df]at hg⊢;exact hg,
  by rw[aD (by rw[C0];exact an _),aH (by rw[C0];exact an _)]⟩⟩
def aot{l v}(o:Own jU 5 1 h v l)(h0:0<O l)(K:O l<65536)(hv:∀b,cu v=J b->b<Y):UP 40 [v] h Y (dG (I0 l) h Y):=by
 obtain⟨b,cap,hc,rfl,hA,g1,g2,g3⟩:=o.sl h0;have D:=hv b Z;have hn:(O l==0)=R:=beq_eq_false_iff_ne.2 U;have ne:¬(b=Y):=U;have W:¬(O l<=0):=U;have F:∀o e,dt (aI h Y (.cells o e)) Y 0 0=J []:=λo e=>by rw[cL,Sr,cV,iq,aT,qR]
 have h3:dt (aI h Y (.cells [] 5)) b 0 (O l)=J (l.flatMap jU):=by rw[cL,Xg ne,hA,cV,iq,aT,bZ _ _ U];rw[df]at g3;rw[g3]
 refine az.tG (Q':=λw Q E=>aG Y h Q/\In Y E w/\Own jU 5 1 Q w l) (az.ac 1 T0 func40 ?_) λ_ _ _ ⟨S,i,o⟩=>⟨S,_,o.fz i MC,Z⟩;simp+decide-dsimp only[f40,go_sem,hn,K,W,F,h3,df];refine pO λcap gs A hg=>?_;refine QZ ?_;exact⟨(aG.refl.set (an _)).set (bG _),.sl (bG _) (aZ _),.inr ⟨_,cap,_,Z,iA,A,by simp only[aq,bh,D7,df]at hg⊢;exact hg,
  by rw[aD (by rw[D7];exact an _),aH (by rw[D7];exact an _)]⟩⟩
def Own.fzm{c:α->List u}{e v l H}(o:Own c e sz h v l)(mO:In Y H v)(A:∀x∈l,∀y∈c x,tF Y y):Fz h Y v (Lk c l):=by
 obtain⟨rfl,rfl⟩|⟨b,cap,hc,rfl,hA,W,F,h3⟩:=o;.exact .nil
 .refine .sl (q:=O l*sz) (mO b Z).1 hA Z W ?_;rw[nc,h3];refine .cw (jz.mem λy hy=>?_);have⟨x,hm,L⟩:=cS.1 hy;exact A x hm y L
def alL:fieldsOf prog 103=J [(0,1),(1,1),(2,4),(6,1),(7,1),(8,1),(9,1),(10,1),(11,1),(12,1),(13,1),(14,1),(15,1),(16,1),(17,1),(18,1),(19,1),(20,1)]:=aK
def ajv:dS prog 103=J [.pointer B,.pointer B,.int .i64 0,.int .i64 0,.slice B 0 0,.slice B 0 0,.pointer B,.int .u64 0,.slice B 0 0,.slice B 0 0,.slice B 0 0,.string ⟨#[]⟩,.bool R,.int .i64 0,.int .i64 0,.int .i64 0,.string ⟨#[]⟩,.bool R,.bool R,.bool R,.bool R]:=aK
attribute[go_sem] alL ajv
def T32:=RB [(7,[(z13,[3,5,7,9,11],J 14),MO [15,16,17] 18,MO [] 19,RX]),(15,[MO z7 8,MO [9,10,11,12] 13,MO [] 14,MO [] 15,RX])]
abbrev Jb.pre(j:Jb)(d v:u):List u:=[.ptr j.eb 0,.ptr j.pb 0,i6 j.p.i,i6 j.p.n,strs j.p.los,I0 j.p.ks,d,u64 0,v,.g (.slice B 0 0),.g (.slice B 0 0),cg [],bW R,i6 0,i6 0,i6 1,cg [],bW R,bW R,bW R,bW R]
abbrev Wd.job(d:Wd)(p:I9):Jb:=⟨d.eb,d.p.pb,p,d.dir,Lk Ej ((d.xs.drop p.i.toNat).take p.n.toNat)⟩
def Wd.Rj(d:Wd):Option I9->u
 |none=> .g (.pointer B)
 |some p=>(d.job p).av
def Wd.ajZ(d:Wd)(r):ahX (d.Rj r) r:=by
 cases r with
 |none=>rfl
 |some p=>exact⟨_,Z,Z⟩
def Wd.ok.ajz{d:Wd}(o:d.ok k h Y)(r):tF Y (d.Rj r):=by
 cases r with
 |none=>trivial
 |some p=>have pk:=o.P.pk;refine⟨o.lt _ (.inr (.inl Z)),pk.tD,trivial,trivial,ru _,NQ _,o.RG,trivial,jz.mem λy hy=>?_,trivial,trivial,trivial,trivial,trivial,trivial,trivial,trivial,trivial,trivial,trivial,trivial,trivial⟩;have⟨x,L,hy⟩:=cS.1 hy;rw[aV.1 hy];exact(o.P.all x (ju (fe L))).xl
set_option maxHeartbeats 1000000 in
def a32{d:Wd}(o:d.JW k h Y){nl}{ks:List UInt8}(h2:Fit d.los i n nl)(hk:O ks=O nl)(hnl:O nl<=2)(o1:Own gv 9 1 h v1 nl)(o2:Own jU 5 1 h v2 ks)(b1:∀b,cu v1=J b->b<Y)(b2:∀b,cu v2=J b->b<Y):
 UP 32 [.ptr d.eb 0,.ptr d.p.pb 0,.agg [int i,int n,v1,v2]] h Y (dG (.dY [d.Rj (if zD ks=M then B else J ⟨i,n,nl,ks⟩),i6 (if zD ks=M then 20 else 0)]) h Y):=by
 refine az.pc 3 T32 func32 ?_;have⟨u1,u2⟩:=o1.cells;have⟨u3,u4⟩:=o2.cells;have bn:=o.o.bn;have K:=bn.len;have DV:=bn.yG;have h0:=bn.one;have f1:=h2.n1;have f2:=h2.le;have f3:=h2.ne;have el:=o.o.lt _ (.inr (.inl Z));have ne:¬(d.eb=Y):=U;have n01:¬(Y=Y+1):=U;have n10:¬(Y+1=Y):=U;have m32:=arv (n:=O ks) U;have L26:=λ(hi:aE) (aw:Nat) (S:aG Y h hi) (hN:Y<=aw)=>Um (Y:=aw) (o.same S hN).w (o.same S hN).o.r.OM (o.same S hN).o.r.LA (o.same S hN).o.RG;refine J7 f32.eq_1 o.o.e ne ?_;refine bc (aqJ (l:=nl) (o1.aW λb D=>by rw[aj,ak (EB (b1 b D))]) f3 U λb D=>by have:=b1 b D;omega) ?_;refine QZ ?_;refine bc (aot (l:=ks) (o2.aW λb D=>by have:=b2 b D;rw[Xg,Xg]) U U λb D=>by have:=b2 b D;omega) ?_;refine J7 o.o.e ne (U:¬(d.eb=Y+1)) ?_;refine bc (L26 _ _ (gU) U) ?_;refine L6 T32.eq_1 n01 n10 m32 ?_;generalize hH:aI _ (Y+1+1+13) _=hi;generalize hq:Y+1+1+Array.size _=nq;have qf:Y+1+1+14<=nq:=hq▸(iR bS _)
 have p0:¬(Y=Y+1+1+13):=U;have p1:¬(Y+1=Y+1+1+13):=U;have SH:aG Y h hi:=hH▸gU
 have H0:N hi Y=J (.cells [int i,int n,strs nl,I0 ks] 48):=by rw[<-hH];simp only[aj,n01,p0,cA,cU]
 have H1:N hi (Y+1)=J (.cells ((d.job ⟨i,n,nl,ks⟩).pre (.fp d.dir) (FB)) 103):=by rw[<-hH];simp only[aj,n10,p1,cA,cU]
 have H2:N hi (Y+1+1+13)=J (.cells (List.replicate (O ks) (FE)) 78):=by rw[<-hH];simp only[aj,cA]
 have dl:O (d.xs.map λx=>JP d.aw x.xb)=O d.los:=by rw[bh];exact K
 have oN:=o.o.aw.1;have key:=(a46 (Y:=nq) (cap:=O ks) (aw:=d.aw) (los:=d.los) (nl:=nl) (xs:=d.xs.map λx=>JP d.aw x.xb) (zs:=List.replicate (O ks) B) U dl h2 (lQ▸hk) U U H2 (by rw[lQ,aH bR];generalize O ks=q;induction q with|zero=>rfl|succ q ih=>rw[qD,qD,bE,<-ih];rfl) bR U);rw[lQ]at key;refine bc key ?_;refine Xf H0 ?_;refine ba (a71 ks U) ?_;have kd0:0<O nl:=f3;cases Su:zD ks with
 |true=>refine QZ ?_;exact .eE (by exact SH) (.mC .cP .cP) Z
 |false=>
 refine Xf H0 ?_;refine cI _ _ (λmm s Q E=>∃t v,t<=n/\mm=n-t/\X s 5= .ptr Y 0/\X s 8= .ptr (Y+1) 0/\X s 87=int n/\X s 88=int t/\(aG Y h Q/\N Q Y=J (.cells [int i,int n,strs nl,I0 ks] 48)/\N Q (Y+1)=J (.cells ((d.job ⟨i,n,nl,ks⟩).pre (.fp d.dir) v) 103)/\Own Ej 78 1 Q v ((d.xs.drop i).take t)/\(∀b,cu v=J b->Y+2<=b/\b<E))/\nq<=E) (n:=n) ?_ ?_;.refine QZ ?_;exact⟨0,_,aQ _,Z,Z,SH,H0,H1,.inl ⟨Z,Z⟩,λb D=>(by cases D)⟩
 rintro mm s Q E ⟨t,v,q1,rfl,s5,s8,s87,s88,⟨S,H0,H1,ow,mO⟩,l1⟩;have⟨u5,u6⟩:=ow.cells;by_cases ht:t<n
 .have xW:(t:Int)<(n:Int):=U;have w:t+1<9223372036854775808:=U;have L:i+t<O d.xs:=U;have px:=o.o.P.all _ (bO L);have xl:=px.xl;have gx:=(S _ xl).trans px.c
  refine asA T32.eq_1 s5 s8 s87 s88 ht H0 H1 (U:i+t<9223372036854775808) ?_;refine bc (a69 h0 U dl (i+t) U U) ?_;rw[o.o.at L];refine QZ ?_;refine bc (a33 _ gx) ?_;refine L6 s8 H1 @cL @cV ?_;generalize hq:E+Array.size _=nb;have SZ:E<=nb:=hq▸(ew _ _)
  refine lN (c:=Ej) (ow.aW λb e=>by rw[aj,ak (EB ((mO b e).2))]) (λ_=>rfl) (λ_=>rfl) (Es @ax) (d.xs[i+t]) ?_;rintro v' F dR l3 o2 in2 k2;have nw:∀b,b<Y+2->N F b=N Q b:=λb D=>by rw[k2 b U (λe=>by have:=(mO b e).1;omega),Xg]
  have G0:=(nw Y U).trans H0;have G1:=(nw (Y+1) U).trans H1;have⟨u7,u8⟩:=o2.cells;simp+decide-dsimp only[go_sem,s5,s8,s87,s88,G0,G1,u7,u8,w];have S2:aG Y h F:=λb D=>by rw[nw b U];exact S b D
  have el:(d.xs.drop i).take (t+1)=(d.xs.drop i).take t++[d.xs[i+t]]:=by rw[bj (Es @aC),NP]
  have in3:∀b,cu v'=J b->Y+2<=b/\b<dR:=λb D=>by
   obtain q|q:=in2 b D;.have:=mO b q;exact⟨this.1,U⟩
   .exact⟨U,q.2⟩
  exact⟨n-(t+1),U,t+1,v',ht,rfl,rfl,⟨S2.set (bG _),rfl,by rw[el];exact o2.aW λb D=>by rw[aj,ak (by have:=(in3 b D).1;omega)],in3⟩,U⟩
 .have xW:¬(t:Int)<(n:Int):=U;have htn:t=n:=U;subst htn;refine L6 s8 s87 s88 xW ?_;have fr:Fz Q Y v (Lk Ej ((d.xs.drop i).take t)):=ow.fzm (H:=E) (λb D=>⟨by have:=(mO b D).1;omega,(mO b D).2⟩) λx L y hy=>by rw[aV.1 hy];exact(o.o.P.all x (ju (fe L))).xl
  have lj:=o.o.ajz (J ⟨i,t,nl,ks⟩);obtain⟨j1,j2, -, -,j5,j6,j7, -⟩:=lj;have lo:jz Y [u.g (.slice none 0 0),.g (.slice none 0 0),cg [],bW false,i6 0,i6 0,i6 1,cg [],bW false,bW false,bW false,bW false]:=⟨trivial,trivial,trivial,trivial,trivial,trivial,trivial,trivial,trivial,trivial,trivial,trivial,trivial⟩;have F9:Cl Q Y ((d.job ⟨i,t,nl,ks⟩).pre (.fp d.dir) v) (d.job ⟨i,t,nl,ks⟩).cells:=
   .cons (.cw j1) (.cons (.cw j2) (.cons .cP (.cons .cP (.cons (.cw j5) (.cons (.cw j6) (.cons (.cw j7) (.cons .cP (.cons fr (Cl.cw lo)))))))))
  exact .eE (by exact S) (.mC (.ptr (bG _) H1 Z F9) .cP) Z
def GL(a b:aY):aY:=b.take (comm a b+1)
def Is{a b}(h:a<b):comm a b<O b:=by
 have K:=yX a b;obtain q|q:=bB (comm a b) (O b)
 .exact q
 .exfalso;have e:comm a b=O b:=U;have ht:=tV a b;rw[e,aH (l:=b) (an _)]at ht;have:=(Dq (k:=O b) (by rw[ht,aH (an _)]) (.inr Z)).1 h;omega
def age{a b}(h:a<b):a<GL a b:=by
 have W:=Is h;have K:=yX a b;have ht:a.take (comm a b)=(GL a b).take (comm a b):=by unfold GL;rw[bI,b9 U];exact tV a b
 have hbl:O (GL a b)=comm a b+1:=by unfold GL;rw[ax];omega
 obtain q|q:=bB (comm a b) (O a)
 .have hg:(GL a b).getD (comm a b) 0=b.getD (comm a b) 0:=by unfold GL;simp[aB]
  have cD:=CS a b q W;refine(V6 ht q U (hg▸cD)).2 ?_;rw[hg];exact(V6 (tV a b) q W cD).1 h
 .exact(Dq ht (.inl U)).2 U
def ahO{a b}(h:a<b):¬b<GL a b:=λq=>by have W:=Is h;have:=(Dq (a:=b) (b:=GL a b) (k:=comm a b+1) (by unfold GL;rw[bI,dZ]) (.inr (by unfold GL;rw[ax];omega))).1 q;unfold GL at this;rw[ax]at this;omega
def a35(a b:aY)(ha:O a<60000)(D:O b<60000)(h:a<b):bz 35 [cg a,cg b] (.dY [cg (GL a b),bW M]):=by refine bz.ac 2 T0 func35 λhh Y=>?_;have W:=aN h;have F:=Is h;have w:comm a b+1<9223372036854775808:=U;have sx:fW prog 9 (cg b) B (J (int (comm a b+1:Nat)))=J (cg (b.take (comm a b+1))):=Pz (i:=comm a b+1) F;refine Y8 f35.eq_1 W ?_;refine ba (a75 a b ha D) ?_;simp+decide-dsimp only[go_sem,w,sx];exact .eE .refl (.mC .cg .cP) Z
variable{hx:List Pr}{j:Nat}{los:List aY}{xs:List Pt}
structure Rp where
 lo:aY
 aJ:List aY
 kd:Nat
 deriving Inhabited
def Pt.all(x:Pt):List Pr:=x.T.all x.pk
def Pt.rp(x:Pt):Rp:=⟨x.lo,x.all.map Prod.fst,x.kd⟩
def Wd.uZ(d:Wd):List Rp:=d.xs.map Pt.rp
def oW(l:List Rp)(kd:Nat)(a b:Int):Option I9×Int:=
 let x:=l.getD a.toNat default
 let n:=O x.aJ / 2
 if kd=3 then
  if a<0\/(O l:Int)<=a then(B,21)
  else if b<1\/3<b then(B,20)
  else(J ⟨a,1,[x.lo],[UInt8.ofNat b.toNat]⟩,0)
 else if kd=4 then
  if a<0\/(O l:Int)<=a then(B,21)
  else if O x.aJ<2 then(B,4)
  else(J ⟨a,1,[x.lo,GL (x.aJ.getD (n-1) []) (x.aJ.getD n [])],[UInt8.ofNat x.kd,UInt8.ofNat x.kd]⟩,0)
 else if kd=5 then
  if a<0\/(O l:Int)-1<=a then(B,21)
  else(J ⟨a,2,[x.lo],[UInt8.ofNat x.kd]⟩,0)
 else(B,1)
def oW.zxQ{l kd a b p}(h:(oW l kd a b).1=J p):p.zxQ:=by
 unfold oW at h;dsimp only at h;by_cases h3:kd=3
 .rw[au h3]at h;split at h;.cases h
  .split at h;.cases h
   .cases h;exact⟨Z,by show 1<60000;decide⟩
 rw[ak h3]at h;by_cases h4:kd=4
 .rw[au h4]at h;split at h;.cases h
  .split at h;.cases h
   .cases h;exact⟨Z,by show 2<60000;decide⟩
 rw[ak h4]at h;by_cases h5:kd=5
 .rw[au h5]at h;split at h;.cases h
  .cases h;exact⟨Z,by show 1<60000;decide⟩
 rw[ak h5]at h;cases h
section
variable{d:Wd}{k:Nat}{h:aE}{Y:Nat}
def Wd.ok.afY(o:d.ok k h Y):O d.uZ=O d.los:=by unfold Wd.uZ;rw[bh,o.bn.len]
def Wd.ok.rp(o:d.ok k h Y){i}(H:i<O d.xs):d.uZ.getD i default=(d.xs[i]).rp:=by unfold Wd.uZ;rw[aB,gY,aF H];rfl
def Wd.ok.rlo(o:d.ok k h Y)(H:i<O d.xs):(d.uZ.getD i default).lo=d.los.getD i []:=(o.rp H)▸(o.bn.lo i H)
def Wd.ok.Bg(o:d.ok k h Y){x}(L:x∈d.xs):MT x.pk [] x.all/\O x.all<=30000:=Tr.Bg (o.P.all x L).w (o.P.all x L).ok
def Bnd.lt(o:Bnd los xs)(EN:i<j)(hj:j<O los):los.getD i []<los.getD j []:=by
 obtain⟨t,rfl⟩:∃t,j=i+1+t:=⟨j-i-1,U⟩;clear EN
 induction t with
 |zero=>exact o.up i hj
 |succ t ih=>exact dT (ih U) (o.up (i+1+t) U)
def Wd.ok.amO(o:d.ok k h Y)(W:1<=n)(H:i+n<=O d.los):Fit d.los i n [d.los.getD i []]:=
 ⟨W,H,Nat.one_pos,Z,λk hk=>absurd hk (by show¬(k+1<1);omega),λq=>by exact o.bn.lt U q,by show 1<60000;decide⟩
end
def ajj{P:aY->Prop}(r:MT P [] hx)(F:¬O (hx.map Prod.fst)<2):(hx.map Prod.fst).getD (O (hx.map Prod.fst) / 2-1) []<(hx.map Prod.fst).getD (O (hx.map Prod.fst) / 2) []:=by have:=iN.1 r.kj (O (hx.map Prod.fst) / 2-1) (O (hx.map Prod.fst) / 2) U U U;rw[aB,aF U,aB,aF U];exact this
def ago{x:Pt}{y}(h:x.has y=M):¬y<x.lo:=by unfold Pt.has at h;simp only[aS,jF,decide_eq_false_iff_not]at h;exact h.1
def afo{x:Pt}{y}(h:x.has y=M)(K:x.last=R):y<x.H:=by unfold Pt.has at h;simp only[aS,K,qP,fK]at h;exact h.2
def Wd.ok.anG{d:Wd}{k h Y}(o:d.ok k h Y)(H:i<O d.xs)(F:¬O (d.xs[i].all.map Prod.fst)<2):
 Fit d.los i 1 [d.los.getD i [],GL ((d.xs[i].all.map Prod.fst).getD (O (d.xs[i].all.map Prod.fst) / 2-1) []) ((d.xs[i].all.map Prod.fst).getD (O (d.xs[i].all.map Prod.fst) / 2) [])]:=by
 have L:=bO H;have r:=(o.Bg L).1;have m:=ajj r F;have bn:=o.bn;have K:=bn.len;have k1:(d.xs[i]).has ((d.xs[i].all.map Prod.fst).getD (O (d.xs[i].all.map Prod.fst) / 2-1) [])=M:=(r.pk _ (jY U)).1;have k2:(d.xs[i]).has ((d.xs[i].all.map Prod.fst).getD (O (d.xs[i].all.map Prod.fst) / 2) [])=M:=(r.pk _ (jY U)).1;have lo1:=ago k1;rw[bn.lo i H]at lo1;generalize(d.xs[i].all.map Prod.fst).getD (O (d.xs[i].all.map Prod.fst) / 2-1) []=a at*;generalize(d.xs[i].all.map Prod.fst).getD (O (d.xs[i].all.map Prod.fst) / 2) []=b at*;have b1:=age m;have b2:=ahO m;refine⟨an _,U,by show 0<2;decide,Z,λk hk=>?_,λq=>?_,by show 2<60000;decide⟩
 .have hk:k+1<2:=hk;have:k=0:=U;subst this;show d.los.getD i []<GL a b;obtain q|q|q:=kC (d.los.getD i []) a
  .exact dT q b1
  .rw[q];exact b1
  .exact absurd q lo1
 .have hh:=bn.H i H;have D:=afo k2 (by rw[hh.1,aU];omega);rw[hh.2 U]at D;obtain q|q|q:=kC (GL a b) b
  .exact dT q D
  .rw[q];exact D
  .exact absurd q b2
section
variable{d:Wd}{k:Nat}{h:aE}{Y:Nat}
def apT(b):zD [b]=decide (b.toNat<1\/3<b.toNat):=by simp[zD]
abbrev Wd.IU(d:Wd)(r:Option I9×Int):u:= .dY [d.Rj r.1,i6 r.2]
def Wd.ok.ret(o:d.ok k h Y){r r':Option I9×Int}(S:aG Y h Q)(e:r=r'):Pure h Y (λw=>w=d.IU r') (d.IU r) Q E:=by subst e;exact .eE S (.mC (.cw (o.ajz _)) .cP) Z
def a7(o:d.JW k h Y)(a:Int)(b:UInt8):UP 7 [.ptr d.eb 0,.ptr d.p.pb 0,i6 a,u8 (b.toNat:Nat)] h Y (dG (d.IU (oW d.uZ 3 a b.toNat)) h Y):=by
 refine az.pc 4 T0 func7 ?_;have rl:=o.o.afY;have bl:=o.o.bn.len;refine Xf f7.eq_1 ?_;refine bc (a30 o.o.e) ?_;by_cases ha:a<0\/(O d.los:Int)<=a
 .have er:oW d.uZ 3 a b.toNat=(B,21):=by unfold oW;dsimp only;rw[au Z,au (rl▸ha)]
  rw[er];refine QZ ?_;refine Av (aeK o ha) ?_;exact o.o.ret (r:=(B,21)) .refl Z
 .obtain⟨i,rfl⟩:∃i:Nat,a=i:=⟨a.toNat,U⟩;have H:i<O d.xs:=U;have er:oW d.uZ 3 i b.toNat=(if zD [b]=M then B else J ⟨i,1,[d.los.getD i []],[b]⟩,if zD [b]=M then 20 else 0):=by
   unfold oW;dsimp only;rw[au Z,ak (rl▸ha),apT,show(i:Int).toNat=i from Z,o.o.rlo H,show((b.toNat:Nat):Int).toNat=b.toNat from Z,Oe];by_cases D:b.toNat<1\/3<b.toNat;.rw[au U,au (aN D),au (aN D)]
   .rw[ak U,ak (by rw[aU D];decide),ak (by rw[aU D];decide)]
  refine QZ ?_;refine Av (a31 o H) ?_;have S:aG Y h (aI (aI h Y (.cells [cg (d.los.getD i [])] 9)) (Y+1) (.cells [u8 (b.toNat:Nat)] 5)):=gU;refine bc (a32 (o.same S U) (o.o.amO (n:=1) (an _) U) (ks:=[b]) Z (by show 1<=2;decide) (v1:= .sl Y 0 1 1) (v2:= .sl (Y+1) 0 1 1) (.inr ⟨_,1,_,Z,by rw[Xg,Sr],an _,Z,Z⟩) (.inr ⟨_,1,_,Z,iA,an _,Z,Z⟩) (λb D=>by cases D;omega) (λb D=>by cases D;omega)) ?_;refine QZ ?_;rw[er];exact o.o.ret S Z
def a9(o:d.JW k h Y)(a b:Int):UP 9 [.ptr d.eb 0,.ptr d.p.pb 0,i6 a] h Y (dG (d.IU (oW d.uZ 5 a b)) h Y):=by
 refine az.pc 3 T0 func9 ?_;have rl:=o.o.afY;have bl:=o.o.bn.len;have DV:=o.o.bn.yG;have e5:oW d.uZ 5 a b=if a<0\/(O d.uZ:Int)-1<=a then(B,21)else(J ⟨a,2,[(d.uZ.getD a.toNat default).lo],[UInt8.ofNat (d.uZ.getD a.toNat default).kd]⟩,0):=rfl
 rw[rl]at e5;refine Xf f9.eq_1 ?_;refine bc (a30 o.o.e) ?_;by_cases ha:a<0\/(O d.los:Int)<=a;.rw[au U]at e5;refine QZ ?_;refine Av (aeK o ha) ?_;exact o.o.ret (r:=(B,21)) .refl e5.symm
 .obtain⟨i,rfl⟩:∃i:Nat,a=i:=⟨a.toNat,U⟩;have H:i<O d.xs:=U;have w:i+1<9223372036854775808:=U;refine QZ ?_;refine bc (a31 o H) ?_;by_cases W:i+1<O d.los
  .have ki:¬((O d.los:Nat):Int)<=((i+1:Nat):Int):=U;have px:=o.o.P.all _ (bO H);have sD:(UInt8.ofNat (d.xs[i]).kd).toNat=(d.xs[i]).kd:=by rcases px.kd with e|e|e<;>rw[e]<;>rfl
   have Su:zD [UInt8.ofNat (d.xs[i]).kd]=R:=by rcases px.kd with e|e|e<;>rw[e]<;>rfl
   rw[ak U,show(i:Int).toNat=i from Z,o.o.rlo H,o.o.rp H]at e5;refine Y8 w ki ?_;refine bc (a33 _ ((aj _ _ _ _).trans ((ak (EB px.xl)).trans px.c))) ?_;refine QZ ?_;refine bc (a36 _ _ ((aj _ _ _ _).trans ((ak (EB px.il)).trans px.i))) ?_;refine QZ ?_;have S:aG Y h (aI (aI h Y (.cells [cg (d.los.getD i [])] 9)) (Y+1) (.cells [u8 ((d.xs[i]).kd:Nat)] 5)):=gU;refine bc (a32 (o.same S U) (o.o.amO (n:=2) bS U) (ks:=[UInt8.ofNat (d.xs[i]).kd]) Z (by show 1<=2;decide) (v1:= .sl Y 0 1 1) (v2:= .sl (Y+1) 0 1 1) (.inr ⟨_,1,_,Z,by rw[Xg,aj,au Z],an _,Z,Z⟩) (.inr ⟨_,1,_,Z,iA,an _,Z,by show _=[u8 _];rw[sD];rfl⟩) (λb D=>by cases D;omega) (λb D=>by cases D;omega)) ?_;rw[Su];refine QZ ?_;exact o.o.ret (r:=(J ⟨i,2,[d.los.getD i []],[UInt8.ofNat (d.xs[i]).kd]⟩,0)) S e5.symm
  .rw[au U]at e5;refine Y8 w (U:((O d.los:Nat):Int)<=((i+1:Nat):Int)) ?_;exact o.o.ret (r:=(B,21)) .refl e5.symm
end
def T8:=RB [(11,[MO z14 15,MO [16,17,18] 19,MO [] 20,RX])]
def UF{e}{sz:TypeId->Option Nat}{k:Nat}{l:List Pr}(hk:k<O l):qa (J (.slice e)) sz (yP l) (int k)=(sz e).bind λsize=>(dV (k*size) (l.flatMap Pr.cells)).map λl=> .val (.fp l):=sT hk
def VE{k:Nat}{l:List Pr}(hk:k<O l):dV (k*2) (l.flatMap Pr.cells)=J ([cg (l.getD k default).1,cg (l.getD k default).2]++(l.drop (k+1)).flatMap Pr.cells):=by rw[nQ vK (eC hk),Ki hk]
attribute[go_sem] UF VE
section
variable{d:Wd}{k:Nat}{h:aE}{Y:Nat}
def a8(o:d.JW k h Y)(a b:Int):UP 8 [.ptr d.eb 0,.ptr d.p.pb 0,i6 a] h Y (dG (d.IU (oW d.uZ 4 a b)) h Y):=by
 refine az.pc 3 T8 func8 ?_;have rl:=o.o.afY;have bl:=o.o.bn.len;have DV:=o.o.bn.yG;have e4:oW d.uZ 4 a b=if a<0\/(O d.uZ:Int)<=a then(B,21)else if O (d.uZ.getD a.toNat default).aJ<2 then(B,4)else(J ⟨a,1,[(d.uZ.getD a.toNat default).lo,GL ((d.uZ.getD a.toNat default).aJ.getD (O (d.uZ.getD a.toNat default).aJ / 2-1) []) ((d.uZ.getD a.toNat default).aJ.getD (O (d.uZ.getD a.toNat default).aJ / 2) [])],[UInt8.ofNat (d.uZ.getD a.toNat default).kd,UInt8.ofNat (d.uZ.getD a.toNat default).kd]⟩,0):=rfl
 rw[rl]at e4;refine Xf f8.eq_1 ?_;refine bc (a30 o.o.e) ?_;by_cases ha:a<0\/(O d.los:Int)<=a;.rw[au ha]at e4;refine QZ ?_;refine Av (aeK o ha) ?_;exact o.o.ret (r:=(B,21)) .refl e4.symm
 obtain⟨i,rfl⟩:∃i:Nat,a=i:=⟨a.toNat,U⟩;have H:i<O d.xs:=U;have px:=o.o.P.all _ (bO H);have⟨rs,rn⟩:=o.o.Bg (bO H);rw[ak ha,show(i:Int).toNat=i from Z,o.o.rlo H,o.o.rp H]at e4;refine QZ ?_;refine Av (a31 o H) ?_;refine Av (a33 _ px.c) ?_;refine bc (a34 _ _ px.i px.w px.ok) ?_;have eal:(d.xs[i]).T.all (d.xs[i]).pk=(d.xs[i]).all:=rfl;rw[eal];have kl:O ((d.xs[i]).rp).aJ=O (d.xs[i]).all:=bh _;by_cases F:O (d.xs[i]).all<2;.have qK:(O (d.xs[i]).all:Int)<2:=U;rw[au (kl▸F)]at e4;refine Xf qK ?_;exact o.o.ret (r:=(none,4)) .refl e4.symm
 have qK:¬((d.xs[i]).all.length:Int)<2:=U;have h16:¬(16:Int)<=((d.los.length:Nat):Int):=U;rw[ak (by rw[kl];exact F)]at e4;have h2:=o.o.anG H (by rw[bh];exact F);have md:=ajj rs (by rw[bh];exact F);have sm:∀y∈(d.xs[i]).all.map Prod.fst,y.length<60000:=λy hy=>rm (rs.pk y hy).2 bS;have kk:((d.xs[i]).rp).aJ=(d.xs[i]).all.map Prod.fst:=rfl;rw[kk]at e4;have ll:O ((d.xs[i]).all.map Prod.fst)=O (d.xs[i]).all:=bh _;have q1:O (d.xs[i]).all / 2<O (d.xs[i]).all:=U;have q2:1<=O (d.xs[i]).all / 2:=U;have q3:O (d.xs[i]).all / 2-1<O (d.xs[i]).all:=U;have q4:O (d.xs[i]).all<65536:=U;have q5:O (d.xs[i]).all / 2<9223372036854775808:=U;have w1:cO .i64 ((O (d.xs[i]).all / 2:Nat)-1:Int)=((d.xs[i].all.length / 2-1:Nat):Int):=qI;have g1:∀j,j<O (d.xs[i]).all->((d.xs[i]).all.getD j default).1=((d.xs[i]).all.map Prod.fst).getD j []:=λj hj=>by rw[aB,aB,gY,aF hj];rfl
 have G1:=g1 _ q1;have G2:=g1 _ q3;simp+decide-dsimp only[go_sem,T8,qK,h16,q1,q3,w1,adQ q4,G1,G2];have md:((d.xs[i]).all.map Prod.fst).getD (O (d.xs[i]).all / 2-1) []<((d.xs[i]).all.map Prod.fst).getD (O (d.xs[i]).all / 2) []:=ll▸md
 refine AJ (a35 _ _ (sm _ (jY U)) (sm _ (jY U)) md) ?_;generalize hq:Y+Array.size _=nb;have SZ:Y<=nb:=hq▸(ew _ _)
 have sD:(UInt8.ofNat (d.xs[i]).kd).toNat=(d.xs[i]).kd:=by rcases px.kd with e|e|e<;>rw[e]<;>rfl
 have Su:zD [UInt8.ofNat (d.xs[i]).kd,UInt8.ofNat (d.xs[i]).kd]=R:=by rcases px.kd with e|e|e<;>rw[e]<;>rfl
 refine Av (a33 _ px.c) ?_;refine Av (a36 _ _ px.i) ?_;rw[ll]at h2 e4;have ek:((d.xs[i]).rp).kd=(d.xs[i]).kd:=rfl;rw[ek]at e4;generalize GL _ _=at_ at h2 e4⊢;have S:aG Y h (aI (aI h nb (.cells [cg (d.los.getD i []),cg at_] 9)) (nb+1) (.cells [u8 ((d.xs[i]).kd:Nat),u8 ((d.xs[i]).kd:Nat)] 5)):=gU;refine bc (a32 (o.same S U) h2 (ks:=[UInt8.ofNat (d.xs[i]).kd,UInt8.ofNat (d.xs[i]).kd]) Z (by show 2<=2;decide) (v1:= .sl nb 0 2 2) (v2:= .sl (nb+1) 0 2 2) (.inr ⟨_,2,_,Z,by rw[Xg,aj,au Z],an _,Z,Z⟩) (.inr ⟨_,2,_,Z,iA,an _,Z,by show _=[u8 _,u8 _];rw[sD];rfl⟩) (λb D=>by cases D;omega) (λb D=>by cases D;omega)) ?_;rw[Su];refine QZ ?_;exact o.o.ret (r:=(J ⟨i,1,[d.los.getD i [],at_],[UInt8.ofNat (d.xs[i]).kd,UInt8.ofNat (d.xs[i]).kd]⟩,0)) S e4.symm
end
variable{b1 b2 b3:Nat}
structure En where
 kd:Nat
 a:Int
 b:Int
 op:List u
 len:O op=7
 cel:op.all u.dh=M
abbrev En.cells(x:En):List u:=u8 (x.kd:Nat)::i6 x.a::i6 x.b::x.op
def T77:=RB [(1,[MO z5 6,([],[0,1,3],J 7),MO [8,9] 10,MO [] 11,RX])]
section
variable{d:Wd}{k:Nat}{h:aE}{Y:Nat}
def a77(o:d.JW k h Y)(x:En)(W:N h b1=J (.cells [.ptr d.eb 0] 29))(F:N h b2=J (.cells [.ptr d.p.pb 0] 31))(h3:N h b3=J (.cells x.cells 42)):
 UP 77 [.ptr b1 0,.ptr b2 0,.ptr b3 0] h Y (dG (d.IU (oW d.uZ 3 x.a x.b)) h Y):=by
 refine az.pc 3 T77 func77 ?_;refine PV f77.eq_1 T77.eq_1 W F h3 ?_;refine ba (a78 x.b) ?_;refine J7 W F h3 ?_;obtain⟨AV,hu,D⟩:∃AV:UInt8,((AV.toNat:Nat):Int)=(if x.b<1\/3<x.b then 0 else x.b)/\oW d.uZ 3 x.a AV.toNat=oW d.uZ 3 x.a x.b:=by
  by_cases D:x.b<1\/3<x.b
  .refine⟨0,by rw[au D];rfl,?_⟩;unfold oW;dsimp only;rw[au Z,au Z];split;.rfl
   .rfl
  .have e:((UInt8.ofNat x.b.toNat).toNat:Int)=x.b:=by rw[j9 (by show x.b.toNat<256;omega)];omega
   refine⟨UInt8.ofNat x.b.toNat,?_,?_⟩;.rw[ak D,e]
   .rw[e]
 rw[<-hu];refine bc (a7 (o.same .refl U) x.a AV) ?_;rw[D];refine QZ ?_;exact o.o.ret .refl Z
def a79(o:d.JW k h Y)(x:En)(W:N h b1=J (.cells [.ptr d.eb 0] 29))(F:N h b2=J (.cells [.ptr d.p.pb 0] 31))(h3:N h b3=J (.cells x.cells 42)):
 UP 79 [.ptr b1 0,.ptr b2 0,.ptr b3 0] h Y (dG (d.IU (oW d.uZ 4 x.a x.b)) h Y):=by
 refine az.pc 3 T0 func79 ?_;refine L6 f79.eq_1 W F h3 ?_;refine Av (a8 o x.a x.b) ?_;exact o.o.ret .refl Z
def a80(o:d.JW k h Y)(x:En)(W:N h b1=J (.cells [.ptr d.eb 0] 29))(F:N h b2=J (.cells [.ptr d.p.pb 0] 31))(h3:N h b3=J (.cells x.cells 42)):
 UP 80 [.ptr b1 0,.ptr b2 0,.ptr b3 0] h Y (dG (d.IU (oW d.uZ 5 x.a x.b)) h Y):=by
 refine az.pc 3 T0 func80 ?_;refine L6 f80.eq_1 W F h3 ?_;refine Av (a9 o x.a x.b) ?_;exact o.o.ret .refl Z
end
def agr(h:aE)(b:Nat)(o:Option AO)(k v:u):Option aE:=match o with
 |some (.map es clock)=>yZ h b es clock k v (jB (.int .u8) k es 0)
 |_=>B
def Qj{h b es c k v}:agr h b (J (.map es c)) k v=yZ h b es c k v (jB (.int .u8) k es 0):=bQ Z
def amC{h b k v}:sv prog h 92 (.mp b) k v=agr h b (N h b) k v:=by
 unfold sv agr;simp only[ahf,Yj,pE,cA];exact avo
def alz(k s:Int):za (.int .u8) (u8 k) (u8 s)=J (decide (k=s)):=by
 show Instr.sameNow (.int .u8) (.int .u8 k) (.int .u8 s)=_;simp only[Instr.sameNow,cA]
 congr 1
def af3{kd k i}:jB kd k [] i=J B:=bQ Z
def TT{k:Int}{v es i}:jB (.int .u8) (u8 k) ((u8 k,v,n)::es) i=J (J (i,v)):=by rw[jB,alz,aN Z]
def OZ{k s:Int}{v es i}(hn:¬k=s):jB (.int .u8) (u8 k) ((u8 s,v,n)::es) i=jB (.int .u8) (u8 k) es (i+1):=by rw[jB,alz,aU hn]
def TV{h b es c k v}:yZ h b es c k v (J B)=J (aI h b (.map (es++[(k,v,c)]) (c+1))):=bQ Z
def HI{h b k}:nS prog h 92 (.mp b) k M=match acp (N h b)with|some es=>found .nilFunc M (jB (.int .u8) k es 0)|none=>B:=by unfold nS;simp only[ahf,Yj,aia,pE,cA,Ju];cases acp (N h b)<;>rfl
abbrev alq(b1 b2 b3:Nat):List (u×u×Nat):=[(u8 3,.fn 77 [.ptr b1 0,.ptr b2 0,.ptr b3 0],0),(u8 4,.fn 79 [.ptr b1 0,.ptr b2 0,.ptr b3 0],1),(u8 5,.fn 80 [.ptr b1 0,.ptr b2 0,.ptr b3 0],2)]
def a37(c1:v1.cells=J [v1])(c2:v2.cells=J [v2])(d1:v1.dh=M)(d2:v2.dh=M)(x:En)(h)(Y:Nat):
 UP 37 [v1,v2,.agg x.cells] h Y λw Q E=>w= .mp (Y+3)/\Y+4<=E/\aG Y h Q/\N Q Y=J (.cells [v1] 29)/\N Q (Y+1)=J (.cells [v2] 31)/\N Q (Y+2)=J (.cells x.cells 42)/\N Q (Y+3)=J (.map (alq Y (Y+1) (Y+2)) 3):=by
 refine az.ac 3 T0 func37 ?_;have e1:∀o1 o2 o3 o4,N (aI (aI (aI (aI h Y o1) (Y+1) o2) (Y+2) o3) (Y+3) o4) (Y+3)=J o4:=λ_ _ _ _=>iA;have xl:=x.len;have xc:=x.cel;simp+decide-dsimp only[f37,go_sem,c1,c2,amC,Qj,af3,OZ,TV,cz,lC,reduceAdd];exact gU
variable{mb:Nat}
def T10:=RB [(3,[MO [0,1,2,4,5] 3,([6,7,8,9],[5],J 10),MO [] 11,RX])]
def En.tk(x:En):dC 7 x.op=J x.op:=by rw[bZ _ _ (by rw[x.len];decide),aH (by rw[x.len];decide)]
def aoc(kd:Nat):jB (.int .u8) (u8 (kd:Nat)) (alq b1 b2 b3) 0=if kd=3 then J (J (0,.fn 77 [.ptr b1 0,.ptr b2 0,.ptr b3 0]))else if kd=4 then J (J (1,.fn 79 [.ptr b1 0,.ptr b2 0,.ptr b3 0]))else if kd=5 then J (J (2,.fn 80 [.ptr b1 0,.ptr b2 0,.ptr b3 0]))else J B:=by
 by_cases h3:kd=3;.rw[au h3,h3];exact TT
 rw[ak h3,OZ U];by_cases h4:kd=4;.rw[au h4,h4];exact TT
 rw[ak h4,OZ U];by_cases h5:kd=5;.rw[au h5,h5];exact TT
 rw[ak h5,OZ U];rfl
def HQ{hd v}:found hd M (J (J (i,v)))=J (.dY [v,.g (.bool M)]):=bQ Z
def YR{hd}:found hd M (J B)=J (.dY [.g hd,.g (.bool R)]):=bQ Z
section
variable{d:Wd}{k:Nat}{h:aE}{Y:Nat}
def a10(o:d.JW k h Y)(x:En):UP 10 [.ptr d.eb 0,.ptr d.p.pb 0,.agg x.cells] h Y (dG (d.IU (oW d.uZ x.kd x.a x.b)) h Y):=by
 have xl:=x.len;have xc:=x.cel;have el:=o.o.lt _ (.inr (.inl Z));refine az.pc 3 T10 func10 ?_;have xt:=x.tk;refine Xf f10.eq_1 ?_;refine bc (a30 ((aj _ _ _ _).trans ((ak U).trans o.o.e))) ?_;simp+decide-dsimp only[go_sem,T10,xt];generalize hq:Y+1+Array.size _=nb;have SZ:Y+1<=nb:=hq▸(ew _ _)
 refine cm (a37 (v1:= .ptr d.eb 0) (v2:= .ptr d.p.pb 0) Z Z Z Z x _ _) ?_;rintro _ Q E hle ⟨rfl,hn,S,g1,g2,g3,g4⟩;have g0:N Q Y=J (.cells x.cells 42):=by rw[S _ U,Sr]
 have S2:aG Y h Q:=λb D=>by rw[S _ U,Xg]
 have am:=aoc (b1:=nb) (b2:=nb+1) (b3:=nb+2) x.kd;by_cases k3:x.kd=3
 .rw[au k3]at am;have SO:oW d.uZ 3 x.a x.b=oW d.uZ x.kd x.a x.b:=by rw[k3]
  refine RC g0 g4 am @HI @tW @HQ ?_;refine bc (a77 (o.same S2 U) x g1 g2 g3) ?_;rw[SO];refine QZ ?_;exact o.o.ret S2 Z
 rw[ak k3]at am;by_cases k4:x.kd=4
 .rw[au k4]at am;have k4':oW d.uZ 4 x.a x.b=oW d.uZ x.kd x.a x.b:=by rw[k4]
  refine RC g0 g4 am @HI @tW @HQ ?_;refine bc (a79 (o.same S2 U) x g1 g2 g3) ?_;rw[k4'];refine QZ ?_;exact o.o.ret S2 Z
 rw[ak k4]at am;by_cases k5:x.kd=5
 .rw[au k5]at am;have k5':oW d.uZ 5 x.a x.b=oW d.uZ x.kd x.a x.b:=by rw[k5]
  refine RC g0 g4 am @HI @tW @HQ ?_;refine bc (a80 (o.same S2 U) x g1 g2 g3) ?_;rw[k5'];refine QZ ?_;exact o.o.ret S2 Z
 rw[ak k5]at am;have e0:(B,1)=oW d.uZ x.kd x.a x.b:=by unfold oW;dsimp only;rw[ak k3,ak k4,ak k5]
 refine RC g0 g4 am @HI @tW @YR ?_;exact o.o.ret (r:=(B,1)) S2 e0
end
def a11{h Y}(hm:N h mb=J (.cells [FB,i6 0,i6 0,bW R,bW R] 96)):UP 11 [.ptr mb 0] h Y λ_ _ _=>True:=by
 refine az.ac 1 T0 func11 ?_;refine Y8 f11.eq_1 hm ?_;refine cI _ _ (λm s Q E=>m=0/\X s 24=int 0/\X s 25=int 0) (n:=0) ?_ ?_;.refine QZ ?_;rfl
 rintro m s Q E ⟨rfl,s24,G4⟩;exact Uq s24 G4
def a27(j:Jb):bz 27 [j.av] (int 0):=by refine bz.ac 1 T0 func27 λh Y=>?_;refine Xf f27.eq_1 ?_;refine AJ (a38 j) ?_;exact .eE .refl .cP Z
theorem UN(d:Nat)(t:TypeId)(a:ByteArray)(h:P.underlying t=some .string):bM P (Op.equalIn (d+1) t (.string a) (.string a))=some true:=by
 have e:(a==a)=true:=by rw[beq_toListBytes];exact beq_self_eq_true _
 simp[Op.equalIn,cr,iI h,cW,e]
def adn(a b:ByteArray)(q:Nat):bM prog (Op.equalIn (q+2) 88 (.agg #[.string a,.string b]) (.agg #[.string a,.string b]))=J M:=by
 rw[Af (q+1) 88 _ _ aK aK];rw[uc,show((prog.fieldsOf 88).toList.map λf=>(f.type,f.offset,decide (f.name= "_")))=[(9,0,R),(9,1,R)]from aK,
  tX aK aK (UN q 9 a PY),tX aK aK (UN q 9 b PY)]
 rfl
def Xy{a b}:dE prog h .neq 88 x y (.agg [cg a,cg b]) (.agg [cg a,cg b])=J (bW R):=(yM (AV:=[_,_]) (v:=[_,_]) Z Z aK (adn _ _ 9998)).2
attribute[go_sem] Xy
def T28:=RB [(6,[(z8,[],B)])]
def a28(o1:Own Pr.cells 88 2 h v1 hx)(o2:Own Pr.cells 88 2 h v2 hx)(K:O hx<65536):UP 28 [v1,v2] h Y (dG (bW M) h Y):=by
 refine az.pc 2 T28 func28 ?_;simp+decide-dsimp only[f28,go_sem,o1.len,o2.len];refine cI _ _ (λm s Q E=>∃k,k<=hx.length/\m=hx.length-k/\X s 0=v1/\X s 1=v2/\X s 5=int k/\Q=h/\Y<=E) (n:=hx.length) ?_ ?_;.simp+decide-dsimp only[go_sem];exact⟨0,aQ _,rfl,rfl⟩
 rintro m s Q E ⟨k,q1,rfl,s0,s1,s5,rfl,l1⟩;by_cases W:k<O hx;.have ki:(k:Int)<(O hx:Int):=U;have w:k+1<9223372036854775808:=U;have⟨b1,A1,x1,x2,x3,x4⟩:=o1.idx vK TC W;have⟨b2,A2,y1,y2,y3,y4⟩:=o2.idx vK TC W;simp+decide-dsimp only[go_sem,T28,s0,s1,s5,ki,o1.len,x2,x3,x4,y2,y3,y4,w];exact⟨hx.length-(k+1),U,k+1,W,rfl,rfl,U⟩
 .have ki:¬(k:Int)<(hx.length:Int):=U;simp+decide-dsimp only[go_sem,s0,s5,ki,o1.len];exact .eE .refl .cP rfl
def Tr.JE{T:Tr}{p}(o:T.h1 p h Y)(hk:T.ok Pk k):O (T.all Pk)<=6*T.len+4:=by
 cases T with
 |b t=>have⟨d,_,hT,_⟩:=hk;have⟨_,_,_,_,_,_,_,_,_,_,_,W,F⟩:=Bl.Wz hT;show O (t.all Pk)<=6*O t.a.es+4;omega
 |a t=>have⟨_,_,I⟩:=(show Ta Pk t from hk.1);have F:=I.Bg.2;show t.all.length<=6*t.a.es.length+4;omega
 |m t=>have o:MW t p h Y:=o;have⟨_,_,_,_,_,I⟩:=(show MOk Pk t from hk.1);have F:=(MI.Bg o.tk.ok.ng I).2.2.1;show t.all.length<=6*t.a.es.length+4;omega
def N':∀(l:List Pt),(∀x∈l,O x.all<=6*x.T.len+4)->O (l.flatMap Pt.all)<=6*lens l+4*O l
 |[],_=>aQ _
 |x::l,h=>by have W:=h x bR;have F:=N' l λy hy=>h y (by simp[hy]);rw[bE,aq,xB,bD];omega
def Wd.Co(d:Wd):List Pr:=d.xs.flatMap Pt.all
def EY.lens{xs p k h Y}(o:EY xs p k h Y):br.lens xs<=4096:=by have:=o.cnt;have:=o.pk.small;omega
def Wd.ok.prl{d:Wd}(o:d.ok k h Y):O d.Co<65536:=by have W:=N' d.xs λx L=>Tr.JE (o.P.all x L).w (o.P.all x L).ok;have F:=o.P.lens;have h3:=o.bn.yG;have h4:=o.bn.len;unfold Wd.Co;omega
def Mr{l}:eD h 2 (yP l)=J (O l,l.flatMap Pr.cells):=GV (cj vK l)
attribute[go_sem] Mr
def a24{d:Wd}(o:d.ok k h Y):
 UP 24 [.ptr d.wb 0] h Y λw Q E=>∃d':Wd,(∃x',d'={d with rx:=x'})/\d'.JW k Q E/\(∀b,d'.all b->d.all b\/Y<=b)/\(∀b,b<Y->b≠d.rb->N Q b=N h b)/\Own Pr.cells 88 2 Q w d.Co/\(∀b,cu w=J b->Y<=b/\b<E/\¬d'.all b):=by
 refine az.ac 1 T0 func24 ?_;refine Xf f24.eq_1 ?_;refine cm (a57 o) ?_;rintro _ W cC l1 ⟨d1,⟨x',e1⟩,o1,ab1,S1,W1,ow1,in1⟩;have xs1:d1.xs=d.xs:=by rw[e1]
 have ep1:d1.Co=d.Co:=by rw[e1];rfl
 have Iy:=o1.prl;have bn:=o1.bn;have cf:=bn.len;have DV:=bn.yG;have Rh:0<O d1.xs:=EB bn.one
 obtain⟨pb,pcap,pA,rfl,gp,c1,c2,c3⟩:=ow1.sl Rh;have aoj:=in1 pb Z;have c3':pA.take (O d1.xs)=d1.xs.flatMap Ej:=by rw[<-c3,df]
 refine QZ ?_;refine cI _ _ (λmm s Q E=>∃i w,i<=O d1.xs/\mm=O d1.xs-i/\X s 4= .sl pb 0 (O d1.xs) pcap/\X s 5=int i/\X s 3=w/\(Own Pr.cells 88 2 Q w ((d1.xs.take i).flatMap Pt.all)/\(∀b,cu w=J b->cC<=b/\b<E)/\aG cC W Q)/\cC<=E) (n:=O d1.xs) ?_ ?_;.refine QZ ?_;exact⟨0,_,aQ _,Z,Z,Z,.inl ⟨Z,Z⟩,λb D=>(by cases D),.refl⟩
 rintro mm s Q E ⟨i,w,q1,rfl,s4,s5,s3,⟨ow,iw,S2⟩,l2⟩;have gp':=(S2 _ aoj.2.1).trans gp
 have o2:d1.ok k Q E:=o1.to S2 l2 (an _);by_cases H:i<O d1.xs
 .have oM:(i:Int)<(O d1.xs:Int):=U;have p2:=o2.P.all _ (bO H);have nt:=CD c3' H (d1.xs[i]);have eg:d1.xs.getD i d1.xs[i]=d1.xs[i]:=by rw[aB,aF H];rfl
  rw[eg]at nt;have ta:(d1.xs.take (i+1)).flatMap Pt.all=(d1.xs.take i).flatMap Pt.all++(d1.xs[i]).all:=by rw[bj H,bL];simp
  have tl:O ((d1.xs.take i).flatMap Pt.all)+O ((d1.xs[i]).all)<65536:=by
   rw[<-aq,<-ta];have:O d1.Co=O ((d1.xs.take (i+1)).flatMap Pt.all)+O ((d1.xs.drop (i+1)).flatMap Pt.all):=by rw[<-aq,<-bL,bA];rfl
   omega
  have eal:(d1.xs[i]).T.all (d1.xs[i]).pk=(d1.xs[i]).all:=rfl;refine YM s3 s4 s5 H oM gp' nt ?_;refine Av (a33 _ p2.c) ?_;refine bc (a34 _ _ p2.i p2.w p2.ok) ?_;rw[eal];refine Xf (U:O ((d1.xs[i]).all)<65536) ?_;refine kB (c:=Pr.cells) ow vK (λ_=>rfl) (d1.xs[i]).all tl ?_;rintro v' F dR l3 o3 in3 k3;refine L6 s3 s4 s5 (U:i+1<9223372036854775808) ?_;refine⟨O d1.xs-(i+1),U,i+1,v',H,Z,Z,Z,⟨by rw[ta];exact o3,λb D=>?_,λb D=>?_⟩,U⟩
  .obtain q|q:=in3 b D;.have:=iw b q;exact⟨this.1,U⟩
   .exact⟨U,q.2⟩
  .rw[k3 b U (λq=>by have:=(iw b q).1;omega)];exact S2 b D
 .have oM:¬(i:Int)<(d1.xs.length:Int):=U;have hie:i=d1.xs.length:=U;subst hie;simp+decide-dsimp only[go_sem,s3,s4,s5,oM];rw[fF]at ow;refine⟨d1,⟨x',e1⟩,?_,ab1,λb D e=>by rw[S2 b U];exact S1 b D e,by rw[<-ep1];exact ow,λb D=>?_⟩;.have⟨⟨q,bq,g1⟩,g2⟩:=W1;exact⟨o2,⟨⟨q,bq,by rw[S2 _ o1.r.OM];exact g1⟩,by rw[S2 _ o1.r.LA];exact g2⟩⟩
  .have:=iw b D;exact⟨U,this.2,λq=>by have:=o1.alt q;omega⟩
variable{em:Nat}
def RA(H:i<O xs):lens (xs.take (i+1))=lens (xs.take i)+(xs[i]).T.len:=by rw[bj H,zq,xB];rfl
def abI:lens (xs.take i)<=lens xs:=by
 have:lens xs=lens (xs.take i)+lens (xs.drop i):=by rw[<-zq,bA]
 omega
def T29:=RB [(16,[MO z8 9,([10],[],B)])]
set_option maxHeartbeats 1000000 in
def a29{d:Wd}(hk:k<900)(o:d.ok k h Y)(nx':Epo d.ep em h)(hep:d.ep<Y/\em<Y)(nep:¬d.all d.ep):
 UP 29 [.ptr d.wb 0] h Y λw Q E=>w=bW M/\(∀b,b<Y->b≠d.rb->N Q b=N h b)/\Y<=E:=by
 refine az.ac 1 T29 func29 ?_;refine J7 f29.eq_1 o.w o.e ?_;refine cm (a60 nx'.e hep.1) ?_;rintro _ W cC l1 ⟨rfl,S1, -⟩;have o1:=o.to S1 l1 (an k);have E1:Epo d.ep em W:=⟨by rw[S1 _ hep.1];exact nx'.e,by rw[S1 _ hep.2];exact nx'.m⟩;refine Y8 o1.w o1.e ?_;refine cm (a61 E1.e E1.m U U) ?_;rintro _ F dR l2 ⟨rfl,S2, -⟩;have o2:=o1.to S2 l2 (an k);have E2:Epo d.ep em F:=⟨by rw[S2 _ U];exact E1.e,by rw[S2 _ U];exact E1.m⟩;refine Y8 o2.w o2.e ?_;refine Av (a62 E2.e) ?_;refine cm (a57 o2) ?_;rintro _ h3 nx3 l3 ⟨d3,⟨x',e3⟩,o3,ab3,S3,W3,ow3,in3⟩;have xs3:d3.xs=d.xs:=by rw[e3]
 have wb3:d3.wb=d.wb:=by rw[e3]
 have mb3:d3.mb=d.mb:=by rw[e3]
 have bn:=o3.bn;have cf:=bn.len;have DV:=bn.yG;have Rh:0<O d3.xs:=EB bn.one
 have hl4:=o3.P.lens;obtain⟨pb,pcap,pA,rfl,gp,c1,c2,c3⟩:=ow3.sl Rh;have c3':pA.take (O d3.xs)=d3.xs.flatMap Ej:=by rw[<-c3,df]
 refine QZ ?_;refine cI _ _ (λmm s Q E=>∃i,i<=O d3.xs/\mm=O d3.xs-i/\X s 0= .ptr d.wb 0/\X s 3=int (lens (d3.xs.take i))/\X s 4= .sl pb 0 (O d3.xs) pcap/\X s 5=int i/\Q=h3/\nx3<=E) (n:=O d3.xs) ?_ ?_;.refine QZ ?_;exact⟨0,aQ _,Z,Z,Z⟩
 rintro mm s Q E ⟨i,q1,rfl,s0,s3,s4,s5,rfl,l4⟩;have o4:=o3.to (Q:=Q) (E:=E) (λ_ _=>rfl) l4 (an k);by_cases H:i<d3.xs.length
 .have oM:(i:Int)<(d3.xs.length:Int):=U;have w1:i+1<9223372036854775808:=U;have px:=o4.P.all _ (bO H);have nt:=CD c3' H (d3.xs[i]);have eg:d3.xs.getD i d3.xs[i]=d3.xs[i]:=by rw[aB,aF H];rfl
  rw[eg]at nt;have⟨n,KC,ES⟩:=px.wd;have hn:n<1000:=U;have lt:=RA H;have ll:=abI (xs:=d3.xs) (i:=i+1);have c63:=λY=>a63 (Y:=Y) _ px.c;rw[ES]at c63;refine RC s4 s5 H oM gp nt ?_;refine Av (a51 _ px.c) ?_;refine Av (c63 _) ?_;refine AJ (arE hn) ?_;refine ba (ao7 hn) ?_;refine PV s4 s5 H gp nt ?_;refine Av (a33 _ px.c) ?_;refine bc (a66 _ _ px.i px.w U px.ok) ?_;simp+decide-dsimp only[go_sem,s4,s5,H,gp,nt];refine bc (a33 _ px.c) ?_;simp+decide-dsimp only[go_sem];refine bc (a34 _ _ px.i px.w px.ok) ?_;obtain⟨rs,rn⟩:=o4.Bg (bO H);rw[show(d3.xs[i]).T.all (d3.xs[i]).pk=(d3.xs[i]).all from rfl];obtain⟨hx,hL⟩:∃hx,hx=(d3.xs[i]).all:=⟨_,rfl⟩;rw[<-hL]at rs rn⊢;simp+decide-dsimp only[go_sem];refine cI _ _ (λmm s F dR=>∃j,j<=hx.length/\mm=hx.length-j/\X s 0= .ptr d.wb 0/\X s 3=int (lens (d3.xs.take i))/\X s 4= .sl pb 0 d3.xs.length pcap/\X s 5=int i/\X s 7=yP hx/\X s 8=int j/\F=Q/\E<=dR) (n:=hx.length) ?_ ?_;.simp+decide-dsimp only[go_sem,s0,s3,s4,s5];exact⟨0,aQ _,rfl,rfl⟩
  clear s0 s3 s4 s5;rintro mm s F dR ⟨j,q2,rfl,s0,s3,s4,s5,s7,s8,rfl,l5⟩;by_cases hj:j<hx.length;.have Qi:(j:Int)<(hx.length:Int):=U;have w2:j+1<9223372036854775808:=U;have G:(d3.xs[i]).has (hx.getD j default).1=true:=(rs.pk _ (IV (jY hj))).1;simp+decide-dsimp only[go_sem,T29,s4,s5,s7,s8,H,hj,Qi,gp,nt];refine bc (a67 _ px.c _) ?_;rw[G];simp+decide-dsimp only[go_sem,s0,s3,s4,s5,s7,s8,w2];exact⟨hx.length-(j+1),U,j+1,hj,rfl,rfl,U⟩
  .have Qi:¬(j:Int)<(hx.length:Int):=U;have ws:cO .i64 ((lens (d3.xs.take i):Int)+((d3.xs[i]).T.len:Int))=((lens (d3.xs.take (i+1)):Nat):Int):=qI;simp+decide-dsimp only[go_sem,s3,s4,s5,s7,s8,H,Qi,gp,nt];refine bc (a33 _ px.c) ?_;simp+decide-dsimp only[go_sem];refine bc (a68 _ _ px.i (px.w.same (E:=dR) .refl l5)) ?_;simp+decide-dsimp only[go_sem,s0,s3,s4,s5,w1,ws];exact⟨d3.xs.length-(i+1),U,i+1,H,rfl,rfl,rfl,U⟩
 .have oM:¬(i:Int)<(d3.xs.length:Int):=U;have hie:i=d3.xs.length:=U;subst hie;rw[fF]at s3;have cn:=o4.P.cnt;have wc:N Q d.wb=some (.cells (Be d3.eb d3.mb d3.p.pb d3.sb d3.xs.length d3.cap d3.hv d3.Po) 35):=by rw[<-wb3];exact o4.w
  have c25:=λY (hn:nx3<=Y)=>a25 d3.p Q Y (o3.to (Q:=Q) (E:=Y) (λ_ _=>rfl) hn (an k)).P.pk;rw[show d3.p.fr.length-d3.p.fr.count true=lens d3.xs from U]at c25;simp+decide-dsimp only[go_sem,s0,s4,s5,oM,wc];refine bc (c25 _ U) ?_;refine Xf s3 ?_;refine⟨λb D e=>?_,U⟩;rw[S3 b U e,S2 b U,S1 b D]
variable{r:dI}{w w' w0:World}
def HR.world(hr:HR r h Y w0 w)(b:Below w.heap.size w w'):HR r h Y w0 w':=by
 refine⟨hr.below.trans (b.mono hr.below.size),λk o v e=>⟨?_,(hr.tG k o v e).2⟩,λc x e=>?_,λc o k n e1 e2=>?_,hr.inj⟩
 .have W:=(hr.tG k o v e).1;have hk:k<w.heap.size:=by
   obtain q|q:=bB k w.heap.size;.exact q
   .have e0:w.heap[k]?=B:=Array.getElem?_eq_none q;simp[World.cell?,e0]at W
  rw[b.cell (p:=⟨k,o,B⟩) hk];exact W
 .have⟨W,F,h3⟩:=hr.zX c x e;exact⟨W,F,aP h3 b.size⟩
 .have h3:=(hr.zX c (k,n) e2).2.2;rw[b.block k h3];exact hr.obj c o k n e1 e2
def LY(P:Program)(g:FuncId)(n:Nat):Option u:=match bY.enter P g [] R with
 |some fr=>match Ag P xt n ⟨fr,[],.nil,0⟩with
  |some m=>if m.fr.fn==g then BK P m else B
  |none=>B
 |none=>B
def az.closed{g v}(G:LY prog g n=J (.g v))(h Y):UP g [] h Y (dG (.g v) h Y):=by
 unfold LY at G;split at G
 .rename_i fr V;split at G
  .rename_i m hm;split at G;.rename_i XQ;refine⟨⟨fr,V⟩,λr w0 w vs hH hv cs=>?_⟩;cases hv;have⟨f1,cs1,w1,s1,Lu⟩:=uS pk n (Ku V (HR.start w) .nil cs) hm;obtain⟨rfl,F,h3,h4⟩:=Qp Lu G;exact⟨.returned v,w1,f1,⟨v,r,.g v,h,Y,Z,dI.le_refl r,λ_ _=>rfl,an _,hH.world h4,.g v,Z,Z,Z⟩,s1,F.trans (Mf XQ),h3⟩
   .cases G
  .cases G
 .cases G
variable{v8:Nat}{f:FuncId}
def fv.aeR{c}(hv:fv r cs c){off}(h:cs[i]?=J (.fn f [.ptr b off])):∃k n,r b=J (k,n):=by
 have⟨y,_,hy⟩:=hv.get h;cases hy with
 |fn e=>cases e with
  |cons e t=>cases e with
   |ptr e=>exact⟨_,_,e⟩
def Wd.ok.known{d:Wd}(o:d.ok k h Y)(hf:d.fi=B)(hr:HR r h Y w0 w){q'}(D:r d.wb=J (q,q')):
 ∃hl v8 Ai,HR r Ai Y w0 w/\({d with fi:=J (hl,v8)}:Wd).ok k Ai Y/\∀b,b≠d.rx->N Ai b=N h b:=by
 have dv:d.dv= .fp d.dir:=by unfold Wd.dv;rw[hf];rfl
 have⟨k1,n1,r1⟩:=hr.reach D o.w (i:=0) Z;have⟨k2,n2,r2⟩:=hr.reach r1 o.e (i:=0) Z;have zxQ:=o.r;rw[dv]at zxQ;obtain⟨q,W,F⟩|⟨q,bq,W,F⟩:=zxQ.ok;.have⟨c,c1,c2⟩:=hr.obj _ _ _ _ W r2;have⟨k3,n3,r3⟩:=c2.aeR (i:=3) Z;have⟨hl,v8,hh⟩:=hr.fix r3 F (i:=0) Z;refine⟨hl,v8,_,hh,?_,λb D=>by rw[Xg D]⟩;exact(o.load (fi':=J (hl,v8)) ⟨.inl ⟨q,by rw[Xg (fc W F bS)];exact W,by rw[Sr];rfl⟩,zxQ.OM,zxQ.LA⟩ (.inl Z) (λb _ _ L=>by rw[Xg L]) (an _)).1
 .have⟨k3,n3,r3⟩:=hr.reach r2 W (i:=4) Z;have⟨hl,v8,hh⟩:=hr.fix r3 F (i:=0) Z;refine⟨hl,v8,_,hh,?_,λb D=>by rw[Xg D]⟩;exact(o.load (fi':=J (hl,v8)) ⟨.inr ⟨q,bq,by rw[Xg (fc W F bS)];exact W,by rw[Sr];rfl⟩,zxQ.OM,zxQ.LA⟩ (.inl Z) (λb _ _ L=>by rw[Xg L]) (an _)).1
structure BM(d:Wd)(em:Nat)(h:aE)(Y:Nat):Prop where
 nx':Epo d.ep em h
 l1:d.ep<Y
 l2:em<Y
 n1:¬d.all d.ep
 n2:¬d.all em
def aob(l:List aY)(ks)(n:Nat)(hn:12<n)(ES:n<=4096)(K:O l<=100)(G:∀s∈l,O s<=500)(h Y):
 UP 18 [strs l,I0 ks,int n] h Y λw Q E=>∃d em hl v8,w= .dY [.ptr d.wb 0,bW M]/\d.ok 0 Q E/\d.fi=J (hl,v8)/\BM d em Q E:=by
 refine(a18 l ks n hn ES K G h Y).up ?_;rintro v Q E ⟨d,em,rfl,o,ab,S,nx',⟨l1,l2⟩,n1,n2,hf⟩ r w0 w AV hr hv;cases hv with
 |dY hv=>cases hv with
  |cons hv _=>cases hv with
   |ptr D=>have⟨hl,v8,Ai,g1,g2,g3⟩:=o.known hf hr D;have cC:∀c,¬d.all c->N Ai c=N Q c:=λc A=>g3 c λe=>A (.inl (Fg (.inl e)));exact⟨Ai,g1,{d with fi:=J (hl,v8)},em,hl,v8,Z,g2,Z,⟨⟨by rw[cC _ n1];exact nx'.e,by rw[cC _ n2];exact nx'.m⟩,l1,l2,n1,n2⟩⟩
def ae2{hl a b}:dE prog h .neq 70 x y (.fi hl v8 a) (.fi hl v8 b)=J (bW R):=by have ts:cZ prog 182=J 2:=aK;simp[dE,eX,jm,u.pV,qA,wP,Ec,ts]
attribute[go_sem] ae2
structure Pc where
 kd:Nat
 a:Int
 b:Int
 o:CY
 deriving Inhabited
abbrev Pc.cells(x:Pc):List u:=u8 (x.kd:Nat)::i6 x.a::i6 x.b::x.o.cells
abbrev ens(l:List Pc):u:=Lk Pc.cells l
def XE{e}{sz:TypeId->Option Nat}{l:List Pc}(hk:k<O l):qa (J (.slice e)) sz (ens l) (int k)=(sz e).bind λsize=>(dV (k*size) (l.flatMap Pc.cells)).map λl=> .val (.fp l):=sT hk
def XG{l:List Pc}(hk:k<O l):dV (k*10) (l.flatMap Pc.cells)=J ((l.getD k default).cells++(l.drop (k+1)).flatMap Pc.cells):=by rw[nQ (n:=10) (λ_=>rfl) (eC hk),Ki hk]
attribute[go_sem] XE XG
abbrev opZ:List u:=[u8 0,cg [],cg [],cg [],bW R,bW R,.g (.slice B 0 0)]
abbrev Pc.hd(x:Pc):En:=⟨x.kd,x.a,x.b,opZ,Z,Z⟩
def aiC:LY prog 12 25124=J (.g (.bool M)):=aK
def a12:bz 12 [] (bW M):=λh Y=>az.closed aiC h Y
variable{dR:Nat}{F:aE}
def abu{l}(h:Mh l=R):O l<=100/\∀s∈l,O s<=500:=by unfold Mh at h;rw[mj]at h;refine⟨by have:=rq h.1;omega,λs G=>?_⟩;have:=List.any_eq_false.1 h.2 s G;simpa using this
def Tp{l}(h:Da l=R):O l<=100:=by unfold Da at h;rw[mj]at h;have:=rq h.1;omega
def BM.load{d d2}{x':Nat}(hc:BM d em h Y)(e:d2={d with rx:=x'})(ab:∀b,d2.all b->d.all b\/Y<=b)(S:∀b,b<Y->b≠d.rb->N F b=N h b)(l:Y<=dR):BM d2 em F dR:=by
 have ep:d2.ep=d.ep:=by rw[e]
 have a1:=hc.l1;have a2:=hc.l2;have nr:∀c,¬d.all c->c≠d.rb:=λc A e=>A (.inl (Fe (.inl e)));refine⟨⟨by rw[ep,S _ a1 (nr _ hc.n1)];exact hc.nx'.e,by rw[S _ a2 (nr _ hc.n2)];exact hc.nx'.m⟩,by rw[ep];omega,U,λq=>?_,λq=>?_⟩
 .rw[ep]at q;obtain q|q:=ab _ q
  .exact hc.n1 q
  .omega
 .obtain q|q:=ab _ q;.exact hc.n2 q
  .omega
def BM.same{d}(hc:BM d em h Y)(S:aG Y h F)(l:Y<=dR):BM d em F dR:=
 ⟨⟨by rw[S _ hc.l1];exact hc.nx'.e,by rw[S _ hc.l2];exact hc.nx'.m⟩,aP hc.l1 l,aP hc.l2 l,hc.n1,hc.n2⟩
def T5:=RB [(20,[MO z8 9,MO [10,11,12] 13,MO [] 14,RX]),(21,[MO z8 9,MO [10,11,12] 13,MO [] 14,RX])]
set_option maxHeartbeats 2000000 in
def a5(los ks ops l h Y):UP 5 [strs los,I0 ks,Nx ops,ens l] h Y λw _ _=>w=bW M:=by
 refine az.ac 4 T5 func5 ?_;refine Xf f5.eq_1 ?_;refine AJ a12 ?_;refine ba (a15 ops) ?_;cases g1:Da ops with
 |true=>exact VU
 |false=>
 refine QZ ?_;refine ba (a16 los) ?_;cases g2:Mh los with
 |true=>exact VU
 |false=>
 by_cases g3:(30:Int)<(l.length:Int);.simp+decide-dsimp only[go_sem,g3]
 simp+decide-dsimp only[go_sem,g3];obtain⟨l100,l500⟩:=abu g2;have arN:=Tp g1;refine cm (aob los ks 4096 bS bS l100 l500 _ _) ?_;rintro _ W cC l1 ⟨d,em,hl,v8,rfl,o,hf,hc⟩;refine QZ ?_;refine cI _ _ (λmm s Q E=>∃k d',k<=O ops/\mm=O ops-k/\X s 2=Nx ops/\X s 3=ens l/\X s 9= .ptr d'.wb 0/\X s 11=int k/\d'.ok k Q E/\d'.fi=J (hl,v8)/\BM d' em Q E) (n:=O ops) ?_ ?_;.refine QZ ?_;exact⟨0,d,aQ _,Z,Z,Z,o,hf,hc⟩
 rintro mm s Q E ⟨k,d',q1,rfl,s2,s3,s9,yK,o,hf,hc⟩;by_cases hk:k<O ops;.have CT:(k:Int)<(O ops:Int):=U;refine PV s2 s9 yK hk CT ?_;refine cm (a19 o U (aw:=λb=>b=d'.ep\/b=em) (λb D=>by rcases D with e|e<;>rw[e];exact hc.l1;exact hc.l2) (λb D=>by rcases D with e|e<;>rw[e];exact hc.n1;exact hc.n2) (ops.getD k default)) ?_;rintro _ F dR l3 ⟨d2,⟨e1,e2,e3⟩,o2,ab2,S2⟩;refine PV s2 s3 s9 yK (U:k+1<9223372036854775808) ?_;refine⟨O ops-(k+1),U,k+1,d2,hk,Z,by rw[e1],Z,o2,by rw[e3];exact hf,?_⟩;have a1:=hc.l1;have a2:=hc.l2;rw[<-e2]at S2 ab2 a1;have nx':=hc.nx';rw[<-e2]at nx';exact⟨⟨by rw[S2 _ (.inl Z)];exact nx'.e,by rw[S2 _ (.inr Z)];exact nx'.m⟩,U,U,ab2 _ (.inl Z),ab2 _ (.inr Z)⟩
 .have A1:=hc.l1;have A2:=hc.l2;refine L6 s2 s9 yK (U:¬(k:Int)<(O ops:Int)) ?_;refine cm (a24 o) ?_;rintro wv F dR l2 ⟨d2,⟨x',e2⟩,ah,ab2,S2,ow,iw⟩;have zyQ:=hc.load e2 ab2 S2 l2;have wb2:d2.wb=d'.wb:=by rw[e2]
  have YE:d2.fi=J (hl,v8):=e2▸hf
  have pr2:d2.Co=d'.Co:=by rw[e2];rfl
  have dv2:d2.dv= .fi hl v8 d2.dir:=by unfold Wd.dv;rw[YE];rfl
  have kb:k<900:=U;rw[<-wb2]at s9;rw[<-pr2]at ow;have U2:=λaw (hN:dR<=aw)=>ah.same (Q:=F) (E:=aw) .refl hN;refine Y8 s9 ah.o.w ?_;refine bc (a25 d2.p F _ (U2 _ U).o.P.pk) ?_;obtain⟨lv,rU⟩:∃lv:Nat,lv=O d2.p.fr-d2.p.fr.count M:=⟨_,Z⟩;rw[<-rU];refine J7 s9 ah.o.w ah.o.e ?_;refine bc (agh ah.w ah.o.r.OM ah.o.r.LA (IK ah.o.RG)) ?_;rw[dv2];refine QZ ?_;refine cI _ _ (λmm s Q E=>∃i,i<=O l/\mm=O l-i/\X s 3=ens l/\X s 9= .ptr d2.wb 0/\X s 12=wv/\X s 13=int lv/\X s 14= .fi hl v8 d2.dir/\X s 15=u64 0/\X s 16=int i/\aG dR F Q/\dR<=E) (n:=O l) ?_ ?_;.refine Y8 s3 s9 ?_;exact⟨0,aQ _,Z,Z,.refl⟩
  rintro mm s h3 nx3 ⟨i,q2,rfl,s3,s9,Ko,D9,Fc,SJ,Pf,S3,l3⟩;have U3:=ah.same S3 l3;by_cases H:i<O l
  .have oM:(i:Int)<(O l:Int):=U;have w2:i+1<9223372036854775808:=U;have dw:=U3.o.lt _ (.inl Z);have de:=U3.o.lt _ (.inr (.inl Z));have x2:¬(d2.eb=nx3):=U;refine Ik s3 s9 Pf H oM (U:¬(d2.wb=nx3)) U3.o.w T5.eq_1 ?_;generalize hH:aI (aI (aI h3 nx3 _) nx3 _) nx3 _=hi;have SH:aG nx3 h3 hi:=hH▸gU
   have gH:=TZ hH
   generalize hq:nx3+1+Array.size _=nq;have qf:nx3+1<=nq:=hq▸(ew _ _)
   have UH:=λaw (hN:nx3<=aw)=>U3.same (E:=aw) SH hN
   have C10:=λaw (hN:nx3<=aw)=>a10 (UH aw hN) (l.getD i default).hd;obtain⟨zxQ,hR⟩:∃zxQ,zxQ=oW d2.uZ (l.getD i default).hd.kd (l.getD i default).hd.a (l.getD i default).hd.b:=⟨_,Z⟩;have rok:∀p,zxQ.1=J p->p.zxQ:=λp hp=>oW.zxQ (hR▸hp);rw[<-hR]at C10;have C26:=λaw (hN:nx3<=aw)=>agh (UH aw hN).w (UH aw hN).o.r.OM (UH aw hN).o.r.LA (IK (UH aw hN).o.RG);have C25:=λaw (hN:nx3<=aw)=>a25 d2.p hi aw (UH aw hN).o.P.pk;rw[<-rU]at C25;rw[dv2]at C26;have⟨R1,R2⟩:=zxQ;have wH:=(UH _ (an _)).o.w;have eH:=(UH _ (an _)).o.e;refine bc (C10 _ U) ?_;refine L6 s9 wH gH T5.eq_1 ?_;refine Av (C10 _ U) ?_;refine ba (a23 (d2.ajZ R1) (d2.ajZ R1) rok R2) ?_;refine J7 s9 wH eH ?_;refine bc (C26 _ U) ?_;cases R1 with
   |none=>have jv:d2.Rj B= .g (.pointer B):=rfl;refine PV s9 Fc SJ wH jv ?_;refine bc (C25 _ U) ?_;refine Ik s3 s9 Ko D9 Fc SJ Pf w2 ?_;refine⟨O l-(i+1),U,i+1,H,Z,Z,λb D=>(SH b U).trans (S3 b D),U⟩
   |some p=>have jv:d2.Rj (J p)=(d2.job p).av:=rfl;refine PV s9 Fc SJ wH jv ?_;refine bc (C25 _ U) ?_;refine Xf D9 ?_;refine AJ (a22 (d2.job p)) ?_;refine ba (a27 (d2.job p)) ?_;refine Ik s3 s9 Ko D9 Fc SJ Pf w2 ?_;refine⟨O l-(i+1),U,i+1,H,Z,Z,λb D=>(SH b U).trans (S3 b D),U⟩
  .have B3:=zyQ.same S3 l3;have ow3:=ow.aW (Q:=h3) λb D=>S3 b (iw b D).2.1;have pl:=U3.o.prl;refine L6 s3 s9 Pf (U:¬(i:Int)<(O l:Int)) ?_;refine cm (a24 U3.o) ?_;rintro wv4 h4 Gc l4 ⟨d4,⟨x4,e4⟩,U4,ab4,S4,ow4,iw4⟩;have wb4:d4.wb=d2.wb:=by rw[e4]
   have rb4:d4.rb=d2.rb:=by rw[e4]
   have B4:=B3.load e4 ab4 S4 l4;obtain⟨⟨c1,t1⟩, -⟩:=U3.o.r.ty;have ow5:=ow3.aW (Q:=h4) λb D=>S4 b (EB ((iw b D).2.1)) λe=>by have⟨hc,hA⟩:=ow3.bT D;exact fc hA t1 bS e
   refine Xf Ko ?_;refine bc (a28 ow4 ow5 pl) ?_;have c29:=λaw (hN:Gc<=aw)=>a29 kb (U4.o.to (Q:=h4) (E:=aw) (λ_ _=>rfl) hN (an _)) B4.nx' ⟨aP B4.l1 hN,aP B4.l2 hN⟩ B4.n1;rw[wb4]at c29;refine Xf s9 ?_;refine cm (c29 _ U) ?_;rintro _ h5 UM l5 ⟨rfl,S5, -⟩;obtain⟨⟨c2,t2⟩, -⟩:=U4.o.r.ty;have w4:=U4.o.w;have m4:=U4.o.m;have lw:=U4.o.lt _ (.inl Z);have lm:=U4.o.lt _ (FF (.inl Z));have w5:=(S5 _ U (fc w4 t2 bS)).trans w4;have m5:=(S5 _ U (fc m4 t2 bS)).trans m4;rw[wb4]at w5;refine Y8 s9 w5 ?_;refine cm (a11 m5) ?_;rintro _ h6 GF l6 -;exact VU
section
open Go Go.RowKit Go.ChangeShapes Go.WideShapes Go.ChangeAt Go.Deep
def qM(h1:World):dI:=⟨λ_=>none,λk o=>h1.cell? ⟨k,o,none⟩⟩
theorem HR.all(h1:World):HR (qM h1) .nil 0 h1 h1:=
 ⟨Below.refl _ _,λk o v e=>⟨e,λb n q h=>(by cases h)⟩,λb x h=>(by cases h),λb o k n _ h=>(by cases h),λb b' o o' k n n' _ _ _ _ h=>(by cases h)⟩
theorem add_plain(b off j:Nat):(⟨b,off,none⟩:Addr).add j=⟨b,off+j,none⟩:=by unfold Addr.add;split<;>simp_all
section
variable{hi:Type}{enc:TypeId×Value->hi}{h1:World}{spare:Nat->Bool}{held:Bool}
theorem zp{t e:TypeId}{sz:Nat}{α:Type}{c:α->List u}(ht:Tryz.prog.underlying t=some (.slice e))(tU:Tryz.prog.cellsOf e=sz)(h0:0<sz){fuel:Nat}{v:Value}{x:DataW hi×List MemPlace}(h:DataW.trod enc Tryz.prog h1 0 spare held fuel t [v]=some x)
 (el:∀n cs y,DataW.trod enc Tryz.prog h1 0 spare held n e cs=some y->cs.length=sz->∃a:α,fv (qM h1) (c a) cs):∃l:List α,VR (qM h1) (Lk c l) v:=by
 rcases open_slice ht h with⟨zU,_⟩|⟨a,len,cap,m,n,hb,Pl,zU,D,K,hm,hmm,L,H⟩;.cases zU;exact⟨[],.EM⟩
 .cases zU;rw[tU]at H;have RE:len<=m:=by rw[hmm];split<;>omega
  rcases nW len with rfl|Rh;.exact⟨[],.Ee⟩
  obtain⟨b,off,spot⟩:=a;have G:spot=none:=by
   obtain⟨cs,A,_⟩:=H 0 (by omega);obtain⟨_,zk,HM⟩:=World.cells?_some A;have W:=HM 0 h0;rw[aF (by omega)]at W;rcases spot with _|s;.rfl
   .simp[Addr.add,World.cell?]at W;split at W<;>simp_all
  subst G;have key:∀j,j<=len->∃(l:List α) (vs:List Value),l.length=j/\vs.length=j*sz/\fv (qM h1) (l.flatMap c) vs/\∀i v,vs[i]?=some v->(qM h1).hd b (off+i)=some v:=by
   intro j
   induction j with
   |zero=>exact λ_=>⟨[],[],rfl,by simp,.nil,λi v h=>by simp at h⟩
   |succ j ih=>
    intro hj;obtain⟨l,vs,e1,e2,e3,e4⟩:=ih (by omega);obtain⟨cs,A,ht⟩:=H j (by omega);obtain⟨_,zk,HM⟩:=World.cells?_some A;obtain⟨a,ha⟩:=el _ _ _ ht zk;refine⟨l++[a],vs++cs,by rw[aq,e1];rfl,by rw[aq,e2,zk,qi],?_,λi v h=>?_⟩;.rw[bL,List.flatMap_singleton];exact e3.append ha
    .rcases bB i vs.length with q|q;.rw[bX q]at h;exact e4 i v h
     .rw[cE q]at h;have dc:=(dD.1 h).1;have W:=HM (i-vs.length) (by omega);rw[add_plain,add_plain]at W;show h1.cell? ⟨b,off+i,none⟩=some v;rw[show off+i=off+j*sz+(i-vs.length)by omega,W,h]
  obtain⟨l,vs,e1,e2,e3,e4⟩:=key len (an _);refine⟨l,?_⟩;show VR _ (.fz l.length (l.flatMap c)) _;rw[e1];exact .fz e4 K e3
theorem Bd{r:dI}(s:ByteArray):VR r (cg s.data.toList) (.string s):=by
 have:cg s.data.toList= .g (.string s):=by show u.g (.string ⟨s.data.toList.toArray⟩)=_;rw[fg]
 rw[this];exact .g _
theorem Wi{n:Nat}{cs:List Value}{y:DataW hi×List MemPlace}(h:DataW.trod enc Tryz.prog h1 0 spare held n 9 cs=some y):∃a:aY,fv (qM h1) (gv a) cs:=by obtain⟨s,rfl,_⟩:=DataW.trod_string PY h;exact⟨_,.cons (Bd s) .nil⟩
theorem Iw{n:Nat}{cs:List Value}{y:DataW hi×List MemPlace}(h:DataW.trod enc Tryz.prog h1 0 spare held n 5 cs=some y):∃k:Nat,k<256/\cs=[.int .u8 k]:=by obtain⟨k,rfl,_,w⟩:=DataW.trod_int Yj h;have b:=bounds_u8 w;exact⟨k.toNat,by omega,by rw[show((k.toNat:Nat):Int)=k by omega]⟩
theorem ZR{n:Nat}{cs:List Value}{y:DataW hi×List MemPlace}(h:DataW.trod enc Tryz.prog h1 0 spare held n 5 cs=some y):∃a:UInt8,fv (qM h1) (jU a) cs:=by obtain⟨k,hk,rfl⟩:=Iw h;refine⟨UInt8.ofNat k,.cons ?_ .nil⟩;rw[j9 (by show k<256;omega)];exact .g _
theorem Iz{n:Nat}{cs:List Value}{y:DataW hi×List MemPlace}(h:DataW.trod enc Tryz.prog h1 0 spare held n 4 cs=some y):∃b,cs=[.bool b]:=by obtain⟨b,rfl,_⟩:=DataW.trod_bool tu4 h;exact⟨b,rfl⟩
theorem mo{t:TypeId}{fs:Array Field}{n:Nat}{cs:List Value}{y:DataW hi×List MemPlace}(ht:Tryz.prog.underlying t=some (.struct fs))(h:DataW.trod enc Tryz.prog h1 0 spare held n t cs=some y)(i:Nat){ft:TypeId}{off k:Nat}(hf:(fs[i]?).map (λf=>(f.type,f.offset))=some (ft,off))(hk:Tryz.prog.cellsOf ft=k):
 ∃m hd,DataW.trod enc Tryz.prog h1 0 spare held m ft ((cs.drop off).take k)=some hd:=by
 obtain⟨xs,m,_,_,_,K,L⟩:=DataW.trod_struct ht h;cases hfi:fs[i]? with
 |none=>rw[hfi]at hf;cases hf
 |some f=>
  rw[hfi]at hf;injection hf with hf
  injection hf with W F
  subst W;subst F;subst hk;have dc:i<xs.length:=by rw[K];exact(Array.getElem?_eq_some_iff.1 hfi).1
  exact⟨m,_,(L i f hfi).trans (aF dc)⟩
theorem Aj:Tryz.prog.cellsOf 9=1:=by kernel_rfl
theorem Mi:Tryz.prog.cellsOf 4=1:=by kernel_rfl
theorem Na:Tryz.prog.cellsOf 5=1:=by kernel_rfl
theorem Tm:Tryz.prog.cellsOf 3=1:=by kernel_rfl
theorem aaJ:Tryz.prog.cellsOf 38=1:=by kernel_rfl
theorem OW:Tryz.prog.cellsOf 40=7:=by kernel_rfl
theorem YN:Tryz.prog.cellsOf 42=10:=by kernel_rfl
theorem Uw:Tryz.prog.cellsOf 107=3:=by kernel_rfl
theorem acj{n:Nat}{cs:List Value}{y:DataW hi×List MemPlace}(h:DataW.trod enc Tryz.prog h1 0 spare held n 107 cs=some y)(K:cs.length=3):∃a:Wr,fv (qM h1) a.cells cs:=by
 match cs,K with
 |[v0,v1,v2],_=>
 obtain⟨_,_,h0⟩:=mo Tryz.underlying107 h 0 rfl Aj;obtain⟨_,_,W⟩:=mo Tryz.underlying107 h 1 rfl Aj;obtain⟨_,_,F⟩:=mo Tryz.underlying107 h 2 rfl Mi;obtain⟨s0,e0,_⟩:=DataW.trod_string PY h0;obtain⟨s1,e1,_⟩:=DataW.trod_string PY W;obtain⟨b2,e2⟩:=Iz F;cases e0;cases e1;cases e2;exact⟨⟨_,_,b2⟩,.cons (Bd s0) (.cons (Bd s1) (.cons (.g _) .nil))⟩
theorem Pd{n:Nat}{cs:List Value}{y:DataW hi×List MemPlace}(h:DataW.trod enc Tryz.prog h1 0 spare held n 40 cs=some y)(K:cs.length=7):∃a:CY,fv (qM h1) a.cells cs:=by
 match cs,K with
 |[v0,v1,v2,v3,v4,v5,v6],_=>
 obtain⟨_,_,h0⟩:=mo Tryz.underlying40 h 0 rfl Na;obtain⟨_,_,W⟩:=mo Tryz.underlying40 h 1 rfl Aj;obtain⟨_,_,F⟩:=mo Tryz.underlying40 h 2 rfl Aj;obtain⟨_,_,h3⟩:=mo Tryz.underlying40 h 3 rfl Aj;obtain⟨_,_,h4⟩:=mo Tryz.underlying40 h 4 rfl Mi;obtain⟨_,_,h5⟩:=mo Tryz.underlying40 h 5 rfl Mi;obtain⟨_,_,h6⟩:=mo Tryz.underlying40 h 6 rfl aaJ;obtain⟨k,_,e0⟩:=Iw h0;obtain⟨s1,e1,_⟩:=DataW.trod_string PY W;obtain⟨s2,e2,_⟩:=DataW.trod_string PY F;obtain⟨s3,e3,_⟩:=DataW.trod_string PY h3;obtain⟨b4,e4⟩:=Iz h4;obtain⟨b5,e5⟩:=Iz h5;obtain⟨ws,hw⟩:=zp alx Uw (by decide) h6 λn cs y h K=>acj h K;cases e0;cases e1;cases e2;cases e3;cases e4;cases e5;exact⟨⟨k,_,_,_,b4,b5,ws⟩,.cons (.g _) (.cons (Bd s1) (.cons (Bd s2) (.cons (Bd s3) (.cons (.g _) (.cons (.g _) (.cons hw .nil))))))⟩
theorem aaz{n:Nat}{cs:List Value}{y:DataW hi×List MemPlace}(h:DataW.trod enc Tryz.prog h1 0 spare held n 42 cs=some y)(K:cs.length=10):∃(k:Nat) (a b:Int) (o:CY),fv (qM h1) (u8 (k:Nat)::i6 a::i6 b::o.cells) cs:=by
 match cs,K with
 |[v0,v1,v2,v3,v4,v5,v6,v7,v8,v9],_=>
 obtain⟨_,_,h0⟩:=mo Tryz.underlying42 h 0 rfl Na;obtain⟨_,_,W⟩:=mo Tryz.underlying42 h 1 rfl Tm;obtain⟨_,_,F⟩:=mo Tryz.underlying42 h 2 rfl Tm;obtain⟨_,_,h3⟩:=mo Tryz.underlying42 h 3 rfl OW;obtain⟨k,_,e0⟩:=Iw h0;obtain⟨a,e1,_⟩:=DataW.trod_int Fy W;obtain⟨b,e2,_⟩:=DataW.trod_int Fy F;obtain⟨o,ho⟩:=Pd h3 rfl;cases e0;cases e1;cases e2;exact⟨k,a,b,o,.cons (.g _) (.cons (.g _) (.cons (.g _) ho))⟩
end
end
end
end br
end Go.Proofs.YtonnifoeokagjaaGreat
