/- The theorem quiet_holds of OrdersQuiet: part 15 of its proof; no conditions. -/
import Derived.Test.YtonnifoeokagjaaGreatF14
namespace Go.Proofs.YtonnifoeokagjaaGreat
set_option linter.all false
set_option maxRecDepth 8000
open Go Go.RowKit
open Option renaming some->J,none->B
open Bool renaming true->M,false->R
open List renaming length->O
open Tryz
open Nat(reduceAdd reduceMul)
namespace br
noncomputable section
variable{C d k k' Y E s:Nat}{Pk:aY->Prop}{aO:Hd}{h Q:aE}{iL o1:Nat->Prop}{lo:Nat->aY}{lv:Nat->Nat}{p':bp}{α:Type}
def X8{α:Type}(c:α->Nat)(σ:Nat->Option (Nat×α))(hd:Int)(d:Nat):Prop:=∃zzQ:Nat,Sz c σ zzQ/\hd=(zzQ:Int)/\zzQ<=d
def X8.acc{c:α->Nat}{es:List (iB α)}{hd}(b:X8 c (ct es) hd d)(hn:(es.map iB.X).Nodup)(p):Acc c (ct es) hd p (p.fr.count M+O es) d:=by have⟨zzQ,h⟩:=b;exact⟨_,zzQ,by rw[<-HB];exact Sz.Cb hn,Z,h⟩
def Acc.bal{c:α->Nat}{es:List (iB α)}{hd p}(hc:Acc c (ct es) hd p C d)(hn:(es.map iB.X).Nodup):p.fr.count M+O es=C/\X8 c (ct es) hd d:=by have⟨aw,zzQ,W,F,h⟩:=hc;exact⟨by rw[<-HB,(Sz.Cb hn).uniq W];exact F,zzQ,h⟩
inductive Tr where
 |b (t:Bl)
 |a (t:At)
 |m (t:Mt)
namespace Tr
def tb:Tr->Nat
 |b t=>t.tb
 |a t=>t.tb
 |m t=>t.tb
def ty:Tr->TypeId
 |b _=>212
 |a _=>215
 |m _=>218
def kind:Tr->Nat
 |b _=>1
 |a _=>2
 |m _=>3
def own:Tr->Nat->Prop
 |b t=>t.own
 |a t=>t.own
 |m t=>t.own
def sl:Tr->Nat->Prop
 |b t=>t.a.sl
 |a t=>t.a.sl
 |m t=>t.a.sl
def h1:Tr->bp->aE->Nat->Prop
 |b t=>BW t
 |a t=>AW t
 |m t=>MW t
def ok(Pk:aY->Prop):Tr->Nat->Prop
 |b t,k=>∃d,d<=k/\Ou Pk (ct t.a.es) t.aO d/\X8 uz (ct t.a.es) t.size d
 |a t,k=>Ta Pk t/\X8 fE (ct t.a.es) t.size k
 |m t,k=>MOk Pk t/\X8 (kO R) (ct t.a.es) t.size k/\∃hl:Nat,Sz (kO M) (ct t.a.es) hl/\t.dU=((hl+1:Nat):Int)/\hl<=4*k
def len:Tr->Nat
 |b t=>O t.a.es
 |a t=>O t.a.es
 |m t=>O t.a.es
def ok.mono{T:Tr}(o:T.ok Pk k)(hk:k<=k'):T.ok Pk k':=by
 have bm:∀{α:Type} {c:α->Nat} {σ:Nat->Option (Nat×α)} {hd:Int},X8 c σ hd k->X8 c σ hd k':=λ⟨zzQ,W,F,h3⟩=>⟨zzQ,W,F,fB h3 hk⟩;cases T with
 |b t=>have⟨d,W,F⟩:=o;exact⟨d,fB W hk,F⟩
 |a t=>exact⟨o.1,bm o.2⟩
 |m t=>have⟨W,F,hl,h3,h4,h5⟩:=o;exact⟨W,bm F,hl,h3,h4,U⟩
def h1.pk{T:Tr}{p h Y}(o:T.h1 p h Y):p.ok h Y:=by
 cases T with
 |b t=>exact BW.pk o
 |a t=>exact AW.pk o
 |m t=>exact MW.pk o
def h1.lt{T:Tr}{p h Y}(o:T.h1 p h Y){b}(D:T.own b):b<Y:=by
 cases T with
 |b t=>
  have o:BW t p h Y:=o;obtain e|e:=D
  .rw[e];exact o.tk.lt
  .exact o.tk.ok.dL e
 |a t=>exact AW.tk o|>.dL D
 |m t=>exact MW.tk o|>.dL D
def h1.np{T:Tr}{p}(o:T.h1 p h Y){b}(D:T.own b):b≠p.pb/\b≠p.gb/\b≠p.fb:=by
 cases T with
 |b t=>
  have o:BW t p h Y:=o;exact auJ
 |a t=>exact AW.sd o b D
 |m t=>
  have o:MW t p h Y:=o;exact auJ
def h1.tk{T:Tr}{p}(o:T.h1 p h Y)(G:T.sl s):p.fr.getD s R=R:=by
 cases T with
 |b t=>obtain⟨e,V,rfl⟩:=G;exact(BW.sp o).taken e V|>.2
 |a t=>obtain⟨e,V,rfl⟩:=G;exact(AW.sp o).taken e V|>.2
 |m t=>obtain⟨e,V,rfl⟩:=G;exact(MW.sp o).taken e V|>.2
def LO{a:Ar α}{p}(s:Sep a p)(W:p'.pb=p.pb)(F:p'.gb=p.gb)(h3:p'.fb=p.fb)(h4:O p'.fr=O p.fr)(h5:∀e∈a.es,p'.fr.getD e.X R=R):Sep a p':=
 ⟨s.pb.trans W.symm,by rw[W,F,h3];exact s.sa,by rw[W,F,h3];exact s.sm,by rw[W,F,h3];exact s.sc,λe V=>⟨by rw[h4];exact(s.taken e V).1,h5 e V⟩⟩
def h1.to{T:Tr}{p}(o:T.h1 p h Y)(k:∀b,T.own b->N Q b=N h b)(pk:p'.ok Q E)(W:p'.pb=p.pb)(F:p'.gb=p.gb)(h3:p'.fb=p.fb)(h4:O p'.fr=O p.fr)(h5:∀s,T.sl s->p'.fr.getD s R=R)(hn:Y<=E):T.h1 p' Q E:=by
 cases T with
 |b t=>have o:BW t p h Y:=o;exact(⟨⟨by rw[k _ (.inl Z)];exact o.tk.tr,o.tk.ok.jw (λb D=>k b (.inr D)) hn,o.tk.d1,o.tk.d2,o.tk.d3,aP o.tk.lt hn⟩,pk,LO o.sp W F h3 h4 λe V=>h5 _ ⟨e,V,Z⟩,by rw[W,F,h3];exact o.sd⟩:BW t p' Q E)
 |a t=>have o:AW t p h Y:=o;exact(⟨o.tk.aW k hn,pk,LO o.sp W F h3 h4 λe V=>h5 _ ⟨e,V,Z⟩,by rw[W,F,h3];exact o.sd⟩:AW t p' Q E)
 |m t=>have o:MW t p h Y:=o;exact(⟨o.tk.aW k hn,pk,LO o.sp W F h3 h4 λe V=>h5 _ ⟨e,V,Z⟩,by rw[W,F,h3];exact o.sd⟩:MW t p' Q E)
def h1.other{T:Tr}{p o2 l1 l2}(o:T.h1 p h Y)(S:eA Y o1 o2 l1 l2 p p' h Q)(W:∀b,T.own b->¬o1 b)(F:∀s,T.sl s->¬l1 s)(pk:p'.ok Q E)(hn:Y<=E):T.h1 p' Q E:=
 o.to (λb D=>S.aW b (o.lt D) (W b D) (o.np D).1 (o.np D).2.1 (o.np D).2.2) pk S.pb S.gb S.fb S.fl (λs G=>(S.fr s (o.tk G)).resolve_right (F s G)) hn
def h1.aW{T:Tr}{p}(o:T.h1 p h Y)(k:∀b,T.own b\/b=p.pb\/b=p.gb\/b=p.fb->N Q b=N h b)(hn:Y<=E):T.h1 p Q E:=
 o.to (λb D=>k b (.inl D)) (o.pk.jw (k _ (.inr (.inl Z))) (k _ (FF (.inl Z))) (k _ (Fe Z)) hn) Z Z Z Z (λs G=>o.tk G) hn
end Tr
def BI.ajw{σ}(I:BI Pk σ aO lo lv iL){k}:∀(d s g:Nat) (n:Nd),σ s=J (g,n)->lv s=d->SF lo s n k->∃s g n,σ s=J (g,n)/\n.ay=M/\SF lo s n k:=by
 intro d
 induction d with
 |zero=>exact λs g n G z A=>⟨s,g,n,G,(I.ay _ _ _ G).2 z,A⟩
 |succ d ih=>
  intro s g n G z A;have K:n.ay=R:=by
   cases K:n.ay with
   |false=>rfl
   |true=>have:=(I.ay _ _ _ G).1 K;omega
  have⟨m,W,F,h3⟩:=I.down G K A;exact ih _ _ _ W U h3
def BlR(Pk:aY->Prop)(t:Bl)(hx:List Pr):Prop:=∃lo lv s g n j,BI Pk (ct t.a.es) t.aO lo lv (λ_=>False)/\ct t.a.es s=J (g,n)/\n.ay=M/\SF lo s n []/\Ch (ct t.a.es) j n hx/\O hx<=4*(O t.a.es+1)/\MT Pk [] hx
def Ou.ex{t:Bl}(h:Ou Pk (ct t.a.es) t.aO d):∃hx,BlR Pk t hx:=by have⟨lo,lv,I,_⟩:=h;have⟨n0,r1,r2,r3⟩:=I.rt;have⟨s,g,n,W,F,h3⟩:=I.ajw (k:=[]) _ _ _ _ r1 Z ⟨by rw[r2];exact kF,gS.2 λh=>by rw[r3]at h;cases h⟩;have⟨j,hx,j1,j2,j3,j4⟩:=I.chain (O t.a.es) s g n W F (EZ _ _);exact⟨hx,lo,lv,s,g,n,j,I,W,F,h3,j2,U,⟨j4.kj,λk _=>kF,j4.pk⟩⟩
open Classical in
def Bl.all(Pk:aY->Prop)(t:Bl):List Pr:=if h:∃hx,BlR Pk t hx then Classical.choose h else[]
def Bl.Wz{t:Bl}(h:Ou Pk (ct t.a.es) t.aO d):BlR Pk t (t.all Pk):=by unfold Bl.all;rw[dif_pos h.ex];exact Classical.choose_spec h.ex
def BW.yG{t p}(o:BW t p h Y):O t.a.es<=4096:=by
 exact atA
def Tr.all(Pk:aY->Prop):Tr->List Pr
 | .b t=>t.all Pk
 | .a t=>t.all
 | .m t=>t.all
def Tr.Bg{Pk:aY->Prop}{T:Tr}{k p h Y}(o:T.h1 p h Y)(hk:T.ok Pk k):MT Pk [] (T.all Pk)/\O (T.all Pk)<=30000:=by
 cases T with
 |b t=>have o:BW t p h Y:=o;have⟨d,_,hT,_⟩:=hk;have⟨_,_,_,_,_,_,_,_,_,_,_,W,F⟩:=Bl.Wz hT;have:=o.yG;exact⟨F,by show O (t.all Pk)<=_;omega⟩
 |a t=>have o:AW t p h Y:=o;have⟨_,_,I⟩:=(show Ta Pk t from hk.1);have:=o.yG;have F:=I.Bg;exact⟨F.1,by show O t.all<=_;omega⟩
 |m t=>have o:MW t p h Y:=o;have⟨_,_,_,_,_,I⟩:=(show MOk Pk t from hk.1);have:=o.yG;have F:=MI.Bg o.tk.ok.ng I;exact⟨F.2.1,by show O t.all<=_;omega⟩
variable{f:FuncId}{key:aY}{name:String}{t:TypeId}
section
namespace Tr
def alC:Tr->FuncId
 |b _=>227
 |a _=>271
 |m _=>305
def alw:Tr->FuncId
 |b _=>222
 |a _=>266
 |m _=>300
def akD:Tr->FuncId
 |b _=>224
 |a _=>268
 |m _=>302
def amP:Tr->FuncId
 |b _=>220
 |a _=>264
 |m _=>298
end Tr
def inv_of{h args}{v:u}(hm:nj prog t name=J f)(D:JL prog xt f=M):mQ prog xt h name args (.lP t v)=J (.enter f (v::args)):=by unfold mQ;simp only[hm];exact zf D
variable{h:aE}{args:List u}{v:u}
def Tr.aj5(T:Tr):mQ prog xt h "Put" args (.lP T.ty v)=J (.enter T.alC (v::args)):=by cases T<;>exact inv_of aK aK
def Tr.alp(T:Tr):mQ prog xt h "Delete" args (.lP T.ty v)=J (.enter T.alw (v::args)):=by cases T<;>exact inv_of aK aK
def Tr.aiM(T:Tr):mQ prog xt h "Get" args (.lP T.ty v)=J (.enter T.akD (v::args)):=by cases T<;>exact inv_of aK aK
def Tr.aiG(T:Tr):mQ prog xt h "All" args (.lP T.ty v)=J (.enter T.amP (v::args)):=by cases T<;>exact inv_of aK aK
def kQ(Pk:aY->Prop)(k Y:Nat)(T:Tr)(p:bp)(h Q:aE)(E:Nat):Prop:=∃(T':Tr) (p':bp),T'.tb=T.tb/\T'.ty=T.ty/\T'.kind=T.kind/\T'.h1 p' Q E/\eA Y T.own T'.own T.sl T'.sl p p' h Q/\T'.ok Pk (k+1)/\p'.fr.count true+T'.len=p.fr.count true+T.len
def Tr.put(T:Tr){p h}(o:T.h1 p h Y)(hk:k<1000)(ok:T.ok Pk k)(v)(hp:Pk key)(K:O key<=24):
 UP T.alC [.ptr T.tb 0,cg key,cg v] h Y λw Q E=>(∃old nh e,w= .dY [cg old,bW nh,.g (.int .i64 e)])/\kQ Pk k Y T p h Q E:=by
 cases T with
 |b t=>have⟨d,z,hT,hc⟩:=ok;refine(api t p h Y o hT U (hc.acc (BW.tk o).ok.ng p) key v hp).mono _ ?_;rintro w Q E ⟨t',p',old,nh,e,rfl,zyQ,S,T2,A2⟩;have⟨c,A2⟩:=A2.bal zyQ.tk.ok.ng;exact⟨⟨_,_,_,Z⟩,.b t',p',S.tb,Z,Z,zyQ,S.p,⟨d+1,U,T2,A2⟩,c⟩
 |a t=>have⟨⟨pa,par,I⟩,hc⟩:=ok;refine(an8 t p h Y o I key v hp K (hc.acc (AW.tk o).ok.ng p) U).mono _ ?_;rintro w Q E ⟨hw,t',p',zyQ,nx',S,T2,A2⟩;have⟨c,A2⟩:=A2.bal zyQ.tk.ok.ng;exact⟨hw,.a t',p',nx'.tb,Z,Z,zyQ,S,⟨T2,A2⟩,c⟩
 |m t=>have⟨hT,hc,q⟩:=ok;refine(apk t p h Y o hT key v K hp ⟨hc.acc (MW.tk o).ok.ng p,q⟩ U).mono _ ?_;rintro w Q E ⟨hw,t',p',zyQ,S,T2,A2,q2⟩;have⟨c,A2⟩:=A2.bal zyQ.tk.ok.ng;exact⟨hw,.m t',p',S.tb,Z,Z,zyQ,S.p,⟨T2,A2,q2⟩,c⟩
def Tr.del(T:Tr){p h}(o:T.h1 p h Y)(hk:k<1000)(ok:T.ok Pk k)(K:O key<=24):
 UP T.alw [.ptr T.tb 0,cg key] h Y λw Q E=>(∃old nh,w= .dY [cg old,bW nh])/\kQ Pk k Y T p h Q E:=by
 cases T with
 |b t=>have⟨d,z,hT,hc⟩:=ok;refine(arx t p h Y o hT U (hc.acc (BW.tk o).ok.ng p) key).mono _ ?_;rintro w Q E ⟨t',old,nh,rfl,zyQ,S,T2,A2⟩;have⟨c,A2⟩:=A2.bal zyQ.tk.ok.ng;exact⟨⟨_,_,Z⟩,.b t',p,S.tb,Z,Z,zyQ,S.p,⟨d,U,T2,A2⟩,c⟩
 |a t=>have⟨⟨pa,par,I⟩,hc⟩:=ok;refine(apq t p h Y o I key K (hc.acc (AW.tk o).ok.ng p) U).mono _ ?_;rintro w Q E ⟨hw,t',p',zyQ,nx',S,T2,A2⟩;have⟨c,A2⟩:=A2.up.bal zyQ.tk.ok.ng;exact⟨hw,.a t',p',nx'.tb,Z,Z,zyQ,S,⟨T2,A2⟩,c⟩
 |m t=>have⟨hT,hc,q⟩:=ok;refine(aoD t p h Y o hT key U ⟨hc.acc (MW.tk o).ok.ng p,q⟩ U).mono _ ?_;rintro w Q E ⟨hw,t',zyQ,S,T2,A2⟩;have⟨A2,q2⟩:=xV.up A2;have⟨c,A2⟩:=A2.bal zyQ.tk.ok.ng;exact⟨hw,.m t',p,S.tb,Z,Z,zyQ,S.p,⟨T2,A2,q2⟩,c⟩
def Tr.get(T:Tr){p h}(o:T.h1 p h Y)(ok:T.ok Pk k)(K:O key<=24):
 UP T.akD [.ptr T.tb 0,cg key,.g .nilFunc] h Y λw Q E=>(∃old nh again,w= .dY [cg old,bW nh,bW again])/\Q=h/\E=Y:=by
 cases T with
 |b t=>have⟨d,z,hT,_⟩:=ok;exact anO t h Y (BW.tk o) hT key
 |a t=>have⟨⟨pa,par,I⟩,_⟩:=ok;exact aqs t h Y (AW.tk o) I key K
 |m t=>have⟨⟨_,_,_,_,_,I⟩,_⟩:=ok;exact aqA t h Y (MW.tk o) I key U
def Tr.ajn(T:Tr){p h}(o:T.h1 p h Y)(ok:T.ok Pk k):
 UP T.amP [.ptr T.tb 0] h Y (dG (yP (T.all Pk)) h Y):=by
 cases T with
 |b t=>have o:BW t p h Y:=o;have⟨d,_,hT,_⟩:=ok;have⟨lo,lv,s,g,n,j,I,W,F,h3,h4,h5,_⟩:=Bl.Wz hT;have:=o.yG;exact ak5 t h Y o.tk I W F h3 h4 (show O (t.all Pk)<60000 from U)
 |a t=>have⟨⟨_,_,I⟩,_⟩:=ok;exact aon t p h Y o I
 |m t=>have⟨⟨_,_,_,_,_,I⟩,_⟩:=ok;exact aqq t p h Y o I
end
variable{b:Nat}
def amv{ev ps}:gI prog ev 46 2 ps=ig 5 2 (gl (λi=>J (i*1,1)) ev ps [u8 0,u8 0]):=sX yz SK tz5 bS Z
def amm{ev ps}:gI prog ev 46 3 ps=ig 5 3 (gl (λi=>J (i*1,1)) ev ps [u8 0,u8 0,u8 0]):=sX yz SK tz5 bS Z
def aqg{ev ps}:gI prog ev 32 1 ps=ig 78 1 (gl (λi=>J (i*1,1)) ev ps [FE]):=sX ML Nc Wx bS Z
def Oz:dS prog 129=J [.int .u8 0,.int .i64 0,.int .u8 0,.string ⟨#[]⟩,.string ⟨#[]⟩,.string ⟨#[]⟩,.bool R,.bool R,.slice B 0 0,.int .i64 0,.bool R,.string ⟨#[]⟩,.string ⟨#[]⟩]:=aK
abbrev evZ:List u:=[u8 0,int 0,u8 0,cg [],cg [],cg [],bW R,bW R,.g (.slice B 0 0),int 0,bW R,cg [],cg []]
def ake{ev ps}:gI prog ev 33 1 ps=ig 129 1 (gl (λi=>J (i*13,13)) ev ps evZ):=sX aan Om Oz bS Z
def ai6{ev ps}:gI prog ev 33 2 ps=ig 129 2 (gl (λi=>J (i*13,13)) ev ps (evZ++evZ)):=sX aan Om Oz bS Z
section
variable{h:aE}{s x:u}
def apA:iJ prog h #[32,32] s x=vp h 78 1 (eD h 1 x) s:=w7 ML Nc adk Wx bS
def apz:iJ prog h #[33,33] s x=vp h 129 13 (eD h 13 x) s:=w7 aan Om ad8 Oz bS
end
def amK{o}:mH prog 212 (.ptr b o)=J (.val (.lP 212 (.ptr b o))):=by simp[mH]
def ai3{o}:mH prog 215 (.ptr b o)=J (.val (.lP 215 (.ptr b o))):=by simp[mH]
def ail{o}:mH prog 218 (.ptr b o)=J (.val (.lP 218 (.ptr b o))):=by simp[mH]
attribute[go_sem] amK ai3 ail amv amm aqg Oz ake ai6 apA apz
variable{hi F h3:aE}{c dR ib m nx3 q:Nat}
abbrev i6(e:Int):u:= .g (.int .i64 e)
def lrg(k v:aY):Bool:=decide (24<O k)||decide (32<O v)
def aa'(k v):bz 151 [cg k,cg v] (bW (lrg k v)):=by
 refine bz.ac 2 T0 func151 λh Y=>?_;unfold lrg;by_cases W:24<O k;.have ki:(24:Int)<(O k:Int):=U;refine Y8 f151.eq_1 ki ?_;exact .eE .refl .cP (by simp[W])
 .have ki:¬(24:Int)<(O k:Int):=U;by_cases F:32<O v;.have qK:(32:Int)<(O v:Int):=U;refine J7 f151.eq_1 ki qK ?_;exact .eE .refl .cP (by simp[W,F])
  .refine J7 f151.eq_1 ki (U:¬(32:Int)<(O v:Int)) ?_;exact .eE .refl .cP (by simp[W,F])
def VK(b)(e:Int):bz 150 [bW b,i6 e] (i6 (if b then e else 0)):=by refine bz.ac 2 T0 func150 λh Y=>?_;cases b<;>simp+decide-dsimp only[f150,go_sem]<;>exact .eE .refl .cP Z
structure LJ where
 kind:Nat
 key:aY
 val:aY
 old:aY
 nh:Bool
 after:Bool
 ws:u
abbrev LJ.cells(o:LJ):List u:=[u8 (o.kind:Nat),cg o.key,cg o.val,cg o.old,bW o.nh,bW o.after,o.ws]
abbrev LJ.av(o:LJ):u:= .agg o.cells
structure LJ.zxQ(o:LJ):Prop where
 k:o.kind=2\/o.kind=3\/o.kind=4
 c:o.ws.dh=M
 c2:o.ws.cells=J [o.ws]
def Em(o:LJ):Bool:=if o.kind=3 then lrg o.key []else lrg o.key o.val||(decide (o.kind=4)&&o.nh&&lrg [] o.old)
def arG(o:LJ)(zxQ:o.zxQ):bz 137 [o.av] (i6 (if Em o then 7 else 0)):=by
 refine bz.ac 1 T0 func137 λh Y=>?_;have⟨kind,key,val,old,nh,after,ws⟩:=o;have A:=zxQ.c;have hk:=zxQ.k;dsimp only at A hk;unfold Em;obtain rfl|rfl|rfl:=hk
 .refine Xf f137.eq_1 ?_;refine AJ (aa' key val) ?_;refine AJ (VK _ 7) ?_;exact .eE (gU) .cP bR
 .refine Xf f137.eq_1 ?_;refine AJ (aa' key []) ?_;refine AJ (VK _ 7) ?_;exact .eE (gU) .cP bR
 .refine Xf f137.eq_1 ?_;refine ba (aa' key val) ?_;cases K:lrg key val with
  |true=>refine QZ ?_;refine AJ (VK _ 7) ?_;exact .eE (gU) .cP bR
  |false=>
   cases nh with
   |false=>refine QZ ?_;refine AJ (VK _ 7) ?_;exact .eE (gU) .cP bR
   |true=>refine QZ ?_;refine AJ (aa' [] old) ?_;refine AJ (VK _ 7) ?_;exact .eE (gU) .cP bR
def KV{o}(h:Em o=R):O o.key<=24:=by
 unfold Em lrg at h;split at h;.have:=(mj.1 h).1;have:=rq this;omega
 .have:=(mj.1 (mj.1 h).1).1;have:=rq this;omega
abbrev ks3:List u:=[u8 2,u8 3,u8 4]
def aox(hk:k=2\/k=3\/k=4)(D:N h b=J (.cells ks3 5)):UP 149 [.sl b 0 3 3,u8 (k:Nat)] h Y (dG (int (k-2:Nat)) h Y):=by
 refine az.pc 2 T0 func149 ?_;refine Xf f149.eq_1 ?_;refine cI _ _ (λm s Q E=>∃i,i<=k-2/\m=k-2-i/\X s 0= .sl b 0 3 3/\X s 1=u8 (k:Nat)/\X s 7=int 3/\X s 8=int i/\Q=h/\Y<=E) (n:=k-2) ?_ ?_;.refine QZ ?_;exact⟨0,aQ _,Z,Z,Z⟩
 rintro m s Q E ⟨i,H,rfl,s0,s1,s7,s8,rfl,l1⟩;have A:(k=2/\i=0)\/(k=3/\i=0)\/(k=3/\i=1)\/(k=4/\i=0)\/(k=4/\i=1)\/(k=4/\i=2):=U;obtain⟨rfl,rfl⟩|⟨rfl,rfl⟩|⟨rfl,rfl⟩|⟨rfl,rfl⟩|⟨rfl,rfl⟩|⟨rfl,rfl⟩:=A
 all_goals simp+decide-dsimp only[go_sem,s0,s1,s7,s8,D,reduceAdd]
 .exact .eE .refl .cP Z
 .exact⟨0,bS,1,bS,Z,Z,U⟩
 .exact .eE .refl .cP Z
 .exact⟨1,bS,1,bS,Z,Z,U⟩
 .exact⟨0,bS,2,bS,Z,Z,U⟩
 .exact .eE .refl .cP Z
def ap8(hk:k=2\/k=3\/k=4)(D:N h b=J (.cells ks3 5)):UP 136 [.sl b 0 3 3,u8 (k:Nat)] h Y (dG (bW M) h Y):=by refine az.pc 2 T0 func136 ?_;refine Xf f136.eq_1 ?_;refine bc (aox hk D) ?_;have hg:(0:Int)<=((k-2:Nat):Int):=ji _;refine Xf hg ?_;exact .eE .refl .cP Z
abbrev D8(T:Tr)(k:Nat):List u:=[.lP T.ty (.ptr T.tb 0),u8 (k:Nat),.g (.int .u32 0),.g (.int .i32 0),.g (.int .u32 0),bW R]
def Rc(l):tF Y (yP l):=by exact jz.mem λy hy=>by have⟨x,_,L⟩:=cS.1 hy;exact H7 x y L
def a76(T k)(D:N h ib=J (.cells (D8 T k) 175)):UP 76 [.ptr ib 0] h Y (dG (bW R) h Y):=by refine az.pc 1 T0 func76 ?_;refine Y8 f76.eq_1 D ?_;exact .eE .refl .cP Z
def a74(T k)(D:N h ib=J (.cells (D8 T k) 175)):UP 74 [.ptr ib 0] h Y (dG (i6 0) h Y):=by refine az.pc 1 T0 func74 ?_;refine Xf f74.eq_1 ?_;refine bc (a76 T k D) ?_;refine Xf D ?_;exact .eE .refl .cP Z
def a36(T)(k:Nat)(D:N h ib=J (.cells (D8 T k) 175)):UP 36 [.ptr ib 0] h Y (dG (u8 (k:Nat)) h Y):=by refine az.pc 1 T0 func36 ?_;refine Xf f36.eq_1 ?_;refine bc (a76 T k D) ?_;refine Xf D ?_;exact .eE .refl .cP Z
def a34(T k)(D:N h ib=J (.cells (D8 T k) 175)){p}(o:T.h1 p h Y)(ok:T.ok Pk q):UP 34 [.ptr ib 0] h Y (dG (yP (T.all Pk)) h Y):=by refine az.pc 1 T0 func34 ?_;refine Xf f34.eq_1 ?_;refine bc (a74 T k D) ?_;simp+decide-dsimp only[go_sem,D,T.aiG];refine Av (T.ajn o ok) ?_;exact .eE .refl (.cw (Rc _)) Z
def kQ.wrap{T:Tr}{p}(o:T.h1 p h Y)(S:kQ Pk k m T p hi F dR)(G:aG Y h hi)(hm:Y<=m)(hk:∀c,c<Y\/(m<=c/\c<dR)->N h3 c=N F c)(hn:dR<=nx3):kQ Pk k Y T p h h3 nx3:=by
 have⟨T',p',e1,e2,e3,W',S',LX⟩:=S;have l1:=o.pk.tD;have l2:=o.pk.tJ;have l3:=o.pk.tM;refine⟨T',p',e1,e2,e3,W'.aW (λc A=>hk c ?_) hn,⟨S'.pb,S'.gb,S'.fb,S'.fl,S'.fr,λb D=>?_,S'.slt,λb D g1 g2 g3 g4=>?_⟩,LX⟩
 .obtain A|A|A|A:=A
  .obtain q|q:=S'.bl c A;.exact .inl (o.lt q)
   .exact .inr ⟨q,W'.lt A⟩
  .rw[S'.pb]at A;left;omega
  .rw[S'.gb]at A;left;omega
  .rw[S'.fb]at A;left;omega
 .obtain q|q:=S'.bl b D;.exact .inl q
  .exact .inr U
 .rw[hk b (.inl D),S'.aW b U g1 g2 g3 g4,G b D]
def kQ.at{T:Tr}{p}(o:T.h1 p h Y)(S:kQ Pk k m T p hi F dR)(W:Y<=c)(LC:c<m):N F c=N hi c:=by have⟨T',p',e1,e2,e3,W',S',LX⟩:=S;have l1:=o.pk.tD;have l2:=o.pk.tJ;have l3:=o.pk.tM;exact S'.aW c LC (λe=>by have:=o.lt e;omega) U U U
def kQ.none{T:Tr}{p}(o:T.h1 p h Y)(ok:T.ok Pk k)(G:aG Y h F)(hn:Y<=dR):kQ Pk k Y T p h F dR:=by
 have l1:=o.pk.tD;have l2:=o.pk.tJ;have l3:=o.pk.tM;refine⟨T,p,Z,Z,Z,o.aW (λc A=>G c ?_) hn,eA.same G,ok.mono (bG k),Z⟩;obtain A|A|A|A:=A
 .exact o.lt A
 .omega
 .omega
 .omega
def Tr.h1.same{T:Tr}{p}(o:T.h1 p h Y)(G:aG Y h Q)(hn:Y<=E):T.h1 p Q E:=by
 have l1:=o.pk.tD;have l2:=o.pk.tJ;have l3:=o.pk.tM;refine o.aW (λc A=>G c ?_) hn;obtain A|A|A|A:=A
 .exact o.lt A
 .omega
 .omega
 .omega
abbrev C3(code:Int)(found:Bool)(key val:aY):List u:=[i6 code,bW found,cg key,cg val]
def ana(T kd)(D:N h ib=J (.cells (D8 T kd) 175))(Yi:ib<Y){p}(o:T.h1 p h Y)(hk:k<1000)(ok:T.ok Pk k)(v)(hp:Pk key)(K:O key<=24):
 UP 118 [.ptr ib 0,cg key,cg v] h Y λw Q E=>(∃c f x y,w= .agg (C3 c f x y))/\kQ Pk k Y T p h Q E:=by
 refine az.ac 3 T0 func118 ?_;have d0:¬(ib=Y):=U;simp+decide-dsimp only[f118,go_sem,D,d0,T.aj5];have S0:∀o,aG Y h (aI h Y o):=λo=>aG.refl.set (an _);refine cm (T.put (o.same (S0 _) U) hk ok v hp K) λ_ W cC l1 ⟨⟨old,nh,e,e1⟩,S⟩=>?_;subst e1;have g0:=S.at o (an Y) (aZ Y);rw[Sr]at g0;by_cases V:e=0;.refine Y8 g0 V ?_;exact⟨⟨_,_,_,_,Z⟩,kQ.wrap o S (S0 _) (bG Y) (λc A=>Ce) (an _)⟩
 .refine Y8 g0 V ?_;exact⟨⟨_,_,_,_,Z⟩,kQ.wrap o S (S0 _) (bG Y) (λc A=>Ce) (an _)⟩
def aoB(T kd){kb}(D:N h ib=J (.cells (D8 T kd) 175))(Yi:ib<Y)(hkb:N h kb=J (.cells ks3 5))(xC:kb<Y)(q:LJ)(zxQ:q.zxQ):
 UP 117 [.ptr ib 0,q.av,.sl kb 0 3 3] h Y (dG (i6 (if Em q then 7 else 0)) h Y):=by
 refine az.pc 3 T0 func117 ?_;have d0:¬(ib=Y):=U;have d1:¬(kb=Y):=U;have A:=zxQ.c;have yL:∀o,N (aI h Y o) ib=J (.cells (D8 T kd) 175):=λo=>by rw[Xg d0];exact D
 have zS:∀o,N (aI h Y o) kb=J (.cells ks3 5):=λo=>by rw[Xg d1];exact hkb
 have e:q.av= .agg q.cells:=rfl;have⟨kind,key,val,old,nh,after,ws⟩:=q;refine Xf f117.eq_1 ?_;refine Av (a76 T kd (yL _)) ?_;refine Av (ap8 zxQ.k (zS _)) ?_;refine ba (arG ⟨kind,key,val,old,nh,after,ws⟩ zxQ) ?_;cases hr:Em ⟨kind,key,val,old,nh,after,ws⟩with
 |true=>refine QZ ?_;exact .eE (gU) .cP Z
 |false=>refine QZ ?_;refine Av (a74 T kd (yL _)) ?_;exact .eE (gU) .cP Z
def T93:=RB [(8,[MO z5 6,MO [7,8,9] 10,MO [] 11,RX]),(10,[MO z5 6,MO [7,8,9,10] 11,MO [] 12,MO [] 13,RX])]
def a93(T kd)(D:N h ib=J (.cells (D8 T kd) 175))(Yi:ib<Y){p}(o:T.h1 p h Y)(hk:k<1000)(ok:T.ok Pk k)(q:LJ)(zxQ:q.zxQ)(hp:Em q=R->Pk q.key):
 UP 93 [.ptr ib 0,q.av] h Y λw Q E=>(∃c f x y,w= .agg (C3 c f x y))/\kQ Pk k Y T p h Q E:=by
 refine az.ac 2 T93 func93 ?_;have d0:¬(ib=Y):=U;have d1:¬(ib=Y+1):=U;have A:=zxQ.c;have ais:=λ(h:aE) (Y kb:Nat) (D:N h ib=J (.cells (D8 T kd) 175)) (Yi:ib<Y) (hkb:N h kb=J (.cells ks3 5)) (xC:kb<Y)=>aoB T kd D Yi hkb xC q zxQ;have Bc:= @KV q;have sD:=zxQ.k;have⟨kind,key,val,old,nh,after,ws⟩:=q;dsimp only at Bc sD hp;refine Y8 f93.eq_1 (U:¬(Y=Y+1)) ?_;generalize hH:aI (aI (aI h Y _) (Y+1) _) (Y+1+1) _=hi;have S0:aG Y h hi:=hH▸gU
 have g0:=U9 hH (WV Tb)
 have g1:=U9 hH Tb
 have g2:=TZ hH
 have yL:=(S0 ib Yi).trans D
 refine bc (ais hi (Y+1+1+1) (Y+1+1) yL U g2 U) ?_;cases hr:Em ⟨kind,key,val,old,nh,after,ws⟩with
 |true=>refine Xf g1 ?_;exact⟨⟨_,_,_,_,Z⟩,kQ.none o ok (by(repeat' first|exact aG.refl|apply aG.fo|(apply aG.set;rotate_left;omega));exact S0) U⟩
 |false=>
 have K:O key<=24:=Bc hr;replace hp:=hp hr;have o3:=o.same S0 (U:Y<=Y+1+1+1);obtain rfl|rfl|rfl:=sD
 .refine Xf g0 ?_;refine cm (ana T kd yL U o3 hk ok val hp K) λ_ F dR l2 ⟨⟨c,f,x,y,e1⟩,S⟩=>?_;subst e1;have k1:=S.at o (U:Y<=Y+1) U;rw[g1]at k1;refine Xf k1 ?_;exact⟨⟨_,_,_,_,Z⟩,kQ.wrap o S S0 U (λc A=>Ce) (an _)⟩
 .simp+decide-dsimp only[go_sem,T93,g0,yL,T.alp];generalize hq:Y+1+1+1+Array.size _=nq;have qf:Y+3<=nq:=U;have o4:=o.same S0 (U:Y<=nq);refine cm (T.del o4 hk ok K) λ_ F dR l2 ⟨⟨x,f,e1⟩,S⟩=>?_;subst e1;have k1:=S.at o (U:Y<=Y+1) U;rw[g1]at k1;refine Xf k1 ?_;exact⟨⟨_,_,_,_,Z⟩,kQ.wrap o S S0 U (λc A=>Ce) U⟩
 .simp+decide-dsimp only[go_sem,T93,g0,yL,T.aiM];generalize hq:Y+1+1+1+Array.size _=nq;have qf:Y+3<=nq:=U;have o4:=o.same S0 (U:Y<=nq);refine cm (T.get o4 ok K) λ_ F dR l2 ⟨⟨ae4,Q5,again,e1⟩,e2,e3⟩=>?_;subst e1;replace e2:=e2.symm;replace e3:=e3.symm;subst e2;subst e3;have d3:¬(Y=Y+1):=U;have WK:(Q5=M/\nh=R)\/(Q5=R/\nh=M)\/(Q5=M/\nh=M/\ae4≠old)\/(Q5=M/\nh=M/\ae4=old)\/(Q5=R/\nh=R):=by by_cases hg:ae4=old<;>cases Q5<;>cases nh<;>simp[hg]
  obtain⟨rfl,rfl⟩|⟨rfl,rfl⟩|⟨rfl,rfl,hg⟩|⟨rfl,rfl,rfl⟩|⟨rfl,rfl⟩:=WK;.simp+decide-dsimp only[go_sem,g0,g1,Km,gL,iZ,reduceAdd];exact⟨⟨_,_,_,_,Z⟩,kQ.none o ok (by(repeat' first|exact aG.refl|apply aG.fo|(apply aG.set;rotate_left;omega));exact S0) U⟩
  .simp+decide-dsimp only[go_sem,g0,g1,Bool.false_beq,gL,iZ,reduceAdd];exact auw
  .simp+decide-dsimp only[go_sem,g0,g1,hg,Km,gL,iZ,reduceAdd];exact auw
  all_goals
   simp+decide-dsimp only[go_sem,g0,Km,Bool.false_beq,gL,iZ];refine cm (ana T kd yL U o4 hk ok val hp K) λ_ F dR l2 ⟨⟨c,f,x,y,e1⟩,S⟩=>?_;subst e1;have k1:=S.at o (U:Y<=Y+1) U;rw[g1]at k1;have d4:¬(Y+1=dR):=U;by_cases hcz:c=0;.simp+decide-dsimp only[go_sem,k1,hcz,d4,gL,reduceAdd];exact⟨⟨_,_,_,_,Z⟩,kQ.wrap o S S0 U (λc A=>by rw[Xg,Xg,Xg]) U⟩
   .simp+decide-dsimp only[go_sem,k1,hcz,d4,iZ,reduceAdd];exact⟨⟨_,_,_,_,Z⟩,kQ.wrap o S S0 U (λc A=>by rw[Xg,Xg,Xg]) U⟩
def a83(kd:Nat)(sD:kd=1\/kd=2\/kd=3)(p:bp)(h Y)(ug:p.ok h Y)(A:p.fr.count M≠0)(Pk:aY->Prop):
 UP 83 [u8 (kd:Nat),.ptr p.pb 0] h Y λw Q E=>∃T p' ib,w= .dY [.ptr ib 0,i6 0]/\N Q ib=J (.cells (D8 T kd) 175)/\Y<=ib/\ib<E/\¬T.own ib/\T.h1 p' Q E/\T.kind=kd/\T.ok Pk 0/\eA Y (λ_=>False) T.own (λ_=>False) T.sl p p' h Q/\p'.fr.count M+1=p.fr.count M/\T.len=1:=by
 refine az.ac 2 T0 func83 ?_;have l1:=ug.tD;have l2:=ug.tJ;have l3:=ug.tM;have fin:∀(T:Tr) (p':bp) (Q:aE) (E:Nat) (o:AO),Y<=E->T.h1 p' Q E->eA Y (λ_=>False) T.own (λ_=>False) T.sl p p' h Q->o= .cells (D8 T kd) 175->N (aI Q E o) E=J (.cells (D8 T kd) 175)/\¬T.own E/\T.h1 p' (aI Q E o) (E+1)/\eA Y (λ_=>False) T.own (λ_=>False) T.sl p p' h (aI Q E o):=by intro T p' Q E o hn zyQ S e;subst e;refine⟨iA,λD=>by have:=zyQ.lt D;omega,zyQ.same (aG.refl.set (an _)) (bG _),⟨S.pb,S.gb,S.fb,S.fl,S.fr,S.bl,S.slt,λb D g1 g2 g3 g4=>by rw[Xg];exact S.aW b D g1 g2 g3 g4⟩⟩
 obtain rfl|rfl|rfl:=sD;.refine Xf f83.eq_1 ?_;refine cm (apH p h Y ug A Pk) λ_ W cC Sv ⟨t,p',e1,zyQ,S,C,T,hc⟩=>?_;subst e1;refine QZ ?_;have⟨f1,f2,f3,f4⟩:=fin (.b t) p' W cC _ Sv zyQ S Z;have⟨c,hc⟩:=hc.bal zyQ.tk.ok.ng;exact⟨.b t,p',cC,Z,by rw[au Z];rfl,Sv,aZ _,f2,f3,Z,⟨0,an _,T,hc⟩,f4,C,by show O t.a.es=1;omega⟩
 .refine Xf f83.eq_1 ?_;refine cm (anv p h Y ug A Pk) λ_ W cC Sv ⟨t,p',e1,zyQ,S,C,T,hc⟩=>?_;subst e1;simp+decide-dsimp only[go_sem];have⟨f1,f2,f3,f4⟩:=fin (.a t) p' W cC _ Sv zyQ S Z;have⟨c,hc⟩:=hc.bal zyQ.tk.ok.ng;exact⟨.a t,p',cC,Z,by rw[au Z];rfl,Sv,aZ _,f2,f3,Z,⟨T,hc⟩,f4,C,by show O t.a.es=1;omega⟩
 .refine Xf f83.eq_1 ?_;refine cm (aqV p h Y ug A) λ_ W cC Sv ⟨t,p',e1,zyQ,S,C,e2,z1,z2⟩=>?_;subst e1;refine QZ ?_;have⟨f1,f2,f3,f4⟩:=fin (.m t) p' W cC _ Sv zyQ S Z;have T:MOk Pk t:=⟨_,_,_,_,_,by rw[e2];exact MI.new Pk t.aO⟩;have one:∀c:Mn->Nat,Sz c (ct t.a.es) (c jH):=λc=>by rw[e2];exact Sz.up (aw:=0) (Sz.Cb (es:=[]) .nil) (by rw[jc rfl];exact kV _ _)
  have tl:t.a.es.length=1:=by have:=(one λ_=>1).uniq (Sz.Cb zyQ.tk.ok.ng);rw[HB]at this;exact this.symm
  exact⟨.m t,p',cC,Z,by rw[au Z];rfl,Sv,aZ _,f2,f3,Z,⟨T,⟨0,one _,z1,an _⟩,0,one _,z2,an _⟩,f4,C,tl⟩
structure Pt where
 xb:Nat
 ib:Nat
 lo:aY
 H:aY
 last:Bool
 kd:Nat
 w:Nat
 rd:Int
 wr:Int
 T:Tr
abbrev Pt.cells(x:Pt):List u:=[cg x.lo,cg x.H,bW x.last,.ptr x.ib 0,u64 (x.w:Nat),.g .nilFunc,i6 x.rd,i6 x.wr]
def Pt.has(x:Pt)(k:aY):Bool:= !decide (k<x.lo)&&(x.last||decide (k<x.H))
def Pt.pk(x:Pt)(k:aY):Prop:=x.has k=M/\O k<=24
section
variable(x:Pt){h:aE}{Y:Nat}(L:N h x.xb=J (.cells x.cells 160))
include L
theorem a73:UP 73 [.ptr x.xb 0] h Y (dG (bW R) h Y):=by refine az.pc 1 T0 func73 ?_;refine Y8 f73.eq_1 L ?_;exact .eE .refl .cP Z
theorem a51:UP 51 [.ptr x.xb 0] h Y (dG (.ptr x.xb 4) h Y):=by refine az.ac 1 T0 func51 ?_;refine Xf f51.eq_1 ?_;refine Av (a73 x L) ?_;exact⟨Z,Z,Z⟩
theorem a33:UP 33 [.ptr x.xb 0] h Y (dG (.ptr x.ib 0) h Y):=by refine az.ac 1 T0 func33 ?_;refine Xf f33.eq_1 ?_;refine bc (a73 x L) ?_;refine Xf L ?_;exact⟨Z,Z,Z⟩
theorem a67(k):UP 67 [.ptr x.xb 0,cg k] h Y (dG (bW (x.has k)) h Y):=by
 refine az.pc 2 T0 func67 ?_;refine Xf f67.eq_1 ?_;refine bc (a73 x L) ?_;refine Xf L ?_;refine AJ (XV x.lo k) ?_;unfold Pt.has;by_cases W:k<x.lo;.have ki:=aN W;refine Xf ki ?_;exact .eE .refl .cP Z
 .have ki:=aU W;cases K:x.last with
  |true=>refine J7 L ki K ?_;exact .eE .refl .cP Z
  |false=>refine J7 L ki K ?_;refine ba (XV k x.H) ?_;refine Xf ki ?_;exact .eE .refl .cP Z
theorem a92(k):UP 92 [.ptr x.xb 0,cg k] h Y (dG (bW (decide (O k<=24)&& !x.has k)) h Y):=by
 refine az.pc 2 T0 func92 ?_;by_cases W:O k<=24;.have ki:(O k:Int)<=24:=U;have F:=aN W;refine Y8 f92.eq_1 ki ?_;refine Av (a67 x L k) ?_;exact .eE .refl .cP (by rw[F];rfl)
 .have F:=aU W;refine Y8 f92.eq_1 (U:¬(O k:Int)<=24) ?_;exact .eE .refl .cP (by rw[F];rfl)
end
def T53:=RB [(6,[([0,1,2,3,4,6],[3,4],J 5),([],[6],J 7),RX]),(12,[MO z4 5,RX])]
set_option maxHeartbeats 1000000 in
def a53(x:Pt)(L:N h x.xb=J (.cells x.cells 160))(Yx:x.xb<Y)(H:N h x.ib=J (.cells (D8 x.T x.kd) 175))(uk:x.ib<Y)(cD:x.ib≠x.xb){p}(o:x.T.h1 p h Y)(oO:¬x.T.own x.xb)(hnp:x.xb≠p.pb/\x.xb≠p.gb/\x.xb≠p.fb)(hk:k<1000)(ok:x.T.ok x.pk k)(q:LJ)(zxQ:q.zxQ):
 UP 53 [.ptr x.xb 0,q.av] h Y λw Q E=>(∃c f a b,w= .agg (C3 c f a b))/\∃wr,kQ x.pk k Y x.T p (aI h x.xb (.cells ({x with wr:=wr}:Pt).cells 160)) Q E:=by
 refine az.ac 2 T53 func53 ?_;have d0:¬(x.xb=Y):=U;have d1:¬(x.xb=Y+1):=U;have d2:¬(Y=Y+1):=U;have d3:¬(Y=x.xb):=U;have d4:¬(Y+1=x.xb):=U;have A:=zxQ.c;have⟨kind,key,val,old,nh,after,ws⟩:=q;have SM:∀o1 o2,N (aI (aI h Y o1) (Y+1) o2) x.xb=J (.cells x.cells 160):=λo1 o2=>by rw[Xg d1,Xg d0];exact L
 refine Xf f53.eq_1 ?_;refine bc (a73 x (SM _ _)) ?_;refine PV L d0 d1 d2 d3 ?_;generalize hA:aI (aI (aI h Y _) (Y+1) _) x.xb _=hc;obtain⟨wr,hwr⟩:∃wr,wr=cO .i64 (x.wr+1):=⟨_,Z⟩;rw[<-hwr]at hA;generalize hS:aI h x.xb (.cells ({x with wr:=wr}:Pt).cells 160)=S;have SA:aG Y S hc:=λc A=>by
  have e1:¬c=Y:=U;have e2:¬c=Y+1:=U;rw[<-hS,<-hA];by_cases e:c=x.xb;.simp only[aj,au e]
  .simp only[aj,ak e,ak e1,ak e2]
 have a0:=U9 hA (WV Tb d2) d3
 have a1:=U9 hA Tb d4
 have a2:=TZ hA
 have a3:=U9 hA (WV (WV H)) cD
 have oS:x.T.h1 p S Y:=o.aW (λc A=>by
  rw[<-hS,aj,ak];obtain A|A|A|A:=A
  .exact λe=>oO (e▸A)
  .exact λe=>hnp.1 (e.symm.trans A)
  .exact λe=>hnp.2.1 (e.symm.trans A)
  .exact λe=>hnp.2.2 (e.symm.trans A)) (an _)
 have oA:x.T.h1 p hc (Y+1+1):=oS.same SA U;refine bc (a92 {x with wr:=wr} a2 key) ?_;have fin:∀Q E,aG Y S Q->Y<=E->∃wr,kQ x.pk k Y x.T p (aI h x.xb (.cells ({x with wr:=wr}:Pt).cells 160)) Q E:=λQ E G hn=>⟨wr,by rw[hS];exact kQ.none oS ok G hn⟩;have aiE:∀y,({x with wr:=wr}:Pt).has y=x.has y:=λy=>rfl;by_cases aam:O key<=24/\x.has key=R
 .have ho:(decide (O key<=24)&& !({x with wr:=wr}:Pt).has key)=M:=by rw[aiE,aN aam.1,aam.2];rfl
  rw[ho];refine Xf a1 ?_;exact⟨⟨_,_,_,_,Z⟩,fin _ _ (by(repeat' first|exact aG.refl|apply aG.fo|(apply aG.set;rotate_left;omega));exact SA) U⟩
 .have ho:(decide (O key<=24)&& !({x with wr:=wr}:Pt).has key)=R:=by
   rw[aiE];by_cases W:O key<=24
   .cases F:x.has key with
    |true=>simp
    |false=>exact absurd ⟨W,F⟩ aam
   .simp[W]
  rw[ho];have d5:¬(x.xb=Y+1+1+6):=U;have d7:¬(Y+1=Y+1+1+6):=U;refine PV T53.eq_1 a0 a2 d5 (U:¬(Y=Y+1+1+6)) ?_;generalize hq:Y+1+1+Array.size _=nq;have qf:Y+1+1+7<=nq:=hq▸(iR bS _)
  generalize hB:aI hc (Y+1+1+6) _=zyQ;have SB:aG (Y+2) hc zyQ:=hB▸(aG.refl.set U)
  have b0:=(SB _ U).trans a0
  have b1:=(SB _ U).trans a1
  have b2:=(SB _ U).trans a2
  have b3:=(SB _ U).trans a3
  have b4:=TZ hB
  have SB2:aG Y S zyQ:=λc A=>by rw[SB c U];exact SA c A
  have oB:x.T.h1 p zyQ nq:=oS.same SB2 U;refine cm (a93 x.T x.kd b3 U oB hk ok ⟨kind,key,val,old,nh,after,ws⟩ zxQ (λhr=>by
   have K:=KV hr;cases F:x.has key with
   |true=>exact⟨F,K⟩
   |false=>exact absurd ⟨K,F⟩ aam)) λ_ F dR l2 ⟨⟨c,f,AV,y,e1⟩,TS⟩=>?_
  subst e1;have k0:=TS.at oS (an Y) U;rw[b0]at k0;have k1:=TS.at oS (U:Y<=Y+1) U;rw[b1]at k1;have k4:=TS.at oS (U:Y<=Y+1+1+6) U;rw[b4]at k4;have k2:N F x.xb=J (.cells ({x with wr:=wr}:Pt).cells 160):=by have⟨_,_,_,_,_,_,S',_⟩:=TS;rw[S'.aW x.xb U oO hnp.1 hnp.2.1 hnp.2.2];exact b2
  have d8:¬(Y+1+1+6=Y+1):=U;by_cases hcz:c=0
  .by_cases zS:kind=2;.refine Ik k0 k1 k2 k4 d5 d7 hcz zS ?_;exact⟨⟨_,_,_,_,Z⟩,wr,by rw[hS];exact kQ.wrap oS TS SB2 U (λc A=>by rw[Xg,Xg]) U⟩
   .have akq:¬(((kind:Nat):Int)=2):=U;cases f;.refine RC k0 k1 k4 d7 hcz akq ?_;exact⟨⟨_,_,_,_,Z⟩,wr,by rw[hS];exact kQ.wrap oS TS SB2 U (λc A=>by rw[Xg,Xg]) U⟩
    .refine Ik k0 k1 k2 k4 d5 d7 hcz akq ?_;exact avq
  .refine L6 k1 k4 d7 hcz ?_;exact avq
variable{hl:u->aE->Nat->Prop}{args:List u}
theorem pP{r h Y}(A:UP f args h Y (dG r F Y)){k:Kp hl}(hk:hl r F Y):Dw prog f args h Y hl k:=
 A.mono _ λ_ _ _ ⟨a,b,c⟩=>by subst a;subst b;subst c;exact hk
theorem DS{f args r h F Y}(A:UP f args h Y (dG r F Y)){hl:u->aE->Nat->Prop}{k:Kp hl}{q:Prop}(hk:q)(e:hl r F Y=q:=by simp+decide-dsimp only[go_sem,Nat.reduceAdd,Nat.reduceMul];exact Z):Dw prog f args h Y hl k:=pP A (e▸hk)
theorem ab8(n)(h:n<1000):(4*n)&&&3=0/\(4*n)|||1=4*n+1/\(4*n+1)&&&1=1/\(4*n+1)&&&2=0:=by
 have a3:∀x:Nat,x&&&3=x%4:=λx=>ur x 2;have a1:∀x:Nat,x&&&1=x%2:=λx=>Nat.and_one_is_mod x;refine⟨by rw[a3];omega,?_,by rw[a1];omega,?_⟩;.have:=Nat.two_pow_add_eq_or_of_lt (i:=2) (b:=1) bS n;rw[show 2^2*n+1=4*n+1 from Z]at this;exact this.symm
 .have:=Nat.two_pow_add_eq_or_of_lt (i:=2) (b:=1) bS n;rw[show 2^2*n+1=4*n+1 from Z]at this;rw[this,Nat.and_or_distrib_right];have b1:(1&&&2:Nat)=0:=rfl;have b2:2^2*n&&&2=0:=by
   have:2^2*n&&&2=(2^2*n&&&3)&&&2:=by rw[Nat.and_assoc,show(3&&&2:Nat)=2 from Z]
   rw[this,a3,show 2^2*n%4=0 from U];rfl
  rw[b1,b2];rfl
section
variable(x:Pt){h:aE}{Y:Nat}(L:N h x.xb=J (.cells x.cells 160))
theorem aka(L:N h x.xb=J (.cells x.cells 160)):dW h (.load (.int .u64)) [.ptr x.xb 4]=J (.val (u64 (x.w:Nat)) h):=by
 have:dt h x.xb 4 1=J [u64 (x.w:Nat)]:=by unfold dt;rw[L];rfl
 show yU h (.int .u64) x.xb 4=_;unfold yU;rw[this];rfl
theorem al2(L:N h x.xb=J (.cells x.cells 160)):dW h (.cas (.int .u64)) [.ptr x.xb 4,u64 (x.w:Nat),u64 (b:Nat)]=J (.val (bW M) (aI h x.xb (.cells ({x with w:=b}:Pt).cells 160))):=by
 have W:dt h x.xb 4 1=J [u64 (x.w:Nat)]:=by unfold dt;rw[L];rfl
 have F:fL h x.xb 4 [u64 (b:Nat)]=J (aI h x.xb (.cells ({x with w:=b}:Pt).cells 160)):=by unfold fL;rw[L];rfl
 have e:dW h (.cas (.int .u64)) [.ptr x.xb 4,u64 (x.w:Nat),u64 (b:Nat)]=MX h (.int .u64) x.xb 4 (u64 (x.w:Nat)) (u64 (b:Nat)):=by unfold dW;rfl
 rw[e];unfold MX;rw[W];simp only[eX,J5];rw[F];simp
include L
theorem ao':UP 106 [.ptr x.xb 4] h Y (dG (u64 (x.w:Nat)) h Y):=by refine az.ac 1 T0 func106 (Y8 f106.eq_1 (aka x L) ?_);exact⟨Z,Z,Z⟩
theorem a63:UP 63 [.ptr x.xb 4] h Y (dG (u64 (x.w:Nat)) h Y):=by refine az.ac 1 T0 func63 (Xf f63.eq_1 ?_);refine Av (ao' x L) ?_;exact⟨Z,Z,Z⟩
theorem arh:UP 116 [.ptr x.xb 4,u64 (x.w:Nat),u64 (b:Nat)] h Y (dG (bW M) (aI h x.xb (.cells ({x with w:=b}:Pt).cells 160)) Y):=by refine az.ac 3 T0 func116 ?_;simp+decide-dsimp only[f116,go_sem,al2 x L];exact⟨Z,Z,Z⟩
theorem a91:UP 91 [.ptr x.xb 4,u64 (x.w:Nat),u64 (b:Nat)] h Y (dG (bW M) (aI h x.xb (.cells ({x with w:=b}:Pt).cells 160)) Y):=by refine az.ac 3 T0 func91 (Xf f91.eq_1 ?_);refine DS (arh x L) ?_;exact⟨Z,Z,Z⟩
end
section
variable{n:Nat}(hn:n<1000)
include hn
theorem aqc:bz 115 [u64 (4*n:Nat)] (bW M):=by
 refine bz.ac 1 T0 func115 λh Y=>?_;have e:∀{h t x y},dE prog h .and t x y (u64 (4*n:Nat)) (u64 3)=J (u64 0):=λ{h t x y}=>by have:=xa (h:=h) (P:=prog) (t:=t) (x:=x) (y:=y) (a:=4*n) (b:=3) U bS;rw[(ab8 n hn).1]at this;exact this
 refine Y8 f115.eq_1 @e ?_;exact .eE .refl .cP Z
theorem a90:bz 90 [u64 (4*n:Nat)] (.dY [u64 (4*n+1:Nat),bW M]):=by
 refine bz.ac 1 T0 func90 λh Y=>?_;have e:∀{h t x y},dE prog h .or t x y (u64 (4*n:Nat)) (u64 1)=J (u64 (4*n+1:Nat)):=λ{h t x y}=>((ab8 n hn).2.1)▸(H8 (h:=h) (P:=prog) (t:=t) (x:=x) (y:=y) (a:=4*n) (b:=1) U bS)
 refine Xf f90.eq_1 ?_;refine ba (aqc hn) (Xf @e ?_);exact .eE .refl (.mC .cP .cP) Z
theorem a64:bz 64 [u64 (4*n+1:Nat)] (bW M):=by
 refine bz.ac 1 T0 func64 λh Y=>?_;have e:∀{h t x y},dE prog h .and t x y (u64 (4*n+1:Nat)) (u64 1)=J (u64 1):=λ{h t x y}=>by have:=xa (h:=h) (P:=prog) (t:=t) (x:=x) (y:=y) (a:=4*n+1) (b:=1) U bS;rw[(ab8 n hn).2.2.1]at this;exact this
 refine Y8 f64.eq_1 @e ?_;exact .eE .refl .cP Z
theorem a65:bz 65 [u64 (4*n+1:Nat)] (bW R):=by
 refine bz.ac 1 T0 func65 λh Y=>?_;have e:∀{h t x y},dE prog h .and t x y (u64 (4*n+1:Nat)) (u64 2)=J (u64 0):=λ{h t x y}=>by have:=xa (h:=h) (P:=prog) (t:=t) (x:=x) (y:=y) (a:=4*n+1) (b:=2) U bS;rw[(ab8 n hn).2.2.2]at this;exact this
 refine Y8 f65.eq_1 @e ?_;exact .eE .refl .cP Z
theorem a95:bz 95 [u64 (4*n+1:Nat)] (u64 (4*(n+1):Nat)):=by
 refine bz.ac 1 T0 func95 λh Y=>?_;refine Xf f95.eq_1 ?_;refine AJ (a64 hn) ?_;refine .eE .refl .cP ?_;have e1:cO .u64 (((4*n+1:Nat):Int)-1)=((4*n:Nat):Int):=by rw[mL U U];omega
 have e2:cO .u64 (((4*n:Nat):Int)+4)=((4*(n+1):Nat):Int):=by rw[mL U U];omega
 rw[e1,e2]
variable(x:Pt)(hw:x.w=4*n)(Lw:x.w=4*n+1){h:aE}{Y:Nat}(L:N h x.xb=J (.cells x.cells 160))
include L
include hw in
theorem a52:UP 52 [.ptr x.xb 4] h Y (dG (.dY [u64 (4*n:Nat),bW M]) (aI h x.xb (.cells ({x with w:=4*n+1}:Pt).cells 160)) Y):=by
 refine az.ac 1 T0 func52 (Xf f52.eq_1 ?_);refine cI _ _ (λm s Q E=>X s 0= .ptr x.xb 4/\Q=h/\E=Y) (n:=0) ?_ ?_;.exact VU
 rintro m s Q E ⟨s0,rfl,rfl⟩;have c1:=a63 x (Y:=E) L;have c2:=a91 x (Y:=E) (b:=4*n+1) L;rw[hw]at c1 c2;refine Xf s0 ?_;refine Av c1 (ba (a90 hn) ?_);refine Xf s0 ?_;refine DS c2 ?_;exact⟨Z,Z,Z⟩
include Lw in
theorem a94:UP 94 [.ptr x.xb 4,.fn 95 []] h Y (dG (bW M) (aI h x.xb (.cells ({x with w:=4*(n+1)}:Pt).cells 160)) Y):=by
 refine az.ac 2 T0 func94 (Xf f94.eq_1 ?_);refine cI _ _ (λm s Q E=>X s 0= .ptr x.xb 4/\X s 1= .fn 95 []/\Q=h/\E=Y) (n:=0) ?_ ?_;.exact VU
 rintro m s Q E ⟨s0,s1,rfl,rfl⟩;have c1:=a63 x (Y:=E) L;have c2:=a91 x (Y:=E) (b:=4*(n+1)) L;rw[Lw]at c1 c2;refine Xf s0 ?_;refine Av c1 ?_;refine AJ (a64 hn) ?_;refine ba (a65 hn) (Y8 s0 s1 ?_);refine AJ (a95 hn) ?_;refine DS c2 ?_;exact⟨Z,Z,Z⟩
include Lw in
theorem a55:UP 55 [.ptr x.xb 4] h Y (dG (bW M) (aI h x.xb (.cells ({x with w:=4*(n+1)}:Pt).cells 160)) Y):=by refine az.ac 1 T0 func55 (Xf f55.eq_1 ?_);refine DS (a94 hn x Lw L) ?_;exact⟨Z,Z,Z⟩
end
variable{H':aE}
section
variable{α:Type}{c:α->List u}{e sz:Nat}{h:aE}{v:u}{l:List α}
def Own.apps(o:Own c e sz h v l)(hz:∀x,O (c x)=sz)(A:∀x,(c x).all u.dh=M)(k:List α)(hk:(O k==0)=R)(K:O l+O k<65536):
 (∃Q v',qV h e sz (O k) (k.flatMap c) v=J (.val v' Q)/\Own c e sz Q v' (l++k)/\cu v'=cu v/\(∀b,cu v≠J b->N Q b=N h b))\/
 (qV h e sz (O k) (k.flatMap c) v=J (.rf (.fM (l.flatMap c++k.flatMap c) e sz) (O l+O k) h)):=by
 have xC:=cj hz k;have lX:(k.flatMap c).all u.dh=M:=by rw[fU];intro a ha;have⟨x,_,L⟩:=cS.1 ha;exact fU.1 (A x) a L
 obtain⟨rfl,rfl⟩|⟨b,cap,hc,rfl,hA,W,F,h3⟩:=o;.right;rw[Dp hk];simp
 .have h5:=aM sz W;by_cases hr:O l+O k<=cap
  .left;have h6:=aM sz hr;rw[bC]at h6;have hp:=cG (O l*sz) hc (k.flatMap c) (by rw[xC,F];omega);refine⟨aI h b (.cells (hc.take (O l*sz)++k.flatMap c++hc.drop (O l*sz+O (k.flatMap c))) e),.sl b 0 (O l+O k) cap,by rw[Ay hk hr lX,fC,zH,hA,w9,hp];rfl,?_,Z,λb' iQ=>?_⟩
   .refine .inr ⟨b,cap,_,by rw[aq],iA,by rw[aq];exact hr,?_,?_⟩;.simp only[aq,ax,aC,xC,F];omega
    .rw[bL,aq,bC,<-h3];rw[show O l*sz+O k*sz=(hc.take (O l*sz)++k.flatMap c).length from by rw[aq,ax,xC,F];omega,vE Z]
   .rw[Xg (λe=>iQ (by rw[e];rfl))]
  .right;rw[Ap hk hr K,cL,hA,cV,iq,aT,bZ _ _ (F▸h5),h3];rfl
end
def kB{α:Type}{c:α->List u}{e sz v}{l:List α}(o:Own c e sz hi v l)(hz:∀x,O (c x)=sz)(A:∀x,(c x).all u.dh=M)(k:List α)(K:O l+O k<65536)
 {d op ty po af g} {hl:BT u->aE->Nat->Prop} {s:BT u}   {kk}
 (hk:∀v' Q E,Y<=E->Own c e sz Q v' (l++k)->(∀b,cu v'=J b->cu v=J b\/(Y<=b/\b<E))->(∀b,b<Y->cu v≠J b->N Q b=N hi b)->hl (sset s d v') Q E):
 EW prog (qV hi e sz (O k) (k.flatMap c) v) ⟨⟨J d,op,ty,po,af,g⟩,hl,s,H',Y⟩ kk:=by
 by_cases h0:O k=0
 .have:k=[]:=uV h0;subst this;have e1:qV hi e sz 0 ([]:List u) v=J (.val v hi):=by
   rw[L3];obtain⟨rfl,rfl⟩|⟨b,cap,hc,rfl,hA,W,F,h3⟩:=o
   .rfl
   .exact GA W
  show EW prog (qV hi e sz 0 ([]:List u) v) _ _;rw[e1];exact hk v hi Y (an _) (by rw[cy];exact o) (λb D=> .inl D) (λb _ _=>rfl)
 .rcases o.apps hz A k (Mf h0) K with⟨Q,v',e1,e2,e3,e4⟩|e1;.rw[e1];exact hk v' Q Y (an _) e2 (λb D=> .inl (by rw[<-e3];exact D)) (λb _ D=>e4 b D)
  .rw[e1,HK];refine pO λcap gs W F=>?_;have cf:O (l++k)=O l+O k:=bR;have hfm:(l++k).flatMap c=l.flatMap c++k.flatMap c:=bR;exact auo
variable{aw:Nat}
abbrev Pq(aw:Nat):=Option (_root_.Fin aw)
def cq{aw:Nat}:Pq aw->List u
 |none=>[.g (.pointer B)]
 |some b=>[.ptr b.1 0]
abbrev LD{aw:Nat}(l:List (Pq aw)):u:=Lk cq l
def uK(x:Pq aw):O (cq x)=1:=by cases x<;>rfl
def NI(x:Pq aw):(cq x).all u.dh=M:=by cases x<;>rfl
def aiK(l:List (Pq aw)):O (l.flatMap cq)=O l*1:=cj uK l
attribute[go_sem] aiK
def Wh(hN:aw<=Y)(x:Pq aw):∀y∈cq x,tF Y y:=λy hy=>by
 cases x with
 |none=>rw[aV.1 hy];trivial
 |some b=>rw[aV.1 hy];show b.1<Y;omega
def Oo(hN:aw<=Y)(l:List (Pq aw)):tF Y (LD l):=by exact jz.mem λy hy=>by have⟨x,_,L⟩:=cS.1 hy;exact Wh hN x y L
def WJ{e}:abe (J (.slice e)) (FB)=J (.val (int 0)):=aK
def ako:fW prog 45 (FB) B (J (int 0))=J (FB):=aK
def anj:fW prog 32 (FB) B (J (int 0))=J (FB):=aK
section
variable{h:aE}{b off len cap n:Nat}{cs:List u}{lo H:Option u}{v s x:u}{m:Int}
def arq:fW prog 32 (.sl b off len cap) lo H=ub 1 b off len cap lo H:=asl ML Nc
def anA:fW prog 32 (.fz len cs) lo H=xI 1 len cs lo H:=asf ML Nc
def aqe:iJ prog h #[32,3] s (int n)=vp h 78 1 (J (n,gT n [FE])) s:=by exact CI ML Nc adk Wx bS Fy
end
attribute[go_sem] WJ ako anj arq anA aqe
def aoP(n:Nat)(hn:n<60000)(h Y):UP 113 [FB,int n] h Y λv Q E=>aG Y h Q/\In Y E v/\Own gv 9 1 Q v []:=by
 refine az.ac 2 T0 func113 ?_;have c1:cO .i64 ((n:Int)-0)=(n:Int):=qI;have c3:cO .i64 ((0:Int)-((0:Nat):Int))=0:=by rw[wrap_i64 U U];rfl
 by_cases hz:n=0;.subst hz;refine Xf f113.eq_1 ?_;exact⟨.refl,.nil,.inl ⟨Z,Z⟩⟩
 .have hz':(n==0)=R:=Mf hz
  have K:O (gT n [cg []])=n:=by
   have:∀m,O (gT m [cg []]:List u)=m:=λm=>by
    induction m with
    |zero=>rfl
    |succ m ih=>show O ([cg []]++gT m [cg []]:List u)=m+1;rw[aq,ih];show 1+m=_;omega
   exact this n
  refine Ik f113.eq_1 (U:¬((n:Int)<0)) c1 (U:(0:Int)<(n:Int)) c3 hz' (U:n<65536) K ?_;exact atU
def ao6(c:α->List u)(n:Nat)(hn:n<60000)(h Y):UP 114 [FB,int n] h Y λv Q E=>aG Y h Q/\In Y E v/\Own c 78 1 Q v []:=by
 refine az.ac 2 T0 func114 ?_;have c1:cO .i64 ((n:Int)-0)=(n:Int):=qI;have c3:cO .i64 ((0:Int)-((0:Nat):Int))=0:=by rw[wrap_i64 U U];rfl
 by_cases hz:n=0;.subst hz;refine Xf f114.eq_1 ?_;exact⟨.refl,.nil,.inl ⟨rfl,rfl⟩⟩
 .have c2:(0:Int)<(n:Int):=U;have hz':(n==0)=false:=Mf hz
  have K:(gT n [u.g (.pointer none)]).length=n:=by
   have:∀m,(gT m [u.g (.pointer none)]:List u).length=m:=λm=>by
    induction m with
    |zero=>rfl
    |succ m ih=>show O ([.g (.pointer B)]++gT m [u.g (.pointer B)]:List u)=m+1;rw[aq,ih];show 1+m=_;omega
   exact this n
  refine Ik f114.eq_1 (U:¬((n:Int)<0)) c1 (U:(0:Int)<(n:Int)) c3 hz' (U:n<65536) K ?_;exact atU
variable{hc:List u}{cap sb:Nat}
def a86(l1 l2 l3:List aY)(K:O l1+O l2+O l3<60000)(D:N h sb=J (.cells [strs l1,strs l2,strs l3] 45))(hsb:sb<Y):
 UP 86 [.sl sb 0 3 3] h Y (dG (strs (l1++l2++l3)) h Y):=by
 refine az.pc 1 T0 func86 ?_;refine Xf f86.eq_1 ?_
 let sm:Nat->Nat:=λi=>if i=0 then 0 else if i=1 then O l1 else if i=2 then O l1+O l2 else O l1+O l2+O l3
 let pr:Nat->List aY:=λi=>if i=0 then[]else if i=1 then l1 else if i=2 then l1++l2 else l1++l2++l3
 refine cI _ _ (λm s Q E=>∃i,i<=3/\m=3-i/\X s 0= .sl sb 0 3 3/\X s 3=int (sm i)/\X s 9= .sl sb 0 3 3/\X s 10=int 3/\X s 11=int i/\Q=h/\E=Y) (n:=3) ?_ ?_;.refine QZ ?_;exact⟨0,bS,Z,Z,Z,Z⟩
 rintro m s Q E ⟨i,H,rfl,s0,s3,s9,xN,yK,rfl,rfl⟩;have A:i=0\/i=1\/i=2\/i=3:=U;have b1:O l1<60000:=U;have b2:O l1+O l2<60000:=U;obtain rfl|rfl|rfl|rfl:=A
 .exact atZ
 .exact atQ
 .exact atK
 .simp+decide-dsimp only[go_sem,s3,xN,yK,sm];refine cm (aoP (O l1+O l2+O l3) K _ _) λv1 W cC Sv ⟨S1,i1,o1⟩=>?_;refine Xf s0 ?_;refine cI _ _ (λm s Ai Fb=>∃i v,i<=3/\m=3-i/\X s 6=v/\X s 25= .sl sb 0 3 3/\X s 26=int 3/\X s 27=int i/\aG E Q Ai/\E<=Fb/\Own gv 9 1 Ai v (pr i)/\In E Fb v) (n:=3) ?_ ?_;.refine QZ ?_;exact⟨0,v1,bS,Z,Z,Z,Z,S1,Sv,o1,i1⟩
  rintro m s F dR ⟨i,v,H,rfl,s6,G4,Md,IE,S2,l2',o2,i2⟩;have yL:=(S2 sb hsb).trans D
  have A:i=0\/i=1\/i=2\/i=3:=U;obtain rfl|rfl|rfl|rfl:=A
  .have hk:O l1<65536:=U;refine RC s6 G4 Md IE yL hk ?_;refine kB (c:=gv) o2 (λ_=>rfl) (λ_=>rfl) l1 (by show 0+O l1<_;omega) ?_;intro v' h3 nx3 l3' p1 p2 p3;refine L6 s6 G4 Md IE ?_;refine⟨2,bS,1,v',bS,Z,Z,Z,λq hq=>?_,U,p1,λq e'=>?_⟩;.rw[p3 q U (λe'=>by have:=i2 q e';omega)];exact S2 q hq
   .obtain e2|e2:=p2 q e';.have:=i2 q e2;omega
    .omega
  .have hk:l2.length<65536:=U;simp+decide-dsimp only[go_sem,s6,G4,Md,IE,yL,hk];refine kB (c:=gv) o2 (λ_=>rfl) (λ_=>rfl) l2 (by show O l1+O l2<_;omega) ?_;intro v' h3 nx3 l3' p1 p2 p3;refine L6 s6 G4 Md IE ?_;refine⟨1,bS,2,v',bS,Z,Z,Z,λq hq=>?_,U,p1,λq e'=>?_⟩;.rw[p3 q U (λe'=>by have:=i2 q e';omega)];exact S2 q hq
   .obtain e2|e2:=p2 q e';.have:=i2 q e2;omega
    .omega
  .have hk:l3.length<65536:=U;refine RC s6 G4 Md IE yL hk ?_;refine kB (c:=gv) o2 (λ_=>rfl) (λ_=>rfl) l3 (by show(l1++l2).length+l3.length<_;rw[aq];omega) ?_;intro v' h3 nx3 l3' p1 p2 p3;refine L6 s6 G4 Md IE ?_;refine⟨0,bS,3,v',bS,Z,Z,Z,λq hq=>?_,U,p1,λq e'=>?_⟩;.rw[p3 q U (λe'=>by have:=i2 q e';omega)];exact S2 q hq
   .obtain e2|e2:=p2 q e';.have:=i2 q e2;omega
    .omega
  .refine J7 s6 Md IE ?_;exact .of S2 (o2.fz i2 mE)
def a87(l1 l2 l3:List (Pq aw))(K:O l1+O l2+O l3<60000)(hN:aw<=Y)(hA:N h b=J (.cells hc 78))(hAt:hc.take (O l2)=l2.flatMap cq)(hAl:O l2<=O hc)(hbl:b<Y)(D:N h sb=J (.cells [LD l1,.sl b 0 (O l2) cap,LD l3] 32))(hsb:sb<Y):
 UP 87 [.sl sb 0 3 3] h Y (dG (LD (l1++l2++l3)) h Y):=by
 refine az.pc 1 T0 func87 ?_;refine Xf f87.eq_1 ?_
 let sm:Nat->Nat:=λi=>if i=0 then 0 else if i=1 then O l1 else if i=2 then O l1+O l2 else O l1+O l2+O l3
 let pr:Nat->List (Pq aw):=λi=>if i=0 then[]else if i=1 then l1 else if i=2 then l1++l2 else l1++l2++l3
 refine cI _ _ (λm s Q E=>∃i,i<=3/\m=3-i/\X s 0= .sl sb 0 3 3/\X s 3=int (sm i)/\X s 9= .sl sb 0 3 3/\X s 10=int 3/\X s 11=int i/\Q=h/\E=Y) (n:=3) ?_ ?_;.refine QZ ?_;exact⟨0,bS,Z,Z,Z,Z⟩
 rintro m s Q E ⟨i,H,rfl,s0,s3,s9,xN,yK,rfl,rfl⟩;have yn:∀F,N F b=J (.cells hc 78)->eD F 1 (.sl b 0 (O l2) cap)=J (O l2,l2.flatMap cq):=λF e=>by rw[AF,cL,e,cV,iq,aT,df,bZ _ _ hAl,hAt];rfl
 have A:i=0\/i=1\/i=2\/i=3:=U;have b1:O l1<60000:=U;have b2:O l1+O l2<60000:=U;obtain rfl|rfl|rfl|rfl:=A
 .exact atZ
 .exact atQ
 .exact atK
 .simp+decide-dsimp only[go_sem,s3,xN,yK,sm];refine cm (ao6 (c:=cq (aw:=aw)) (O l1+O l2+O l3) K _ _) λv1 W cC Sv ⟨S1,i1,o1⟩=>?_;refine Xf s0 ?_;refine cI _ _ (λm s Ai Fb=>∃i v,i<=3/\m=3-i/\X s 6=v/\X s 25= .sl sb 0 3 3/\X s 26=int 3/\X s 27=int i/\aG E Q Ai/\E<=Fb/\Own cq 78 1 Ai v (pr i)/\In E Fb v) (n:=3) ?_ ?_;.refine QZ ?_;exact⟨0,v1,bS,Z,Z,Z,Z,S1,Sv,o1,i1⟩
  rintro m s F dR ⟨i,v,H,rfl,s6,G4,Md,IE,S2,l2',o2,i2⟩;have hA2:=(S2 b hbl).trans hA
  have nB:=yn F hA2;have yL:=(S2 sb hsb).trans D
  have A:i=0\/i=1\/i=2\/i=3:=U;obtain rfl|rfl|rfl|rfl:=A
  .have hk:O l1<65536:=U;refine RC s6 G4 Md IE yL hk ?_;refine kB (c:=cq) o2 uK NI l1 (by show 0+O l1<_;omega) ?_;intro v' h3 nx3 l3' p1 p2 p3;refine L6 s6 G4 Md IE ?_;refine⟨2,bS,1,v',bS,Z,Z,Z,λq hq=>?_,U,p1,λq e'=>?_⟩;.rw[p3 q U (λe'=>by have:=i2 q e';omega)];exact S2 q hq
   .obtain e2|e2:=p2 q e';.have:=i2 q e2;omega
    .omega
  .have hk:l2.length<65536:=U;simp+decide-dsimp only[go_sem,s6,G4,Md,IE,yL,nB,hk];refine kB (c:=cq) o2 uK NI l2 (by show O l1+O l2<_;omega) ?_;intro v' h3 nx3 l3' p1 p2 p3;refine L6 s6 G4 Md IE ?_;refine⟨1,bS,2,v',bS,Z,Z,Z,λq hq=>?_,U,p1,λq e'=>?_⟩;.rw[p3 q U (λe'=>by have:=i2 q e';omega)];exact S2 q hq
   .obtain e2|e2:=p2 q e';.have:=i2 q e2;omega
    .omega
  .have hk:l3.length<65536:=U;refine RC s6 G4 Md IE yL hk ?_;refine kB (c:=cq) o2 uK NI l3 (by show(l1++l2).length+l3.length<_;rw[aq];omega) ?_;intro v' h3 nx3 l3' p1 p2 p3;refine L6 s6 G4 Md IE ?_;refine⟨0,bS,3,v',bS,Z,Z,Z,λq hq=>?_,U,p1,λq e'=>?_⟩;.rw[p3 q U (λe'=>by have:=i2 q e';omega)];exact S2 q hq
   .obtain e2|e2:=p2 q e';.have:=i2 q e2;omega
    .omega
  .refine J7 s6 Md IE ?_;exact .of S2 (o2.fz i2 (Wh hN))
variable{cs:List u}{i n:Nat}{x y:Operand}
theorem PJ{e}(hu:prog.underlying t=J (.pointer e)):dE prog h .eql t x y (.fp cs) (FE)=J (bW R):=by simp[dE,eX,jm,u.pV,qA,wP,hu,Ec]
theorem aq7:dE prog h .eql 70 x y (.fp cs) (FE)=J (bW R):=PJ aeJ
attribute[go_sem] aq7
def cqv{aw:Nat}:Pq aw->u
 |none=> .g (.pointer B)
 |some b=> .ptr b.1 0
theorem VI{aw e}{sz:TypeId->Option Nat}{l:List (Pq aw)}(hk:k<O l):qa (J (.slice e)) sz (LD l) (int k)=(sz e).bind λsize=>(dV (k*size) (l.flatMap cq)).map λl=> .val (.fp l):=sT hk
theorem U5{aw}{l:List (Pq aw)}(hk:k<O l):dV (k*1) (l.flatMap cq)=J ((l.drop k).flatMap cq):=nQ uK U
theorem acg{aw}{l:List (Pq aw)}(hk:k<O l):iS 0 ((l.drop k).flatMap cq)=J (cqv (l.getD k B)):=by rw[cM hk,bE,aB,aF hk,fI];cases l[k]<;>rfl
attribute[go_sem] VI U5 acg
def T69:=RB [(3,[MO z13 14,MO [] 15,MO [] 16,RX])]
abbrev E8{aw:Nat}(los:List aY)(xs:List (Pq aw)):u:= .fp [strs los,LD xs]
section
variable{aw:Nat}{los:List aY}{xs:List (Pq aw)}(cD:0<O los)(K:O los<60000)(L:O xs=O los)
include cD
theorem a84:bz 84 [E8 los xs] (bW R):=by refine bz.ac 1 T0 func84 λh Y=>?_;refine Y8 f84.eq_1 (U:¬((O los:Int)=0)) ?_;exact .eE .refl .cP Z
theorem a70:bz 70 [E8 los xs] (int (O los)):=by refine bz.ac 1 T0 func70 λh Y=>?_;refine Xf f70.eq_1 ?_;refine AJ (a84 cD) ?_;exact .eE .refl .cP Z
include K
theorem aoo(i:Nat)(H:i<60000):bz 112 [E8 los xs,int i] (.dY [cg (if i+1<O los then los.getD (i+1) []else[]),bW (decide (i+1<O los))]):=by
 refine bz.ac 2 T0 func112 λh Y=>?_;have c0:¬((i:Int)<0):=U;have w:cO .i64 ((O los:Int)-1)=((O los-1:Nat):Int):=qI;refine Xf f112.eq_1 ?_;refine ba (a84 cD) ?_;by_cases W:i+1<O los;.have c1:¬(((O los-1:Nat):Int)<=(i:Int)):=U;have z:=aN W;refine PV c0 c1 w (U:i+1<9223372036854775808) W ?_;exact .eE .refl (.mC .cg .cP) Z
 .refine L6 c0 (U:(((O los-1:Nat):Int)<=(i:Int))) w W ?_;exact .eE .refl (.mC .cg .cP) Z
include L
theorem a69(i:Nat)(H:i<O los)(hN:aw<=Y):UP 69 [E8 los xs,int i] h Y (dG (.dY [cg (los.getD i []),cqv (xs.getD i B),bW M]) h Y):=by
 refine az.pc 2 T69 func69 ?_;refine Xf f69.eq_1 ?_;refine ba (a84 cD) ?_;refine PV T69.eq_1 (U:¬((i:Int)<0)) (U:¬((O los:Int)<=(i:Int))) H (U:i<O xs) ?_;refine .eE .refl (.nD .cg (.cw ?_) .cP) Z;cases xs.getD i B with
 |none=>trivial
 |some b=>show b.1<Y;omega
omit L in
theorem aoz(i:Int)(H:i<0\/(O los:Int)<=i):bz 69 [E8 los xs,i6 i] (.dY [cg [],FE,bW R]):=by
 refine bz.ac 2 T69 func69 λh Y=>?_;refine Xf f69.eq_1 ?_;refine ba (a84 cD) ?_;by_cases c0:i<0;.refine Xf c0 ?_;exact .eE .refl (.nD .cg .cP .cP) Z
 .refine Y8 c0 (U:(O los:Int)<=i) ?_;exact .eE .refl (.nD .cg .cP .cP) Z
def T85:=RB [(1,[(z43,[],B)]),(6,[MO z8 9,([10],[],B)])]
structure Fit(los:List aY)(i n:Nat)(nl:List aY):Prop where
 n1:1<=n
 le:i+n<=O los
 ne:0<O nl
 z:nl.getD 0 []=los.getD i []
 up:∀k,k+1<O nl->nl.getD k []<nl.getD (k+1) []
 H:i+n<O los->nl.getD (O nl-1) []<los.getD (i+n) []
 sm:O nl<60000
omit L in
theorem a85{nl}(h2:Fit los i n nl):bz 85 [E8 los xs,int i,int n,strs nl] (bW M):=by
 refine bz.ac 4 T85 func85 λh Y=>?_;have f1:=h2.n1;have f2:=h2.le;have f3:=h2.ne;have f7:=h2.sm;have c3:cO .i64 ((O los:Int)-(i:Int))=((O los-i:Nat):Int):=qI;have ix0:qa (J (.slice 9)) (cZ prog) (strs nl) (.g (.int .i64 0))=(cZ prog 9).bind λsize=>(dV (0*size) (nl.flatMap gv)).map λl=> .val (.fp l):=xg (k:=0) f3;have nt0:iS 0 (nl.flatMap gv)=J (cg (nl.getD 0 [])):=yY (k:=0) f3;refine asD f85.eq_1 T85.eq_1 (U:¬((i:Int)<0)) (U:¬((n:Int)<1)) (U:¬((O los:Int)<=(i:Int))) c3 (U:¬(((O los-i:Nat):Int)<(n:Int))) (U:¬((O nl:Int)=0)) (U:i<O los) ix0 nt0 h2.z ?_;refine cI _ _ (λm s Q E=>∃k,1<=k/\k<=O nl/\m=O nl-k/\X s 0=E8 los xs/\X s 1=int i/\X s 2=int n/\X s 3=strs nl/\X s 9=int k/\Q=h/\Y<=E) (n:=O nl-1) ?_ ?_;.refine QZ ?_;exact⟨1,an _,f3,Z,Z⟩
 rintro m s Q E ⟨k,k1,k2,rfl,s0,s1,s2,s3,s9,rfl,l1⟩;by_cases hk:k<O nl;.have ET:(k:Int)<(O nl:Int):=U;have w:cO .i64 ((k:Int)-1)=((k-1:Nat):Int):=qI;have w2:k+1<9223372036854775808:=U;have Yd:=h2.up (k-1) U;rw[show k-1+1=k from U]at Yd;have z:=aN Yd;refine YM T85.eq_1 s3 s9 hk ET w (U:k-1<O nl) ?_;refine ba (XV _ _) ?_;refine YM s0 s1 s2 s3 s9 z w2 ?_;exact⟨O nl-(k+1),U,k+1,U,hk,Z,Z,U⟩
 .have w:cO .i64 ((i:Int)+(n:Int))=((i+n:Nat):Int):=qI;have w2:cO .i64 (((i+n:Nat):Int)-1)=((i+n-1:Nat):Int):=qI;refine Ik s0 s1 s2 s3 s9 (U:¬(k:Int)<(O nl:Int)) w w2 ?_;refine ba (aoo cD K (i+n-1) U) ?_;rw[show i+n-1+1=i+n from U];by_cases hh:i+n<O los;.have hdd:=aN hh;have w3:cO .i64 ((O nl:Int)-1)=((O nl-1:Nat):Int):=qI;have dc:=aN (h2.H hh);refine L6 s3 hh w3 (U:O nl-1<O nl) ?_;refine ba (XV _ _) ?_;refine Xf dc ?_;exact .eE .refl .cP Z
  .have hdd:=aU hh;refine Xf hh ?_;exact .eE .refl .cP Z
end
variable{fn:Func}{o:Oper}{ops:Array Oper}{size:Nat}{todo:List dO}
def zb(f:FuncId)(args:List u)(h:aE)(Y:Nat)(F:aE):Prop:=
 ∃fr,bY.enter prog f args M=J fr/\∀(wait:bY) (cs:List bY) (zxQ:AM->Prop),wait.ret=M->(∀E,Y<=E->eO prog ⟨wait,cs,F,E⟩ zxQ)->eO prog ⟨fr,wait::cs,h,Y⟩ zxQ
def zb.of{T c}(hf:prog.funcs[f]?=J fn)(D:fn.body=J c)(Up:fn.results.toList=[])
 (z:(iW fn.ntmps c&&fR prog T c)=M)  (ha:O args<=fn.ntmps)  
 (hw:h1 prog xt T c (λe _ Q E=>match e with| .out _=>False|_=>Q=F/\Y<=E) (eK args 0 .nil) h Y):zb f args h Y F:=by
 rw[aS]at z;refine⟨⟨f,eK args 0 .nil,fn.ntmps,[.code c],[],R,M,B⟩,?_,?_⟩;.unfold bY.enter;rw[hf];show(match fn.body with|some c=>_|none=>_)=_;rw[D];show(if O args<=fn.ntmps then _ else _)=_;rw[au ha]
 intro wait cs zxQ hr hk
 let x:Fx:=⟨f,fn.ntmps,[],M,wait::cs,B⟩
 have iy:∀s Q E t,qO t=R->Q=F/\Y<=E->eO prog ⟨x.fr s t M,x.callers,Q,E⟩ zxQ:=by
  intro s Q E t ht ⟨V,hn⟩;subst V;refine .iP prog xt pk ⟨⟨wait,cs,Q,E⟩,?_,hk _ hn⟩;show(if qO t then B else match prog.funcs[f]? with
   |some fn=>match eW prog Q s fn.results.toList with
    |some vs=>zr ⟨x.fr s t M,x.callers,Q,E⟩ (one vs) wait cs
    |none=>B
   |none=>B)=_
  rw[ht,hf];show(match eW prog Q s fn.results.toList with
   |some vs=>zr ⟨x.fr s t M,x.callers,Q,E⟩ (one vs) wait cs
   |none=>B)=_
  rw[Up];show(if wait.ret then _ else _)=_;rw[hr];rfl
 refine nV prog xt pk T x c z.1 z.2 _ [] _ ?_ _ h Y hw;intro e s Q E V;cases e with
 |jg=>exact .iP prog xt pk ⟨⟨x.fr s [] M,x.callers,Q,E⟩,Z,iy s Q E [] Z V⟩
 |ret=>exact λt ht=>iy s Q E t ht V
 |out id=>exact V.elim
def eO.deferred{fn}{s:BT u}{g cap ds dfd ro cs}{zxQ:AM->Prop}
 (A:zb g (args++cap) h Y F) (hk:∀E,Y<=E->eO prog ⟨⟨fn,s,size,todo,ds,M,dfd,ro⟩,cs,F,E⟩ zxQ):eO prog ⟨⟨fn,s,size,todo,.fn g cap args::ds,M,dfd,ro⟩,cs,h,Y⟩ zxQ:=by
 have⟨fr,V,hr⟩:=A;refine .iP prog xt pk ⟨⟨fr,⟨fn,s,size,todo,ds,M,dfd,ro⟩::cs,h,Y⟩,?_,hr _ _ _ Z hk⟩;show(match bY.enter prog g (args++cap) M with|some fr=>_|none=>_)=_;rw[V];rfl
def eO.quiet{x:Fx}{s:BT u}{l k}{zxQ:AM->Prop}{d v}(hg:o.guard=B)(V:cH o.op=R)(z:o.dst=J d)(L:d<x.size)
 (hq:en prog h (qw s) o=J (.val v)) (hr:eO prog (x.at (sset s d v) h Y (.ops l ops::k)) zxQ):eO prog (x.at s h Y (.ops (o::l) ops::k)) zxQ:=by
 refine .iP prog xt pk ⟨_,?_,hr⟩;show XS prog xt _ o (.ops l ops::k) ops=_;unfold XS;rw[show eM ops (x.at s h Y (.ops (o::l) ops::k)).fr.cX o=J M by unfold eM;rw[hg]];show(if cH o.op=M then _ else _)=_;rw[ak (by rw[V];decide)];show yN _ o _ (en prog h (qw s) o)=_;rw[hq];have pM:∀t,bY.put (x.fr s t R) o.dst v=J (x.fr (sset s d v) t R):=λt=>by rw[z];show(if d<x.size then J ((x.fr s t R).Aw (sset s d v))else B)=_;rw[au L];rfl
 unfold yN;show(match bY.put (x.fr s (.ops (o::l) ops::k) R) o.dst v with
  |some fr=>J ((x.at s h Y (.ops (o::l) ops::k)).wFr (fr.lz (.ops l ops::k)))
  |none=>B)=_
 rw[pM];rfl
def eO.defer{x:Fx}{s:BT u}{l k}{zxQ:AM->Prop}{c:Call}{d}(hg:o.guard=B)(ho:o.op= .defer c)(z:o.dst=B)(hr:x.round=B)
 (hq:rj (qw s) c=J (.defer d)) (hk:eO prog ((⟨x.fn,x.size,d::x.defers,x.deferred,x.callers,x.round⟩:Fx).at s h Y (.ops l ops::k)) zxQ):eO prog (x.at s h Y (.ops (o::l) ops::k)) zxQ:=by
 refine .iP prog xt pk ⟨_,?_,hk⟩;show XS prog xt _ o (.ops l ops::k) ops=_;unfold XS;rw[show eM ops (x.at s h Y (.ops (o::l) ops::k)).fr.cX o=J M by unfold eM;rw[hg]];show(if cH o.op=M then _ else _)=_;rw[au (by rw[ho];rfl)];show ud _ _ _ (pg prog xt h (qw s) o)=_;have:pg prog xt h (qw s) o=rj (qw s) c:=by unfold pg;rw[ho]
 rw[this,hq];have⟨dst,op,ty,pos,aft,gd⟩:=o;cases z;have⟨fn,size,defers,deferred,callers,round⟩:=x;cases hr;rfl
variable{bq bx:Nat}{pv:u}{r:dI}{AV:Value}
abbrev gV(d m:Int)(q:Int)(ask now:u):List u:=[.g (.int .u32 d),.g (.int .i32 m),.g (.int .u32 q),ask,now]
section
variable{h:aE}{Y rb:Nat}{q:Int}{ask now:u}
def ai5{T off d}(hR:N h rb=J (.cells cs T))(hn:(dV off cs).bind (dC 1)=J [.g (.int .u32 d)]):dW h (.load (.int .u32)) [.ptr rb off]=J (.val (.g (.int .u32 d)) h):=by
 have e:dW h (.load (.int .u32)) [.ptr rb off]=yU h (.int .u32) rb off:=by unfold dW;rfl
 have W:dt h rb off 1=J [.g (.int .u32 d)]:=by rw[cL,hR,cV];exact hn
 rw[e];unfold yU;rw[W];rfl
def ag'{d m}(hR:N h rb=J (.cells (gV d m q ask now) 201))(z:d=0\/d=1):UP 119 [.ptr rb 0] h Y (dG (bW (decide (d=1))) h Y):=by
 refine az.ac 1 T0 func119 ?_;have e:=ai5 (off:=0) hR Z;obtain rfl|rfl:=z
 .refine Y8 f119.eq_1 e ?_;exact⟨Z,Z,Z⟩
 .refine Y8 f119.eq_1 e ?_;exact⟨Z,Z,Z⟩
def adP{h off e}(A:N h b=J (.cells cs e))(K:off<O cs):nA prog h 336 197 (.ptr b off)=J (.ptr b off):=by show xO prog h 336 197 b off=_;unfold xO;rw[aei];dsimp only;rw[Ov];dsimp only;rw[aer];dsimp only;rw[A];dsimp only;rw[au K]
def amB{h off e}(A:N h b=J (.cells cs e))(K:off<O cs):nA prog h 138 197 (.ptr b off)=J (.ptr b off):=by show xO prog h 138 197 b off=_;unfold xO;rw[Tu];dsimp only;rw[Ov];dsimp only;rw[Xk];dsimp only;rw[A];dsimp only;rw[au K]
def aay:liesAt prog prog.depth 141 (2 / prog.cellsOf 141) 0 141 1=M:=aK
def aje{h x y}(A:N h b=J (.cells [x,y] 141)):nA prog h 197 138 (.ptr b 0)=J (.ptr b 0):=by show xO prog h 197 138 b 0=_;unfold xO;rw[Ov];dsimp only;rw[Tu];dsimp only;rw[Xk];dsimp only;rw[A];dsimp only;show(if liesAt prog prog.depth 141 (2 / prog.cellsOf 141) 0 141 1=M then _ else _)=_;rw[au aay]
def xm0{h}:dW h .mark0 []=J (.val (.g undef) h):=by unfold dW;rfl
def xm1{h o}:dW h .mark1 [.ptr b o]=J (.val (.g undef) h):=by unfold dW;rfl
def arC{d}(hR:N h rb=J (.cells (gV d 0 q ask now) 201)):UP 154 [.ptr rb 1] h Y (dG (.dY []) (aI h rb (.cells (gV d 1 q ask now) 201)) Y):=by
 refine az.ac 1 T0 func154 ?_;have e:dW h (.cas (.int .i32)) [.ptr rb 1,.g (.int .i32 0),.g (.int .i32 1)]=J (.val (bW M) (aI h rb (.cells (gV d 1 q ask now) 201))):=by
  have W:dt h rb 1 1=J [.g (.int .i32 0)]:=by unfold dt;rw[hR];rfl
  have F:fL h rb 1 [.g (.int .i32 1)]=J (aI h rb (.cells (gV d 1 q ask now) 201)):=by unfold fL;rw[hR];rfl
  have e:dW h (.cas (.int .i32)) [.ptr rb 1,.g (.int .i32 0),.g (.int .i32 1)]=MX h (.int .i32) rb 1 (.g (.int .i32 0)) (.g (.int .i32 1)):=by unfold dW;rfl
  rw[e];unfold MX;rw[W];simp only[eX,J5];rw[F];simp
 have g:N (aI h rb (.cells (gV d 1 q ask now) 201)) rb=J (.cells (gV d 1 q ask now) 201):=iA;have cv:=adP (off:=1) g (by show 1<5;decide);refine PV f154.eq_1 e @xm0 @xm1 cv ?_;exact⟨Z,Z,Z⟩
def ars{d}(hR:N h rb=J (.cells (gV d 0 q ask now) 201)):UP 139 [.ptr rb 1] h Y (dG (.dY []) (aI h rb (.cells (gV d 1 q ask now) 201)) Y):=by refine az.ac 1 T0 func139 (Xf f139.eq_1 ?_);refine DS (arC hR) ?_;exact⟨Z,Z,Z⟩
def aqi{d}(hR:N h rb=J (.cells (gV d 1 q ask now) 201)):UP 155 [.ptr rb 1] h Y (dG (.dY []) (aI h rb (.cells (gV d 0 q ask now) 201)) Y):=by
 refine az.ac 1 T0 func155 ?_;have e:dW h (.add .i32) [.ptr rb 1,.g (.int .i32 (-1))]=J (.val (.g (.int .i32 0)) (aI h rb (.cells (gV d 0 q ask now) 201))):=by
  have W:dt h rb 1 1=J [.g (.int .i32 1)]:=by unfold dt;rw[hR];rfl
  have F:fL h rb 1 [.g (.int .i32 0)]=J (aI h rb (.cells (gV d 0 q ask now) 201)):=by unfold fL;rw[hR];rfl
  have e:dW h (.add .i32) [.ptr rb 1,.g (.int .i32 (-1))]=XF h .i32 rb 1 (.g (.int .i32 (-1))):=by unfold dW;rfl
  rw[e];unfold XF;rw[W];simp only[eX];rw[show cO IntKind.i32 (1+ -1)=0 from bS,F];simp
 refine RC f155.eq_1 hR e @xm0 @xm1 (adP (off:=1) hR (by show 1<5;decide)) ?_;exact⟨Z,Z,Z⟩
def anp:=RB [(0,[MO [0,1,2,3] 4,MO [] 5,RX])]
def d140{d}(hR:N h rb=J (.cells (gV d 1 q ask now) 201)):zb 140 [.ptr rb 1] h Y (aI h rb (.cells (gV d 0 q ask now) 201)):=by refine zb.of (T:=λ_=>[]) func140 (c:=f140.body.getD .skip) Z Z aK (by show 1<=_;decide) (Xf f140.eq_1 ?_);exact pP (aqi hR) VU
def ao1:bz 157 [bW M] (.g (.int .u32 1)):=by intro h Y;refine az.ac 1 T0 func157 (Xf f157.eq_1 ?_);exact⟨Z,Z,Z⟩
def d141{m}(hR:N h rb=J (.cells (gV 0 m q ask now) 201)):zb 141 [.ptr rb 0,bW M] h Y (aI h rb (.cells (gV 1 m q ask now) 201)):=by
 refine zb.of (T:=anp) func141 (c:=f141.body.getD .skip) Z Z aK (by show 2<=_;decide) ?_;have e:dW h .store [.ptr rb 0,.g (.int .u32 1)]=J (.val (.g undef) (aI h rb (.cells (gV 1 m q ask now) 201))):=by
  have F:fL h rb 0 [.g (.int .u32 1)]=J (aI h rb (.cells (gV 1 m q ask now) 201)):=by unfold fL;rw[hR];rfl
  have e:dW h .store [.ptr rb 0,.g (.int .u32 1)]=yg h rb 0 (.g (.int .u32 1)):=by unfold dW;rfl
  rw[e];unfold yg mz;rw[F];rfl
 refine Y8 f141.eq_1 anp.eq_1 ?_;exact ba ao1 (Xa e)
def T98:=RB [(0,[MO z6 7,([8,9],[0],J 10),RX])]
structure arM(h:aE)(rb:Nat)(v:u):Prop where
 ex:∃q bq,N h rb=J (.cells (gV 0 0 q (.fn 89 [.ptr bq 0]) (.g (.pointer B))) 201)/\N h bq=J (.cells [v] 70)/\bq≠rb
structure LU(h:aE)(rb sb:Nat)(v:u):Prop where
 ex:∃q bq,N h rb=J (.cells (gV 1 0 q (.fn 89 [.ptr bq 0]) (.ptr sb 0)) 201)
 st:N h sb=J (.cells [v,u64 0] 141)
def aeN{d m}(hR:N h rb=J (.cells (gV d m q ask (.ptr sb 0)) 201)):dW h (.load .ptr) [.ptr rb 4]=J (.val (.ptr sb 0) h):=by
 have e:dW h (.load .ptr) [.ptr rb 4]=yU h .ptr rb 4:=by unfold dW;rfl
 have W:dt h rb 4 1=J [.ptr sb 0]:=by unfold dt;rw[hR];rfl
 rw[e];unfold yU;rw[W];rfl
def ahj{v}(hw:LU h rb sb v):UP 100 [.ptr rb 4] h Y (dG (.ptr sb 0) h Y):=by have⟨⟨q,bq,hR⟩,G⟩:=hw;refine az.ac 1 T0 func100 ?_;refine J7 f100.eq_1 (aeN hR) (aje G) ?_;exact⟨Z,Z,Z⟩
def a99{d m x y}(hR:N h rb=J (.cells (gV d m q ask now) 201))(G:N h sb=J (.cells [x,y] 141)):UP 99 [.ptr rb 4,.ptr sb 0] h Y (dG (.dY []) (aI h rb (.cells (gV d m q ask (.ptr sb 0)) 201)) Y):=by
 refine az.ac 2 T0 func99 ?_;have e:dW h .store [.ptr rb 4,.ptr sb 0]=J (.val (.g undef) (aI h rb (.cells (gV d m q ask (.ptr sb 0)) 201))):=by
  have F:fL h rb 4 [.ptr sb 0]=J (aI h rb (.cells (gV d m q ask (.ptr sb 0)) 201)):=by unfold fL;rw[hR];rfl
  have e:dW h .store [.ptr rb 4,.ptr sb 0]=yg h rb 4 (.ptr sb 0):=by unfold dW;rfl
  rw[e];unfold yg mz;rw[F];rfl
 refine J7 f99.eq_1 e (amB (off:=0) G (by show 0<2;decide)) ?_;exact⟨Z,Z,Z⟩
def a89{v}(D:N h bq=J (.cells [v] 70)):UP 89 [.ptr bq 0] h Y (dG v h Y):=by refine az.ac 1 T0 func89 (Y8 f89.eq_1 D ?_);exact⟨Z,Z,Z⟩
structure IsC(v:u):Prop where
 c:v.cells=J [v]
 i:v.dh=M
def a98{d m}(A:IsC pv)(L:N h bx=J (.cells [.ptr rb 0] 62))(hR:N h rb=J (.cells (gV d m q (.fn 89 [.ptr bq 0]) now) 201))(D:N h bq=J (.cells [pv] 70))(W:rb<Y)(F:bx<Y):
 UP 98 [.ptr bx 0] h Y λw Q E=>w= .dY []/\∃sb,Y<=sb/\sb<E/\Q=aI (aI h sb (.cells [pv,u64 0] 141)) rb (.cells (gV d m q (.fn 89 [.ptr bq 0]) (.ptr sb 0)) 201):=by
 refine az.ac 1 T98 func98 (L6 f98.eq_1 hR L T98.eq_1 ?_);refine bc (a89 D) ?_;refine J7 L (U:¬(bx=Y+9)) A.c ?_;refine pP (a99 (ask:= .fn 89 [.ptr bq 0]) (now:=now) (q:=q) (d:=d) (m:=m) (x:=pv) (y:=u64 0) (by rw[Xg U];exact hR) iA) ?_;have e3:¬(Y+9=rb):=U;have e4:¬(bx=rb):=λe=>by rw[e,hR]at L;cases L
 refine QZ ?_;exact⟨Y+9,U,IW bS _,Z⟩
def apW(A:IsC pv)(L:N h bx=J (.cells [.ptr rb 0] 62))(hR:N h rb=J (.cells (gV 0 0 q (.fn 89 [.ptr bq 0]) now) 201))(D:N h bq=J (.cells [pv] 70))(W:rb<Y)(F:bx<Y)(h3:bq<Y):
 UP 120 [.ptr rb 0,.fn 98 [.ptr bx 0]] h Y λw Q E=>w= .dY []/\Y<=E/\∃sb,Y<=sb/\sb<E/\(∀b,N Q b=if b=rb then J (.cells (gV 1 0 q (.fn 89 [.ptr bq 0]) (.ptr sb 0)) 201)else if b=sb then J (.cells [pv,u64 0] 141)else N h b):=by
 have hbx:¬(bx=rb):=λe=>by rw[e,hR]at L;cases L
 have hbq:¬(bq=rb):=λe=>by rw[e,hR]at D;cases D
 refine .Cs (fr:=⟨120,eK [.ptr rb 0,.fn 98 [.ptr bx 0]] 0 .nil,21,[.code (f120.body.getD .skip)],[],R,R,B⟩) prog Z ?_
 let x:Fx:=⟨120,21,[],R,[],B⟩
 show eO prog (x.at (eK [.ptr rb 0,.fn 98 [.ptr bx 0]] 0 .nil) h Y [.code (f120.body.getD .skip)]) _;have ho:∀{x:Fx} {c1 c2:Code} {s h Y k zxQ},eO prog (x.at s h Y (.code c1:: .code c2::k)) zxQ->eO prog (x.at s h Y (.code (.seq c1 c2)::k)) zxQ:=λhr=> .iP prog xt pk ⟨_,Z,hr⟩;have hq:∀{x:Fx} {id:Nat} {ops:Array Oper} {s h Y k zxQ},eO prog (x.at s h Y (.ops ops.toList ops::k)) zxQ->eO prog (x.at s h Y (.code (.region id ops R)::k)) zxQ:=λhr=> .iP prog xt pk ⟨_,Z,hr⟩;have hz:∀{x:Fx} {ops:Array Oper} {s h Y k zxQ},eO prog (x.at s h Y k) zxQ->eO prog (x.at s h Y (.ops [] ops::k)) zxQ:=λhr=> .iP prog xt pk ⟨_,Z,hr⟩;dsimp only[f120,Option.getD];refine ho (nV prog xt pk (λ_=>[]) x _ bS Z _ _ _ (λe s Q E V=>V) _ _ _ ?_);simp+decide-dsimp only[go_sem];refine pP (ars hR) ?_;simp+decide-dsimp only[go_sem];generalize hH:aI h rb (.cells (gV 0 1 q (.fn 89 [.ptr bq 0]) now) 201)=hi;have gR:N hi rb=J (.cells (gV 0 1 q (.fn 89 [.ptr bq 0]) now) 201):=by rw[<-hH,Sr]
 have gX:N hi bx=J (.cells [.ptr rb 0] 62):=by rw[<-hH,Xg hbx];exact L
 have gB:N hi bq=J (.cells [pv] 70):=by rw[<-hH,Xg hbq];exact D
 have gO:∀b,b≠rb->N hi b=N h b:=λb D=>by rw[<-hH,Xg D]
 clear hH;refine ho (hq (eO.quiet (v:= .ptr rb 0) Z Z Z bS Z ?_));refine eO.quiet (v:= .ptr rb 0) Z Z Z bS Z (eO.quiet (v:= .ptr rb 1) Z Z Z bS (by simp+decide-dsimp only[go_sem]) ?_);refine eO.defer (d:= .fn 140 [] [.ptr rb 1]) Z Z Z Z Z (hz (ho ?_))
 let x2:Fx:=⟨120,21,[.fn 140 [] [.ptr rb 1]],R,[],B⟩
 refine nV prog xt pk (λ_=>[]) x2 _ Z Z _ _ _ (λe s Q E V=>V) _ _ _ ?_;simp+decide-dsimp only[go_sem];refine pP (ag' gR (.inl Z)) ?_;simp+decide-dsimp only[go_sem];have H:∀{x:Fx} {c:Operand} {a b:Code} {s h Y k zxQ},qw s c=bW M->eO prog (x.at s h Y (.code a::k)) zxQ->eO prog (x.at s h Y (.code (.cond c a b)::k)) zxQ:=λ{x c a b s h Y k zxQ} A hr=> .iP prog xt pk ⟨_,by show w8 _ a b k (qw s c)=_;rw[A];rfl,hr⟩;refine H Z (ho (hq ?_));refine eO.quiet (v:= .ptr rb 0) Z Z Z (eN Z) Z (eO.quiet (v:= .ptr rb 0) Z Z Z (eN Z) Z ?_);refine eO.quiet (v:= .ptr rb 0) Z Z Z (eN Z) (by simp+decide-dsimp only[go_sem]) (eO.defer (d:= .fn 141 [] [.ptr rb 0,bW M]) Z Z Z Z Z ?_);refine hz ?_
 let x3:Fx:=⟨120,21,[.fn 141 [] [.ptr rb 0,bW M],.fn 140 [] [.ptr rb 1]],R,[],B⟩
 refine nV prog xt pk (λ_=>[]) x3 _ Z Z _ _ _ (λe s Q E V=>V) _ _ _ ?_;simp+decide-dsimp only[go_sem];refine cm (a98 A gX gR gB W F) ?_;rintro _ Q E hle ⟨rfl,sb,yf,nB,rfl⟩;simp+decide-dsimp only[go_sem];generalize hJ:aI (aI hi sb _) rb _=v7;have jO:∀b,N v7 b=if b=rb then J (.cells (gV 0 1 q (.fn 89 [.ptr bq 0]) (.ptr sb 0)) 201)else if b=sb then J (.cells [pv,u64 0] 141)else N hi b:=λb=>by rw[<-hJ,aj,aj]
 clear hJ;refine .iP prog xt pk ⟨⟨x3.fr _ [] M,[],v7,E⟩,Z,?_⟩;refine eO.deferred (F:=aI v7 rb (.cells (gV 1 1 q (.fn 89 [.ptr bq 0]) (.ptr sb 0)) 201)) (d141 ((jO rb).trans (au Z))) λn1 KC=>?_
 refine eO.deferred (F:=aI (aI v7 rb (.cells (gV 1 1 q (.fn 89 [.ptr bq 0]) (.ptr sb 0)) 201)) rb (.cells (gV 1 0 q (.fn 89 [.ptr bq 0]) (.ptr sb 0)) 201)) (d140 ((aj _ _ _ _).trans (au Z))) λn2 ES=>?_;refine .done prog ⟨Z,.dY [],Z,Z,by show Y<=n2;omega,sb,yf,by show sb<n2;omega,λb=>?_⟩;rw[aj,aj];by_cases e:b=rb;.rw[au e,au e]
 .rw[ak e,ak e,ak e,jO,ak e];by_cases e2:b=sb;.rw[au e2,au e2]
  .rw[ak e2,ak e2,gO b e]
def akf(Y rb sb:Nat)(pv:u)(q:Int)(bq:Nat)(h Q:aE):Prop:=
 ∀b,N Q b=if b=rb then J (.cells (gV 1 0 q (.fn 89 [.ptr bq 0]) (.ptr sb 0)) 201)else if b=sb then J (.cells [pv,u64 0] 141)else N h b
def a97(A:IsC pv)(L:N h bx=J (.cells [.ptr rb 0] 62))(hR:N h rb=J (.cells (gV 0 0 q (.fn 89 [.ptr bq 0]) now) 201))(D:N h bq=J (.cells [pv] 70))(W:rb<Y)(F:bx<Y)(h3:bq<Y):
 UP 97 [.ptr rb 0,.fn 98 [.ptr bx 0]] h Y λw Q E=>w= .dY []/\Y<=E/\∃sb,Y<=sb/\sb<E/\akf Y rb sb pv q bq h Q:=by
 refine az.ac 2 T0 func97 (Xf f97.eq_1 ?_);refine DS (ag' hR (.inl Z)) (cm (apW A L hR D W F h3) ?_);rintro _ Q E hle ⟨rfl,hn,sb,yf,nB,hh⟩;refine QZ ?_;exact⟨hn,sb,yf,nB,hh⟩
def aij(hR:N h rb=J (.cells (gV 1 0 q ask now) 201)):
 UP 97 [.ptr rb 0,.fn 98 [.ptr bx 0]] h Y (dG (.dY []) h Y):=by
 refine az.ac 2 T0 func97 (Xf f97.eq_1 ?_);refine DS (ag' hR (.inr Z)) ?_;exact⟨Z,Z,Z⟩
structure pN(h:aE)(Y rb x:Nat)(pv:u):Prop where
 ok:(∃q,N h rb=J (.cells (gV 0 0 q (.fn 89 [.ptr x 0]) (.g (.pointer B))) 201)/\N h x=J (.cells [pv] 70))\/∃q bq,N h rb=J (.cells (gV 1 0 q (.fn 89 [.ptr bq 0]) (.ptr x 0)) 201)/\N h x=J (.cells [pv,u64 0] 141)
 OM:rb<Y
 LA:x<Y
def pN.aW{h Y rb x}(hr:pN h Y rb x pv)(W:N Q rb=N h rb)(F:N Q x=N h x)(hn:Y<=E):pN Q E rb x pv:=
 ⟨by rw[W,F];exact hr.ok,aP hr.OM hn,aP hr.LA hn⟩
def a59{x}(A:IsC pv)(hR:pN h Y rb x pv):
 UP 59 [.ptr rb 0] h Y λw Q E=>Y<=E/\∃x',w= .ptr x' 0/\pN Q E rb x' pv/\N Q x'=J (.cells [pv,u64 0] 141)/\(x'=x\/Y<=x')/\∀b,b<Y->b≠rb->N Q b=N h b:=by
 refine az.ac 1 T0 func59 ?_;have⟨hR,W,h3⟩:=hR;have e1:¬(rb=Y):=U;have e5:¬(x=Y):=U;obtain⟨q,hR,D⟩|⟨q,bq,hR,G⟩:=hR
 .refine J7 f59.eq_1 hR e1 ?_;refine cm (a97 A (q:=q) (bq:=x) (pv:=pv) (now:= FE) ((aj _ _ _ _).trans (au Z)) ((aj _ _ _ _).trans ((ak e1).trans hR)) ((aj _ _ _ _).trans ((ak e5).trans D)) U U U) ?_;rintro _ Q E hle ⟨rfl,hn,sb,yf,nB,hh⟩;have g1:=(hh rb).trans (au Z);have g2:=(hh sb).trans ((ak U).trans (au Z));have g3:N Q Y=J (.cells [.ptr rb 0] 62):=by rw[hh,ak U,ak U,Sr]
  refine Xf g3 ?_;refine DS (ahj (v:=pv) ⟨⟨q,x,g1⟩,g2⟩) ?_;refine⟨U,sb,Z,⟨.inr ⟨q,x,g1,g2⟩,U,nB⟩,g2,.inr U,λb D hbr=>?_⟩;rw[hh,ak hbr,ak U,Xg U]
 .refine J7 f59.eq_1 hR e1 ?_;have g1:N (aI h Y (.cells [.ptr rb 0] 62)) rb=J (.cells (gV 1 0 q (.fn 89 [.ptr bq 0]) (.ptr x 0)) 201):=(aj _ _ _ _).trans ((ak e1).trans hR);have g2:N (aI h Y (.cells [.ptr rb 0] 62)) x=J (.cells [pv,u64 0] 141):=(aj _ _ _ _).trans ((ak e5).trans G);refine DS (aij g1) ?_;refine DS (ahj (v:=pv) ⟨⟨q,bq,g1⟩,g2⟩) ?_;refine⟨x,Z,⟨.inr ⟨q,bq,g1,g2⟩,U,U⟩,(ak e5).trans G,.inl Z,λb D hbr=>ak U⟩
def T26:=RB [(4,[MO z7 8,MO [] 9,RX])]
def a26{x}(A:IsC pv)(hR:pN h Y rb x pv):
 UP 26 [.ptr rb 0] h Y λw Q E=>Y<=E/\w= .dY [pv,u64 0]/\∃x',pN Q E rb x' pv/\N Q x'=J (.cells [pv,u64 0] 141)/\(x'=x\/Y<=x')/\∀b,b<Y->b≠rb->N Q b=N h b:=by
 refine az.ac 1 T26 func26 (Xf f26.eq_1 ?_);refine cm (a59 A hR) ?_;rintro _ Q E hle ⟨hn,x',rfl,hR',G,L,hh⟩;refine Y8 T26.eq_1 G ?_;exact⟨by omega,x',hR'.aW Z Z (by omega),G,L,hh⟩
def pN.aq0{x}(r:pN h Y rb x pv)(G:N h x=J (.cells [pv,u64 0] 141)):LU h rb x (pv):=by
 obtain⟨q,W,F⟩|⟨q,bq,W,F⟩:=r.ok;.rw[F]at G;injection G with G;injection G with yf nB;exact absurd nB bS
 .exact⟨⟨q,bq,W⟩,F⟩
def arH{x}(hw:LU h rb x (pv))(W:rb<Y)(h3:x<Y):UP 59 [.ptr rb 0] h Y (dG (.ptr x 0) h Y):=by have⟨⟨q,bq,hR⟩,G⟩:=hw;refine az.pc 1 T0 func59 ?_;have e1:¬(rb=Y):=U;refine J7 f59.eq_1 hR e1 ?_;have g1:N (aI h Y (.cells [.ptr rb 0] 62)) rb=J (.cells (gV 1 0 q (.fn 89 [.ptr bq 0]) (.ptr x 0)) 201):=(aj _ _ _ _).trans ((ak e1).trans hR);have g2:N (aI h Y (.cells [.ptr rb 0] 62)) x=J (.cells [pv,u64 0] 141):=(aj _ _ _ _).trans ((ak U).trans G);refine DS (aij g1) ?_;refine DS (ahj (v:=pv) ⟨⟨q,bq,g1⟩,g2⟩) ?_;exact .eE (gU) (.cw (show x<Y from h3)) Z
def agh{x}(hw:LU h rb x (pv))(W:rb<Y)(h3:x<Y)(K:tF Y (pv)):UP 26 [.ptr rb 0] h Y (dG (.dY [pv,u64 0]) h Y):=by refine az.pc 1 T26 func26 (Xf f26.eq_1 ?_);refine bc (arH hw W h3) ?_;refine Y8 T26.eq_1 hw.st ?_;exact .eE (gU) (.mC (.cw K) .cP) Z
def Tk(o:Option (Nat×Nat))(cs:List u):u:=match o with
 |none=> .fp cs
 |some q=> .fi q.1 q.2 cs
def agp{o:Option (Nat×Nat)}(h:VR r (Tk o cs) AV):VR r (.fp cs) AV:=by
 cases o with
 |none=>exact h
 |some q=>exact h.am'
def ajm{o:Option (Nat×Nat)}:IsC (Tk o cs):=by cases o<;>exact⟨Z,Z⟩
def IK{o:Option (Nat×Nat)}(h:tF n (.fp cs)):tF n (Tk o cs):=by cases o<;>exact h
def VR.XK{o:Option (Nat×Nat)}{l}(h:VR r (.dY (Tk o cs::l)) AV):VR r (.dY (.fp cs::l)) AV:=by
 cases h with
 |dY h=>cases h with
  |cons a t=>exact .dY (.cons (agp a) t)
def arw{x}{o:Option (Nat×Nat)}{ps}(hR:pN h Y rb x (Tk o ps)):
 UP 26 [.ptr rb 0] h Y λw Q E=>Y<=E/\w= .dY [.fp ps,u64 0]/\∃x',pN Q E rb x' (Tk o ps)/\N Q x'=J (.cells [Tk o ps,u64 0] 141)/\(x'=x\/Y<=x')/\∀b,b<Y->b≠rb->N Q b=N h b:=
 (a26 ajm hR).less λ_ _ _ ⟨a,e,q⟩=>⟨_,λ_ _ hv=>by subst e;exact hv.XK,a,Z,q⟩
def Um{x}{o:Option (Nat×Nat)}{ps}(hw:LU h rb x (Tk o ps))(W:rb<Y)(h3:x<Y)(K:tF Y (.fp ps)):UP 26 [.ptr rb 0] h Y (dG (.dY [.fp ps,u64 0]) h Y):=
 (agh hw W h3 (IK K)).less λ_ _ _ ⟨e,q⟩=>⟨_,λ_ _ hv=>by subst e;exact hv.XK,Z,q⟩
end
structure Wr where
 key:aY
 val:aY
 gone:Bool
 deriving Inhabited
abbrev Wr.cells(w:Wr):List u:=[cg w.key,cg w.val,bW w.gone]
abbrev wrs(l:List Wr):u:=Lk Wr.cells l
def Ki[Inhabited α]{c:α->List u}{l:List α}(hk:k<O l):(l.drop k).flatMap c=c (l.getD k default)++(l.drop (k+1)).flatMap c:=by rw[cM hk,bE];simp[List.getD,hk]
def XJ{e}{sz:TypeId->Option Nat}{l:List Wr}(hk:k<O l):qa (J (.slice e)) sz (wrs l) (int k)=(sz e).bind λsize=>(dV (k*size) (l.flatMap Wr.cells)).map λl=> .val (.fp l):=sT hk
def U'{l:List Wr}(hk:k<O l):dV (k*3) (l.flatMap Wr.cells)=J ([cg (l.getD k default).key,cg (l.getD k default).val,bW (l.getD k default).gone]++(l.drop (k+1)).flatMap Wr.cells):=by rw[nQ (n:=3) (λ_=>rfl) (eC hk),Ki hk]
attribute[go_sem] XJ U'
structure CY where
 kind:Nat
 key:aY
 val:aY
 old:aY
 nh:Bool
 after:Bool
 ws:List Wr
 deriving Inhabited
abbrev CY.v(o:CY):LJ:=⟨o.kind,o.key,o.val,o.old,o.nh,o.after,wrs o.ws⟩
abbrev CY.cells(o:CY):List u:=o.v.cells
abbrev Nx(l:List CY):u:=Lk CY.cells l
def Ua{e}{sz:TypeId->Option Nat}{l:List CY}(hk:k<O l):qa (J (.slice e)) sz (Nx l) (int k)=(sz e).bind λsize=>(dV (k*size) (l.flatMap CY.cells)).map λl=> .val (.fp l):=sT hk
def VH{l:List CY}(hk:k<O l):dV (k*7) (l.flatMap CY.cells)=J ((l.getD k default).cells++(l.drop (k+1)).flatMap CY.cells):=by rw[nQ (n:=7) (λ_=>rfl) (eC hk),Ki hk]
attribute[go_sem] Ua VH
def Mh(l:List aY):Bool:=decide (100<O l)||l.any λs=>decide (500<O s)
def jY{l:List α}{d:α}(h:k<O l):l.getD k d∈l:=by rw[aB,aF h];exact bO h
def tu{l:List α}{d:α}{f:α->Bool}(h:k<O l):(l.take (k+1)).any f=((l.take k).any f||f (l.getD k d)):=by rw[bj h,List.any_append];simp[List.getD,h]
def a16(l):bz 16 [strs l] (bW (Mh l)):=by
 refine bz.ac 1 T0 func16 λh Y=>?_;by_cases h0:100<O l;.have qX:(100:Int)<(O l:Int):=U;refine Y8 f16.eq_1 qX ?_;exact .eE .refl .cP (by unfold Mh;rw[aN h0,PC])
 refine Y8 f16.eq_1 (U:¬(100:Int)<(O l:Int)) ?_;refine cI _ _ (λm s Q E=>∃k,k<=O l/\m=O l-k/\(l.take k).any (λs=>decide (500<O s))=R/\X s 0=strs l/\X s 3=int k/\Q=h/\Y<=E) (n:=O l) ?_ ?_;.refine QZ ?_;exact⟨0,aQ _,Z,Z,Z⟩
 rintro m s Q E ⟨k,k1,rfl,hk,s0,s3,rfl,l1⟩;by_cases W:k<O l
 .have ki:(k:Int)<(O l:Int):=U;by_cases F:500<O (l.getD k []);.have qK:(500:Int)<(O (l.getD k []):Int):=U;refine PV s0 s3 W ki qK ?_;refine .eE .refl .cP ?_;have:l.any (λs=>decide (500<O s))=M:=uo.2 ⟨l.getD k [],jY W,aN F⟩;unfold Mh;rw[this,CM]
  .refine RC s0 s3 W ki (U:¬(500:Int)<(O (l.getD k []):Int)) (U:k+1<9223372036854775808) ?_;exact⟨O l-(k+1),U,k+1,W,Z,by rw[tu W,hk,qP];exact aU F,Z,U⟩
 .refine J7 s0 s3 (U:¬(k:Int)<(O l:Int)) ?_;rw[aH U]at hk;exact .eE .refl .cP (by unfold Mh;rw[hk,aU h0];rfl)
def FC(o:CY):Bool:=decide (500<O o.key)||decide (500<O o.val)||decide (500<O o.old)||decide (40<O o.ws)||o.ws.any λw=>decide (500<O w.key)||decide (500<O w.val)
def a17(o:CY):bz 17 [o.v.av] (bW (FC o)):=by
 refine bz.ac 1 T0 func17 λh Y=>?_;have⟨kind,key,val,old,nh,after,l⟩:=o;by_cases k1:500<O key;.have DT:(500:Int)<(O key:Int):=U;refine Y8 f17.eq_1 DT ?_;exact .eE (gU) .cP (by unfold FC;dsimp only;rw[aN k1];simp)
 have DT:¬(500:Int)<(O key:Int):=U;by_cases k2:500<O val;.have I8:(500:Int)<(O val:Int):=U;refine J7 f17.eq_1 DT I8 ?_;exact .eE (gU) .cP (by unfold FC;dsimp only;rw[aN k2];simp)
 have I8:¬(500:Int)<(O val:Int):=U;by_cases k3:500<O old;.have SO:(500:Int)<(O old:Int):=U;refine L6 f17.eq_1 DT I8 SO ?_;exact .eE (gU) .cP (by unfold FC;dsimp only;rw[aN k3];simp)
 have SO:¬(500:Int)<(O old:Int):=U;by_cases k4:40<O l;.have k4':(40:Int)<(O l:Int):=U;refine PV f17.eq_1 DT I8 SO k4' ?_;exact .eE (gU) .cP (by unfold FC;dsimp only;rw[aN k4];simp)
 refine PV f17.eq_1 DT I8 SO (U:¬(40:Int)<(O l:Int)) ?_;have e1:FC ⟨kind,key,val,old,nh,after,l⟩=l.any λw=>decide (500<O w.key)||decide (500<O w.val):=by unfold FC;dsimp only;rw[aU k1,aU k2,aU k3,aU k4];rfl
 rw[e1];generalize hH:aI h Y _=hi;have SH:aG Y h hi:=hH▸gU
 have gH:=TZ hH
 refine cI _ _ (λm s Q E=>∃k,k<=O l/\m=O l-k/\(l.take k).any (λw=>decide (500<O w.key)||decide (500<O w.val))=R/\X s 1= .ptr Y 0/\X s 3=int k/\Q=hi/\Y<=E) (n:=O l) ?_ ?_;.refine QZ ?_;exact⟨0,aQ _,Z,Z,Z⟩
 rintro m s Q E ⟨k,q1,rfl,hk,s1,s3,rfl,l1⟩;by_cases W:k<O l
 .have ki:(k:Int)<(O l:Int):=U;by_cases F:500<O (l.getD k default).key;.have qK:(500:Int)<(O (l.getD k default).key:Int):=U;refine RC gH s1 s3 W ki qK ?_;exact .eE SH .cP (ff bW (uo.2 ⟨_,jY (d:=default) W,by rw[aN F];rfl⟩).symm)
  have qK:¬(500:Int)<(O (l.getD k default).key:Int):=U;by_cases h3:500<O (l.getD k default).val;.have Ci:(500:Int)<(O (l.getD k default).val:Int):=U;refine YM gH s1 s3 W ki qK Ci ?_;exact .eE SH .cP (ff bW (uo.2 ⟨_,jY (d:=default) W,by rw[aN h3,CM]⟩).symm)
  refine Ik gH s1 s3 W ki qK (U:¬(500:Int)<(O (l.getD k default).val:Int)) (U:k+1<9223372036854775808) ?_;exact⟨O l-(k+1),U,k+1,W,Z,by rw[tu W,hk,aU F,aU h3];rfl,Z,U⟩
 .refine L6 gH s1 s3 (U:¬(k:Int)<(O l:Int)) ?_;rw[aH U]at hk;exact .eE SH .cP (by rw[hk])
def Da(l:List CY):Bool:=decide (100<O l)||l.any FC
def a15(l):bz 15 [FB,Nx l] (bW (Da l)):=by
 refine bz.ac 2 T0 func15 λh Y=>?_;by_cases h0:100<O l;.have qX:(100:Int)<(O l:Int):=U;refine Y8 f15.eq_1 qX ?_;exact .eE .refl .cP (by unfold Da;rw[aN h0,PC])
 refine Y8 f15.eq_1 (U:¬(100:Int)<(O l:Int)) ?_;refine cI _ _ (λm s Q E=>X s 0= FB/\X s 1=Nx l/\X s 5=int 0/\Q=h/\Y<=E) (n:=0) ?_ ?_;.exact VU
 rintro m s Q E ⟨s0,s1,s5,rfl,l1⟩;refine Y8 s0 s5 ?_;refine cI _ _ (λm s Ai E=>∃k,k<=O l/\m=O l-k/\(l.take k).any FC=R/\X s 1=Nx l/\X s 6=int k/\Ai=Q/\Y<=E) (n:=O l) ?_ ?_;.refine Xf s1 ?_;exact⟨0,aQ _,Z,Z,Z,l1⟩
 rintro m s Ai E ⟨k,q1,rfl,hk,s1,s6,rfl,l1⟩;by_cases W:k<O l
 .have ki:(k:Int)<(O l:Int):=U;have w:k+1<9223372036854775808:=U;refine L6 s1 s6 W ki ?_;refine ba (a17 (l.getD k default)) ?_;cases F:FC (l.getD k default)with
  |true=>refine QZ ?_;exact .eE .refl .cP (by unfold Da;rw[uo.2 ⟨_,jY (d:=default) W,F⟩,CM])
  |false=>refine J7 s1 s6 w ?_;exact⟨O l-(k+1),U,k+1,W,Z,by rw[tu W,hk,F];rfl,Z,U⟩
 .refine J7 s1 s6 (U:¬(k:Int)<(O l:Int)) ?_;rw[aH U]at hk;exact .eE .refl .cP (by unfold Da;rw[hk,aU h0];rfl)
def a49(o:LJ)(zxQ:o.zxQ):bz 49 [o.av] (i6 (if Em o then 7 else 0)):=by
 refine bz.ac 1 T0 func49 λh Y=>?_;have⟨kind,key,val,old,nh,after,ws⟩:=o;have A:=zxQ.c;have LC:=zxQ.c2;have hk:=zxQ.k;dsimp only at A hk LC;unfold Em lrg;by_cases k1:24<O key
 .have DT:(24:Int)<(O key:Int):=U;have k1d:=aN k1;rcases hk with rfl|rfl|rfl<;>
  .refine Y8 f49.eq_1 DT ?_;exact .eE (gU) .cP (by rw[k1d];rfl)
 have DT:¬(24:Int)<(O key:Int):=U;have k1d:=aU k1;obtain rfl|rfl|rfl:=hk
 .by_cases k2:32<O val;.have I8:(32:Int)<(O val:Int):=U;have k2d:=aN k2;refine J7 f49.eq_1 DT I8 ?_;exact .eE (gU) .cP (by rw[k1d,k2d];rfl)
  .have I8:¬(32:Int)<(O val:Int):=U;have k2d:=aU k2;refine J7 f49.eq_1 DT I8 ?_;exact .eE (gU) .cP (by rw[k1d,k2d];rfl)
 .refine Y8 f49.eq_1 DT ?_;exact .eE (gU) .cP (by rw[k1d];rfl)
 .by_cases k2:32<O val;.have I8:(32:Int)<(O val:Int):=U;have k2d:=aN k2;refine J7 f49.eq_1 DT I8 ?_;exact .eE (gU) .cP (by rw[k1d,k2d];rfl)
  .have I8:¬(32:Int)<(O val:Int):=U;have k2d:=aU k2;cases nh with
   |false=>refine J7 f49.eq_1 DT I8 ?_;exact .eE (gU) .cP (by rw[k1d,k2d];rfl)
   |true=>
    by_cases k3:32<O old;.have SO:(32:Int)<(O old:Int):=U;have k3d:=aN k3;refine L6 f49.eq_1 DT I8 SO ?_;exact .eE (gU) .cP (by rw[k1d,k2d,k3d];rfl)
    .have k3d:=aU k3;refine L6 f49.eq_1 DT I8 (U:¬(32:Int)<(O old:Int)) ?_;exact .eE (gU) .cP (by rw[k1d,k2d,k3d];rfl)
variable{l1 l2 xs:List Pt}{x':Pt}
structure IZ(x:Pt)(p:bp)(k:Nat)(h:aE)(Y:Nat):Prop where
 c:N h x.xb=J (.cells x.cells 160)
 xl:x.xb<Y
 i:N h x.ib=J (.cells (D8 x.T x.kd) 175)
 il:x.ib<Y
 w:x.T.h1 p h Y
 zY:¬x.T.own x.xb
 noi:¬x.T.own x.ib
 ok:x.T.ok x.pk k
 wd:∃n,n<=k/\x.w=4*n
 kd:x.kd=1\/x.kd=2\/x.kd=3
def Pt.pL(x:Pt)(b:Nat):Prop:=b=x.xb\/b=x.ib\/x.T.own b
def fc{b' tw t'}(W:N h b=J (.cells cs t))(F:N h b'=J (.cells tw t'))(cD:t≠t'):b≠b':=λe=>by subst e;rw[W]at F;injection F with F;injection F with F h3;exact cD h3
def IZ.ne{x p}(o:IZ x p k h Y):x.ib≠x.xb:=fc o.i o.c bS
def IZ.np{x p k h Y}(o:IZ x p k h Y){b}(D:x.pL b):b≠p.pb/\b≠p.gb/\b≠p.fb:=by
 have pk:=o.w.pk;obtain rfl|rfl|D:=D
 .exact⟨fc o.c pk.a bS,fc o.c pk.g bS,fc o.c pk.f bS⟩
 .exact⟨fc o.i pk.a bS,fc o.i pk.g bS,fc o.i pk.f bS⟩
 .exact o.w.np D
def IZ.lt{x p k h Y}(o:IZ x p k h Y){b}(D:x.pL b):b<Y:=by
 obtain rfl|rfl|D:=D;.exact o.xl
 .exact o.il
 .exact o.w.lt D
def IZ.to{x}{p p':bp}{k k' h Q Y E}(o:IZ x p k h Y)(ks:∀b,x.pL b->N Q b=N h b)(pk:p'.ok Q E)(W:p'.pb=p.pb)(F:p'.gb=p.gb)(h3:p'.fb=p.fb)(h4:O p'.fr=O p.fr)(h5:∀s,x.T.sl s->p'.fr.getD s R=R)(hn:Y<=E)(hk:k<=k'):IZ x p' k' Q E:=
 ⟨by rw[ks _ (.inl Z)];exact o.c,aP o.xl hn,by rw[ks _ (.inr (.inl Z))];exact o.i,aP o.il hn,o.w.to (λb D=>ks b (FF D)) pk W F h3 h4 h5 hn,o.zY,o.noi,o.ok.mono hk,let⟨n,a,b⟩:=o.wd;⟨n,fB a hk,b⟩,o.kd⟩
def lens(xs:List Pt):Nat:=(xs.map λx=>x.T.len).sum
def zq:lens (l1++l2)=lens l1+lens l2:=by unfold lens;rw[dm,List.sum_append]
def xB{x:Pt}{l}:lens (x::l)=x.T.len+lens l:=by unfold lens;rw[cB,gM]
structure EY(xs:List Pt)(p:bp)(k:Nat)(h:aE)(Y:Nat):Prop where
 all:∀x∈xs,IZ x p k h Y
 pk:p.ok h Y
 sep:xs.Pairwise λx y=>(∀b,x.pL b->¬y.pL b)/\∀s,x.T.sl s->¬y.T.sl s
 cnt:p.fr.count M+lens xs=O p.fr
def EY.to{xs p k k' h Q Y E}(o:EY xs p k h Y)(ks:∀b,(∃x∈xs,x.pL b)\/b=p.pb\/b=p.gb\/b=p.fb->N Q b=N h b)(hn:Y<=E)(hk:k<=k'):EY xs p k' Q E:=by have pk:=o.pk.jw (ks _ (.inr (.inl Z))) (ks _ (FF (.inl Z))) (ks _ (Fe Z)) hn;exact⟨λx L=>(o.all x L).to (λb D=>ks b (.inl ⟨x,L,D⟩)) pk Z Z Z Z (λs G=>(o.all x L).w.tk G) hn hk,pk,o.sep,o.cnt⟩
def EY.lt{xs p k h Y}(o:EY xs p k h Y){b}(D:(∃x∈xs,x.pL b)\/b=p.pb\/b=p.gb\/b=p.fb):b<Y:=by
 obtain⟨x,L,D⟩|rfl|rfl|rfl:=D;.exact(o.all x L).lt D
 .exact o.pk.tD
 .exact o.pk.tJ
 .exact o.pk.tM
def EY.same{p}(o:EY xs p k h Y)(G:aG Y h Q)(hn:Y<=E):EY xs p k Q E:=
 o.to (λb D=>G b (o.lt D)) hn (an _)
def EY.step{x p}(o:EY (l1++x::l2) p k h Y)(o':IZ x' p' (k+1) Q E)(hf:∀b,x'.pL b->x.pL b\/Y<=b)(G:∀s,x'.T.sl s->x.T.sl s\/p.fr.getD s R=M)
 (ks:∀b,b<Y->¬x.pL b->b≠p.pb->b≠p.gb->b≠p.fb->N Q b=N h b) (W:p'.pb=p.pb) (F:p'.gb=p.gb) (h3:p'.fb=p.fb) (h4:O p'.fr=O p.fr) (h5:∀s,p.fr.getD s R=R->p'.fr.getD s R=R\/x.T.sl s) (hn:Y<=E) (A:p'.fr.count M+x'.T.len=p.fr.count M+x.T.len):EY (l1++x'::l2) p' (k+1) Q E:=by
 have pk:=o'.w.pk;have⟨s1,s2,s3⟩:=jr.1 o.sep;have⟨s4,s5⟩:=eP.1 s2;have oth:∀y∈l1++x::l2,(∀b,y.pL b->¬x.pL b)->(∀s,y.T.sl s->¬x.T.sl s)->IZ y p' (k+1) Q E/\(∀b,y.pL b->¬x'.pL b)/\∀s,y.T.sl s->¬x'.T.sl s:=by
  intro y hy hyf CR;have oy:=o.all y hy;refine⟨oy.to (λb D=>ks b (oy.lt D) (hyf b D) (oy.np D).1 (oy.np D).2.1 (oy.np D).2.2) pk W F h3 h4 (λs G=>(h5 s (oy.w.tk G)).resolve_right (CR s G)) hn (bG _),λb D iQ=>?_,λs D iQ=>?_⟩
  .obtain q|q:=hf b iQ;.exact hyf b D q
   .have:=oy.lt D;omega
  .obtain q|q:=G s iQ;.exact CR s D q
   .rw[oy.w.tk D]at q;cases q
 have a1:∀y∈l1,IZ y p' (k+1) Q E/\(∀b,y.pL b->¬x'.pL b)/\∀s,y.T.sl s->¬x'.T.sl s:=λy hy=>oth y (by simp[hy]) (s3 y hy x bR).1 (s3 y hy x bR).2;have a2:∀y∈l2,IZ y p' (k+1) Q E/\(∀b,y.pL b->¬x'.pL b)/\∀s,y.T.sl s->¬x'.T.sl s:=λy hy=>oth y (by simp[hy]) (λb D iQ=>(s4 y hy).1 b iQ D) (λs D iQ=>(s4 y hy).2 s iQ D);refine⟨λy hy=>?_,pk,jr.2 ⟨s1,eP.2 ⟨λy hy=>⟨λb D iQ=>(a2 y hy).2.1 b iQ D,λs D iQ=>(a2 y hy).2.2 s iQ D⟩,s5⟩,λy hy hd hz=>?_⟩,by have:=o.cnt;rw[zq,xB]at this⊢;omega⟩
 .obtain hy|hy:=bN.1 hy;.exact(a1 y hy).1
  .obtain rfl|hy:=bJ.1 hy;.exact o'
   .exact(a2 y hy).1
 .obtain rfl|hz:=bJ.1 hz;.exact(a1 y hy).2
  .exact s3 y hy hd (by simp[hz])
variable{Po:Int}{eb mb pb sz wb:Nat}{hv:u}
structure Ev where
 l:List u
 len:O l=13
 cel:l.all u.dh=M
def evc(e:Ev):List u:=e.l
abbrev Be(eb mb pb sb n cap:Nat)(hv:u)(Po:Int):List u:=[.ptr eb 0,.ptr mb 0,.ptr pb 0,.sl sb 0 n cap,.g (.slice B 0 0),hv,bW R,i6 Po]
def Own.bT{c:α->List u}{e v l}(o:Own c e sz h v l)(D:cu v=J b):∃hc,N h b=J (.cells hc e):=by
 obtain⟨rfl,rfl⟩|⟨b',cap,hc,rfl,W,_⟩:=o;.cases D
 .cases D;exact⟨hc,W⟩
def T54:=RB [(2,[(z11,[4,8,9],J 12),MO [13,14] 15,RX])]
def a54{OV:List Ev}(hw:N h wb=J (.cells (Be eb mb pb sb n cap hv Po) 35))(ho:Own evc 129 13 h hv OV)(mO:In 0 Y hv)(K:O OV<60000)(q:LJ)(zxQ:q.zxQ)(hwl:wb<Y):
 UP 54 [.ptr wb 0,q.av] h Y λw Q E=>∃e hv' nxt',w=i6 nxt'/\N Q wb=J (.cells (Be eb mb pb sb n cap hv' nxt') 35)/\Own evc 129 13 Q hv' (OV++[e])/\(∀b,cu hv'=J b->cu hv=J b\/(Y<=b/\b<E))/\∀b,b<Y->b≠wb->cu hv≠J b->N Q b=N h b:=by
 refine az.ac 2 T54 func54 ?_;have A:=zxQ.c;have LC:=zxQ.c2;have⟨v1,v2⟩:=ho.cells;have d2:¬(wb=Y+1+11):=U;refine asC f54.eq_1 T54.eq_1 hw (U:¬(wb=Y)) (U:¬(Y=wb)) d2 (U:¬(Y=Y+1+11)) (U:¬(Y+1+11=wb)) (U:¬(Y+1+11=Y)) @cL @cV ?_;refine lN (c:=evc) (x:=⟨u8 1::i6 (cO .i64 (Po+1))::(q.cells++[int 0,bW R,cg [],cg []]),Z,by simp+decide [go_sem,A]⟩) (ho.aW λb e=>?_) (λe=>e.len) (λe=>e.cel) U ?_;.have⟨hc,hA⟩:=ho.bT e;have e1:=(mO b e).2;rw[Xg,Xg (fc hA hw bS),Xg]
 rintro v' Q E hn ov FI wI;have ES:Y+1+11<E:=aP (IW bS _) hn;have cD:cu hv≠J wb:=λe=>by have⟨hc,hA⟩:=ho.bT e;exact fc hA hw bS Z
 have g1:N Q wb=J (.cells (Be eb mb pb sb n cap hv (cO .i64 (Po+1))) 35):=by rw[wI wb U cD,Xg d2,Sr]
 have⟨u1,u2⟩:=ov.cells;refine J7 g1 u1 u2 ?_;refine⟨_,v',_,Z,Z,ov.aW λb e=>?_,λb e=>?_,λb D yL VP=>?_⟩;.rw[Xg (λq=>by subst q;obtain⟨hc,hA⟩:=ov.bT e;exact fc hA g1 bS Z)]
 .obtain q|q:=FI b e;.exact .inl q
  .exact .inr ⟨by have:=q.1;omega,q.2⟩
 .first
  |rw[Xg yL,wI b U VP,Xg,Xg yL,Xg]
  |rw[ak yL,wI b U VP,Xg,Xg yL,Xg]
variable{rb:Nat}
abbrev Ej(x:Pt):List u:=[.ptr x.xb 0]
def CD(hA:hc.take (O xs)=xs.flatMap Ej)(hk:k<O xs)(d):iS (k*1) hc=J (.ptr (xs.getD k d).xb 0):=by
 have e1:(xs.flatMap Ej)[k]?=J (.ptr (xs.getD k d).xb 0):=by
  have:xs.flatMap Ej=xs.map λx=> .ptr x.xb 0:=by
   clear hA hk
   induction xs with
   |nil=>rfl
   |cons x xs ih=>rw[bE,ih];rfl
  rw[this,gY,aB,aF hk];rfl
 rw[<-hA,gJ hk]at e1;rw[df,k6];exact e1
def a50(hw:N h wb=J (.cells (Be eb mb pb sb (O xs) cap hv Po) 35))(G:N h sb=J (.cells hc 78))(hA:hc.take (O xs)=xs.flatMap Ej)(K:O xs<60000)
 (L:∀x∈xs,N h x.xb=J (.cells x.cells 160)) (key):
 UP 50 [.ptr wb 0,cg key] h Y λw Q E=>(w= FE\/∃x∈xs,w= .ptr x.xb 0)/\Q=h/\E=Y:=by
 refine az.ac 2 T0 func50 ?_;refine Xf f50.eq_1 ?_;refine cI _ _ (λm s Q E=>∃k,k<=O xs/\m=O xs-k/\X s 0= .ptr wb 0/\X s 1=cg key/\X s 5=int k/\Q=h/\E=Y) (n:=O xs) ?_ ?_;.refine QZ ?_;exact⟨0,aQ _,Z,Z⟩
 rintro m s Q E ⟨k,q1,rfl,s0,s1,s5,rfl,rfl⟩;by_cases W:k<O xs
 .have ki:(k:Int)<(O xs:Int):=U;have w:k+1<9223372036854775808:=U;have dx:Pt:=xs[k];have gn:=CD hA W dx;have gx:=L _ (jY (d:=dx) W);simp+decide-dsimp only[go_sem,s0,s1,s5,W,ki,hw,G,gn];refine bc (a67 _ gx key) ?_;cases hh:(xs.getD k dx).has key with
  |true=>simp+decide-dsimp only[go_sem,s0,s5,W,hw,G,gn];exact .inr ⟨_,jY W,Z⟩
  |false=>refine L6 s0 s1 s5 w ?_;exact⟨O xs-(k+1),U,k+1,W,Z,Z⟩
 .refine L6 s0 s5 (U:¬(k:Int)<(O xs:Int)) hw ?_;exact .inl trivial
def JP(aw b:Nat):Pq aw:=if h:b<aw then J ⟨b,h⟩else B
def ag0(h:b<aw):cq (JP aw b)=[.ptr b 0]:=by unfold JP;rw[dif_pos h];rfl
def Ha(h:b<aw):cqv (JP aw b)= .ptr b 0:=by unfold JP;rw[dif_pos h];rfl
structure Wd where
 wb:Nat
 eb:Nat
 mb:Nat
 ep:Nat
 rb:Nat
 rx:Nat
 sb:Nat
 cap:Nat
 hc:List u
 hv:u
 OV:List Ev
 Po:Int
 p:bp
 xs:List Pt
 los:List aY
 aw:Nat
 fi:Option (Nat×Nat)
abbrev Wd.dir(d:Wd):List u:=[strs d.los,LD (d.xs.map λx=>JP d.aw x.xb)]
abbrev Wd.dv(d:Wd):u:=Tk d.fi d.dir
def Wd.bT(d:Wd)(b:Nat):Prop:=b=d.wb\/b=d.eb\/b=d.mb\/b=d.rb\/b=d.rx\/b=d.sb\/cu d.hv=J b
structure Bnd(los:List aY)(xs:List Pt):Prop where
 len:O xs=O los
 yG:O los<=12
 one:0<O los
 fst:los.getD 0 []=[]
 up:∀i,i+1<O los->los.getD i []<los.getD (i+1) []
 sm:∀i,O (los.getD i [])<=500
 lo:∀i (h:i<O xs),xs[i].lo=los.getD i []
 H:∀i (h:i<O xs),xs[i].last=decide (i+1=O xs)/\(i+1<O xs->xs[i].H=los.getD (i+1) [])
structure Wd.ok(d:Wd)(k:Nat)(h:aE)(Y:Nat):Prop where
 w:N h d.wb=J (.cells (Be d.eb d.mb d.p.pb d.sb (O d.xs) d.cap d.hv d.Po) 35)
 e:N h d.eb=J (.cells [.ptr d.rb 0,.ptr d.ep 0] 65)
 m:N h d.mb=J (.cells [.g (.slice B 0 0),i6 0,i6 0,bW R,bW R] 96)
 r:pN h Y d.rb d.rx d.dv
 s:N h d.sb=J (.cells d.hc 78)
 sA:d.hc.take (O d.xs)=d.xs.flatMap Ej
 hv:Own evc 129 13 h d.hv d.OV
 mO:In 0 Y d.hv
 yG:O d.OV<=3*k
 P:EY d.xs d.p k h Y
 lt:∀b,d.bT b->b<Y
 wo:∀x∈d.xs,∀b,d.bT b->¬x.T.own b
 bn:Bnd d.los d.xs
 aw:d.aw<=Y/\∀x∈d.xs,x.xb<d.aw
def pN.ty{x}(r:pN h Y rb x pv):(∃cs,N h rb=J (.cells cs 201))/\∃cs,N h x=J (.cells cs 70)\/N h x=J (.cells cs 141):=by
 obtain⟨q,W,F⟩|⟨q,bq,W,F⟩:=r.ok;.exact⟨⟨_,W⟩,_,.inl F⟩
 .exact⟨⟨_,W⟩,_,.inr F⟩
def Wd.ok.ty{d:Wd}{k h Y}(o:d.ok k h Y){b}(D:d.bT b):∃cs t,N h b=J (.cells cs t)/\(t=35\/t=65\/t=96\/t=201\/t=70\/t=141\/t=78\/t=129):=by
 obtain rfl|rfl|rfl|rfl|rfl|rfl|D:=D;.exact⟨_,_,o.w,bS⟩
 .exact⟨_,_,o.e,bS⟩
 .exact⟨_,_,o.m,bS⟩
 .have⟨⟨cs,W⟩,_⟩:=o.r.ty;exact⟨_,_,W,bS⟩
 .obtain⟨_,cs,W|W⟩:=o.r.ty;.exact⟨_,_,W,bS⟩
  .exact⟨_,_,W,bS⟩
 .exact⟨_,_,o.s,bS⟩
 .have⟨hc,hA⟩:=o.hv.bT D;exact⟨_,_,hA,bS⟩
def Wd.ok.nf{d:Wd}(o:d.ok k h Y)(D:d.bT b):(∀x∈d.xs,¬x.pL b)/\b≠d.p.pb/\b≠d.p.gb/\b≠d.p.fb:=by
 have⟨cs,t,W,ht⟩:=o.ty D;have pk:=o.P.pk;refine⟨λx L hf=>?_,fc W pk.a (by rcases ht with rfl|rfl|rfl|rfl|rfl|rfl|rfl|rfl<;>decide),fc W pk.g (by rcases ht with rfl|rfl|rfl|rfl|rfl|rfl|rfl|rfl<;>decide),fc W pk.f (by rcases ht with rfl|rfl|rfl|rfl|rfl|rfl|rfl|rfl<;>decide)⟩;have px:=o.P.all x L;obtain e|e|e:=hf;.exact fc W px.c (by rcases ht with rfl|rfl|rfl|rfl|rfl|rfl|rfl|rfl<;>decide) e
 .exact fc W px.i (by rcases ht with rfl|rfl|rfl|rfl|rfl|rfl|rfl|rfl<;>decide) e
 .exact o.wo x L b D e
def Wd.ok.to{d:Wd}{k k' h Q Y E}(o:d.ok k h Y)(G:∀b,b<Y->N Q b=N h b)(hn:Y<=E)(hk:k<=k'):d.ok k' Q E:=by have g:∀b,d.bT b->N Q b=N h b:=λb D=>G b (o.lt b D);exact⟨by rw[g _ (.inl Z)];exact o.w,by rw[g _ (.inr (.inl Z))];exact o.e,by rw[g _ (FF (.inl Z))];exact o.m,o.r.aW (G _ o.r.OM) (G _ o.r.LA) hn,by rw[g _ (Fk (.inl Z))];exact o.s,o.sA,o.hv.aW λb D=>g b (Fl D),λb D=>⟨aQ _,aP (o.mO b D).2 hn⟩,fB o.yG (Je _ hk),o.P.to (λb D=>G b (o.P.lt D)) hn hk,λb D=>aP (o.lt b D) hn,o.wo,o.bn,fB o.aw.1 hn,o.aw.2⟩
variable{los:List aY}
def Wd.all(d:Wd)(b:Nat):Prop:=d.bT b\/(∃x∈d.xs,x.pL b)\/b=d.p.pb\/b=d.p.gb\/b=d.p.fb
def Bnd.rep{x}(o:Bnd los (l1++x::l2))(W:x'.lo=x.lo)(F:x'.H=x.H)(h3:x'.last=x.last):Bnd los (l1++x'::l2):=by
 have len:O (l1++x'::l2)=O (l1++x::l2):=bR;have key:∀i (h:i<O (l1++x'::l2)) (Q:i<O (l1++x::l2)),(l1++x'::l2)[i].lo=(l1++x::l2)[i].lo/\(l1++x'::l2)[i].H=(l1++x::l2)[i].H/\(l1++x'::l2)[i].last=(l1++x::l2)[i].last:=by
  intro i h Q;by_cases e:i<O l1;.rw[zZ e,zZ e];exact⟨Z,Z,Z⟩
  .rw[List.getElem_append_right U,List.getElem_append_right U];by_cases e2:i=O l1;.subst e2;simp[W,F,h3]
   .obtain⟨j,hj⟩:∃j,i-(O l1)=j+1:=⟨i-(O l1)-1,U⟩;simp[hj]
 refine⟨by rw[len];exact o.len,o.yG,o.one,o.fst,o.up,o.sm,λi h=>?_,λi h=>?_⟩;.rw[(key i h (len▸h)).1];exact o.lo i _
 .rw[(key i h (len▸h)).2.2,(key i h (len▸h)).2.1];have⟨a,b⟩:=o.H i (len▸h);exact⟨by rw[a,jl];omega,λq=>b U⟩
def Wd.ok.wr{d:Wd}{k:Nat}{h Y}(o:d.ok k h Y){x}(L:x∈d.xs){n}(hn:n<=k){wr}{T':Tr}{p' S0 F dR}(DV:Y<=dR)(e1:T'.tb=x.T.tb)(e2:T'.ty=x.T.ty)(W':T'.h1 p' F dR)
 (S:eA Y x.T.own T'.own x.T.sl T'.sl d.p p' S0 F) (hS0:∀b,b≠x.xb->b<Y->N S0 b=N h b) (LX:T'.ok x.pk (k+1)) (A:p'.fr.count M+T'.len=d.p.fr.count M+x.T.len):
 ∃d2:Wd,d2.ok (k+1) (aI F x.xb (.cells ({x with wr:=wr,w:=4*(n+1)}:Pt).cells 160)) dR/\(∀b,d2.all b->d.all b\/Y<=b)/\(∀b,b<Y->¬d.all b->N F b=N h b)/\(∀b,d.bT b->N F b=N h b)/\
  d2.wb=d.wb/\d2.eb=d.eb/\d2.mb=d.mb/\d2.p.pb=d.p.pb/\d2.sb=d.sb/\O d2.xs=O d.xs/\d2.cap=d.cap/\d2.hv=d.hv/\d2.OV=d.OV/\d2.ep=d.ep/\d2.fi=d.fi:=by
 have⟨l1,l2,K⟩:=List.append_of_mem L;have px:=o.P.all x L;have UA:∀b,T'.own b->b≠x.xb:=λb D e=>by
  obtain q|q:=S.bl b D;.rw[e]at q;exact px.zY q
  .have:=px.xl;omega
 have ae':∀b,T'.own b->b≠x.ib:=λb D e=>by
  obtain q|q:=S.bl b D;.rw[e]at q;exact px.noi q
  .have:=px.il;omega
 have Tz:=px.np (.inl Z);have adT:∀b,d.bT b->N F b=N h b:=λb D=>by have nf:=o.nf D;have dc:=o.lt b D;rw[S.aW b dc (λq=>nf.1 x L (FF q)) nf.2.1 nf.2.2.1 nf.2.2.2,hS0 b (λe=>nf.1 x L (.inl e)) dc]
 refine⟨{d with p:=p',xs:=l1++{x with wr:=wr,w:=4*(n+1),T:=T'}::l2},?_,?_,?_,adT,Z,Z,Z,S.pb,Z,?_,Z,Z,Z,Z,Z⟩
 .generalize hH:aI F x.xb _=hi;have gH:∀b,b≠x.xb->N hi b=N F b:=λb D=>by rw[<-hH,Xg D]
  have gX:=TZ hH
  have ajl:O (l1++({x with wr:=wr,w:=4*(n+1),T:=T'}:Pt)::l2)=O d.xs:=by rw[K];simp
  have kb:∀b,d.bT b->N hi b=N h b:=λb D=>by rw[gH b (λe=>(o.nf D).1 x L (.inl e)),adT b D]
  have bx:∀b,d.bT b->b<dR:=λb D=>aP (o.lt b D) DV;have W2:T'.h1 p' hi dR:=W'.aW (λb D=>gH b (by
   obtain q|q|q|q:=D;.exact UA b q
   .rw[q,S.pb];exact Tz.1.symm
   .rw[q,S.gb];exact Tz.2.1.symm
   .rw[q,S.fb];exact Tz.2.2.symm)) (an _)
  have Yi:N hi x.ib=J (.cells (D8 T' x.kd) 175):=by have npi:=px.np (.inr (.inl Z));rw[gH _ px.ne,S.aW _ px.il px.noi npi.1 npi.2.1 npi.2.2,hS0 _ px.ne px.il,px.i,show D8 T' x.kd=D8 x.T x.kd by unfold D8;rw[e1,e2]]
  have PP:EY (l1++({x with wr:=wr,w:=4*(n+1),T:=T'}:Pt)::l2) p' (k+1) hi dR:=by
   have P:=o.P;rw[K]at P;refine P.step (x:=x) (x':={x with wr:=wr,w:=4*(n+1),T:=T'}) ⟨gX,aP px.xl DV,Yi,aP px.il DV,W2,λq=>UA _ q Z,λq=>ae' _ q Z,LX,⟨n+1,U,Z⟩,px.kd⟩ ?_ S.slt ?_ S.pb S.gb S.fb S.fl S.fr DV A
   .rintro b (q|q|q);.exact .inl (.inl q)
    .exact .inl (.inr (.inl q))
    .exact(S.bl b q).imp (λq=> FF q) id
   .intro b D hf g1 g2 g3;rw[gH b (λe=>hf (.inl e)),S.aW b D (λq=>hf (FF q)) g1 g2 g3,hS0 b (λe=>hf (.inl e)) D]
  have hm:(l1++({x with wr:=wr,w:=4*(n+1),T:=T'}:Pt)::l2).map (λx=>x.xb)=d.xs.map (λx=>x.xb):=by rw[K];simp
  have LP:(l1++({x with wr:=wr,w:=4*(n+1),T:=T'}:Pt)::l2).map (λx=>JP d.aw x.xb)=d.xs.map (λx=>JP d.aw x.xb):=by rw[K];simp
  have hm3:(l1++({x with wr:=wr,w:=4*(n+1),T:=T'}:Pt)::l2).flatMap Ej=d.xs.flatMap Ej:=by rw[K];simp
  refine⟨?_,?_,?_,?_,?_,?_,?_,?_,?_,PP,bx,?_,?_,?_⟩;.show N hi d.wb=J (.cells (Be d.eb d.mb p'.pb d.sb (O (l1++({x with wr:=wr,w:=4*(n+1),T:=T'}:Pt)::l2)) d.cap d.hv d.Po) 35);rw[kb _ (.inl Z),S.pb,ajl];exact o.w
  .rw[kb _ (.inr (.inl Z))];exact o.e
  .rw[kb _ (FF (.inl Z))];exact o.m
  .show pN hi dR d.rb d.rx (Tk d.fi [strs d.los,LD ((l1++({x with wr:=wr,w:=4*(n+1),T:=T'}:Pt)::l2).map λx=>JP d.aw x.xb)]);rw[LP];exact o.r.aW (kb _ (Fe (.inl Z))) (kb _ (Fg (.inl Z))) DV
  .rw[kb _ (Fk (.inl Z))];exact o.s
  .show d.hc.take (O (l1++({x with wr:=wr,w:=4*(n+1),T:=T'}:Pt)::l2))=(l1++({x with wr:=wr,w:=4*(n+1),T:=T'}:Pt)::l2).flatMap Ej;rw[ajl,hm3];exact o.sA
  .exact o.hv.aW λb D=>kb b (Fl D)
  .exact λb D=>⟨aQ _,aP (o.mO b D).2 DV⟩
  .exact fB o.yG (by omega)
  .intro y hy b D;obtain hy|hy:=bN.1 hy
   .exact o.wo y (by rw[K];simp[hy]) b D
   .obtain rfl|hy:=bJ.1 hy
    .intro q;obtain q|q:=S.bl b q
     .exact o.wo x L b D q
     .have:=o.lt b D;omega
    .exact o.wo y (by rw[K];simp[hy]) b D
  .have bn:=o.bn;rw[K]at bn;exact bn.rep Z Z Z
  .refine⟨fB o.aw.1 DV,λy hy=>?_⟩;have:y.xb∈(l1++({x with wr:=wr,w:=4*(n+1),T:=T'}:Pt)::l2).map (λx=>x.xb):=IV hy;rw[hm]at this;have⟨hd,hz,e⟩:=bg.1 this;rw[<-e];exact o.aw.2 hd hz
 .rintro b (D|⟨y,hy,D⟩|D|D|D);.exact .inl (.inl D)
  .obtain hy|hy:=bN.1 hy;.exact .inl (.inr (.inl ⟨y,by rw[K];simp[hy],D⟩))
   .obtain rfl|hy:=bJ.1 hy
    .obtain q|q|q:=D;.exact .inl (.inr (.inl ⟨x,L,.inl q⟩))
     .exact .inl (.inr (.inl ⟨x,L,.inr (.inl q)⟩))
     .exact(S.bl b q).imp (λq=> .inr (.inl ⟨x,L,FF q⟩)) id
    .exact .inl (.inr (.inl ⟨y,by rw[K];simp[hy],D⟩))
  .exact .inl (FF (.inl (D.trans S.pb)))
  .exact .inl (Fe (.inl (D.trans S.gb)))
  .exact .inl (Fg (D.trans S.fb))
 .intro b D hna;have nf:¬x.pL b:=λq=>hna (.inr (.inl ⟨x,L,q⟩));rw[S.aW b D (λq=>nf (FF q)) (λe=>hna (FF (.inl e))) (λe=>hna (Fe (.inl e))) (λe=>hna (Fg e)),hS0 b (λe=>nf (.inl e)) D]
 .rw[K];simp
def Wd.ok.ev{d:Wd}(o:d.ok k h Y){hv' nxt' evs'}(hn:Y<=E)(G:∀b,b<Y->b≠d.wb->cu d.hv≠J b->N Q b=N h b)
 (hw:N Q d.wb=J (.cells (Be d.eb d.mb d.p.pb d.sb (O d.xs) d.cap hv' nxt') 35)) (ho:Own evc 129 13 Q hv' evs') (mO:∀b,cu hv'=J b->cu d.hv=J b\/(Y<=b/\b<E)) (hf:O evs'<=3*k):
 ({d with hv:=hv',Po:=nxt',OV:=evs'}:Wd).ok k Q E/\∀b,({d with hv:=hv',Po:=nxt',OV:=evs'}:Wd).all b->d.all b\/Y<=b:=by
 have g:∀b t cs,N h b=J (.cells cs t)->t≠35->t≠129->b<Y->N Q b=N h b:=λb t cs D W F dc=>G b dc (fc D o.w W) λe=>by have⟨hc,hA⟩:=o.hv.bT e;exact fc D hA F Z
 have nb:∀b,({d with hv:=hv',Po:=nxt',OV:=evs'}:Wd).bT b->d.bT b\/(Y<=b/\b<E):=by
  rintro b (q|q|q|q|q|q|q);.exact .inl (.inl q)
  .exact .inl (.inr (.inl q))
  .exact .inl (FF (.inl q))
  .exact .inl (Fe (.inl q))
  .exact .inl (Fg (.inl q))
  .exact .inl (Fk (.inl q))
  .exact(mO b q).imp (λq=> Fl q) id
 have rk:pN Q E d.rb d.rx d.dv:=by
  have⟨⟨c1,t1⟩,c2,t2⟩:=o.r.ty;refine o.r.aW (g _ _ _ t1 bS bS o.r.OM) ?_ hn;obtain t2|t2:=t2;.exact g _ _ _ t2 bS bS o.r.LA
  .exact g _ _ _ t2 bS bS o.r.LA
 have pk:EY d.xs d.p k Q E:=by
  refine o.P.to (λb D=>?_) hn (an _);have dc:=o.P.lt D;have nf:¬d.bT b:=λq=>by
   exact auP
  exact G b dc (λe=>nf (.inl e)) (λe=>nf (Fl e))
 refine⟨⟨hw,?_,?_,rk,?_,o.sA,ho,λb D=>?_,hf,pk,λb D=>?_,λx L b D q=>?_,o.bn,fB o.aw.1 hn,o.aw.2⟩,λb D=>?_⟩;.rw[g _ _ _ o.e bS bS (o.lt _ (.inr (.inl Z)))];exact o.e
 .rw[g _ _ _ o.m bS bS (o.lt _ (FF (.inl Z)))];exact o.m
 .rw[g _ _ _ o.s bS bS (o.lt _ (Fk (.inl Z)))];exact o.s
 .obtain q|q:=mO b D;.exact⟨aQ _,aP (o.mO b q).2 hn⟩
  .exact⟨aQ _,q.2⟩
 .obtain q|q:=nb b D;.exact aP (o.lt b q) hn
  .exact q.2
 .obtain q2|q2:=nb b D;.exact o.wo x L b q2 q
  .have:=(o.P.all x L).w.lt q;omega
 .exact avm
end
end br
end Go.Proofs.YtonnifoeokagjaaGreat
