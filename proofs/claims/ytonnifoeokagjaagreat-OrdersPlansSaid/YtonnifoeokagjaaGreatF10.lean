/- The theorem plans_holds of OrdersPlans: part 10 of its proof; no conditions. -/
import Derived.Test.YtonnifoeokagjaaGreatF09
import Derived.Laws.StructEq
namespace Go.Proofs.YtonnifoeokagjaaGreat
set_option linter.all false
set_option maxRecDepth 8000
open Go Go.RowKit
open Tryz
open Nat(reduceAdd reduceMul)
namespace bC
noncomputable section
variable{D' b hia i nx size xY:Nat}{E:jm}{body yu:Code}{h h0:aG}{s:BT AV}{xg:FuncId}
def afN:Nat->cU:=λid=>if id=6 then[([0,1,2,4,5,6],[0,2,4,5],some 3),([],[4,5,6],some 7),([],[],some 8),([],[],some 9),([],[],none)]else[]
structure Clo(h:aG)(nx hi a b:Nat)(K H:AV)(l:KL):Prop where
 ha:au h a=some (.cells [K] 46)
 hb:au h b=some (.cells [H] 243)
 k:Own jc 5 1 h K (kf l)
 h:Own Hd.cells 245 2 h H (kh l)
 ia:nx<=a/\a<hi
 ib:nx<=b/\b<hi
 ik:In nx hi K
 ih:In nx hi H
theorem akA{l:KL}{a:Nat}{K H:AV}{L:Nat}(Inv:Nat->aG->Nat->Prop)(hl:l.length<60000)(o:Clo h0 D' hia a b K H l)
 (hk:∀i h nx,Inv i h nx->∀c,(c=a\/c=b\/bZ K=some c\/bZ H=some c)->au h c=au h0 c) (hi:Inv 0 h0 xY)
 (jf:∀i h nx,i<l.length->Inv i h nx->(∃r,au h L=some (.loop r)/\r.params.length=2)/\jH prog L [u8 (((kf l).getD i 0).toNat:Nat),.agg ((kh l).getD i default).cells] h nx (λv h' nx'=>v=bQ true/\Inv (i+1) h' nx'))
 (he:∀s h nx,Inv l.length h nx->E .iA s h nx):
 W prog xt (λ_=>[]) (f290.body.getD .skip) E (ey [.sO L,.ptr a 0,.ptr b 0] 0 .nil) h0 xY:=by
 simp+decide-dsimp only[f290,go_sem,o.ha,o.k.len];refine cL _ _ (λm s h' nx'=>∃i,i<=l.length/\m=l.length-i/\ao s 0= .sO L/\ao s 1= .ptr a 0/\ao s 2= .ptr b 0/\ao s 6=K/\ao s 7=int l.length/\ao s 8=int i/\Inv i h' nx') (n:=l.length) ?_ ?_;.simp+decide-dsimp only[go_sem];exact⟨0,aY _,rfl,bL,rfl,hi⟩
 rintro m s h' nx' ⟨i,hi,rfl,s0,s1,s2,s6,s7,s8,hI⟩;have CA:=hk i h' nx' hI;by_cases mV:i<l.length
 .have hkf:i<(kf l).length:=by simpa using mV
  have hkh:i<(kh l).length:=by simpa using mV
  obtain⟨kb,cap,A,e1,e2,e3,e4,e5⟩:=(o.k.aX (h':=h') λc e=>CA c (.inr (.inr (.inl e)))).sl fE;have g:=z' e5 hkf;obtain⟨Ps,B,q1,q2,q3,q4⟩:=(o.h.aX (h':=h') λc e=>CA c (.inr (.inr (.inr e)))).idx gr pH hkh;have ekl:(kf l).length=l.length:=bL;rw[ekl]at e1;rw[e1]at s6;have w1:i+1<9223372036854775808:=ah;have gb:au h' b=some (.cells [H] 243):=by rw[CA b (.inr (.inl rfl))];exact o.hb
  obtain⟨⟨r,hr,hp⟩,hR⟩:=jf i h' nx' mV hI;simp+decide-dsimp only[go_sem,s0,s2,s6,s7,s8,mV,e2,g,gb,q2,q3,q4,hr,hp,reduceAdd];refine Qf hR λv h2 dU ⟨e,hI2⟩=>?_;subst e;simp+decide-dsimp only[go_sem,s0,s1,s2,s6,s7,s8,w1];exact⟨_,(ah:l.length-(i+1)<_),i+1,mV,rfl,e1.symm,rfl,hI2⟩
 .have:i=l.length:=ah;subst this;simp+decide-dsimp only[go_sem,s7,s8,eG];exact he _ _ _ hI
theorem Rs{l:KL}{a:Nat}{K H:AV}{ps:Array Tmp}{E:Option Nat->jm}{ka kb kc}(hl:l.length<60000)(o:Clo h D' hia a b K H l)(anS:hia<=nx)
 (hp:ps.toList.length=2) (kD:∀r0:mM,r0=⟨.ready,none,xg,s,size,ps.toList,yu,body,nx⟩->∃Inv:Nat->aG->Nat->Prop,Inv 0 (aK (aK h nx (.defs (some []))) (nx+1) (.loop r0)) (nx+2)/\
  (∀i h' nx',Inv i h' nx'->au h' (nx+1)=some (.loop r0)/\∀c,(c=a\/c=b\/bZ K=some c\/bZ H=some c)->au h' c=au h c)/\
  (∀i h' nx',i<l.length->Inv i h' nx'->jH prog (nx+1) [u8 (((kf l).getD i 0).toNat:Nat),.agg ((kh l).getD i default).cells] h' nx' (λv h' nx'=>v=bQ true/\Inv (i+1) h' nx'))/\
  (∀h' nx',Inv l.length h' nx'->E (some nx) .iA s (aK h' (nx+1) (.loop (r0.fY .exhausted none))) nx')):
 Tf prog xt (λ_=>[]) xg size (.fn 290 [.ptr a 0,.ptr b 0]) ps yu body E s h nx ka kb kc:=by
 obtain⟨r0,yT⟩:∃r0:mM,r0=⟨.ready,none,xg,s,size,ps.toList,yu,body,nx⟩:=⟨_,rfl⟩;obtain⟨Inv,hi,hk,jf,he⟩:=kD r0 yT;have hpd:r0.params.length=2:=by rw[yT];exact hp
 have aej:r0.state= .ready:=by rw[yT]
 have hpn:r0.pending=none:=by rw[yT]
 refine⟨290,_,_,f290.body.getD .skip,rfl,func290,aL,rfl,rfl,by show 3<=_;decide,aL,aL,?_⟩;rw[<-yT];have q:∀c,c<nx->au (aK (aK h nx (.defs (some []))) (nx+1) (.loop r0)) c=au h c:=λc hc=>by rw[aj,ak ah,aj,ak ah]
 have ia:=o.ia;have ib:=o.ib;refine akA Inv hl ⟨by rw[q a ah];exact o.ha,by rw[q b ah];exact o.hb,o.k.aX λc e=>q c (by have:=o.ik c e;omega),o.h.aX λc e=>q c (by have:=o.ih c e;omega),o.ia,o.ib,o.ik,o.ih⟩ (λi h' nx' hI c hc=>?_) hi (λi h' nx' mV hI=>⟨⟨r0,(hk i h' nx' hI).1,hpd⟩,jf i h' nx' mV hI⟩) (λs' h' nx' hI=>?_)
 .rw[(hk i h' nx' hI).2 c hc,q c];rcases hc with rfl|rfl|e|e
  .omega
  .omega
  .have:=o.ik c e;omega
  .have:=o.ih c e;omega
 .exact⟨r0,(hk _ _ _ hI).1,(by rw[aej];exact λe=>(by cases e)),.inl ⟨hpn,by rw[hpn];exact he _ _ hI⟩⟩
theorem Ci(l:KL):qx l 0=l[0]?:=by
 cases l with
 |nil=>rfl
 |cons x l=>simp[qx]
theorem Kb{l:KL}(hs:fD l)(hi:i<l.length):qx l (l[i].1.toNat+1)=l[i+1]?:=by
 have db:∀{i j:Nat} (hj:j<l.length) (CT:i<j),l[i].1<l[j].1:=λ{i j} hj CT=>by have:=hs.lt (l:=kf l) CT (by simpa using hj);simpa[List.getD,hj,show i<l.length from ah]using this
 by_cases h:i+1<l.length
 .rw[aF h];refine wy h (λj hj hjl=>?_) ?_
  .rcases bg j i with q|q;.have:=cW.1 (db hi q);omega
   .have:j=i:=ah;subst this;omega
  .have:=cW.1 (db h (aW i));omega
 .rw[dR ah];refine wh λj hj=>?_;rcases bg j i with q|q
  .have:=cW.1 (db hi q);omega
  .have:j=i:=ah;subst this;omega
theorem NF(e:UInt8×Hd):Io (some e)= .dN [u8 (e.1.toNat:Nat),.agg [int e.2.ao,u64 e.2.bk],bQ true]:=rfl
theorem afx(k:KN)(h:aG)(nx:Nat)(o:k.ok h nx):aA prog 276 [.ptr k.nb 0] h nx λv h' nx'=>∃a b K H,v= .fn 290 [.ptr a 0,.ptr b 0]/\Clo h' nx nx' a b K H k.l/\aH nx h h':=by
 have ob:=o.bJ;have db:=o.lt;have rL:=o.sh.RQ;have bP:=rL.len;refine aA.ac 1 afN func276 ?_;simp+decide-dsimp only[f276,go_sem];refine bm (aeD k 0 ah _ _ (o.same ((aH.refl.set (an _)).set ah) ah)) ?_;rw[Ci];have key:∀o:Option (UInt8×Hd),∃(x:Nat) (y:Hd),Io o= .dN [u8 (x:Int),.agg [int y.ao,u64 y.bk],bQ o.isSome]/\∀e,o=some e->x=e.1.toNat/\y=e.2:=λo=>by
  cases o with
  |none=>exact⟨0,⟨0,0⟩,rfl,λe h=>by cases h⟩
  |some e=>exact⟨e.1.toNat,e.2,rfl,λe' h=>by cases h;exact⟨rfl,rfl⟩⟩
 obtain⟨x0,y0,er,e0⟩:=key k.l[0]?;rw[er];simp+decide-dsimp only[go_sem,reduceAdd];refine cL _ _ (λm s h' nx'=>∃(i x hb:Nat) (y:Hd) (K H:AV),i<=k.l.length/\m=k.l.length-i/\(∀e,k.l[i]?=some e->x=e.1.toNat/\y=e.2)/\ao s 0= .ptr k.nb 0/\ao s 3= .ptr nx 0/\ao s 4= .ptr (nx+1) 0/\ao s 5=u8 x/\ao s 6= .ptr hb 0/\ao s 7=bQ k.l[i]?.isSome/\
  nx+2<=hb/\hb<nx'/\au h' hb=some (.cells [int y.ao,u64 y.bk] 245)/\au h' nx=some (.cells [K] 46)/\au h' (nx+1)=some (.cells [H] 243)/\Own jc 5 1 h' K (kf (k.l.take i))/\Own Hd.cells 245 2 h' H (kh (k.l.take i))/\In (nx+2) nx' K/\In (nx+2) nx' H/\bZ K≠some hb/\bZ H≠some hb/\(∀b,bZ K=some b->bZ H≠some b)/\aH nx h h'/\nx+2<=nx') (n:=k.l.length) ?_ ?_
 .simp+decide-dsimp only[go_sem];refine⟨0,x0,nx+2,y0,.g (.slice none 0 0),.g (.slice none 0 0),aY _,rfl,e0,?_⟩;refine⟨rfl,rfl,rfl,ah,ah,by simp[aj],by simp[aj],by simp[aj],.inl ⟨rfl,rfl⟩,.inl ⟨rfl,rfl⟩,.nil,.nil,(λe=>by cases e),(λe=>by cases e),(λb e=>by cases e),?_⟩
  repeat' first|exact aH.refl|apply aH.fJ|(apply aH.set;rotate_left;omega)
 rintro m s h' nx' ⟨i,x,hb,y,K,H,hi,rfl,FP,s0,s3,s4,s5,s6,s7,g1,g2,g3,g4,g5,oK,oH,iK,iH,dK,dH,dKH,tW,Ce⟩;by_cases mV:i<k.l.length
 .have Cb:k.l[i]?=some k.l[i]:=aF mV;obtain⟨rfl,rfl⟩:=FP _ Cb;have d1:¬(nx=nx'+2):=ah;have d2:¬(nx+1=nx'+2):=ah;have d3:¬(hb=nx'+2):=ah;have d4:¬(nx=nx'+6):=ah;have d5:¬(nx+1=nx'+6):=ah;have d6:¬(hb=nx'+6):=ah;simp+decide-dsimp only[go_sem,afN,s3,s4,s5,s6,s7,g3,g4,g5,Cb,d1,d2,d3,d4,d5,d6,qb,cr,cB,reduceAdd];have e1:(kf (k.l.take i)).length+1<65536:=fE;have e2:(kh (k.l.take i)).length+1<65536:=fE;refine km (c:=jc) (oK.aX λq e'=>?_) Up (λ_=>rfl) e1 k.l[i].1 ?_;.have:=iK q e';rw[aj,ak ah,aj,ak ah]
  intro K' h1 cm l1 p1 p2 p3;replace l1:nx'+10<=cm:=l1;replace p2:∀b,bZ K'=some b->bZ K=some b\/(nx'+10<=b/\b<cm):=p2;have q3:∀b,b<nx'+10->b≠nx'+2->b≠nx'+6->bZ K≠some b->au h1 b=au h' b:=λb h1 h2 h3 h4=>by rw[p3 b h1 h4,aj,ak h3,aj,ak h2]
  have r1:au h1 (nx+1)=some (.cells [H] 243):=by rw[q3 _ ah ah ah (λe=>by have:=iK _ e;omega)];exact g5
  have r2:au h1 hb=some (.cells [int k.l[i].2.ao,u64 k.l[i].2.bk] 245):=by rw[q3 _ ah ah ah dK];exact g3
  have r3:au h1 (nx'+6)=some (.cells [int k.l[i].2.ao,u64 k.l[i].2.bk] 245):=by rw[p3 _ (by show nx'+6<nx'+10;omega) (λe=>by have:=iK _ e;omega),aj,aw rfl]
  have r4:au h1 nx=some (.cells [K] 46):=by rw[q3 _ ah ah ah (λe=>by have:=iK _ e;omega)];exact g4
  simp+decide-dsimp only[go_sem,s4,s6,r1,r2,r3,cr,cB,reduceAdd];refine km (c:=Hd.cells) (oH.aX λq e'=>?_) gr (λ_=>rfl) e2 k.l[i].2 ?_;.have:=iH q e';exact q3 _ ah ah ah (λe=>dKH _ e e')
  intro H' h2 dU l2 u1 u2 u3;have v1:au h2 (nx+1)=some (.cells [H] 243):=by rw[u3 _ ah (λe=>by have:=iH _ e;omega)];exact r1
  have v2:au h2 hb=some (.cells [int k.l[i].2.ao,u64 k.l[i].2.bk] 245):=by rw[u3 _ ah dH];exact r2
  have v4:au h2 nx=some (.cells [K] 46):=by rw[u3 _ ah (λe=>by have:=iH _ e;omega)];exact r4
  have f1:¬(hb=nx):=ah;have f2:¬(hb=nx+1):=ah;simp+decide-dsimp only[go_sem,s0,s3,s4,s5,s6,v1,v2,v4,f1,f2,p1.cells.1,p1.cells.2,u1.cells.1,u1.cells.2,reduceAdd];have w1:k.l[i].1.toNat+1<9223372036854775808:=by have:=k.l[i].1.toNat_lt;omega
  have sm:aH nx h h2:=λb gC=>by rw[u3 b ah (λe=>by have:=iH _ e;omega),q3 b ah ah ah (λe=>by have:=iK _ e;omega)];exact tW b gC
  have f3:¬(hb=dU):=ah;have f4:¬(nx=dU):=ah;have f5:¬(nx+1=dU):=ah;simp+decide-dsimp only[go_sem,w1];refine bm (aeD k (k.l[i].1.toNat+1) (by have:=k.l[i].1.toNat_lt;omega) _ _ (o.same ?_ ah)) ?_
  .repeat' first|exact sm|apply aH.fJ|(apply aH.set;rotate_left;omega)
  rw[Kb rL mV];obtain⟨x1,y1,er,e0⟩:=key k.l[i+1]?;rw[er];simp+decide-dsimp only[go_sem,s0,s3,s4,s5,s6,s7,reduceAdd];have ek:kf (k.l.take (i+1))=kf (k.l.take i)++[k.l[i].1]:=by rw[b9 mV];exact dB
  have eh:kh (k.l.take (i+1))=kh (k.l.take i)++[k.l[i].2]:=by rw[b9 mV];exact dB
  have iK2:∀b,bZ K'=some b->nx+2<=b/\b<dU:=λb e=>by
   rcases p2 b e with q|q;.have:=iK b q;omega
   .omega
  have iH2:∀b,bZ H'=some b->nx+2<=b/\b<dU:=λb e=>by
   rcases u2 b e with q|q;.have:=iH b q;omega
   .omega
  have dK2:∀b,bZ K'=some b->bZ H'≠some b:=λb e e'=>by
   rcases p2 b e with q|q<;>rcases u2 b e' with r|r;.exact dKH b q r
   .have:=iK b q;omega
   .have:=iH b r;omega
   .omega
  refine⟨_,(ah:k.l.length-(i+1)<_),i+1,x1,dU,y1,K',H',mV,rfl,e0,rfl,rfl,rfl,ah,ah,?_,?_,?_,?_,?_,λb e=>?_,λb e=>?_,?_,?_,dK2,?_,ah⟩;.rw[aw rfl]
  .simp+decide [f4]
  .simp+decide [f5]
  .rw[ek];refine p1.aX λq e=>?_;have a1:=iK2 q e;have a2:q<cm:=by
    rcases p2 q e with r|r;.have:=iK q r;omega
    .omega
   have a3:bZ H≠some q:=λe'=>by
    rcases p2 q e with r|r;.exact dKH q r e'
    .have:=iH q e';omega
   rw[aj,ak ah,aj,ak ah,aj,ak ah,aj,ak ah,aj,ak ah,u3 q a2 a3]
  .rw[eh];refine u1.aX λq e=>?_;have a1:=iH2 q e;rw[aj,ak ah,aj,ak ah,aj,ak ah,aj,ak ah,aj,ak ah]
  .have:=iK2 b e;omega
  .have:=iH2 b e;omega
  .exact λe=>by have:=iK2 _ e;omega
  .exact λe=>by have:=iH2 _ e;omega
  .repeat' first|exact sm|apply aH.fJ|(apply aH.set;rotate_left;omega)
 .have:i=k.l.length:=ah;subst this;have Cb:k.l[k.l.length]?=none:=dR (an _);simp+decide-dsimp only[go_sem,s3,s4,s7,Cb,mA];rw[oR]at oK oH;exact⟨_,_,K,H,rfl,⟨g4,g5,oK,oH,⟨ah,ah⟩,⟨ah,ah⟩,iK.le ah (an _),iH.le ah (an _)⟩,tW⟩
variable{a:AV}{t:TypeId}
structure iY(nx:Nat)(k k':KN)(h h':aG):Prop where
 nb:k'.nb=k.nb
 own:∀b,k'.own b->k.own b\/nx<=b
 aX:∀b,b<nx->¬k.own b->au h' b=au h b
def aem(t:TypeId):FuncId:=if t=301 then 365 else if t=432 then 382 else 386
def TM(t:TypeId):FuncId:=if t=301 then 362 else if t=432 then 379 else 383
theorem kY.ty{k:KN}(o:kY h nx k):k.t=301\/k.t=432\/k.t=433:=by
 cases o with
 |jr e _ _=>exact .inl e
 |idx _ _ _ e=>exact .inr (.inl e)
 |dir _ _ e=>exact .inr (.inr e)
theorem K0{t:TypeId}(ht:t=301\/t=432\/t=433){h:aG}{v:AV}{a b:AV}:Nc prog xt h (lT prog t "marshalling/artnode.set") v [a,b]=some (.enter (aem t) [v,a,b]):=by rcases ht with rfl|rfl|rfl<;>simp+decide [go_sem,aem]
theorem adv(ht:t=301\/t=432\/t=433){v:AV}:Nc prog xt h (lT prog t "marshalling/artnode.drop") v [a]=some (.enter (TM t) [v,a]):=by rcases ht with rfl|rfl|rfl<;>simp+decide [go_sem,TM]
def ShQ(k:KN)(l':KL)(h:aG)(nx:Nat):AV->aG->Nat->Prop:=λv h' nx'=>v= .dN []/\∃K' H',kY h' nx' {k with l:=l',K:=K',H:=H'}/\
 (∀b,b<nx->b≠k.sb->bZ k.K≠some b->bZ k.H≠some b->au h' b=au h b)/\∀b,bZ K'=some b\/bZ H'=some b->bZ k.K=some b\/bZ k.H=some b\/nx<=b
theorem MF{k:KN}(o:kY h nx k)(x:UInt8)(y:Hd)(hl:k.t=432->hasB (kf k.l) x=true\/k.l.length<48):aA prog (aem k.t) [.ptr k.sb 0,u8 x.toNat,y.av] h nx (ShQ k (nV k.l x y) h nx):=by
 cases o with
 |jr e1 e2 s=>rw[e1];refine(amY k.l k.sb k.K k.H x y _ _ s).mono _ ?_;rintro v h' nx' ⟨K',H',rfl,s',q1,q2⟩;exact⟨rfl,K',H',.jr e1 e2 s',λb h1 h2 h3 h4=>(q1 b h1 h2 h3 h4).symm,q2⟩
 |idx pl ks us e1 e2 e3 e4 e5 s R=>
  have hl:=hl e1;rw[e1];refine(anf pl ks us k.l k.sb x y _ _ s R hl).mono _ ?_;rintro v h' nx' ⟨rfl,⟨Am,Fm,Zk,s',R'⟩,q⟩;refine⟨rfl,k.K,k.H,.idx Am Fm Zk e1 e2 ?_ e4 e5 s' R',λb h1 h2 _ _=>q b h1 h2,λb hb=>hb.imp id .inl⟩;show(nV k.l x y).length<=48;rw[GF];rcases hl with h|h
  .rw[aw h];exact e3
  .split<;>omega
 |dir ks hs e1 e2 e4 e5 s R=>rw[e1];refine(anD ks hs k.l k.sb x y _ _ s R).mono _ ?_;rintro v h' nx' ⟨rfl,⟨Fm,qH,s',R'⟩,q⟩;exact⟨rfl,k.K,k.H,.dir Fm qH e1 e2 e4 e5 s' R',λb h1 h2 _ _=>q b h1 h2,λb hb=>hb.imp id .inl⟩
theorem adi{k:KN}(o:kY h nx k)(x:UInt8):aA prog (TM k.t) [.ptr k.sb 0,u8 x.toNat] h nx (ShQ k (pg k.l x) h nx):=by
 cases o with
 |jr e1 e2 s=>rw[e1];refine(al2 k.l k.sb k.K k.H x _ _ s).mono _ ?_;rintro v h' nx' ⟨K',H',rfl,s',q1,q2,q3⟩;exact⟨rfl,K',H',.jr e1 e2 s',λb h1 h2 h3 h4=>(q1 b h1 h2 h3 h4).symm,λb hb=>by rw[q2,q3]at hb;exact hb.imp id .inl⟩
 |idx pl ks us e1 e2 e3 e4 e5 s R=>rw[e1];refine(alV pl ks us k.l k.sb x _ _ s R).mono _ ?_;rintro v h' nx' ⟨rfl,⟨Am,Fm,Zk,s',R'⟩,q⟩;refine⟨rfl,k.K,k.H,.idx Am Fm Zk e1 e2 ?_ e4 e5 s' R',λb h1 h2 _ _=>q b h1 h2,λb hb=>hb.imp id .inl⟩;show(pg k.l x).length<=48;rw[Iq];omega
 |dir ks hs e1 e2 e4 e5 s R=>rw[e1];refine(anh ks hs k.l k.sb x _ _ s R).mono _ ?_;rintro v h' nx' ⟨rfl,⟨Fm,qH,s',R'⟩,q⟩;exact⟨rfl,k.K,k.H,.dir Fm qH e1 e2 e4 e5 s' R',λb h1 h2 _ _=>q b h1 h2,λb hb=>hb.imp id .inl⟩
theorem Y5:agK.map .g=nI (List.replicate 256 0) (List.replicate 48 ⟨0,0⟩) (List.replicate 48 false):=aL
theorem Yi:aiC.map .g=qk (List.replicate 256 ⟨0,0⟩) (List.replicate 256 false):=aL
theorem OE{l:KL}(hs:fD l)(hi:i<l.length):nV (l.take i) ((kf l).getD i 0) ((kh l).getD i default)=l.take (i+1):=by
 have ek:kf (l.take i)=(kf l).take i:=sY;have rX:i<(kf l).length:=by simpa using hi
 have bP:(kf (l.take i)).length=i:=by rw[ek,ax];omega
 have qH:lM (kf (l.take i)):=by rw[ek];exact List.Pairwise.sublist (List.take_sublist _ _) hs
 have hp:kU (kf (l.take i)) ((kf l).getD i 0)=i:=by
  have h1:=FC (kf (l.take i)) ((kf l).getD i 0);rcases bg (kU (kf (l.take i)) ((kf l).getD i 0)) i with q|q
  .have:=A6 qH (an _) (by rw[bP];exact q);refine absurd ?_ this;rw[ek,ig (by rw[<-ek];exact q)];have q':=q;rw[ek]at q';exact hs.lt (l:=kf l) q' rX
  .omega
 have hh:hasB (kf (l.take i)) ((kf l).getD i 0)=false:=by unfold hasB;rw[hp,bP];simp
 unfold nV;rw[hh,ak bL,hp,bf,df,List.drop_eq_nil_of_le fE,b9 hi]
 congr 2
 simp[List.getD,hi]
theorem af1(k:KN)(kind:Nat)(hk:kind=4\/kind=16\/(kind=48/\k.l.length<=48)\/kind=256)(h:aG)(nx:Nat)(o:k.ok h nx):
 aA prog 294 [.ptr k.nb 0,int kind] h nx λv h' nx'=>v= .dN []/\∃k',k'.l=k.l/\k'.kind=kind/\k'.ok h' nx'/\iY nx k k' h h':=by
 have ob:=o.bJ;have db:=o.lt;have rL:=o.sh.RQ;have bP:=rL.len;have n48:((48:Nat):Int)=48:=rfl;have am9:((256:Nat):Int)=256:=rfl;have n16:((16:Nat):Int)=16:=rfl;have n4:((4:Nat):Int)=4:=rfl;refine aA.QB prog xt pk (λ_=>[]) (λ_=>[]) func294 (c:=f294.body.getD .skip) rfl rfl aL aL (by show 2<=_;decide) ?_;have d1:¬(k.nb=nx):=ah;have d2:¬(k.nb=nx+1):=ah;have early:∀q:Nat,(q=4\/q=16)->k.t=301->∃vs,some []=some vs/\one vs= .dN []/\∃k',k'.l=k.l/\k'.kind=q/\k'.ok (aK (aK h nx (.cells [.g .nilIface] 305)) k.nb (.cells [.kB 301 (.ptr k.sb 0),int q,int k.l.length] 307)) (nx+1)/\iY nx k k' h (aK (aK h nx (.cells [.g .nilIface] 305)) k.nb (.cells [.kB 301 (.ptr k.sb 0),int q,int k.l.length] 307)):=by
  intro q hq ht;refine⟨[],rfl,rfl,{k with kind:=q},rfl,rfl,⟨by rw[aj,aw rfl,<-ht],?_,by show k.nb<_;omega,o.d1,o.d2,o.d3⟩,⟨rfl,λb hb=> .inl hb,λb hb hn=>by rw[aj,ak (λe=>hn (.inl e)),aj,ak ah]⟩⟩;cases o.sh with
  |jr a1 a2 s=>
   have:kY h nx {k with kind:=q}:= .jr a1 hq s;refine this.aX (λb hb=>?_) ah;have a1:=this.lt b hb;have a2:b≠k.nb:=by
    rcases hb with e|e|e;.exact λe'=>o.d1 (by rw[<-e',e])
    .exact λe'=>o.d2 (by rw[<-e'];exact e)
    .exact λe'=>o.d3 (by rw[<-e'];exact e)
   rw[aj,ak a2,aj,ak ah]
  |idx _ _ _ e=>rw[ht]at e;cases e
  |dir _ _ e=>rw[ht]at e;cases e
 rcases hk with rfl|rfl|⟨rfl,amr⟩|rfl
 case' inr.inr.inl=>
  simp+decide-dsimp only[f294,go_sem,n48,Y5];generalize hH:aK (aK (aK h nx _) (nx+1) _) nx _=H0;have e1:au H0 nx=some (.cells [.kB 432 (.ptr (nx+1) 0)] 305):=by rw[<-hH,aj,aw rfl]
  obtain⟨kd,qN,Cw⟩:∃kd:Nat,kd=48/\kY H0 (nx+2) ⟨k.nb,nx+1,432,kd,[],.g (.slice none 0 0),.g (.slice none 0 0)⟩:=⟨48,rfl,.idx _ _ _ rfl rfl (aY _) rfl rfl ⟨by rw[<-hH];simp[aj],bL,bL,bL,by show nx+1<_;omega⟩ .nil⟩;obtain⟨t2,e1,Cw,xX⟩:∃t2:TypeId,au H0 nx=some (.cells [.kB t2 (.ptr (nx+1) 0)] 305)/\kY H0 (nx+2) ⟨k.nb,nx+1,t2,kd,[],.g (.slice none 0 0),.g (.slice none 0 0)⟩/\(t2=432->k.l.length<=48):=⟨432,e1,Cw,λ_=>amr⟩
 case' inr.inr.inr=>
  simp+decide-dsimp only[f294,go_sem,am9,Yi];generalize hH:aK (aK (aK h nx _) (nx+1) _) nx _=H0;have e1:au H0 nx=some (.cells [.kB 433 (.ptr (nx+1) 0)] 305):=by rw[<-hH,aj,aw rfl]
  obtain⟨kd,qN,Cw⟩:∃kd:Nat,kd=256/\kY H0 (nx+2) ⟨k.nb,nx+1,433,kd,[],.g (.slice none 0 0),.g (.slice none 0 0)⟩:=⟨256,rfl,.dir _ _ rfl rfl rfl rfl ⟨by rw[<-hH];simp[aj],bL,bL,by show nx+1<_;omega⟩ .nil⟩;obtain⟨t2,e1,Cw,xX⟩:∃t2:TypeId,au H0 nx=some (.cells [.kB t2 (.ptr (nx+1) 0)] 305)/\kY H0 (nx+2) ⟨k.nb,nx+1,t2,kd,[],.g (.slice none 0 0),.g (.slice none 0 0)⟩/\(t2=432->k.l.length<=48):=⟨433,e1,Cw,λe=>by cases e⟩
 case' inl=>
  have ht:k.t=301\/(k.t=432\/k.t=433):=by
   cases o.sh with
   |jr e _ _=>exact .inl e
   |idx _ _ _ e=>exact .inr (.inl e)
   |dir _ _ e=>exact .inr (.inr e)
  rcases ht with e|e|e
 case' inr.inl=>
  have ht:k.t=301\/(k.t=432\/k.t=433):=by
   cases o.sh with
   |jr e _ _=>exact .inl e
   |idx _ _ _ e=>exact .inr (.inl e)
   |dir _ _ e=>exact .inr (.inr e)
  rcases ht with e|e|e
 case' inl.inl=>simp+decide-dsimp only[f294,go_sem,n4,ob,e,d1];exact early 4 (.inl rfl) e
 case' inr.inl.inl=>simp+decide-dsimp only[f294,go_sem,n16,ob,e,d1];exact early 16 (.inr rfl) e
 case' inl.inr.inl=>
  simp+decide-dsimp only[f294,go_sem,n4,ob,e,d1];generalize hH:aK (aK (aK h nx _) (nx+1) _) nx _=H0;have e1:au H0 nx=some (.cells [.kB 301 (.ptr (nx+1) 0)] 305):=by rw[<-hH,aj,aw rfl]
  obtain⟨kd,qN,Cw⟩:∃kd:Nat,kd=4/\kY H0 (nx+2) ⟨k.nb,nx+1,301,kd,[],.g (.slice none 0 0),.g (.slice none 0 0)⟩:=⟨4,rfl,.jr rfl (.inl rfl) ⟨by rw[<-hH];simp[aj],.inl ⟨rfl,rfl⟩,.inl ⟨rfl,rfl⟩,List.Pairwise.nil,.nil,.nil,by show nx+1<_;omega,(λe=>by cases e),(λe=>by cases e),(λb e=>by cases e)⟩⟩;obtain⟨t2,e1,Cw,xX⟩:∃t2:TypeId,au H0 nx=some (.cells [.kB t2 (.ptr (nx+1) 0)] 305)/\kY H0 (nx+2) ⟨k.nb,nx+1,t2,kd,[],.g (.slice none 0 0),.g (.slice none 0 0)⟩/\(t2=432->k.l.length<=48):=⟨301,e1,Cw,λe=>by cases e⟩
 case' inl.inr.inr=>
  simp+decide-dsimp only[f294,go_sem,n4,ob,e,d1];generalize hH:aK (aK (aK h nx _) (nx+1) _) nx _=H0;have e1:au H0 nx=some (.cells [.kB 301 (.ptr (nx+1) 0)] 305):=by rw[<-hH,aj,aw rfl]
  obtain⟨kd,qN,Cw⟩:∃kd:Nat,kd=4/\kY H0 (nx+2) ⟨k.nb,nx+1,301,kd,[],.g (.slice none 0 0),.g (.slice none 0 0)⟩:=⟨4,rfl,.jr rfl (.inl rfl) ⟨by rw[<-hH];simp[aj],.inl ⟨rfl,rfl⟩,.inl ⟨rfl,rfl⟩,List.Pairwise.nil,.nil,.nil,by show nx+1<_;omega,(λe=>by cases e),(λe=>by cases e),(λb e=>by cases e)⟩⟩;obtain⟨t2,e1,Cw,xX⟩:∃t2:TypeId,au H0 nx=some (.cells [.kB t2 (.ptr (nx+1) 0)] 305)/\kY H0 (nx+2) ⟨k.nb,nx+1,t2,kd,[],.g (.slice none 0 0),.g (.slice none 0 0)⟩/\(t2=432->k.l.length<=48):=⟨301,e1,Cw,λe=>by cases e⟩
 case' inr.inl.inr.inl=>
  simp+decide-dsimp only[f294,go_sem,n16,ob,e,d1];generalize hH:aK (aK (aK h nx _) (nx+1) _) nx _=H0;have e1:au H0 nx=some (.cells [.kB 301 (.ptr (nx+1) 0)] 305):=by rw[<-hH,aj,aw rfl]
  obtain⟨kd,qN,Cw⟩:∃kd:Nat,kd=16/\kY H0 (nx+2) ⟨k.nb,nx+1,301,kd,[],.g (.slice none 0 0),.g (.slice none 0 0)⟩:=⟨16,rfl,.jr rfl (.inr rfl) ⟨by rw[<-hH];simp[aj],.inl ⟨rfl,rfl⟩,.inl ⟨rfl,rfl⟩,List.Pairwise.nil,.nil,.nil,by show nx+1<_;omega,(λe=>by cases e),(λe=>by cases e),(λb e=>by cases e)⟩⟩;obtain⟨t2,e1,Cw,xX⟩:∃t2:TypeId,au H0 nx=some (.cells [.kB t2 (.ptr (nx+1) 0)] 305)/\kY H0 (nx+2) ⟨k.nb,nx+1,t2,kd,[],.g (.slice none 0 0),.g (.slice none 0 0)⟩/\(t2=432->k.l.length<=48):=⟨301,e1,Cw,λe=>by cases e⟩
 case' inr.inl.inr.inr=>
  simp+decide-dsimp only[f294,go_sem,n16,ob,e,d1];generalize hH:aK (aK (aK h nx _) (nx+1) _) nx _=H0;have e1:au H0 nx=some (.cells [.kB 301 (.ptr (nx+1) 0)] 305):=by rw[<-hH,aj,aw rfl]
  obtain⟨kd,qN,Cw⟩:∃kd:Nat,kd=16/\kY H0 (nx+2) ⟨k.nb,nx+1,301,kd,[],.g (.slice none 0 0),.g (.slice none 0 0)⟩:=⟨16,rfl,.jr rfl (.inr rfl) ⟨by rw[<-hH];simp[aj],.inl ⟨rfl,rfl⟩,.inl ⟨rfl,rfl⟩,List.Pairwise.nil,.nil,.nil,by show nx+1<_;omega,(λe=>by cases e),(λe=>by cases e),(λb e=>by cases e)⟩⟩;obtain⟨t2,e1,Cw,xX⟩:∃t2:TypeId,au H0 nx=some (.cells [.kB t2 (.ptr (nx+1) 0)] 305)/\kY H0 (nx+2) ⟨k.nb,nx+1,t2,kd,[],.g (.slice none 0 0),.g (.slice none 0 0)⟩/\(t2=432->k.l.length<=48):=⟨301,e1,Cw,λe=>by cases e⟩
 all_goals
  have sm0:aH nx h H0:=by
   rw[<-hH]
   repeat' first|exact aH.refl|apply aH.fJ|(apply aH.set;rotate_left;omega)
  clear hH;refine cf (afx k _ _ (o.same sm0 ah)) λ_ h1 cm l1 ⟨a,b,K,H,e2,C,BJ⟩=>?_
  subst e2;simp+decide-dsimp only[go_sem];refine Rs ah C (an _) rfl λr0 yT=>⟨λi h' nx'=>∃Ks Hs,kY h' nx' ⟨k.nb,nx+1,t2,kd,k.l.take i,Ks,Hs⟩/\au h' nx=some (.cells [.kB t2 (.ptr (nx+1) 0)] 305)/\(∀c,bZ Ks=some c\/bZ Hs=some c->cm+2<=c)/\
   au h' (cm+1)=some (.loop r0)/\au h' cm=some (.defs (some []))/\(∀c,c<cm->c≠nx+1->au h' c=au h1 c)/\cm+2<=nx',?_,?_,?_,?_⟩
  .refine⟨.g (.slice none 0 0),.g (.slice none 0 0),Cw.aX (λb hb=>?_) ah,?_,λc hc=>(by rcases hc with e|e<;>cases e),?_,?_,λc hc _=>?_,an _⟩
   .have:b=nx+1:=by
     rcases hb with e|e|e;.exact e
     .cases e
     .cases e
    rw[this,aj,ak ah,aj,ak ah,BJ _ ah]
   .rw[aj,ak ah,aj,ak ah,BJ _ ah];exact e1
   .rw[aj,aw rfl]
   .rw[aj,ak ah,aj,aw rfl]
   .rw[aj,ak ah,aj,ak ah]
  .rintro i h' nx' ⟨Ks,Hs,q1,q2,q3,q4,q5,q6,q7⟩;refine⟨q4,λc hc=>?_⟩;have:nx+2<=c/\c<cm:=by
    rcases hc with rfl|rfl|e|e;.exact C.ia
    .exact C.ib
    .exact C.ik c e
    .exact C.ih c e
   exact q6 c this.2 ah
  .rintro i h' nx' hi ⟨Ks,Hs,q1,q2,q3,q4,q5,q6,q7⟩;have f1:¬(nx=nx'):=ah;have f2:¬(nx=cm+1):=ah;have f3:¬(cm+1=nx'):=ah;have f4:¬(nx'=cm+1):=ah;have hg:= @K0 t2 q1.ty;refine jH.mk2 pk (λ_=>[]) yT q4 aL λrb=>?_
   simp+decide-dsimp only[go_sem,q2,q4,f1,f2,f3,f4,hg,Hd.cells,reduceAdd];refine cf (MF (q1.aX (λb hb=>?_) ah) ((kf k.l).getD i 0) ((kh k.l).getD i default) (λe=> .inr ?_)) λ_ h2 dU l2 ⟨e,Ks',Hs',u1,u2,u3⟩=>?_
   .have a1:=q1.lt b hb;have a2:b≠cm+1:=by
     rcases hb with e|e|e;.have e:b=nx+1:=e;omega
     .have:=q3 b (.inl e);omega
     .have:=q3 b (.inr e);omega
    rw[aj,ak a2,aj,ak ah,aj,ak ah]
   .show(k.l.take i).length<48;rw[ax];have:=xX e;omega
   subst e;have key:∀c,c<nx'->c≠nx+1->c<cm+2->au h2 c=if c=cm+1 then some (.loop rb)else au h' c:=λc h1 h2 h3=>by rw[u2 c ah h2 (λe=>by have:=q3 c (.inl e);omega) (λe=>by have:=q3 c (.inr e);omega),aj,aj,ak (show¬c=nx' from ah),aj,ak (show¬c=nx' from ah)]
   have k1:au h2 (cm+1)=some (.loop rb):=by rw[key _ ah ah ah,aw rfl]
   simp+decide-dsimp only[go_sem,k1];refine⟨Ks',Hs',?_,?_,?_,?_,?_,ah⟩
   .rw[<-OE rL hi];refine u1.aX (λb hb=>?_) (an _);have a2:b≠cm+1:=by
     rcases hb with e|e|e;.have e:b=nx+1:=e;omega
     .rcases u3 b (.inl e)with r|r|r;.have:=q3 b (.inl r);omega
      .have:=q3 b (.inr r);omega
      .omega
     .rcases u3 b (.inr e)with r|r|r;.have:=q3 b (.inl r);omega
      .have:=q3 b (.inr r);omega
      .omega
    rw[aj,ak a2]
   .rw[ak f2,key nx ah ah ah,ak f2];exact q2
   .intro c hc;rcases u3 c hc with r|r|r
    .exact q3 c (.inl r)
    .exact q3 c (.inr r)
    .omega
   .rw[key cm ah ah ah,ak ah];exact q5
   .intro c h1 h2;rw[ak ah,key c ah h2 ah,ak ah];exact q6 c h1 h2
  .rintro h' nx' ⟨Ks,Hs,q1,q2,q3,q4,q5,q6,q7⟩;rw[oR]at q1;have f1:¬(k.nb=cm+1):=ah;have f2:¬(k.nb=cm):=ah;have f3:¬(nx=cm+1):=ah;have f4:¬(cm=cm+1):=ah;have f5:¬(cm=k.nb):=ah;have k1:au h' k.nb=some (.cells [.kB k.t (.ptr k.sb 0),int k.kind,int k.l.length] 307):=by rw[q6 _ ah ah,BJ _ ah,sm0 _ db];exact ob
   simp+decide-dsimp only[go_sem,q2,k1,f1,f3,f4,f5,q5];subst qN;refine⟨[],rfl,rfl,⟨k.nb,nx+1,t2,_,k.l,Ks,Hs⟩,rfl,rfl,⟨by simp[aj,f2],q1.aX (λb hb=>?_) ah,by show k.nb<_;omega,by show k.nb≠nx+1;omega,λe=>by have:=q3 k.nb (.inl e);omega,λe=>by have:=q3 k.nb (.inr e);omega⟩,⟨rfl,λb hb=>?_,λb hb hn=>?_⟩⟩
   .have a:b=nx+1\/cm+2<=b:=by
     rcases hb with e|e|e;.exact .inl e
     .exact .inr (q3 b (.inl e))
     .exact .inr (q3 b (.inr e))
    have g1:¬(b=cm+1):=ah;have g2:¬(b=cm):=ah;have g3:¬(b=k.nb):=ah;simp[aj,g1,g2,g3]
   .rcases hb with e|e|e|e;.exact .inl (.inl e)
    .have e:b=nx+1:=e;right;omega
    .have:=q3 b (.inl e);right;omega
    .have:=q3 b (.inr e);right;omega
   .have g1:¬(b=cm+1):=ah;have g2:¬(b=cm):=ah;have g3:¬(b=k.nb):=λe=>hn (.inl e);simp[aj,g1,g2,g3];rw[q6 b ah ah,BJ b ah,sm0 b hb]
variable{H h':aG}{k1:KN}{l':KL}{n n':Nat}
def KA:Nat->cU:=λid=>if id=5 then[(z8,[],none)]else if id=13 then[(z5,[],some 6),([],[],none)]else[]
theorem Ih(o:Option Hd):∃y:Hd,zN o= .dN [.agg [int y.ao,u64 y.bk],bQ o.isSome]:=⟨o.getD default,rfl⟩
theorem kY.t432{k:KN}(o:kY h nx k)(e:k.t=432):k.kind=48/\k.l.length<=48:=by
 cases o with
 |jr e1 _ _=>rw[e]at e1;cases e1
 |idx _ _ _ _ e2 e3=>exact⟨e2,e3⟩
 |dir _ _ e1=>rw[e]at e1;cases e1
theorem KN.SL{k:KN}{v:AV}(lt:k1.nb<n)(Ce:nx<=n)
 (d1:k1.nb≠k1.sb) (d2:bZ k1.K≠some k1.nb) (d3:bZ k1.H≠some k1.nb) (St:iY nx k k1 h H) (q:ShQ k1 l' H n v h' n'):
 ∃k',k'.l=l'/\k'.nb=k1.nb/\k'.sb=k1.sb/\k'.t=k1.t/\k'.kind=k1.kind/\kY h' n' k'/\bZ k'.K≠some k1.nb/\bZ k'.H≠some k1.nb/\iY nx k k' h h'/\au h' k1.nb=au H k1.nb:=by
 obtain⟨_,K',H',u1,u2,u3⟩:=q;refine⟨{k1 with l:=l',K:=K',H:=H'},rfl,rfl,rfl,rfl,rfl,u1,λe=>?_,λe=>?_,⟨St.nb,λb hb=>?_,λb hb hn=>?_⟩,u2 _ lt d1 d2 d3⟩
 .rcases u3 k1.nb (.inl e)with r|r|r;.exact d2 r
  .exact d3 r
  .omega
 .rcases u3 k1.nb (.inr e)with r|r|r;.exact d2 r
  .exact d3 r
  .omega
 .have K:∀b,bZ K'=some b\/bZ H'=some b->k.own b\/nx<=b:=λb e=>by
   rcases u3 b e with r|r|r;.exact St.own b (.inr (.inr (.inl r)))
   .exact St.own b (.inr (.inr (.inr r)))
   .exact .inr ah
  rcases hb with e|e|e|e;.exact St.own b (.inl e)
  .exact St.own b (.inr (.inl e))
  .exact K b (.inl e)
  .exact K b (.inr e)
 .have no:∀{p:Prop},k1.own b->p:=λe=>by
   rcases St.own b e with r|r;.exact absurd r hn
   .omega
  rw[u2 b ah (λe=>no (.inr (.inl e))) (λe=>no (.inr (.inr (.inl e)))) (λe=>no (.inr (.inr (.inr e))))];exact St.aX b hb hn
theorem KN.after{k:KN}{v:AV}(hb:au H k1.nb=some (.cells [.kB k1.t (.ptr k1.sb 0),int k1.kind,int l'.length] 307))(lt:k1.nb<n)(Ce:nx<=n)
 (d1:k1.nb≠k1.sb) (d2:bZ k1.K≠some k1.nb) (d3:bZ k1.H≠some k1.nb) (hle:n<=n') (St:iY nx k k1 h H) (q:ShQ k1 l' H n v h' n'):∃k',k'.l=l'/\k'.ok h' n'/\iY nx k k' h h':=by
 obtain⟨k',e1,e2,e3,e4,e5,sh,q2,q3,S,g⟩:=KN.SL lt Ce d1 d2 d3 St q;exact⟨k',e1,⟨by rw[e2,e3,e4,e5,e1,g];exact hb,sh,by rw[e2];omega,by rw[e2,e3];exact d1,by rw[e2];exact q2,by rw[e2];exact q3⟩,S⟩
theorem iY.same{k:KN}(s:aH nx h h'):iY nx k k h h':=⟨rfl,λ_ h=> .inl h,λb hb _=>s b hb⟩
theorem iY.set{k:KN}(s:iY nx k k1 h h'){o:AO}:iY nx k k1 h (aK h' k.nb o):=⟨s.nb,s.own,λb hb hn=>by rw[aj,ak (λe=>hn (.inl e))];exact s.aX b hb hn⟩
theorem iY.more{c:Nat}{k:KN}(s:iY nx k k1 h h')(hc:nx<=c){o:AO}:iY nx k k1 h (aK h' c o):=⟨s.nb,s.own,λb hb hn=>by rw[aj,ak ah];exact s.aX b hb hn⟩
theorem ahP(k:KN)(x:UInt8)(y:Hd)(h:aG)(nx:Nat)(o:k.ok h nx):
 aA prog 296 [.ptr k.nb 0,u8 x.toNat,y.av] h nx λv h' nx'=>(∃b,v=bQ b)/\∃k',k'.l=nV k.l x y/\k'.ok h' nx'/\iY nx k k' h h':=by
 have ob:=o.bJ;have db:=o.lt;have rL:=o.sh.RQ;have bP:=rL.len;refine aA.ac 3 KA func296 ?_;have d1:¬(k.nb=nx):=ah;have d2:¬(k.nb=nx+1):=ah;have d3:¬(nx=k.nb):=ah;have o1:k.ok (aK h nx (.cells [int y.ao,u64 y.bk] 245)) (nx+1):=o.same (aH.refl.set (an _)) ah;simp+decide-dsimp only[f296,go_sem,Hd.av,Hd.cells];refine bm (U' k _ _ o1) ?_;obtain⟨f,e,c⟩:=La o1.sh x;obtain⟨y0,er⟩:=Ih (jq k.l x);rw[er]at c;simp+decide-dsimp only[go_sem,ob,d1,e];refine bm c ?_;rw[wL];have xT:=GF (l:=k.l) (x:=x) (y:=y);cases hh:hasB (kf k.l) x with
 |true=>
  rw[hh,aw rfl,dD]at xT;simp+decide-dsimp only[go_sem,KA,ob,d1,d2,K0 o.sh.ty,reduceAdd];refine cf (MF (o.sh.aX (λb hb=>?_) ah) x y (λ_=> .inl hh)) λ_ h2 dU l2 q=>?_;.have:=o.sh.lt b hb;rw[aj,ak ah,aj,ak ah,aj,ak ah]
  simp+decide-dsimp only[go_sem];refine⟨⟨_,rfl⟩,KN.after (k:=k) (k1:=k) (nx:=nx) ?_ ?_ ?_ o.d1 o.d2 o.d3 l2 (iY.same ?_) q⟩;.rw[xT];simp[aj,d1,d2,ob]
  .show k.nb<nx+1+1+_;omega
  .show nx<=nx+1+1+_;omega
  .repeat' first|exact aH.refl|apply aH.fJ|(apply aH.set;rotate_left;omega)
 |false=>
  rw[hh,ak bL]at xT;by_cases hn:k.l.length=k.kind
  .have C0:(k.l.length:Int)=(k.kind:Int):=ah;have JP:∀(q:Nat) (z:Int),(q:Int)=z->(q=4\/q=16\/(q=48/\k.l.length<=48)\/q=256)->∀H n,aH nx h H->nx<=n->aA prog 294 [.ptr k.nb 0,int z] H n λv h' nx'=>v= .dN []/\∃k',k'.l=k.l/\k'.kind=q/\k'.ok h' nx'/\iY n k k' H h':=λq z e hq H n s l=>by rw[<-e];exact af1 k q hq H n (o.same s l)
   obtain⟨q,z,hz,hq,hql,hc⟩:∃(q:Nat) (z:Int),(q:Int)=z/\(q=4\/q=16\/(q=48/\k.l.length<=48)\/q=256)/\(q=48->k.l.length<48)/\((k.kind=4/\z=16)\/(¬k.kind=4/\k.kind=16/\z=48)\/(¬k.kind=4/\¬k.kind=16/\z=256)):=by
    by_cases h4:k.kind=4;.exact⟨16,16,rfl,.inr (.inl rfl),ah,.inl ⟨h4,rfl⟩⟩
    .by_cases h16:k.kind=16;.exact⟨48,48,rfl,.inr (.inr (.inl ⟨rfl,ah⟩)),ah,.inr (.inl ⟨h4,h16,rfl⟩)⟩
     .exact⟨256,256,rfl,.inr (.inr (.inr rfl)),ah,.inr (.inr ⟨h4,h16,rfl⟩)⟩
   have JP:=JP q z hz hq;rcases hc with⟨g1,rfl⟩|⟨g1,g2,rfl⟩|⟨g1,g2,rfl⟩
   case' inl=>have i1:(k.kind:Int)=4:=ah;simp+decide-dsimp only[go_sem,KA,ob,d1,d2,C0,i1,reduceAdd]
   case' inr.inl=>have i1:(k.kind:Int)=16:=ah;simp+decide-dsimp only[go_sem,KA,ob,d1,d2,C0,i1,reduceAdd]
   case' inr.inr=>have i1:¬(k.kind:Int)=4:=ah;have i2:¬(k.kind:Int)=16:=ah;simp+decide-dsimp only[go_sem,KA,ob,d1,d2,C0,i1,i2,reduceAdd]
   all_goals
    generalize hN:nx+1+1+Array.size _=N;have hN1:nx+2<=N:=ah;clear hN;generalize hH:aK (aK (aK h nx _) (nx+1) _) (nx+1) _=H;have hH0:aH nx h H:=by
     rw[<-hH]
     repeat' first|exact aH.refl|apply aH.fJ|(apply aH.set;rotate_left;omega)
    have Gl:au H nx=some (.cells [int y.ao,u64 y.bk] 245):=by rw[<-hH];simp[aj]
    clear hH;refine cf (JP H N hH0 ah) λ_ h2 dU l2 ⟨e,k1,r1,r2,II,St⟩=>?_
    have kb:au h2 k.nb=some (.cells [.kB k1.t (.ptr k1.sb 0),int k1.kind,int k1.l.length] 307):=by rw[<-St.nb];exact II.bJ
    have ky:au h2 nx=some (.cells [int y.ao,u64 y.bk] 245):=by rw[St.aX nx ah (λe=>by have:=o.Pz nx e;omega)];exact Gl
    have w1:k1.l.length+1<9223372036854775808:=by rw[r1];omega
    simp+decide-dsimp only[go_sem,KA,d3,kb,ky,w1,K0 II.sh.ty];refine cf (MF (II.sh.aX (λb hb=>?_) ah) x y (λe=> .inr ?_)) λ_ h3 nx3 l3 q=>?_
    .have a2:b≠k.nb:=by
      rw[<-St.nb];rcases hb with e|e|e
      .exact λe'=>II.d1 (by rw[<-e',e])
      .exact λe'=>II.d2 (by rw[<-e'];exact e)
      .exact λe'=>II.d3 (by rw[<-e'];exact e)
     rw[aj,ak a2]
    .have:=II.sh.t432 e;rw[r1];exact hql ah
    simp+decide-dsimp only[go_sem];rw[r1]at q;have St':iY nx k k1 h h2:=⟨St.nb,λb hb=>(St.own b hb).imp id (λh=>ah),λb hb hn=>by rw[St.aX b ah hn];exact hH0 b hb⟩;refine⟨⟨_,rfl⟩,KN.after (k:=k) (k1:=k1) (nx:=nx) ?_ ?_ ?_ II.d1 II.d2 II.d3 l3 (iY.set St') q⟩;.rw[xT,aj,aw St.nb]
    .rw[St.nb];show k.nb<dU+_;omega
    .show nx<=dU+_;omega
  .have C0:¬(k.l.length:Int)=(k.kind:Int):=ah;have w1:k.l.length+1<9223372036854775808:=ah;simp+decide-dsimp only[go_sem,KA,ob,d1,d2,d3,C0,w1,K0 o.sh.ty,reduceAdd];refine cf (MF (o.sh.aX (λb hb=>?_) ah) x y (λe=> .inr (by have:=o.sh.t432 e;omega))) λ_ h2 dU l2 q=>?_
   .have a1:=o.sh.lt b hb;have a2:b≠k.nb:=by
     rcases hb with e|e|e;.exact λe'=>o.d1 (by rw[<-e',e])
     .exact λe'=>o.d2 (by rw[<-e'];exact e)
     .exact λe'=>o.d3 (by rw[<-e'];exact e)
    rw[aj,ak a2,aj,ak ah,aj,ak ah,aj,ak ah]
   simp+decide-dsimp only[go_sem];refine⟨⟨_,rfl⟩,KN.after (k:=k) (k1:=k) (nx:=nx) ?_ ?_ ?_ o.d1 o.d2 o.d3 l2 (iY.set (iY.same ?_)) q⟩;.rw[xT,aj,aw rfl]
   .show k.nb<nx+1+1+_+_;omega
   .show nx<=nx+1+1+_+_;omega
   .repeat' first|exact aH.refl|apply aH.fJ|(apply aH.set;rotate_left;omega)
theorem iY.trans{nx n:Nat}{k k1 k2:KN}{h h1 h2:aG}(a:iY nx k k1 h h1)(b:iY n k1 k2 h1 h2)(hn:nx<=n):iY nx k k2 h h2:=by
 refine⟨b.nb.trans a.nb,λc hc=>?_,λc hc mS=>?_⟩
 .rcases b.own c hc with r|r;.exact a.own c r
  .exact .inr ah
 .rw[b.aX c ah (λe=>by
   rcases a.own c e with r|r;.exact mS r
   .omega)]
  exact a.aX c hc mS
theorem amK(k:KN)(x:UInt8)(h:aG)(nx:Nat)(o:k.ok h nx):
 aA prog 283 [.ptr k.nb 0,u8 x.toNat] h nx λv h' nx'=>(∃b,v=bQ b)/\∃k',k'.l=pg k.l x/\k'.ok h' nx'/\iY nx k k' h h':=by
 have ob:=o.bJ;have db:=o.lt;have rL:=o.sh.RQ;have bP:=rL.len;refine aA.ac 2 T0 func283 ?_;have d1:¬(k.nb=nx):=ah;have d3:¬(nx=k.nb):=ah;simp+decide-dsimp only[f283,go_sem];obtain⟨y0,er⟩:=Ih (jq k.l x);refine bm (Vn k x _ _ o) ?_;rw[er,wL];have xT:=Iq (l:=k.l) (x:=x);cases hh:hasB (kf k.l) x with
 |false=>
  simp+decide-dsimp only[go_sem,reduceAdd];have e:pg k.l x=k.l:=by unfold pg;rw[hh];rfl
  exact⟨⟨_,rfl⟩,k,e.symm,o.same ((aH.refl.set (an _)).set (an _)) ah,iY.same ((aH.refl.set (an _)).set (an _))⟩
 |true=>
  rw[hh,aw rfl]at xT;have hp:0<k.l.length:=by have:=(mg.1 hh).1;simp at this;omega
  simp+decide-dsimp only[go_sem,ob,d1,adv o.sh.ty,reduceAdd];generalize hH:aK (aK h nx _) nx _=H;have hs:aH nx h H:=by
   rw[<-hH]
   repeat' first|exact aH.refl|apply aH.fJ|(apply aH.set;rotate_left;omega)
  clear hH;have o1:=o.same hs (bz nx);refine cf (adi o1.sh x) λ_ h1 n1 l1 q=>?_
  obtain⟨k1,e1,e2,e3,e4,e5,sh,q2,q3,S,g⟩:=KN.SL o1.lt (bz nx) o.d1 o.d2 o.d3 (iY.same hs) q;rw[o1.bJ]at g;rw[<-e2,<-e3,<-e4,<-e5]at g;have hw:cF .i64 ((k.l.length:Int)-1)=((k.l.length-1:Nat):Int):=pC;rw[<-e2];simp+decide-dsimp only[go_sem,g,hw];have hc:k1.l.length=k.l.length-1:=by rw[e1,xT]
  have II:k1.ok (aK h1 k1.nb (.cells [.kB k1.t (.ptr k1.sb 0),int k1.kind,int (k.l.length-1:Nat)] 307)) n1:=by
   refine⟨by rw[aj,aw rfl,hc],sh.aX (λb hb=>?_) (an _),by rw[e2];omega,by rw[e2,e3];exact o.d1,by rw[e2];exact q2,by rw[e2];exact q3⟩;have:b≠k1.nb:=by
    rw[e2];rcases hb with e|e|e
    .exact λe'=>o.d1 (by rw[<-e',e,e3])
    .exact λe'=>q2 (by rw[<-e'];exact e)
    .exact λe'=>q3 (by rw[<-e'];exact e)
   rw[aj,ak this]
  have S1:iY nx k k1 h (aK h1 k1.nb (.cells [.kB k1.t (.ptr k1.sb 0),int k1.kind,int (k.l.length-1:Nat)] 307)):=by rw[e2];exact S.set
  generalize hG:aK h1 k1.nb _=G at II S1⊢;clear hG;have done:∃k',k'.l=pg k.l x/\k'.ok G n1/\iY nx k k' h G:=⟨k1,e1,II,S1⟩;have JP:∀(q:Nat) (z:Int),(q:Int)=z->(q=4\/q=16\/(q=48/\k1.l.length<=48)\/q=256)->aA prog 294 [.ptr k1.nb 0,int z] G n1 λv h' nx'=>v= .dN []/\∃k',k'.l=pg k.l x/\k'.ok h' nx'/\iY nx k k' h h':=λq z e hq=>by rw[<-e];refine(af1 k1 q hq G n1 II).mono _ ?_;rintro v h' nx' ⟨r0,k',r1,r2,r3,r4⟩;exact⟨r0,k',r1.trans e1,r3,S1.trans r4 ah⟩
  have gb:au G k1.nb=_:=II.bJ;cases hsh:II.sh with
  |jr a1 a2 s=>
   rw[a1]at gb⊢;by_cases h16:k1.kind=16
   .have i1:(k1.kind:Int)=16:=ah;by_cases h3:k1.l.length<=3;.have i3:((k1.l.length:Int)<=3):=ah;simp+decide-dsimp only[go_sem,gb,s.bJ,s.k.len,i1,i3,bc];refine cf (JP 4 4 rfl (.inl rfl)) λ_ h2 n2 l2 ⟨e,q⟩=>?_;simp+decide-dsimp only[go_sem];exact⟨⟨_,rfl⟩,q⟩
    .have i3:¬((k1.l.length:Int)<=3):=ah;simp+decide-dsimp only[go_sem,gb,s.bJ,s.k.len,i1,i3,bc];exact⟨⟨_,rfl⟩,done⟩
   .have i1:¬(k1.kind:Int)=16:=ah;simp+decide-dsimp only[go_sem,gb,i1];exact⟨⟨_,rfl⟩,done⟩
  |idx pl ks us a1 a2 a3 a4 a5 s R=>
   rw[a1]at gb⊢;by_cases h3:k1.l.length<=12;.have i3:((k1.l.length:Int)<=12):=ah;simp+decide-dsimp only[go_sem,gb,i3];refine cf (JP 16 16 rfl (.inr (.inl rfl))) λ_ h2 n2 l2 ⟨e,q⟩=>?_;simp+decide-dsimp only[go_sem];exact⟨⟨_,rfl⟩,q⟩
   .have i3:¬((k1.l.length:Int)<=12):=ah;simp+decide-dsimp only[go_sem,gb,i3];exact⟨⟨_,rfl⟩,done⟩
  |dir ks qH a1 a2 a3 a4 s R=>
   rw[a1]at gb⊢;by_cases h3:k1.l.length<=36;.have i3:((k1.l.length:Int)<=36):=ah;simp+decide-dsimp only[go_sem,gb,i3];refine cf (JP 48 48 rfl (.inr (.inr (.inl ⟨rfl,ah⟩)))) λ_ h2 n2 l2 ⟨e,q⟩=>?_;simp+decide-dsimp only[go_sem];exact⟨⟨_,rfl⟩,q⟩
   .have i3:¬((k1.l.length:Int)<=36):=ah;simp+decide-dsimp only[go_sem,gb,i3];exact⟨⟨_,rfl⟩,done⟩
variable{nx':Nat}{tA tC:TypeId}{α:Type}
theorem dA.trans{nx cm:Nat}{o0 o1 o2 l0 l1 l2:Nat->Prop}{p p1 p2:bj}{h h1 h2:aG}(a:dA nx o0 o1 l0 l1 p p1 h h1)(b:dA cm o1 o2 l1 l2 p1 p2 h1 h2)(hn:nx<=cm):dA nx o0 o2 l0 l2 p p2 h h2:=by
 refine⟨b.pb.trans a.pb,b.gb.trans a.gb,b.fb.trans a.fb,b.fl.trans a.fl,λs hs=>?_,λc hc=>?_,λs hs=>?_,λc hc mS g1 g2 g3=>?_⟩
 .rcases a.fr s hs with q|q
  .rcases b.fr s q with r|r;.exact .inl r
   .rcases a.slt s r with t|t;.exact .inr t
    .rw[hs]at t;cases t
  .exact .inr q
 .rcases b.bl c hc with q|q;.exact a.bl c q
  .exact .inr ah
 .rcases b.slt s hs with q|q;.exact a.slt s q
  .cases hf:p.fr.getD s false with
   |true=>exact .inr rfl
   |false=>
    rcases a.fr s hf with r|r;.rw[r]at q;cases q
    .exact .inl r
 .rw[b.aX c ah (λe=>by
   rcases a.bl c e with q|q;.exact mS q
   .omega) (by rw[a.pb];exact g1) (by rw[a.gb];exact g2) (by rw[a.fb];exact g3)]
  exact a.aX c hc mS g1 g2 g3
theorem dA.same{o l:Nat->Prop}{p:bj}(s:aH nx h h'):dA nx o o l l p p h h':=
 ⟨rfl,rfl,rfl,rfl,λ_ h=> .inl h,λ_ h=> .inl h,λ_ h=> .inl h,λb hb _ _ _ _=>s b hb⟩
structure At where
 tb:Nat
 a:Ar Ax
 aO:Hd
 size:Int
def At.own(t:At)(b:Nat):Prop:=b=t.tb\/t.a.own b\/∃e∈t.a.es,e.x.k.own b
structure At.ok(t:At)(h:aG)(nx:Nat):Prop where
 tr:au h t.tb=some (.cells [.ptr t.a.pb 0,.ptr t.a.ab 0,int t.aO.ao,u64 t.aO.bk,.g (.int .i64 t.size),bQ false] 258)
 ok:Px.ok t.a h nx
 d1:t.tb≠t.a.ab
 d2:t.tb≠t.a.mb
 d3:∀e∈t.a.es,e.bJ≠t.tb
 lt:t.tb<nx
 kn:∀e∈t.a.es,e.x.k.ok h nx
 kd:∀e∈t.a.es,∀b,e.x.k.own b->b≠t.tb/\¬t.a.own b
 kk:∀e∈t.a.es,∀f∈t.a.es,e.ao≠f.ao->∀b,e.x.k.own b->¬f.x.k.own b
structure AW(t:At)(p:bj)(h:aG)(nx:Nat):Prop where
 tk:t.ok h nx
 pk:p.ok h nx
 sp:Sep t.a p
 sd:∀b,t.own b->b≠p.pb/\b≠p.gb/\b≠p.fb
theorem Ar.wT{a:Ar α}{e:jE α}(he:e∈a.es):a.own e.bJ:= .inr (.inr ⟨e,he,rfl⟩)
theorem Ar.ok.dm{enc:α->List AV}{a:Ar α}(o:Ar.ok enc tA tC a h nx)(hb:a.own b):b<nx:=by
 rcases hb with e|e|⟨f,hf,e⟩;.have:=o.la;omega
 .have:=o.lm;omega
 .have:=(o.fr f hf).2.2;omega
theorem Ar.ok.iy{enc:α->List AV}{a:Ar α}(o:Ar.ok enc tA tC a h nx)(s:∀b,a.own b->au h' b=au h b)(hn:nx<=nx'):Ar.ok enc tA tC a h' nx':=
 ⟨by rw[s _ (.inl rfl)];exact o.ar,by rw[s _ (.inr (.inl rfl))];exact o.mp,λe he=>by rw[s _ (Ar.wT he)];exact o.cl e he,o.rK,o.IL,λe he=>⟨(o.fr e he).1,(o.fr e he).2.1,aP (o.fr e he).2.2 hn⟩,o.ne,aP o.la hn,aP o.lm hn⟩
theorem At.ok.dm{t:At}{h:aG}{nx:Nat}(o:t.ok h nx){b:Nat}(hb:t.own b):b<nx:=by
 rcases hb with e|e|⟨f,hf,e⟩;.rw[e];exact o.lt
 .exact o.ok.dm e
 .exact(o.kn f hf).Pz b e
theorem At.ok.aX{t:At}{h h':aG}{nx nx':Nat}(o:t.ok h nx)(s:∀b,t.own b->au h' b=au h b)(hn:nx<=nx'):t.ok h' nx':=
 ⟨by rw[s _ (.inl rfl)];exact o.tr,o.ok.iy (λb hb=>s b (.inr (.inl hb))) hn,o.d1,o.d2,o.d3,aP o.lt hn,λe he=>(o.kn e he).aX (λb hb=>s b (.inr (.inr ⟨e,he,hb⟩))) hn,o.kd,o.kk⟩
theorem AW.aX{t:At}{p:bj}{h h':aG}{nx nx':Nat}(o:AW t p h nx)(s:aH nx h h')(hn:nx<=nx'):AW t p h' nx':=
 ⟨o.tk.aX (λb hb=>s b (o.tk.dm hb)) hn,o.pk.aX s hn,o.sp,o.sd⟩
theorem Ar.oL{a:Ar α}{s:Nat}{x:α}{b:Nat}:({a with es:=iL a.es s x}:Ar α).own b↔a.own b:=by
 constructor
 .rintro(e|e|⟨f,hf,e⟩);.exact .inl e
  .exact .inr (.inl e)
  .obtain⟨g,hg,_,e2,_⟩:=eT hf;exact .inr (.inr ⟨g,hg,e2.trans e⟩)
 .rintro(e|e|⟨f,hf,e⟩);.exact .inl e
  .exact .inr (.inl e)
  .refine .inr (.inr ?_);by_cases hs:f.ao=s;.exact⟨{f with x:=x},bu.2 ⟨f,hf,by rw[aw hs]⟩,e⟩
   .exact⟨f,bu.2 ⟨f,hf,by rw[ak hs]⟩,e⟩
theorem Ar.EZ{a:Ar α}{s:Nat}{x:α}{q:Nat}:({a with es:=iL a.es s x}:Ar α).sl q↔a.sl q:=by
 constructor;.rintro⟨f,hf,e⟩;obtain⟨g,hg,e1,_⟩:=eT hf;exact⟨g,hg,e1.trans e⟩
 .rintro⟨f,hf,e⟩;by_cases hs:f.ao=s;.exact⟨{f with x:=x},bu.2 ⟨f,hf,by rw[aw hs]⟩,e⟩
  .exact⟨f,bu.2 ⟨f,hf,by rw[ak hs]⟩,e⟩
theorem Sep.upd{a:Ar α}{p:bj}(o:Sep a p)(s:Nat)(x:α):Sep {a with es:=iL a.es s x} p:=
 ⟨o.pb,o.sa,o.sm,λf hf=>by obtain⟨g,hg,_,e2,_⟩:=eT hf;rw[<-e2];exact o.sc g hg,λf hf=>by obtain⟨g,hg,e1,_⟩:=eT hf;rw[<-e1];exact o.taken g hg⟩
theorem AW.bU{t:At}{p:bj}(o:AW t p h nx){e:jE Ax}(he:e∈t.a.es){k':KN}(ok:k'.ok h' nx')(St:iY n e.x.k k' h h')(hn:nx<=n)(C0:n<=nx'):
 AW {t with a:={t.a with es:=iL t.a.es e.ao {e.x with k:=k'}}} p h' nx'/\
 dA nx t.own ({t with a:={t.a with es:=iL t.a.es e.ao {e.x with k:=k'}}}:At).own t.a.sl ({t.a with es:=iL t.a.es e.ao {e.x with k:=k'}}:Ar Ax).sl p p h h':=by
 have hs:∀b,b<nx->¬e.x.k.own b->au h' b=au h b:=λb hb mS=>St.aX b ah mS;have LN:∀b,t.a.own b->au h' b=au h b:=λb hb=>hs b (o.tk.ok.dm hb) λe'=>(o.tk.kd e he b e').2 hb;have hx:∀f∈iL t.a.es e.ao {e.x with k:=k'},(f.ao=e.ao/\f.x.k=k'/\f.x={e.x with k:=k'})\/(f.ao≠e.ao/\∃g∈t.a.es,g.ao=f.ao/\g.x=f.x):=by
  intro f hf;obtain⟨g,hg,e1,e2,e3,e4,e5⟩:=eT hf;by_cases hq:g.ao=e.ao;.have:=e4 hq;exact .inl ⟨e1▸hq,by rw[this],this⟩
  .exact .inr ⟨e1▸hq,g,hg,e1,(e5 hq).symm⟩
 have vT:∀b,k'.own b->e.x.k.own b\/nx<=b:=λb hb=>(St.own b hb).imp id ah;have hgk:∀g∈t.a.es,g.ao≠e.ao->∀b,g.x.k.own b->au h' b=au h b:=λg hg cx b hb=>hs b ((o.tk.kn g hg).Pz b hb) λe'=>o.tk.kk g hg e he cx b hb e';have yV:∀b,({t with a:={t.a with es:=iL t.a.es e.ao {e.x with k:=k'}}}:At).own b->t.own b\/nx<=b:=by
  rintro b (e1|e1|⟨f,hf,e1⟩);.exact .inl (.inl e1)
  .exact .inl (.inr (.inl (Ar.oL.1 e1)))
  .rcases hx f hf with⟨_,q,_⟩|⟨_,g,hg,_,q⟩;.rw[q]at e1;exact(vT b e1).imp (λh=> .inr (.inr ⟨e,he,h⟩)) id
   .rw[<-q]at e1;exact .inl (.inr (.inr ⟨g,hg,e1⟩))
 refine⟨⟨⟨?_,?_,o.tk.d1,o.tk.d2,λf hf=>?_,aP o.tk.lt ah,λf hf=>?_,λf hf b hb=>?_,λf hf g hg cx b hb gC=>?_⟩,o.pk.iy ?_ ?_ ?_ ah,o.sp.upd _ _,λb hb=>?_⟩,⟨rfl,rfl,rfl,rfl,λ_ h=> .inl h,yV,λs h=> .inl (Ar.EZ.1 h),λb hb mS _ _ _=>hs b hb λe'=>mS (.inr (.inr ⟨e,he,e'⟩))⟩⟩;.show au h' t.tb=_;rw[hs _ o.tk.lt λe'=>(o.tk.kd e he _ e').1 rfl];exact o.tk.tr
 .have a1:=(o.tk.ok.iy LN (ah:nx<=nx'));have a2:=a1.store he {e.x with k:=k'};refine a2.iy (λb hb=>?_) (an _);rw[aj];split;.rename_i hq;rw[hq,a1.cl e he];show _=some (AO.cells (u64 e.bk::[bR e.x.pre,bR e.x.val,bQ e.x.has,.ptr k'.nb 0]) 300);rw[St.nb];rfl
  .rfl
 .obtain⟨g,hg,_,e2,_⟩:=eT hf;rw[<-e2];exact o.tk.d3 g hg
 .rcases hx f hf with⟨_,q,_⟩|⟨cx,g,hg,e1,q⟩;.rw[q];exact ok
  .rw[<-q];exact(o.tk.kn g hg).aX (hgk g hg (by rw[e1];exact cx)) ah
 .rcases hx f hf with⟨_,q,_⟩|⟨cx,g,hg,e1,q⟩
  .rw[q]at hb;rcases vT b hb with r|r
   .exact⟨(o.tk.kd e he b r).1,λh=>(o.tk.kd e he b r).2 (Ar.oL.1 h)⟩
   .refine⟨by have:=o.tk.lt;show b≠t.tb;omega,λh=>?_⟩;have:=o.tk.ok.dm (Ar.oL.1 h);omega
  .rw[<-q]at hb;exact⟨(o.tk.kd g hg b hb).1,λh=>(o.tk.kd g hg b hb).2 (Ar.oL.1 h)⟩
 .rcases hx f hf with⟨s1,q,_⟩|⟨n1,f1,hf1,e1,q⟩<;>rcases hx g hg with⟨s2,r,_⟩|⟨n2,g1,Ji,e2,r⟩;.exact cx (s1.trans s2.symm)
  .rw[q]at hb;rw[<-r]at gC;rcases vT b hb with w|w
   .exact o.tk.kk e he g1 Ji (by rw[e2];exact n2.symm) b w gC
   .have:=(o.tk.kn g1 Ji).Pz b gC;omega
  .rw[<-q]at hb;rw[r]at gC;rcases vT b gC with w|w
   .exact o.tk.kk f1 hf1 e he (by rw[e1];exact n1) b hb w
   .have:=(o.tk.kn f1 hf1).Pz b hb;omega
  .rw[<-q]at hb;rw[<-r]at gC;exact o.tk.kk f1 hf1 g1 Ji (by rw[e1,e2];exact cx) b hb gC
 .exact hs _ o.pk.rY λe'=>(o.sd _ (.inr (.inr ⟨e,he,e'⟩))).1 rfl
 .exact hs _ o.pk.ss λe'=>(o.sd _ (.inr (.inr ⟨e,he,e'⟩))).2.1 rfl
 .exact hs _ o.pk.sr λe'=>(o.sd _ (.inr (.inr ⟨e,he,e'⟩))).2.2 rfl
 .rcases yV b hb with q|q;.exact o.sd b q
  .have:=o.pk.rY;have:=o.pk.ss;have:=o.pk.sr;exact⟨ah,ah,ah⟩
variable{aO hd:Hd}{p':bj}
theorem dA.from{n0:Nat}{o q o' l l':Nat->Prop}{p:bj}(a:dA nx (λb=>o b\/q b) o' l l' p p' h h')(hq:∀b,q b->n0<=b)(hs:∀b,b<n0->¬o b->b≠p.pb->b≠p.gb->b≠p.fb->au h b=au h0 b)(hn:n0<=nx):dA n0 o o' l l' p p' h0 h':=by
 refine⟨a.pb,a.gb,a.fb,a.fl,a.fr,λb hb=>?_,a.slt,λb hb mS g1 g2 g3=>?_⟩
 .rcases a.bl b hb with(r|r)|r;.exact .inl r
  .exact .inr (hq b r)
  .exact .inr ah
 .rw[a.aX b ah (λe=>by
   rcases e with e|e;.exact mS e
   .have:=hq b e;omega) g1 g2 g3]
  exact hs b hb mS g1 g2 g3
theorem AW.val{t:At}{p:bj}(o:AW t p h nx){e:jE Ax}(he:e∈t.a.es){x:Ax}(hk:x.k=e.x.k):
 AW {t with a:={t.a with es:=iL t.a.es e.ao x}} p (aK h e.bJ (.cells (u64 e.bk::x.cells) 300)) nx/\
 dA nx t.own ({t with a:={t.a with es:=iL t.a.es e.ao x}}:At).own t.a.sl ({t.a with es:=iL t.a.es e.ao x}:Ar Ax).sl p p h (aK h e.bJ (.cells (u64 e.bk::x.cells) 300)):=by
 have xX:t.a.own e.bJ:=Ar.wT he;have hx:∀f∈iL t.a.es e.ao x,∃g∈t.a.es,g.ao=f.ao/\g.x.k=f.x.k:=by
  intro f hf;obtain⟨g,hg,e1,e2,e3,e4,e5⟩:=eT hf;by_cases hq:g.ao=e.ao;.have h1:=e4 hq;have h2:g=e:=jw o.tk.ok.rK hg he hq;exact⟨g,hg,e1,by rw[h1,hk,h2]⟩
  .exact⟨g,hg,e1,by rw[e5 hq]⟩
 have cx:∀g∈t.a.es,∀b,g.x.k.own b->b≠e.bJ:=λg hg b hb e'=>(o.tk.kd g hg b hb).2 (e'▸xX);have yV:∀b,({t with a:={t.a with es:=iL t.a.es e.ao x}}:At).own b->t.own b:=by
  rintro b (e1|e1|⟨f,hf,e1⟩);.exact .inl e1
  .exact .inr (.inl (Ar.oL.1 e1))
  .obtain⟨g,hg,_,q⟩:=hx f hf;rw[<-q]at e1;exact .inr (.inr ⟨g,hg,e1⟩)
 have IG:=o.sd e.bJ (.inr (.inl xX));refine⟨⟨⟨?_,o.tk.ok.store he x,o.tk.d1,o.tk.d2,λf hf=>?_,o.tk.lt,λf hf=>?_,λf hf b hb=>?_,λf hf g hg cx b hb gC=>?_⟩,o.pk.iy ?_ ?_ ?_ (an _),o.sp.upd _ _,λb hb=>o.sd b (yV b hb)⟩,⟨rfl,rfl,rfl,rfl,λ_ h=> .inl h,λb hb=> .inl (yV b hb),λs h=> .inl (Ar.EZ.1 h),λb hb mS _ _ _=>?_⟩⟩;.show au _ t.tb=_;rw[aj,ak (o.tk.d3 e he).symm];exact o.tk.tr
 .obtain⟨g,hg,_,e2,_⟩:=eT hf;rw[<-e2];exact o.tk.d3 g hg
 .obtain⟨g,hg,_,q⟩:=hx f hf;rw[<-q];exact(o.tk.kn g hg).aX (λb hb=>by rw[aj,ak (cx g hg b hb)]) (an _)
 .obtain⟨g,hg,_,q⟩:=hx f hf;rw[<-q]at hb;exact⟨(o.tk.kd g hg b hb).1,λh=>(o.tk.kd g hg b hb).2 (Ar.oL.1 h)⟩
 .obtain⟨f1,hf1,e1,q⟩:=hx f hf;obtain⟨g1,Ji,e2,r⟩:=hx g hg;rw[<-q]at hb;rw[<-r]at gC;exact o.tk.kk f1 hf1 g1 Ji (by rw[e1,e2];exact cx) b hb gC
 .rw[aj,ak IG.1.symm]
 .rw[aj,ak IG.2.1.symm]
 .rw[aj,ak IG.2.2.symm]
 .have:b≠e.bJ:=λe'=>mS (.inr (.inl (by rw[e'];exact xX)));rw[aj,ak this]
theorem AW.tree{t:At}{p:bj}(o:AW t p h nx)(aO:Hd)(size:Int):
 AW {t with aO:=aO,size:=size} p (aK h t.tb (.cells [.ptr t.a.pb 0,.ptr t.a.ab 0,int aO.ao,u64 aO.bk,.g (.int .i64 size),bQ false] 258)) nx/\
 dA nx t.own t.own t.a.sl t.a.sl p p h (aK h t.tb (.cells [.ptr t.a.pb 0,.ptr t.a.ab 0,int aO.ao,u64 aO.bk,.g (.int .i64 size),bQ false] 258)):=by
 have IG:=o.sd t.tb (.inl rfl);have hd:∀b,t.a.own b->b≠t.tb:=by
  rintro b (e|e|⟨f,hf,e⟩);.rw[e];exact o.tk.d1.symm
  .rw[e];exact o.tk.d2.symm
  .rw[<-e];exact o.tk.d3 f hf
 refine⟨⟨⟨gl,o.tk.ok.iy (λb hb=>by rw[aj,ak (hd b hb)]) (an _),o.tk.d1,o.tk.d2,o.tk.d3,o.tk.lt,λe he=>(o.tk.kn e he).aX (λb hb=>by rw[aj,ak (o.tk.kd e he b hb).1]) (an _),o.tk.kd,o.tk.kk⟩,o.pk.iy ?_ ?_ ?_ (an _),o.sp,o.sd⟩,⟨rfl,rfl,rfl,rfl,λ_ h=> .inl h,λ_ h=> .inl h,λ_ h=> .inl h,λb _ mS _ _ _=>by rw[aj,ak (λe=>mS (.inl e))]⟩⟩;.rw[aj,ak IG.1.symm]
 .rw[aj,ak IG.2.1.symm]
 .rw[aj,ak IG.2.2.symm]
theorem AW.take{t:At}{p:bj}(o:AW t p h nx)(hc:p.fr.count true≠0)(x:Ax):
 aA prog 131 [.ptr t.a.ab 0,x.av] h nx λv h' nx'=>∃(i bJ:Nat) (p':bj),cV t.a.es i=none/\v= .dN [.agg [int i,u64 (p.gs.getD i 0:Nat)],int 0]/\p'.ok h' nx'/\
  Px.ok {t.a with ck:=t.a.ck+1,es:=t.a.es++[⟨i,bJ,t.a.ck,p.gs.getD i 0,x⟩]} h' nx'/\Sep {t.a with ck:=t.a.ck+1,es:=t.a.es++[⟨i,bJ,t.a.ck,p.gs.getD i 0,x⟩]} p'/\
  nx<=bJ/\bJ<nx'/\p'.fr.count true+1=p.fr.count true/\
  dA nx t.own (λb=>t.own b\/b=bJ) t.a.sl ({t.a with ck:=t.a.ck+1,es:=t.a.es++[⟨i,bJ,t.a.ck,p.gs.getD i 0,x⟩]}:Ar Ax).sl p p' h h'/\(∀b,t.own b->b≠t.a.mb->au h' b=au h b):=by
 refine(amx t.a p h nx o.tk.ok o.pk o.sp hc x).mono _ ?_;rintro v h' nx' ⟨i,bJ,hi,ht,rfl,q1,q2,q3,q4⟩;have mS:∀e∈t.a.es,e.ao≠i:=λe he hs=>by have:=(o.sp.taken e he).2;rw[hs,ht]at this;cases this
 have tP:∀s,(p.fr.set i false).getD s false=false\/(p.fr.set i false).getD s false=p.fr.getD s false:=by
  intro s;by_cases hs:i=s;.subst hs;left;simp[List.getD,hi]
  .right;simp[List.getD,hs]
 have a1:=o.pk.rY;have a2:=o.pk.ss;have a3:=o.pk.sr;have gC:=(q2.fr ⟨i,bJ,t.a.ck,p.gs.getD i 0,x⟩ bL).2.2;refine⟨i,bJ,{p with fr:=p.fr.set i false},qn mS,rfl,q1,q2,⟨o.sp.pb,o.sp.sa,o.sp.sm,λe he=>?_,λe he=>?_⟩,q3,gC,count_set hi ht,⟨rfl,rfl,rfl,bL,λs hs=> .inl ?_,λb hb=>hb.imp id (λe=>ah),λs hs=>?_,λb hb mS g1 g2 g3=>q4 b hb g1 g2 g3 (λe=>mS (.inr (.inl (.inr (.inl e)))))⟩,λb hb hm=>?_⟩
 .rcases bp.1 he with he|he;.exact o.sp.sc e he
  .simp only[aR]at he;subst he;show bJ≠p.pb/\bJ≠p.gb/\bJ≠p.fb;omega
 .rcases bp.1 he with he|he
  .have:=o.sp.taken e he;refine⟨by simpa using this.1,?_⟩;rcases tP e.ao with h|h
   .exact h
   .exact h.trans this.2
  .simp only[aR]at he;subst he;refine⟨by simpa using hi,?_⟩;show(p.fr.set i false).getD i false=false;simp[List.getD,hi]
 .rcases tP s with h|h;.exact h
  .exact h.trans hs
 .obtain⟨e,he,rfl⟩:=hs;rcases bp.1 he with he|he;.exact .inl ⟨e,he,rfl⟩
  .simp only[aR]at he;subst he;exact .inr ht
 .have:=o.sd b hb;exact q4 b (o.tk.dm hb) this.1 this.2.1 this.2.2 hm
theorem ng{a:Ar Ax}(ok:Px.ok a h nx){n:Ax}(hs:cV a.es hd.ao=some (hd.bk,n)):
 ∃e∈a.es,e.ao=hd.ao/\e.bk=hd.bk/\e.x=n/\au h e.bJ=some (.cells (u64 hd.bk::n.cells) 300)/\e.bJ<nx/\∀h' nx',aH nx h h'->nx<=nx'->aA prog 278 [.ptr a.ab 0,.agg [int hd.ao,u64 hd.bk]] h' nx' (dr (.dN [.ptr e.bJ 1,bQ true]) h' nx'):=by
 obtain⟨e,he,h1,h2,h3⟩:=lG hs;refine⟨e,he,h1,h2,h3,?_,(ok.fr e he).2.2,?_⟩;.rw[<-h2,<-h3];exact ok.cl e he
 .intro h' nx' q1 q2;have:=aeU a h' nx' (ok.aX q1 q2) e he;rw[Hd.av,Hd.cells,h1,h2]at this;exact this
theorem aak(t:At)(h:aG)(nx:Nat)(ok:t.ok h nx):aA prog 273 [.ptr t.tb 0] h nx (dr (bQ false) h nx):=by refine aA.ac 1 T0 func273 ?_;simp+decide-dsimp only[f273,go_sem,ok.tr];exact⟨rfl,rfl,rfl⟩
def ahR:Nat->cU:=λid=>if id=1 then[(z4,[],some 5),([6,7,8],[],some 9),([],[],some 10),([],[],none)]else[]
theorem abC(tb:Nat)(a:Ar Ax)(h:aG)(nx:Nat){size:Int}(tr:au h tb=some (.cells [.ptr a.pb 0,.ptr a.ab 0,int aO.ao,u64 aO.bk,.g (.int .i64 size),bQ false] 258))(db:tb<nx)(ok:Px.ok a h nx){e:jE Ax}(he:e∈a.es)(h1:e.ao=hd.ao)(h2:e.bk=hd.bk):
 aA prog 275 [.ptr tb 0,.agg [int hd.ao,u64 hd.bk]] h nx (dr (.ptr e.bJ 1) h nx):=by
 have hf:=ok.fr e he;refine aA.pc 2 ahR func275 ?_;have d1:¬(tb=nx):=ah;have c:∀n,nx<=n->aA prog 278 [.ptr a.ab 0,.agg [int hd.ao,u64 hd.bk]] (aK h nx (.cells [int hd.ao,u64 hd.bk] 245)) n _:=λn hn=>by have c:=aeU a (aK h nx (.cells [int hd.ao,u64 hd.bk] 245)) n (ok.aX (aH.refl.set (an _)) hn) e he;rw[Hd.av,Hd.cells,h1,h2]at c;exact c
 simp+decide-dsimp only[f275,go_sem,ahR,tr,d1];refine bm (c _ ah) ?_;simp+decide-dsimp only[go_sem];exact .of (aH.refl.set (an _)) (.cQ hf.2.2)
theorem Dd(t:At)(h:aG)(nx:Nat)(ok:t.ok h nx){e:jE Ax}(he:e∈t.a.es)(h1:e.ao=hd.ao)(h2:e.bk=hd.bk):
 aA prog 275 [.ptr t.tb 0,.agg [int hd.ao,u64 hd.bk]] h nx (dr (.ptr e.bJ 1) h nx):=abC t.tb t.a h nx ok.tr ok.lt ok.ok he h1 h2
variable{cap:Nat}
theorem rf{l:ba}(h:i<=l.length):eS prog 9 (bR l) (some (int i)) none=some (bR (l.drop i)):=by rw[yY Rb (a:=i) (b:=l.length) (.inr rfl) (.inl ⟨rfl,rfl⟩) h (an _),aD (by rw[aC];exact an _)]
theorem Tj{b:UInt8}{l:ba}:eS prog 9 (bR (b::l)) (some (int 1)) none=some (bR l):=rf (i:=1) bL
theorem GZ{l:ba}(h:i<=l.length):eS prog 9 (bR l) none (some (int i))=some (bR (l.take i)):=by rw[yY Rb (a:=0) (b:=i) (.inl ⟨rfl,rfl⟩) (.inr rfl) (aY _) h];rfl
theorem amD{b:UInt8}{l:ba}:rH prog 9 (bR (b::l)) (int 0)=some (.val (u8 (b.toNat:Nat))):=Dz (k:=0) Rb bL
def ab0(r:Option (List UInt8)):Option AV:=match r with
 |some l=>some (bR l)
 |none=>none
theorem amz{off len:Nat}:nD prog h 46 9 (.sl b off len cap)=ab0 ((cK h b off len).bind nG):=by
 show Bb prog h 46 9 b off len=_;unfold Bb;rw[vP,Rb];show(match prog.underlying 5 with|some (.int .u8)=>_|_=>none)=_;rw[UX];show(match cK h b off len with|some cs=>_|none=>none)=_;cases cK h b off len with
 |none=>rfl
 |some cs=>show(match nG cs with|some l=>_|none=>none)=ab0 (nG cs);cases nG cs<;>rfl
theorem ah'{b:UInt8}:nG [u8 (b.toNat:Nat)]=some [b]:=by have h:=b.toNat_lt;simp only[nG];simp[LA]
theorem Ny{l:ba}:ab0 (some l)=some (bR l):=bF rfl
attribute[go_sem] rf Tj GZ amD amz ah' Ny
structure tv(t t':At):Prop where
 tb:t'.tb=t.tb
 ab:t'.a.ab=t.a.ab
 mb:t'.a.mb=t.a.mb
 pb:t'.a.pb=t.a.pb
 aO:t'.aO=t.aO
theorem tv.refl(t:At):tv t t:=⟨rfl,rfl,rfl,rfl,rfl⟩
theorem tv.trans{t t' t'':At}(a:tv t t')(b:tv t' t''):tv t t'':=⟨b.tb.trans a.tb,b.ab.trans a.ab,b.mb.trans a.mb,b.pb.trans a.pb,b.aO.trans a.aO⟩
theorem AW.alloc{t:At}{p:bj}(o:AW t p h nx)(hc:p.fr.count true≠0)(x:Ax)(hk:x.k.ok h nx)(qN:∀b,x.k.own b->¬t.own b/\b≠p.pb/\b≠p.gb/\b≠p.fb):
 aA prog 131 [.ptr t.a.ab 0,x.av] h nx λv h' nx'=>∃(t':At) (p':bj) (hd:Hd),cV t.a.es hd.ao=none/\v= .dN [.agg [int hd.ao,u64 hd.bk],int 0]/\AW t' p' h' nx'/\tv t t'/\t'.size=t.size/\
  dA nx (λb=>t.own b\/x.k.own b) t'.own t.a.sl t'.a.sl p p' h h'/\cV t'.a.es=up (cV t.a.es) hd.ao (hd.bk,x)/\p'.fr.count true+1=p.fr.count true:=by
 refine(o.take hc x).mono _ ?_;rintro v h' nx' ⟨i,bJ,p',f1,rfl,q1,q2,q3,q4,q5,q6,S,q7⟩;have hxk:∀b,x.k.own b->au h' b=au h b:=λb hb=>by have:=qN b hb;exact S.aX b (hk.Pz b hb) this.1 this.2.1 this.2.2.1 this.2.2.2
 have iI:∀f∈t.a.es++[⟨i,bJ,t.a.ck,p.gs.getD i 0,x⟩],f∈t.a.es\/(f.ao=i/\f.bJ=bJ/\f.x=x):=by
  intro f hf;rcases bp.1 hf with hf|hf
  .exact .inl hf
  .simp only[aR]at hf;subst hf;exact .inr ⟨rfl,rfl,rfl⟩
 have LN:∀b,({t.a with ck:=t.a.ck+1,es:=t.a.es++[⟨i,bJ,t.a.ck,p.gs.getD i 0,x⟩]}:Ar Ax).own b->t.a.own b\/b=bJ:=by
  rintro b (e|e|⟨f,hf,e⟩);.exact .inl (.inl e)
  .exact .inl (.inr (.inl e))
  .rcases iI f hf with h|⟨_,h,_⟩;.exact .inl (.inr (.inr ⟨f,h,e⟩))
   .exact .inr (by rw[<-e,h])
 have hmb:∀e∈t.a.es,∀b,e.x.k.own b->b≠t.a.mb:=λe he b hb e'=>(o.tk.kd e he b hb).2 (.inr (.inl e'));have aob:∀b,t.own b->b<nx:=λb hb=>o.tk.dm hb;refine⟨{t with a:={t.a with ck:=t.a.ck+1,es:=t.a.es++[⟨i,bJ,t.a.ck,p.gs.getD i 0,x⟩]}},p',⟨i,p.gs.getD i 0⟩,f1,rfl,⟨⟨?_,q2,o.tk.d1,o.tk.d2,λf hf=>?_,?_,λf hf=>?_,λf hf b hb=>?_,λf hf g hg cx b hb gC=>?_⟩,q1,q3,λb hb=>?_⟩,⟨rfl,rfl,rfl,rfl,rfl⟩,rfl,⟨S.pb,S.gb,S.fb,S.fl,S.fr,λb hb=>?_,S.slt,λb hb mS=>S.aX b hb (λe=>mS (.inl e))⟩,?_,q6⟩;.show au h' t.tb=_;rw[q7 _ (.inl rfl) o.tk.d2];exact o.tk.tr
 .rcases iI f hf with h|⟨_,h,_⟩;.exact o.tk.d3 f h
  .rw[h];have:=o.tk.lt;show bJ≠t.tb;omega
 .have:=o.tk.lt;show t.tb<nx';omega
 .rcases iI f hf with h|⟨_,_,h⟩;.exact(o.tk.kn f h).aX (λb hb=>q7 b (.inr (.inr ⟨f,h,hb⟩)) (hmb f h b hb)) ah
  .rw[h];exact hk.aX hxk ah
 .have wG:b<nx:=by
   rcases iI f hf with h|⟨_,_,h⟩;.exact(o.tk.kn f h).Pz b hb
   .rw[h]at hb;exact hk.Pz b hb
  rcases iI f hf with h|⟨_,_,h⟩
  .refine⟨(o.tk.kd f h b hb).1,λe=>?_⟩;rcases LN b e with r|r
   .exact(o.tk.kd f h b hb).2 r
   .omega
  .rw[h]at hb;refine⟨λe=>(qN b hb).1 (.inl e),λe=>?_⟩;rcases LN b e with r|r
   .exact(qN b hb).1 (.inr (.inl r))
   .omega
 .rcases iI f hf with h1|⟨s1,_,h1⟩<;>rcases iI g hg with h2|⟨s2,_,h2⟩;.exact o.tk.kk f h1 g h2 cx b hb gC
  .rw[h2]at gC;exact(qN b gC).1 (.inr (.inr ⟨f,h1,hb⟩))
  .rw[h1]at hb;exact(qN b hb).1 (.inr (.inr ⟨g,h2,gC⟩))
  .exact cx (s1.trans s2.symm)
 .have hp:=S.pb;have hg:=S.gb;have hf:=S.fb;rw[hp,hg,hf];have a1:=o.pk.rY;have a2:=o.pk.ss;have a3:=o.pk.sr;rcases hb with e|e|⟨f,hf,e⟩
  .exact o.sd b (.inl e)
  .rcases LN b e with r|r;.exact o.sd b (.inr (.inl r))
   .exact⟨ah,ah,ah⟩
  .rcases iI f hf with h|⟨_,_,h⟩;.exact o.sd b (.inr (.inr ⟨f,h,e⟩))
   .rw[h]at e;exact(qN b e).2
 .rcases hb with e|e|⟨f,hf,e⟩;.exact .inl (.inl (.inl e))
  .rcases LN b e with r|r;.exact .inl (.inl (.inr (.inl r)))
   .exact .inr ah
  .rcases iI f hf with h|⟨_,_,h⟩;.exact .inl (.inl (.inr (.inr ⟨f,h,e⟩)))
   .rw[h]at e;exact .inl (.inr e)
 .refine zW λe he hs=>?_;have:=qI o.tk.ok.rK he;rw[hs]at this;have:=f1.symm.trans this;cases this
def abN:Nat->cU:=λid=>if id=1 then[([0,1,2,3,4,5,6,13],[3],some 7),([8],[3,13],some 9),([10,11,12],[13],some 14),([],[],some 15),([],[],none)]else if id=2 then[([0,1,6,7,8],[],some 2),([3,4,5],[8],some 9),([],[],none)]else[]
theorem ajw(t:At)(p:bj)(h:aG)(nx:Nat)(o:AW t p h nx)(hc:p.fr.count true≠0)(hd:Hd)(n:Ax)(hs:cV t.a.es hd.ao=some (hd.bk,n))(b:UInt8)(r v:ba)(hr:r.length<60000):
 aA prog 288 [.ptr t.tb 0,hd.av,bR (b::r),bR v] h nx λw h' nx'=>w= .dN []/\∃(t':At) (p':bj) (x:Hd) (k0 k1:KN),cV t.a.es x.ao=none/\k0.l=[]/\k1.l=nV n.k.l b x/\AW t' p' h' nx'/\tv t t'/\
  dA nx t.own t'.own t.a.sl t'.a.sl p p' h h'/\cV t'.a.es=up (up (cV t.a.es) x.ao (x.bk,⟨r,v,true,k0⟩)) hd.ao (hd.bk,{n with k:=k1})/\p'.fr.count true+1=p.fr.count true:=by
 have db:=o.tk.lt;have d1:¬(t.tb=nx):=ah;refine aA.ac 4 abN func288 ?_;have d2:∀q,¬(t.tb=nx+1+q):=λq=>ah;have d0:∀q,¬(nx=nx+1+q):=λq=>ah;simp+decide-dsimp only[f288,go_sem,abN,o.tk.tr,d1,d2,Hd.av,Hd.cells];generalize tz:nx+1+Array.size _=n0;have R6:nx+1+16=n0:=tz;clear tz;generalize hH:aK (aK h nx _) (nx+1+13) _=H;have Gl:aH nx h H:=by
  rw[<-hH]
  repeat' first|exact aH.refl|apply aH.fJ|(apply aH.set;rotate_left;omega)
 have Nx:au H nx=some (.cells [int hd.ao,u64 hd.bk] 245):=by rw[<-hH,aj,ak (d0 _),aj,aw rfl]
 have hH3:au H (nx+1+13)=some (.cells [int 0,u64 0] 245):=by rw[<-hH,aj,aw rfl]
 clear hH;refine cf (abZ H n0) λ_ h1 cm l1 ⟨k0,e0,k0l,k0ok,BJ,k0own⟩=>?_
 subst e0;have o1:AW t p h1 cm:=o.aX (Gl.trans (BJ.le (ah:nx<=n0)) (an _)) ah;have g1:au h1 t.tb=_:=o1.tk.tr;have g2:au h1 (nx+1+13)=some (.cells [int 0,u64 0] 245):=by rw[BJ _ ah];exact hH3
 have g3:au h1 nx=some (.cells [int hd.ao,u64 hd.bk] 245):=by rw[BJ _ ah];exact Nx
 simp+decide-dsimp only[go_sem,g1,g2];have qN:∀b,k0.own b->¬t.own b/\b≠p.pb/\b≠p.gb/\b≠p.fb:=λb hb=>by have a0:=k0own b hb;have a1:=o.pk.rY;have a2:=o.pk.ss;have a3:=o.pk.sr;exact⟨λe=>by have:=o.tk.dm e;omega,ah,ah,ah⟩
 refine cf (o1.alloc hc ⟨r,v,true,k0⟩ k0ok qN) λ_ h2 dU l2 ⟨t2,p2,x,f1,f2,o2,E2,f3,S2,f4,f5⟩=>?_;subst f2;have ko:hd.ao≠x.ao:=λe'=>by rw[e',f1]at hs;cases hs
 have rP:cV t2.a.es hd.ao=some (hd.bk,n):=by rw[f4,cH ko];exact hs
 have old:∀b,b<n0->nx<=b->au h2 b=au h1 b:=λb hb gC=>by
  have a1:=o.pk.rY;have a2:=o.pk.ss;have a3:=o.pk.sr;refine S2.aX b ah (λe=>?_) ah ah ah;rcases e with e|e
  .have:=o.tk.dm e;omega
  .have:=k0own b e;omega
 have k1:au h2 (nx+1+13)=some (.cells [int 0,u64 0] 245):=by rw[old _ ah ah];exact g2
 have k2:au h2 nx=some (.cells [int hd.ao,u64 hd.bk] 245):=by rw[old _ ah ah];exact g3
 simp+decide-dsimp only[go_sem,abN,k1,k2,d0,reduceAdd];obtain⟨e,he,e1,e2,e3,e4,e5,_⟩:=ng o2.tk.ok rP;have sm2:∀o',aH dU h2 (aK h2 (nx+1+13) o')->True:=λ_ _=>trivial;have mS:∀c,t2.own c->c≠nx+1+13:=λc hc e'=>by
  rcases S2.bl c hc with(q|q)|q;.have:=o.tk.dm q;omega
  .have:=k0own c q;omega
  .omega
 generalize hG:aK h2 (nx+1+13) _=G;have G1:∀c,c≠nx+1+13->au G c=au h2 c:=λc hc=>by rw[<-hG,aj,ak hc]
 have G2:au G (nx+1+13)=some (.cells [int x.ao,u64 x.bk] 245):=by rw[<-hG,aj,aw rfl]
 clear hG;have pl:∀c,c<nx->c≠nx+1+13:=λc hc=>ah
 have a1:=o.pk.rY;have a2:=o.pk.ss;have a3:=o.pk.sr;have o3:AW t2 p2 G dU:=⟨o2.tk.aX (λc hc=>G1 c (mS c hc)) (an _),o2.pk.iy (G1 _ (by rw[S2.pb];omega)) (G1 _ (by rw[S2.gb];omega)) (G1 _ (by rw[S2.fb];omega)) (an _),o2.sp,o2.sd⟩;have c:∀q,dU<=q->aA prog 275 [.ptr t.tb 0,.agg [int hd.ao,u64 hd.bk]] G q (dr (.ptr e.bJ 1) G q):=λq hq=>by have:=Dd t2 G q (o3.aX aH.refl hq).tk he e1 e2;rw[E2.tb]at this;exact this
 refine bm (c _ ah) ?_;have IS:au G e.bJ=some (.cells (u64 hd.bk::n.cells) 300):=by rw[G1 _ (mS _ (.inr (.inl (Ar.wT he))))];exact e4
 have G2':au G nx=some (.cells [int hd.ao,u64 hd.bk] 245):=by rw[G1 _ ah];exact k2
 simp+decide-dsimp only[go_sem,IS,G2,Ax.cells,reduceAdd];generalize hq:dU+Array.size _=nq;have rm:dU<=nq:=ah;clear hq;have o4:=o3.aX (aH.refl) rm;have Cs:n.k.ok G nq:=by have:=o4.tk.kn e he;rw[e3]at this;exact this
 refine cf (ahP n.k b x G nq Cs) λ_ h3 nx3 l3 ⟨⟨_,ev⟩,Bf,r1,r2,St⟩=>?_;subst ev;have St':iY nq e.x.k Bf G h3:=by rw[e3];exact St
 obtain⟨o5,S5⟩:=o4.bU he r2 St' (an _) l3;rw[e3]at o5 S5;have tr5:=o5.tk.tr;simp only[E2.tb]at tr5;simp+decide-dsimp only[go_sem,tr5];obtain⟨o6,S6⟩:=o5.tree t2.aO (cF .i64 (t2.size+1));rw[<-E2.tb];have S2':dA nx t.own t2.own t.a.sl t2.a.sl p p2 h h2:=S2.from (λb hb=>by have:=k0own b hb;omega) (λb hb _ _ _ _=>by rw[BJ b ah,Gl b hb]) ah;have SG:dA nx t2.own t2.own t2.a.sl t2.a.sl p2 p2 h2 G:=dA.same λc hc=>G1 c ah;refine⟨_,p2,x,k0,Bf,f1,k0l,r1,o6,⟨E2.tb,E2.ab,E2.mb,E2.pb,E2.aO⟩,((S2'.trans SG (an _)).trans S5 ah).trans S6 ah,?_,f5⟩;show cV (iL t2.a.es e.ao {n with k:=Bf})=_;rw[qT o2.tk.ok.rK he,e1,e2,f4]
theorem BV{fr:List Bool}(hi:i<fr.length)(hf:fr.getD i false=false):(fr.set i true).count true=fr.count true+1:=by
 have:=count_set (fr:=fr.set i true) (i:=i) (by simpa using hi) (by simp[List.getD,hi]);have e:(fr.set i true).set i false=fr:=by
  rw[List.set_set];refine nM λj=>?_;rw[xq];split
  .rename_i h;subst h;have:fr[i]=false:=by simpa[List.getD,hi]using hf
   simp[hi,this]
  .rfl
 rw[e]at this;omega
theorem W7(n:Nat):∃m:Nat,cF .u64 ((n:Int)+1)=(m:Int):=by refine⟨(((n:Int)+1)%18446744073709551616).toNat,?_⟩;rw[gT];unfold IntKind.wrap;show(if(false&&_)=true then _ else((n:Int)+1)%(2^64:Int))=_;simp only[oc];show((n:Int)+1)%18446744073709551616=_;omega
theorem alk(p:bj)(h:aG)(nx:Nat)(ok:p.ok h nx)(i:Nat)(hi:i<p.fr.length)(hf:p.fr.getD i false=false):
 aA prog 295 [.ptr p.pb 0,int i] h nx λv h' nx'=>v= .dN []/\∃CZ,({p with gs:=CZ,fr:=p.fr.set i true}:bj).ok h' nx'/\abh nx p h h':=by
 have tW:=ok.small;have xy:=List.count_le_length (a:=true) (l:=p.fr);have NH:p.fr.count true+1<9223372036854775808:=ah;have hig:i<p.gs.length:=by rw[ok.len];exact hi
 have hg:=Fk (f:=gn) (d:=0) hig;obtain⟨m,hm⟩:=W7 (p.gs.getD i 0);have hgn:gn (p.gs.getD i 0)=u64 (p.gs.getD i 0:Nat):=rfl;have ya:=Fo (f:=bQ) hi true;have rP:=Fo (f:=gn) hig m;have hgm:gn m=u64 (m:Nat):=rfl;rw[hgm]at rP;have n1:=ok.ne1;have n2:=ok.ne2;have n3:=ok.ne3;have n1':¬(p.gb=p.pb):=λe=>n1 e.symm;have RJ:¬(p.fb=p.pb):=λe=>n2 e.symm;have n3':¬(p.fb=p.gb):=λe=>n3 e.symm;refine aA.ac 2 T0 func295 ?_;simp+decide-dsimp only[f295,go_sem,ok.a,ok.f,ok.g,hi,ya,hg,hgn,hm,rP,NH,n1,n2,n3];have hc:=BV hi hf;refine⟨p.gs.set i m,⟨?_,?_,?_,?_,?_,n1,n2,n3,ok.rY,ok.ss,ok.sr⟩,λb hb h1 h2 h3=>?_⟩;.rw[aj,aw rfl];simp only[eJ];rw[hc]
 .rw[aj,ak n1',aj,aw rfl]
 .rw[aj,ak RJ,aj,ak n3',aj,aw rfl]
 .show(p.gs.set i m).length=_;simp[ok.len]
 .show(p.fr.set i true).length<=_;simpa using ok.small
 .rw[aj,ak h1,aj,ak h2,aj,ak h3]
variable{j:Nat}
def ahH(h:aG)(b:Nat)(k:AV)(o:Option AO):Option ER:=match o with
 |some (.map es c)=>kR (Ei h b es c (iF (.int .i64) k es 0))
 |_=>none
theorem aiG{k:AV}:uX prog h #[295,t] (.mp b) k=ahH h b k (au h b):=by
 show(match prog.underlying 295 with|some (.map kt _)=>_|_=>none)=_;rw[Li];show(match prog.underlying 3 with|some kd=>_|none=>none)=_;rw[Da];show(match au h b with|some (.map es clock)=>_|_=>none)=_;cases au h b with
 |none=>rfl
 |some o=>cases o<;>rfl
theorem Qx{c:Nat}{k:AV}{es}:ahH h b k (some (.map es c))=kR (Ei h b es c (iF (.int .i64) k es 0)):=bF rfl
theorem M4{c:Nat}{v:AV}{es}:Ei h b es c (some (some (j,v)))=some (aK h b (.map (es.eraseIdx j) c)):=bF rfl
attribute[go_sem] aiG Qx M4
theorem GR{α:Type}{e:jE α}:∀(es:List (jE α)) (i:Nat),e∈es->(∀e'∈es,e'.ao=e.ao->e'=e)->∃j,es[j]?=some e/\iF (.int .i64) (int e.ao) (es.map jE.row) i=some (some (i+j,.ptr e.bJ 0))
 |[],_,h,_=>by cases h
 |f::es,i,h,hu=>by
  by_cases hf:f.ao=e.ao;.have:f=e:=hu f bL hf;subst this;refine⟨0,rfl,?_⟩;show(match xp (.int .i64) (int f.ao) (int f.ao)with|some true=>_|some false=>_|none=>none)=_;rw[zX];simp[jE.row]
  .have he:e∈es:=by
    rcases bE.1 h with h|h;.exact absurd (by rw[h]) hf
    .exact h
   obtain⟨j,h1,h2⟩:=GR es (i+1) he λe' tM hs=>hu e' (by simp[tM]) hs;refine⟨j+1,by simpa using h1,?_⟩;show(match xp (.int .i64) (int e.ao) (int f.ao)with|some true=>_|some false=>_|none=>none)=_;rw[zX,aU (Ne.symm hf)];show iF _ _ _ _=_;rw[h2];congr 3;omega
def ahh:Nat->cU:=λid=>if id=4 then[(z5,[],some 6),([],[],none)]else if id=5 then[(z5,[],some 6),([],[],none)]else[]
theorem aj4(t:At)(p:bj)(h:aG)(nx:Nat)(o:AW t p h nx)(hd:Hd)(n:Ax)(hs:cV t.a.es hd.ao=some (hd.bk,n)):
 aA prog 284 [.ptr t.a.ab 0,.agg [int hd.ao,u64 hd.bk]] h nx λv h' nx'=>v=bQ true/\∃(t':At) (p':bj),AW t' p' h' nx'/\tv t t'/\t'.size=t.size/\
  dA nx t.own t'.own t.a.sl t'.a.sl p p' h h'/\cV t'.a.es=tq (cV t.a.es) hd.ao none/\p'.fr.count true=p.fr.count true+1/\
  (∀g∈t'.a.es,g∈t.a.es)/\(∀b,t.own b->b≠t.a.mb->au h' b=au h b):=by
 obtain⟨e,he,g1,g2,g3⟩:=lG hs;have ok:=o.tk.ok;obtain⟨j,hj,hf⟩:=GR t.a.es 0 he λe' tM hs=>jw ok.rK tM he hs;have c:=ajg t.a (aK h nx (.cells [int e.ao,u64 e.bk] 245)) (nx+1) (ok.aX (aH.refl.set (an _)) ah) e he;rw[Hd.av,Hd.cells]at c;rw[<-g1,<-g2];refine aA.ac 2 ahh func284 ?_;simp+decide-dsimp only[f284,go_sem];refine bm c ?_;have UG:=ok.la;have MQ:=ok.lm;have d1:¬(t.a.ab=nx):=ah;have d2:¬(t.a.mb=nx):=ah;have d3:¬(nx=t.a.mb):=ah;have d4:=ok.ne;have hmb:=o.sd t.a.mb (.inr (.inl (.inr (.inl rfl))));have a1:=o.pk.rY;have a2:=o.pk.ss;have a3:=o.pk.sr;have Jc:=o.sp.taken e he;simp+decide-dsimp only[go_sem,ahh,ok.ar,ok.mp,d1,d2,d3,d4,hf,o.sp.pb];generalize hH:aK (aK h nx _) t.a.mb _=H;have H1:∀b,b≠nx->b≠t.a.mb->au H b=au h b:=λb h1 h2=>by rw[<-hH,aj,ak h2,aj,ak h1]
 have H2:au H t.a.mb=some (.map ((t.a.es.map jE.row).eraseIdx j) t.a.ck):=by rw[<-hH,aj,aw rfl]
 clear hH;refine cf (alk p H _ (o.pk.iy (H1 _ ah hmb.1.symm) (H1 _ ah hmb.2.1.symm) (H1 _ ah hmb.2.2.symm) ah) e.ao Jc.1 Jc.2) λ_ h2 dU l2 ⟨ev,CZ,q1,q2⟩=>?_
 subst ev;simp+decide-dsimp only[go_sem];have an3:nx<dU:=ah;have hk:∀b,b<nx->b≠t.a.mb->b≠p.pb->b≠p.gb->b≠p.fb->au h2 b=au h b:=λb h1 h2 h3 h4 h5=>by rw[q2 b ah h3 h4 h5];exact H1 b ah h2
 have hko:∀b,t.own b->b≠t.a.mb->au h2 b=au h b:=λb hb hm=>by have:=o.sd b hb;exact hk b (o.tk.dm hb) hm this.1 this.2.1 this.2.2
 have iI:∀f∈t.a.es.eraseIdx j,f∈t.a.es/\f.ao≠e.ao:=λf hf=>by
  obtain⟨i,hi,e'⟩:=cu.1 hf;rw[Cy]at e';have key:∀q,q≠j->(hq:q<t.a.es.length)->t.a.es[q]=f->f∈t.a.es/\f.ao≠e.ao:=λq hqj hq e'=>by
   have hm:f∈t.a.es:=by rw[<-e'];exact bS hq
   refine⟨hm,λhs=>?_⟩;have IH:f=e:=jw ok.rK hm he hs;obtain⟨hj',ej⟩:=cT.1 hj;have:=ok.rK;have h1:(t.a.es.map jE.ao)[q]'(by simpa using hq)=(t.a.es.map jE.ao)[j]'(by simpa using hj'):=by simp[e',ej,IH]
   rcases Nat.lt_or_gt_of_ne hqj with w|w;.exact(fq.1 this) q j _ _ w h1
   .exact(fq.1 this) j q _ _ w h1.symm
  split at e';.rename_i db;exact key i ah _ e'
  .rename_i db;exact key (i+1) ah _ e'
 have abW:(t.a.es.eraseIdx j).Sublist t.a.es:=List.eraseIdx_sublist _ _;have CS:∀b,({t with a:={t.a with es:=t.a.es.eraseIdx j}}:At).own b->t.own b:=by
  rintro b (e1|(e1|e1|⟨f,hf,e1⟩)|⟨f,hf,e1⟩);.exact .inl e1
  .exact .inr (.inl (.inl e1))
  .exact .inr (.inl (.inr (.inl e1)))
  .exact .inr (.inl (.inr (.inr ⟨f,(iI f hf).1,e1⟩)))
  .exact .inr (.inr ⟨f,(iI f hf).1,e1⟩)
 have LN:∀b,({t.a with es:=t.a.es.eraseIdx j}:Ar Ax).own b->t.a.own b:=by
  rintro b (e1|e1|⟨f,hf,e1⟩);.exact .inl e1
  .exact .inr (.inl e1)
  .exact .inr (.inr ⟨f,(iI f hf).1,e1⟩)
 have tP:∀s,s≠e.ao->(p.fr.set e.ao true).getD s false=p.fr.getD s false:=λs hs=>by simp[List.getD,Ne.symm hs]
 have aiv:∀f∈t.a.es,f.bJ≠t.a.mb:=λf hf=>(ok.fr f hf).2.1;have anm:∀f∈t.a.es,∀b,f.x.k.own b->b≠t.a.mb:=λf hf b hb e'=>(o.tk.kd f hf b hb).2 (.inr (.inl e'));refine⟨{t with a:={t.a with es:=t.a.es.eraseIdx j}},_,⟨⟨?_,⟨?_,?_,λf hf=>?_,?_,?_,λf hf=>?_,ok.ne,by show t.a.ab<dU;omega,by show t.a.mb<dU;omega⟩,o.tk.d1,o.tk.d2,λf hf=>o.tk.d3 f (iI f hf).1,by have:=o.tk.lt;show t.tb<dU;omega,λf hf=>?_,λf hf b hb=>⟨(o.tk.kd f (iI f hf).1 b hb).1,λh=>(o.tk.kd f (iI f hf).1 b hb).2 (LN b h)⟩,λf hf g hg cx=>o.tk.kk f (iI f hf).1 g (iI g hg).1 cx⟩,q1,⟨o.sp.pb,o.sp.sa,o.sp.sm,λf hf=>o.sp.sc f (iI f hf).1,λf hf=>?_⟩,λb hb=>o.sd b (CS b hb)⟩,⟨rfl,rfl,rfl,rfl,rfl⟩,rfl,⟨rfl,rfl,rfl,bL,λs hs=>?_,λb hb=> .inl (CS b hb),λs hs=>?_,λb hb mS h1 h2 h3=>hk b hb (λe'=>mS (.inr (.inl (.inr (.inl e'))))) h1 h2 h3⟩,?_,BV Jc.1 Jc.2,λg hg=>(iI g hg).1,hko⟩;.show au h2 t.tb=_;rw[hko _ (.inl rfl) o.tk.d2];exact o.tk.tr
 .show au h2 t.a.ab=_;rw[hko _ (.inr (.inl (.inl rfl))) ok.ne];exact ok.ar
 .show au h2 t.a.mb=some (.map ((t.a.es.eraseIdx j).map jE.row) t.a.ck);rw[q2 _ ah hmb.1 hmb.2.1 hmb.2.2,H2,vj]
 .rw[hko _ (.inr (.inl (Ar.wT (iI f hf).1))) (aiv f (iI f hf).1)];exact ok.cl f (iI f hf).1
 .exact IU (abW.map _) ok.rK
 .exact IU (abW.map _) ok.IL
 .have:=ok.fr f (iI f hf).1;exact⟨this.1,this.2.1,ah⟩
 .exact(o.tk.kn f (iI f hf).1).aX (λb hb=>hko b (.inr (.inr ⟨f,(iI f hf).1,hb⟩)) (anm f (iI f hf).1 b hb)) ah
 .have:=o.sp.taken f (iI f hf).1;exact⟨by simpa using this.1,by show(p.fr.set e.ao true).getD f.ao false=false;rw[tP _ (iI f hf).2];exact this.2⟩
 .by_cases Kl:s=e.ao;.exact .inr ⟨e,he,Kl.symm⟩
  .left;show(p.fr.set e.ao true).getD s false=false;rw[tP s Kl];exact hs
 .obtain⟨f,hf,e1⟩:=hs;exact .inl ⟨f,(iI f hf).1,e1⟩
 .funext s
  show cV (t.a.es.eraseIdx j) s=_;unfold tq;split;.rename_i Kl;subst Kl;exact qn λf hf=>(iI f hf).2
  .rename_i Kl;cases hq:cV t.a.es s with
   |none=>refine qn λf hf X6=>?_;have:=qI ok.rK (iI f hf).1;rw[X6,hq]at this;cases this
   |some y=>
    obtain⟨f,hf,e1,e2,e3⟩:=lG (g:=y.1) (n:=y.2) hq;have hm:f∈t.a.es.eraseIdx j:=by
     obtain⟨i,hi,ei⟩:=cu.1 hf;obtain⟨hj',ej⟩:=cT.1 hj;have CT:i≠j:=λh=>Kl (by subst h;rw[<-e1,<-ei,ej]);rcases Nat.lt_or_gt_of_ne CT with q|q;.refine cu.2 ⟨i,by rw[List.length_eraseIdx];split<;>omega,?_⟩;rw[Cy,dif_pos q];exact ei
     .refine cu.2 ⟨i-1,by rw[List.length_eraseIdx];split<;>omega,?_⟩;rw[Cy,dif_neg ah];have:i-1+1=i:=ah;simp only[this];exact ei
    have:=qI (es:=t.a.es.eraseIdx j) (IU (abW.map _) ok.rK) hm;rw[e1,e2,e3]at this;exact this
variable{h3:aG}{nx3:Nat}
def LQ(Pk:ba->Prop)(t:At):Prop:=∃pa par,AI Pk (cV t.a.es) t.aO pa par
theorem AW.part{t:At}{p:bj}{ck:Nat}(o:AW t p h nx){e f:jE Ax}(he:e∈t.a.es)(hfk:f.x.k=e.x.k)(X6:∀g∈t.a.es,g.ao≠f.ao)(hfb:nx<=f.bJ){hi:Ax}{sz:Int}
 (q1:p'.ok h3 nx3) (q2:Px.ok {t.a with ck:=ck,es:=t.a.es++[f]} h3 nx3) (q3:Sep {t.a with ck:=ck,es:=t.a.es++[f]} p')
 (tr:au h3 t.tb=some (.cells [.ptr t.a.pb 0,.ptr t.a.ab 0,int t.aO.ao,u64 t.aO.bk,.g (.int .i64 sz),bQ false] 258))
 (kk:∀b,t.own b->b≠t.tb->b≠t.a.mb->au h3 b=au h b) (hk:hi.k.ok h3 nx3) (tP:∀b,hi.k.own b->nx<=b/\b≠f.bJ) (le:nx<=nx3)
 (S:dA nx t.own (λb=>t.own b\/b=f.bJ) t.a.sl ({t.a with ck:=ck,es:=t.a.es++[f]}:Ar Ax).sl p p' h h3):
 AW {t with size:=sz,a:={t.a with ck:=ck,es:=iL (t.a.es++[f]) e.ao hi}} p' (aK h3 e.bJ (.cells (u64 e.bk::hi.cells) 300)) nx3/\
 dA nx t.own ({t with size:=sz,a:={t.a with ck:=ck,es:=iL (t.a.es++[f]) e.ao hi}}:At).own t.a.sl ({t.a with ck:=ck,es:=iL (t.a.es++[f]) e.ao hi}:Ar Ax).sl p p' h (aK h3 e.bJ (.cells (u64 e.bk::hi.cells) 300)):=by
 have tM:e∈t.a.es++[f]:=ix _ he;have xX:t.own e.bJ:= .inr (.inl (Ar.wT he));have anF:=o.tk.dm xX;have hx:∀g∈iL (t.a.es++[f]) e.ao hi,(g.ao=e.ao/\g.x=hi/\g.bJ=e.bJ)\/(g.ao≠e.ao/\∃g0∈t.a.es,g0.ao=g.ao/\g0.bJ=g.bJ/\g0.x=g.x)\/(g.ao=f.ao/\g.ao≠e.ao/\g.bJ=f.bJ/\g.x=f.x):=by
  intro g hg;obtain⟨g0,CG,e1,e2,e3,e4,e5⟩:=eT hg;by_cases hq:g0.ao=e.ao;.have:g0=e:=jw q2.rK CG tM hq;exact .inl ⟨by rw[<-e1,hq],e4 hq,by rw[<-e2,this]⟩
  .rcases bp.1 CG with w|w;.exact .inr (.inl ⟨by rw[<-e1];exact hq,g0,w,e1,e2,(e5 hq).symm⟩)
   .simp only[aR]at w;subst w;exact .inr (.inr ⟨e1.symm,by rw[<-e1];exact hq,e2.symm,e5 hq⟩)
 have LN:∀b,({t.a with ck:=ck,es:=iL (t.a.es++[f]) e.ao hi}:Ar Ax).own b->t.a.own b\/b=f.bJ:=by
  intro b hb;rcases(Ar.oL (a:={t.a with ck:=ck,es:=t.a.es++[f]})).1 hb with w|w|⟨g,hg,w⟩
  .exact .inl (.inl w)
  .exact .inl (.inr (.inl w))
  .rcases bp.1 hg with v|v;.exact .inl (.inr (.inr ⟨g,v,w⟩))
   .simp only[aR]at v;subst v;exact .inr w.symm
 have kne:∀g∈t.a.es,∀b,g.x.k.own b->b≠e.bJ:=λg hg b hb e'=>(o.tk.kd g hg b hb).2 (by rw[e'];exact Ar.wT he);have kko:∀g∈t.a.es,∀b,g.x.k.own b->au (aK h3 e.bJ (.cells (u64 e.bk::hi.cells) 300)) b=au h b:=λg hg b hb=>by have:=o.tk.kd g hg b hb;rw[aj,ak (kne g hg b hb)];exact kk b (.inr (.inr ⟨g,hg,hb⟩)) this.1 (λe'=>this.2 (.inr (.inl e')))
 have yV:∀b,({t with size:=sz,a:={t.a with ck:=ck,es:=iL (t.a.es++[f]) e.ao hi}}:At).own b->t.own b\/nx<=b:=by
  rintro b (w|w|⟨g,hg,w⟩);.exact .inl (.inl w)
  .rcases LN b w with v|v;.exact .inl (.inr (.inl v))
   .exact .inr ah
  .rcases hx g hg with⟨_,v,_⟩|⟨_,g0,CG,_,_,v⟩|⟨_,_,_,v⟩;.rw[v]at w;exact .inr (tP b w).1
   .rw[<-v]at w;exact .inl (.inr (.inr ⟨g0,CG,w⟩))
   .rw[v,hfk]at w;exact .inl (.inr (.inr ⟨e,he,w⟩))
 have Ds:p'.pb=p.pb/\p'.gb=p.gb/\p'.fb=p.fb:=⟨S.pb,S.gb,S.fb⟩;have IG:=o.sd e.bJ xX;refine⟨⟨⟨?_,q2.store tM hi,o.tk.d1,o.tk.d2,λg hg=>?_,by have:=o.tk.lt;show t.tb<nx3;omega,λg hg=>?_,λg hg b hb=>?_,λg hg g' Pu cx b hb gC=>?_⟩,q1.iy ?_ ?_ ?_ (an _),q3.upd _ _,λb hb=>?_⟩,⟨S.pb,S.gb,S.fb,S.fl,S.fr,yV,λs hs=>S.slt s (Ar.EZ.1 hs),λb hb mS g1 g2 g3=>?_⟩⟩;.show au _ t.tb=_;rw[aj,ak (o.tk.d3 e he).symm];exact tr
 .show g.bJ≠t.tb;rcases hx g hg with⟨_,_,v⟩|⟨_,g0,CG,_,v,_⟩|⟨_,_,v,_⟩
  .rw[v];exact o.tk.d3 e he
  .rw[<-v];exact o.tk.d3 g0 CG
  .have:=o.tk.lt;rw[v];omega
 .rcases hx g hg with⟨_,v,_⟩|⟨_,g0,CG,_,_,v⟩|⟨_,_,_,v⟩;.rw[v];exact hk.aX (λb hb=>by rw[aj,ak (by have:=(tP b hb).1;omega)]) (an _)
  .rw[<-v];exact(o.tk.kn g0 CG).aX (kko g0 CG) le
  .rw[v,hfk];exact(o.tk.kn e he).aX (kko e he) le
 .have key:∀g0∈t.a.es,g0.x.k.own b->b≠t.tb/\¬({t.a with ck:=ck,es:=iL (t.a.es++[f]) e.ao hi}:Ar Ax).own b:=λg0 CG w=>by
   refine⟨(o.tk.kd g0 CG b w).1,λw'=>?_⟩;rcases LN b w' with v|v
   .exact(o.tk.kd g0 CG b w).2 v
   .have:=(o.tk.kn g0 CG).Pz b w;omega
  rcases hx g hg with⟨_,v,_⟩|⟨_,g0,CG,_,_,v⟩|⟨_,_,_,v⟩
  .rw[v]at hb;have h1:=tP b hb;refine⟨by have:=o.tk.lt;show b≠t.tb;omega,λw'=>?_⟩;rcases LN b w' with v|v
   .have:=o.tk.ok.dm v;omega
   .exact h1.2 v
  .rw[<-v]at hb;exact key g0 CG hb
  .rw[v,hfk]at hb;exact key e he hb
 .have lt:∀g0∈t.a.es,g0.x.k.own b->b<nx:=λg0 CG w=>(o.tk.kn g0 CG).Pz b w;rcases hx g hg with⟨s1,v,_⟩|⟨n1,g0,CG,s1,_,v⟩|⟨s1,n1,_,v⟩<;>rcases hx g' Pu with⟨s2,w,_⟩|⟨n2,g1,Ji,s2,_,w⟩|⟨s2,n2,_,w⟩
  .exact cx (s1.trans s2.symm)
  .rw[v]at hb;rw[<-w]at gC;have:=(tP b hb).1;have:=lt g1 Ji gC;omega
  .rw[v]at hb;rw[w,hfk]at gC;have:=(tP b hb).1;have:=lt e he gC;omega
  .rw[<-v]at hb;rw[w]at gC;have:=(tP b gC).1;have:=lt g0 CG hb;omega
  .rw[<-v]at hb;rw[<-w]at gC;exact o.tk.kk g0 CG g1 Ji (by rw[s1,s2];exact cx) b hb gC
  .rw[<-v]at hb;rw[w,hfk]at gC;exact o.tk.kk g0 CG e he (by rw[s1];exact n1) b hb gC
  .rw[v,hfk]at hb;rw[w]at gC;have:=(tP b gC).1;have:=lt e he hb;omega
  .rw[v,hfk]at hb;rw[<-w]at gC;exact o.tk.kk e he g1 Ji (by rw[s2];exact n2.symm) b hb gC
  .exact cx (s1.trans s2.symm)
 .rw[Ds.1,aj,ak IG.1.symm]
 .rw[Ds.2.1,aj,ak IG.2.1.symm]
 .rw[Ds.2.2,aj,ak IG.2.2.symm]
 .rw[Ds.1,Ds.2.1,Ds.2.2];have a1:=o.pk.rY;have a2:=o.pk.ss;have a3:=o.pk.sr;rcases yV b hb with w|w
  .exact o.sd b w
  .exact⟨ah,ah,ah⟩
 .have:b≠e.bJ:=λe'=>mS (by rw[e'];exact xX);rw[aj,ak this];exact S.aX b hb mS g1 g2 g3
variable{Pk:ba->Prop}{pa:Nat->ba}{par:Nat->Nat}
def SS:Nat->cU:=λid=>if id=8 then[([0,1,2,3,6],[1],some 4),([5],[1,6],some 7),([],[],none)]else if id=10 then[([0,1,2,3,4,9],[3,4],some 5),([6,7,8],[9],some 10),([],[],some 11),([],[],none)]else if id=15 then[([0,1,3],[],some 2),([4],[3],some 5),([],[],none)]else[]
theorem al'(t:At)(p:bj)(h:aG)(nx:Nat)(o:AW t p h nx)(I:AI Pk (cV t.a.es) t.aO pa par)(hd:Hd)(n:Ax)(hs:cV t.a.es hd.ao=some (hd.bk,n))(c:Nat)(hc:c<n.pre.length)(key v:ba)
 (hp:Pk (pa hd.ao++n.pre.take c++key)) (hl:(pa hd.ao++n.pre.take c++key).length<=24) (cx:∀b r,key=b::r->b≠n.pre.getD c 0):
 aA prog 287 [.ptr t.tb 0,hd.av,int c,bR key,bR v] h nx λw h' nx'=>(∃e:Int,w=int e)/\∃(t':At) (p':bj),AW t' p' h' nx'/\tv t t'/\dA nx t.own t'.own t.a.sl t'.a.sl p p' h h'/\LQ Pk t':=by
 have db:=o.tk.lt;have EP:n.pre.length<=24:=by have:=I.len _ _ _ hs;simp only[aq]at this;omega
 have CL:key.length<=24:=by simp only[aq]at hl;omega
 have d1:¬(t.tb=nx):=ah;refine aA.ac 5 SS func287 ?_;have same:AW t p (aK h nx (.cells [int hd.ao,u64 hd.bk] 245)) (nx+1):=o.aX (aH.refl.set (an _)) ah;have none':∀nq,nx<=nq->∃(t':At) (p':bj),AW t' p' (aK h nx (.cells [int hd.ao,u64 hd.bk] 245)) nq/\tv t t'/\dA nx t.own t'.own t.a.sl t'.a.sl p p' h (aK h nx (.cells [int hd.ao,u64 hd.bk] 245))/\LQ Pk t':=λnq hq=>⟨t,p,o.aX (aH.refl.set (an _)) hq,.refl t,.same (aH.refl.set (an _)),pa,par,I⟩;have ae6:=λq=>Qo p (aK h nx (.cells [int hd.ao,u64 hd.bk] 245)) (nx+1) same.pk q;have c1:=ae6 1;have c2:=ae6 2;rw[show((1:Nat):Int)=1 from rfl]at c1;rw[show((2:Nat):Int)=2 from rfl]at c2;obtain⟨e,he,e1,e2,e3,e4,e5,_⟩:=ng o.tk.ok hs;have ca:∀q,nx<=q->aA prog 275 [.ptr t.tb 0,.agg [int hd.ao,u64 hd.bk]] (aK h nx (.cells [int hd.ao,u64 hd.bk] 245)) q (dr (.ptr e.bJ 1) (aK h nx (.cells [int hd.ao,u64 hd.bk] 245)) q):=λq hq=>Dd t _ q (o.aX (aH.refl.set (an _)) hq).tk he e1 e2;have d2:¬(e.bJ=nx):=ah;have d3:∀q,¬(nx=nx+1+q):=λq=>ah;by_cases hk0:key=[]
 case' pos=>
  simp+decide-dsimp only[f287,go_sem,o.tk.tr,d1,hk0,o.sp.pb,Hd.av,Hd.cells];refine bm c1 ?_;by_cases hr:1<=p.fr.count true
  case' neg=>simp+decide-dsimp only[go_sem,hr];exact⟨⟨_,rfl⟩,none' _ ah⟩
  simp+decide-dsimp only[go_sem,hr]
 case' neg=>
  simp+decide-dsimp only[f287,go_sem,o.tk.tr,d1,hk0,o.sp.pb,Hd.av,Hd.cells];refine bm c2 ?_;by_cases hr:2<=p.fr.count true
  case' neg=>simp+decide-dsimp only[go_sem,hr];exact⟨⟨_,rfl⟩,none' _ ah⟩
  simp+decide-dsimp only[go_sem,hr]
 all_goals
  refine bm (ca _ ah) ?_;have wA:c<=n.pre.length:=ah;have IN:c+1<=n.pre.length:=ah;have w1:c+1<9223372036854775808:=ah;simp+decide-dsimp only[go_sem,SS,e4,d2,hc,wA,Ax.cells,reduceAdd];generalize tz:nx+1+1+Array.size _=n0;have R6:nx+1+1+8=n0:=tz;clear tz;generalize hH:aK (aK (aK _ (nx+1) _) (nx+1) _) (nx+1+1+6) _=H;have Gl:aH nx h H:=by
   rw[<-hH]
   repeat' first|exact aH.refl|apply aH.fJ|(apply aH.set;rotate_left;omega)
  have Nx:au H nx=some (.cells [int hd.ao,u64 hd.bk] 245):=by rw[<-hH,aj,ak ah,aj,ak ah,aj,ak ah,aj,aw rfl]
  have hH3:au H (nx+1)=some (.cells [bR n.pre,bR n.val,bQ n.has,.ptr n.k.nb 0] 256):=by rw[<-hH];simp[aj]
  have hH4:au H (nx+1+1+6)=some (.cells [bR [],bR [],bQ false,.g (.pointer none)] 256):=by rw[<-hH,aj,aw rfl]
  clear hH;refine cf (abZ H n0) λ_ h1 cm l1 ⟨k0,e0,k0l,k0ok,BJ,k0own⟩=>?_
  subst e0;have o1:AW t p h1 cm:=o.aX (Gl.trans (BJ.le (ah:nx<=n0)) (an _)) ah;have g2:au h1 nx=some (.cells [int hd.ao,u64 hd.bk] 245):=by rw[BJ _ ah];exact Nx
  have g3:au h1 (nx+1)=some (.cells [bR n.pre,bR n.val,bQ n.has,.ptr n.k.nb 0] 256):=by rw[BJ _ ah];exact hH3
  have g4:au h1 (nx+1+1+6)=some (.cells [bR [],bR [],bQ false,.g (.pointer none)] 256):=by rw[BJ _ ah];exact hH4
  have g1:au h1 t.tb=_:=o1.tk.tr;have t1:∀q,¬(t.tb=nx+1+q):=λq=>ah;have t2:¬(t.tb=nx+1):=ah;have t3:∀q,¬(t.tb=nx+1+1+q):=λq=>ah;have t4:∀q,¬(t.tb=cm+q):=λq=>ah;have b1:∀q,¬(nx+1=cm+q):=λq=>ah;have b2:∀q,¬(nx=cm+q):=λq=>ah;have b3:∀q,¬(nx+1+1+6=cm+q):=λq=>ah;have b4:¬(nx=nx+1+1+6):=ah;have b5:¬(nx=nx+1):=ah;have b6:¬(nx+1=nx+1+1+6):=ah;have b7:¬(nx+1+1+6=nx+1):=ah;simp+decide-dsimp only[go_sem,SS,g1,g3,g4,IN,w1,t2,t3,t4,b1,b6,reduceAdd];generalize tz:cm+Array.size _=n2;have Gq:cm+12=n2:=tz;clear tz;generalize hG:aK (aK (aK h1 _ _) (nx+1) _) (cm+9) _=G;have hG1:∀b,b≠cm+9->b≠nx+1->b≠nx+1+1+6->au G b=au h1 b:=λb q1 q2 q3=>by rw[<-hG,aj,ak q1,aj,ak q2,aj,ak q3]
  have hG2:au G (nx+1+1+6)=some (.cells [bR (n.pre.take c),bR [],bQ false,.ptr k0.nb 0] 256):=by rw[<-hG,aj,ak ah,aj,ak ah,aj,aw rfl]
  have hG3:au G (cm+9)=some (.cells [int 0,u64 0] 245):=by rw[<-hG,aj,aw rfl]
  have hG4:au G (nx+1)=some (.cells [bR (n.pre.drop (c+1)),bR n.val,bQ n.has,.ptr n.k.nb 0] 256):=by rw[<-hG,aj,ak ah,aj,aw rfl]
  clear hG;have P':aH nx h G:=λb hb=>by rw[hG1 b ah ah ah,BJ b ah,Gl b hb]
  have o2:AW t p G n2:=o.aX P' ah;refine cf (o2.take ah ⟨n.pre.drop (c+1),n.val,n.has,n.k⟩) λ_ h3 nx3 l3 ⟨i,bJ,p',f1,f2,q1,q2,q3,q4,q5,q6,S,q7⟩=>?_;subst f2;have a1:=o.pk.rY;have a2:=o.pk.ss;have a3:=o.pk.sr;have YJ:∀b,nx<=b->b<n2->au h3 b=au G b:=λb hb gC=>S.aX b gC (λe'=>by have:=o.tk.dm e';omega) ah ah ah;have r1:au h3 (cm+9)=some (.cells [int 0,u64 0] 245):=by rw[YJ _ ah ah];exact hG3
  have r2:au h3 (nx+1+1+6)=some (.cells [bR (n.pre.take c),bR [],bQ false,.ptr k0.nb 0] 256):=by rw[YJ _ ah ah];exact hG2
  have r3:au h3 nx=some (.cells [int hd.ao,u64 hd.bk] 245):=by rw[YJ _ ah ah,hG1 _ ah ah ah];exact g2
  have b8:∀q,¬(nx+1+1+6=cm+q):=λq=>ah;simp+decide-dsimp only[go_sem,r1,r2,b3,reduceAdd];generalize hF:aK h3 (cm+9) _=F;have hF1:∀b,b≠cm+9->au F b=au h3 b:=λb hb=>by rw[<-hF,aj,ak hb]
  clear hF;have xX:∀b,k0.own b->n0<=b/\b<cm:=λb hb=>⟨k0own b hb,k0ok.Pz b hb⟩
  have k0F:k0.ok F nx3:=k0ok.aX (λb hb=>by have:=xX b hb;rw[hF1 b ah,YJ b ah ah,hG1 b ah ah ah]) ah;have cs:=ahP k0 (n.pre.getD c 0) ⟨i,p.gs.getD i 0⟩ F nx3 k0F;rw[Hd.av,Hd.cells]at cs;refine cf cs λ_ h4 Ie l4 ⟨⟨_,ev⟩,k1,w2,w3,St⟩=>?_;subst ev;have ZM:∀b,b<nx3->(n0<=b->cm<=b)->au h4 b=au F b:=λb hb gC=>St.aX b hb λe'=>by have:=xX b e';omega
  have v1:au h4 (nx+1+1+6)=some (.cells [bR (n.pre.take c),bR [],bQ false,.ptr k0.nb 0] 256):=by rw[ZM _ ah ah,hF1 _ ah];exact r2
  have v2:au h4 nx=some (.cells [int hd.ao,u64 hd.bk] 245):=by rw[ZM _ ah ah,hF1 _ ah];exact r3
  have v3:au h4 t.tb=some (.cells [.ptr t.a.pb 0,.ptr t.a.ab 0,int t.aO.ao,u64 t.aO.bk,.g (.int .i64 t.size),bQ false] 258):=by rw[ZM _ ah ah,hF1 _ ah,q7 _ (.inl rfl) o.tk.d2,P' _ db];exact o.tk.tr
  have X6:∀g∈t.a.es,g.ao≠i:=λg hg e'=>by have:=qI o.tk.ok.rK hg;rw[e',f1]at this;cases this
  have part:∀(Z:aG) (nz:Nat) (sz:Int) (hi:Ax),hi.k=k1->Ie<=nz->(∀b,b≠nx+1+1+6->b≠t.tb->au Z b=au h4 b)->au Z t.tb=some (.cells [.ptr t.a.pb 0,.ptr t.a.ab 0,int t.aO.ao,u64 t.aO.bk,.g (.int .i64 sz),bQ false] 258)->
   (∀q,nz<=q->aA prog 275 [.ptr t.tb 0,.agg [int hd.ao,u64 hd.bk]] Z q (dr (.ptr e.bJ 1) Z q))/\au Z e.bJ=some (.cells (u64 hd.bk::n.cells) 300)/\∃t5:At,AW t5 p' (aK Z e.bJ (.cells [u64 hd.bk,bR hi.pre,bR hi.val,bQ hi.has,.ptr k0.nb 0] 300)) nz/\tv t t5/\dA nx t.own t5.own t.a.sl t5.a.sl p p' h (aK Z e.bJ (.cells [u64 hd.bk,bR hi.pre,bR hi.val,bQ hi.has,.ptr k0.nb 0] 300))/\
    cV t5.a.es=tq (tq (cV t.a.es) i (some (p.gs.getD i 0,⟨n.pre.drop (c+1),n.val,n.has,n.k⟩))) hd.ao (some (hd.bk,hi)):=by
   intro Z nz sz hi hik hz hZ mG;rw[show(AO.cells [u64 hd.bk,bR hi.pre,bR hi.val,bQ hi.has,.ptr k0.nb 0] 300)= .cells (u64 e.bk::hi.cells) 300 from by rw[e2];unfold Ax.cells;rw[hik,St.nb]];have zz:∀b,b<nx3->b≠nx+1+1+6->b≠t.tb->(n0<=b->cm<=b)->b≠cm+9->au Z b=au h3 b:=λb y1 y2 y3 y4 y5=>by rw[hZ b y2 y3,ZM b y1 y4,hF1 b y5]
   have zo:∀b,b<nx->b≠t.tb->au Z b=au h3 b:=λb y1 y2=>zz b ah ah y2 ah ah;have agu:∀b,k1.own b->(n0<=b/\b<cm)\/nx3<=b:=λb hb=>by
    rcases St.own b hb with y|y;.exact .inl (xX b y)
    .exact .inr y
   have hpt:p.pb≠t.tb/\p.gb≠t.tb/\p.fb≠t.tb:=by have:=o.sd _ (.inl rfl:t.own t.tb);exact⟨this.1.symm,this.2.1.symm,this.2.2.symm⟩
   have aj':k1.ok Z nz:=w3.aX (λb hb=>by have:=agu b hb;exact hZ b ah ah) hz;have anE:∀b,k1.own b->nx<=b/\b≠bJ:=λb hb=>by have:=agu b hb;exact⟨ah,ah⟩
   have okZ:Px.ok {t.a with ck:=t.a.ck+1,es:=t.a.es++[⟨i,bJ,t.a.ck,p.gs.getD i 0,⟨n.pre.drop (c+1),n.val,n.has,n.k⟩⟩]} Z nz:=q2.iy (λb hb=>by
    have:b<nx3/\b≠t.tb/\(b<nx\/n2<=b):=by
     have an8:=q2.dm hb;rcases hb with y|y|⟨g,hg,y⟩
     .have:=o.tk.ok.la;have y:b=t.a.ab:=y;exact⟨ah,by rw[y];exact o.tk.d1.symm,ah⟩
     .have:=o.tk.ok.lm;have y:b=t.a.mb:=y;exact⟨ah,by rw[y];exact o.tk.d2.symm,ah⟩
     .rcases bp.1 hg with w|w;.have:=(o.tk.ok.fr g w).2.2;exact⟨ah,by rw[<-y];exact o.tk.d3 g w,ah⟩
      .simp only[aR]at w;subst w;have y:bJ=b:=y;exact⟨ah,ah,ah⟩
    exact zz b this.1 ah this.2.1 ah ah) ah
   have:=o.part (p':=p') (h3:=Z) (nx3:=nz) (ck:=t.a.ck+1) (f:=⟨i,bJ,t.a.ck,p.gs.getD i 0,⟨n.pre.drop (c+1),n.val,n.has,n.k⟩⟩) (hi:=hi) (sz:=sz) he (by rw[e3]) X6 (by show nx<=bJ;omega)
    (q1.iy (by rw[S.pb];exact zo _ a1 hpt.1) (by rw[S.gb];exact zo _ a2 hpt.2.1) (by rw[S.fb];exact zo _ a3 hpt.2.2) ah)
    okZ q3 mG (λb y1 y2 y3=>?_) (by rw[hik];exact aj') (by rw[hik];exact anE) ah ⟨S.pb,S.gb,S.fb,S.fl,S.fr,λb hb=>?_,S.slt,λb y1 y2 y3 y4 y5=>?_⟩
   .obtain⟨o5,S5⟩:=this;refine⟨λq hq=>abC t.tb {t.a with ck:=t.a.ck+1,es:=t.a.es++[⟨i,bJ,t.a.ck,p.gs.getD i 0,⟨n.pre.drop (c+1),n.val,n.has,n.k⟩⟩]} Z q mG ah (okZ.aX aH.refl hq) (ix _ he) e1 e2,by have:=okZ.cl e (ix _ he);rw[e2,e3]at this;exact this,_,o5,⟨rfl,rfl,rfl,rfl,rfl⟩,S5,?_⟩;show cV (iL (t.a.es++[_]) e.ao hi)=_;rw[qT q2.rK (ix _ he),zW X6,e1,e2];rfl
   .have:=o.tk.dm y1;rw[zo b this y2,q7 b y1 y3,P' b this]
   .rcases hb with y|y;.exact .inl y
    .right;have y:b=bJ:=y;omega
   .rw[zo b y1 (λe'=>y2 (.inl e')),S.aX b ah y2 y3 y4 y5,P' b y1]
  have z0:∀q,¬(nx+1+1+6=Ie+q):=λq=>ah;have z1:¬(t.tb=nx+1+1+6):=t3 6;have z2:¬(nx=t.tb):=ah;have z3:¬(nx+1+1+6=t.tb):=ah;have w2':k1.l=[(n.pre.getD c 0,⟨i,p.gs.getD i 0⟩)]:=by rw[w2,k0l];rfl
  have hx:cV t.a.es (Hd.mk i (p.gs.getD i 0)).ao=none:=f1;have pt:∀(a:AV) (m:Ax),dJ 1 (a::n.cells) m.cells=some (a::m.cells):=λ_ _=>rfl;have tk4:∀m:Ax,de 4 m.cells=some m.cells:=λ_=>rfl;have hbe:∀q,¬(nx+1+1+6=e.bJ):=λq=>ah;have Tg:¬(nx=e.bJ):=ah;have anR:nx<=Ie:=ah
 case' pos=>
  simp+decide-dsimp only[go_sem,SS,v1,v2,v3,z1,z2,z3,b4];generalize hZ:aK (aK (aK h4 _ _) _ _) t.tb _=Z;obtain⟨c5,hc5,t5,o5,E5,S5,f5⟩:=part Z Ie (cF .i64 (t.size+1)) ⟨n.pre.take c,v,true,k1⟩ rfl (an _) (λb y1 y2=>by rw[<-hZ,aj,ak y2,aj,ak y1,aj,ak y1]) (by rw[<-hZ,aj,aw rfl]);have y1:au Z (nx+1+1+6)=some (.cells [bR (n.pre.take c),bR v,bQ true,.ptr k0.nb 0] 256):=by rw[<-hZ,aj,ak z3,aj,aw rfl]
  clear hZ;refine bm (c5 _ ah) ?_;simp+decide-dsimp only[go_sem,y1,hc5,Ax.cells,reduceAdd];subst hk0;rw[cD]at hp;have I5:=I.split hs hx hc (lw:=⟨n.pre.drop (c+1),n.val,n.has,n.k⟩) (hi:=⟨n.pre.take c,v,true,k1⟩) rfl rfl rfl rfl (λ_=>hp) w2';rw[<-f5,<-E5.aO]at I5;exact⟨⟨_,rfl⟩,t5,p',o5.aX aH.refl ah,E5,S5,_,_,I5⟩
 case' neg=>
  simp+decide-dsimp only[go_sem,SS,v1,v2,hk0];obtain⟨c5,hc5,t5,o5,E5,S5,f5⟩:=part h4 Ie t.size ⟨n.pre.take c,[],false,k1⟩ rfl (an _) (λ_ _ _=>rfl) v3;refine bm (c5 _ ah) ?_;simp+decide-dsimp only[go_sem,v1,v2,hc5,hk0,Tg,Ax.cells,reduceAdd];obtain⟨b,r,rfl⟩:∃b r,key=b::r:=by
   cases key with
   |nil=>exact absurd rfl hk0
   |cons b r=>exact⟨b,r,rfl⟩
  have I5:=I.split hs hx hc (lw:=⟨n.pre.drop (c+1),n.val,n.has,n.k⟩) (hi:=⟨n.pre.take c,[],false,k1⟩) rfl rfl rfl rfl (λe=>by cases e) w2';rw[<-f5,<-E5.aO]at I5;have hs5:cV t5.a.es hd.ao=some (hd.bk,⟨n.pre.take c,[],false,k1⟩):=by rw[f5,gg]
  have ko:hd.ao≠i:=λe'=>by rw[e',f1]at hs;cases hs
  generalize hnn:Ie+Array.size _=nn;have anw:Ie<=nn:=ah;have c8:=ajw t5 p' _ nn (o5.aX aH.refl anw) ah hd _ hs5 b r v (by simp at CL;omega);rw[E5.tb,Hd.av,Hd.cells]at c8;refine cf c8 λ_ h6 IT l6 ⟨ev,t6,p6,y,k2,k3,u1,u2,u3,o6,E6,S6,u4,u5⟩=>?_
  subst ev;simp+decide-dsimp only[go_sem];have hpa:(if hd.ao=i then pa hd.ao++n.pre.take c++[n.pre.getD c 0]else pa hd.ao)=pa hd.ao:=ak ko;have I6:=I5.aE hs5 u1 (b:=b) (r:=r) ?_ (m:=⟨r,v,true,k2⟩) rfl u2 ?_ ?_ (n':=⟨n.pre.take c,[],false,k3⟩) rfl rfl u3;.refine⟨⟨_,rfl⟩,t6,p6,o6,E5.trans E6,S5.trans S6 ah,?_⟩;show∃pa par,AI Pk (cV t6.a.es) t6.aO pa par;rw[E6.aO,u4];exact⟨_,_,I6⟩
  .show jq k1.l b=none;rw[w2'];have:=cx b r rfl;have ya:fD [(n.pre.getD c 0,(⟨i,p.gs.getD i 0⟩:Hd))]:=zC _ _;refine(mK ya).2 λy' hy'=>this ?_;have:=aR.1 hy';exact fN Prod.fst this
  .show Pk ((if hd.ao=i then _ else _)++n.pre.take c++b::r);rw[hpa];exact hp
  .show((if hd.ao=i then _ else _)++n.pre.take c++b::r).length<=24;rw[hpa];exact hl
def comm:ba->ba->Nat
 |a::x,b::y=>if a=b then comm x y+1 else 0
 |_,_=>0
theorem ve:∀(a b:ba),comm a b<=a.length/\comm a b<=b.length
 |[],b=>by simp[comm]
 |a::x,[]=>by simp[comm]
 |a::x,b::y=>by have:=ve x y;unfold comm;split<;>simp<;>omega
theorem qf:∀(a b:ba),a.take (comm a b)=b.take (comm a b)
 |[],b=>by simp[comm]
 |a::x,[]=>by simp[comm]
 |a::x,b::y=>by
  have:=qf x y;unfold comm;split;.rename_i h;subst h;simp[this]
  .simp
theorem KV:∀(a b:ba) (i:Nat),i<comm a b->a.getD i 0=b.getD i 0
 |[],b,i,h=>by simp[comm]at h
 |a::x,[],i,h=>by simp[comm]at h
 |a::x,b::y,i,h=>by
  unfold comm at h;split at h
  .rename_i e;subst e;cases i with
   |zero=>rfl
   |succ i=>simpa[List.getD]using KV x y i ah
  .omega
theorem Ad:∀(a b:ba),comm a b<a.length->comm a b<b.length->a.getD (comm a b) 0≠b.getD (comm a b) 0
 |[],b,h,_=>by simp at h
 |a::x,[],_,h=>by simp at h
 |a::x,b::y,h1,h2=>by
  unfold comm at h1 h2⊢;split;.rename_i e;subst e;rw[aw rfl]at h1 h2;have:=Ad x y (by simpa using h1) (by simpa using h2);simpa[List.getD]using this
  .rename_i e;simpa[List.getD]using e
def T75:Nat->cU:=λid=>if id=5 then[(z6,[],none)]else[]
theorem a75(a b:ba)(ha:a.length<60000)(hb:b.length<60000):bo 75 [bR a,bR b] (int (comm a b)):=by
 refine bo.ac 2 T75 func75 λh nx=>?_;simp+decide-dsimp only[f75,go_sem];have hle:=ve a b;have hm:(if b.length<a.length then(b.length:Int)else(a.length:Int))=((min a.length b.length:Nat):Int):=by split<;>omega
 rw[hm];refine cL _ _ (λm s h' nx'=>∃i,i<=comm a b/\m=min a.length b.length-i/\ao s 0=bR a/\ao s 1=bR b/\ao s 5=int (min a.length b.length:Nat)/\ao s 12=int (min a.length b.length:Nat)/\ao s 13=int i/\h'=h/\nx<=nx') (n:=min a.length b.length) ?_ ?_;.simp+decide-dsimp only[go_sem];exact⟨0,aY _,ah,rfl⟩
 rintro m s h' nx' ⟨i,hi,rfl,s0,s1,s5,Gt,Ez,rfl,l1⟩;by_cases db:i<min a.length b.length
 .have h1:i<a.length:=ah;have h2:i<b.length:=ah;have w1:i+1<9223372036854775808:=ah;by_cases he:a.getD i 0=b.getD i 0
  .simp+decide-dsimp only[go_sem,T75,s0,s1,s5,Gt,Ez,db,h1,h2,he,w1];refine⟨_,(ah:min a.length b.length-(i+1)<_),i+1,?_,rfl,rfl,ah⟩;rcases bg i (comm a b)with q|q
   .exact q
   .have:i=comm a b:=ah;subst this;exact absurd he (Ad a b h1 h2)
  .have tM:¬(((a.getD i 0).toNat:Int)=((b.getD i 0).toNat:Int)):=λe=>he (eA.1 ah);simp+decide-dsimp only[go_sem,T75,s0,s1,Gt,Ez,db,h1,h2,tM];refine .dT .refl .cA ?_;have:i=comm a b:=by
    rcases bg i (comm a b)with q|q;.exact absurd (KV a b i q) he
    .omega
   rw[this]
 .simp+decide-dsimp only[go_sem,s5,Gt,Ez,db];refine .dT .refl .cA ?_;have:comm a b=min a.length b.length:=ah;rw[this]
def Ow:Nat->cU:=λid=>if id=9 then[(z6,[],some 7),([],[],some 8),([],[],some 9),([],[],some 10),([],[],none)]else if id=12 then[(z7,[],some 8),([],[],some 9),([],[],none)]else if id=17 then[([0,1,2,3,4,5,10],[3],some 6),([7,8,9],[10],some 11),([],[],some 12),([],[],none)]else if id=23 then[([0,1,2],[],some 3),([],[],some 4),([],[],none)]else[]
theorem akr(t:At)(p:bj)(h:aG)(nx:Nat)(o:AW t p h nx)(I:AI Pk (cV t.a.es) t.aO pa par)(k v:ba)(hp:Pk k)(hl:k.length<=24):
 aA prog 271 [.ptr t.tb 0,bR k,bR v] h nx λw h' nx'=>(∃(old:ba) (lS:Bool) (e:Int),w= .dN [bR old,bQ lS,.g (.int .i64 e)])/\∃(t':At) (p':bj),AW t' p' h' nx'/\tv t t'/\dA nx t.own t'.own t.a.sl t'.a.sl p p' h h'/\LQ Pk t':=by
 have db:=o.tk.lt;have d1:¬(t.tb=nx):=ah;refine aA.ac 3 Ow func271 ?_;simp+decide-dsimp only[f271,go_sem];refine bm (aak t _ _ o.tk) ?_;simp+decide-dsimp only[go_sem,o.tk.tr,reduceAdd];have hrt:=I.rt;refine cL _ _ (λm s h' nx'=>∃(hd:Hd) (n:Ax) (key:ba) (hb:Nat),m=key.length/\pa hd.ao++key=k/\cV t.a.es hd.ao=some (hd.bk,n)/\ao s 0= .ptr t.tb 0/\ao s 1=bR key/\ao s 2=bR v/\ao s 9= .ptr hb 0/\nx<=hb/\hb<nx'/\au h' hb=some (.cells [int hd.ao,u64 hd.bk] 245)/\aH nx h h'/\nx<=nx') (n:=k.length) ?_ ?_
 .simp+decide-dsimp only[go_sem];obtain⟨n0,R6⟩:=hrt.1;refine⟨t.aO,n0,k,nx,rfl,by rw[hrt.2];rfl,R6,rfl,rfl,an _,aW _,by simp[aj],?_⟩
  repeat' first|exact aH.refl|apply aH.fJ|(apply aH.set;rotate_left;omega)
 rintro m s h' nx' ⟨hd,n,key,hb,rfl,PH,hs,s0,s1,s2,s9,JX,wG,Um,tW,Ce⟩;have o1:AW t p h' nx':=o.aX tW Ce;obtain⟨e,he,e1,e2,e3,e4,e5,_⟩:=ng o1.tk.ok hs;have bP:(pa hd.ao).length+key.length=k.length:=by rw[<-PH,aq]
 have EP:n.pre.length<=24:=by have:=I.len _ _ _ hs;simp only[aq]at this;omega
 have hle:=ve n.pre key;have Jc:=qf n.pre key;simp+decide-dsimp only[go_sem,s0,s9,Um];refine bm (Dd t _ _ o1.tk he e1 e2) ?_;simp+decide-dsimp only[go_sem,s1,e4,Ax.cells];refine aZ (a75 n.pre key ah ah) ?_;by_cases hc:comm n.pre key<n.pre.length
 .have IF:comm n.pre key<=key.length:=hle.2;have hci:((comm n.pre key:Nat):Int)<(n.pre.length:Int):=ah;simp+decide-dsimp only[go_sem,Ow,s0,s1,s2,s9,e4,hci,IF,Um,Ax.cells];have abB:pa hd.ao++n.pre.take (comm n.pre key)++key.drop (comm n.pre key)=k:=by rw[Jc,ay,bY];exact PH
  generalize hq:nx'+Array.size _=nq;have rm:nx'<=nq:=ah;have c:=al' t p h' nq (o1.aX aH.refl rm) I hd n hs (comm n.pre key) hc (key.drop (comm n.pre key)) v (by rw[abB];exact hp) (by rw[abB];exact hl) (λb r e=>by
   have vT:comm n.pre key<key.length:=by have:=fN List.length e;simp at this;omega
   have:=Ad n.pre key hc vT;have hb:key.getD (comm n.pre key) 0=b:=by
    have:(key.drop (comm n.pre key)).getD 0 0=b:=by rw[e];rfl
    rw[oz]at this;simpa using this
   rw[<-hb];exact this.symm)
  rw[Hd.av,Hd.cells]at c;refine cf c λ_ h2 dU l2 ⟨⟨ev,e0⟩,t2,p2,o2,E2,S2,T2⟩=>?_;subst e0;simp+decide-dsimp only[go_sem];exact⟨⟨_,_,_,rfl⟩,t2,p2,o2,E2,(dA.same tW).trans S2 ah,T2⟩
 .have hcm:comm n.pre key=n.pre.length:=ah;rw[hcm,aD (an _)]at Jc;obtain⟨tV,rfl⟩:∃tV,key=n.pre++tV:=⟨key.drop n.pre.length,by rw[<-bY n.pre.length key,<-Jc];simp[iz]⟩;have hci:¬(((comm n.pre (n.pre++tV):Nat):Int)<(n.pre.length:Int)):=ah;have IF:n.pre.length<=(n.pre++tV).length:=bL;have hdr:(n.pre++tV).drop n.pre.length=tV:=bL;rw[hcm]at hci⊢;have IG:∀b,t.own b->b≠hb:=λb gC e'=>by have:=o.tk.dm gC;omega
  have KP:eS prog 9 (bR (n.pre++tV)) (some (int n.pre.length)) none=some (bR tV):=by rw[rf IF,hdr]
  have LM:∀A B:AO,aH nx' (aK h' e.bJ B) (aK (aK h' e.bJ A) e.bJ B):=λA B b _=>by rw[aj,aj,aj];split<;>rfl
  cases tV with
  |nil=>
   have hsl':eS prog 9 (bR n.pre) (some (int n.pre.length)) none=some (bR []):=by rw[cD]at KP;exact KP
   have hpn:Pk (pa hd.ao++n.pre):=by rw[cD]at PH;rw[PH];exact hp
   obtain⟨o2,S2⟩:=o1.val he (x:={n with val:=v,has:=true}) (by rw[e3]);have I2:=I.val hs v true (λ_=>hpn);have jf:cV (iL t.a.es e.ao {n with val:=v,has:=true})=tq (cV t.a.es) hd.ao (some (hd.bk,{n with val:=v,has:=true})):=by rw[qT o.tk.ok.rK he,e1,e2];rfl
   rw[<-jf]at I2;have dte:¬(t.tb=e.bJ):=λe'=>o.tk.d3 e he e'.symm;rw[e2]at o2 S2;cases hh:n.has with
   |true=>simp+decide-dsimp only[go_sem,Ow,s1,s2,e4,hci,hsl',hh,Ax.cells,reduceAdd];exact⟨⟨_,_,_,rfl⟩,_,p,o2.aX (LM _ _) ah,⟨rfl,rfl,rfl,rfl,rfl⟩,((dA.same tW).trans S2 Ce).trans (dA.same (LM _ _)) Ce,pa,par,I2⟩
   |false=>have tr1:=o1.tk.tr;simp+decide-dsimp only[go_sem,Ow,s0,s1,s2,e4,hci,hsl',hh,tr1,dte,Ax.cells,reduceAdd];obtain⟨o3,S3⟩:=(o2.aX (LM (.cells [u64 hd.bk,bR n.pre,bR v,bQ false,.ptr n.k.nb 0] 300) _) (an _)).tree t.aO (cF .i64 (t.size+1));exact⟨⟨_,_,_,rfl⟩,_,p,o3.aX aH.refl ah,⟨rfl,rfl,rfl,rfl,rfl⟩,(((dA.same tW).trans S2 Ce).trans (dA.same (LM _ _)) Ce).trans S3 ah,pa,par,I2⟩
  |cons b r=>
   have Cs:n.k.ok h' nx':=by have:=o1.tk.kn e he;rw[e3]at this;exact this
   have gb:∀q,¬(hb=nx'+q):=λq=>ah;have gt:∀q,¬(t.tb=nx'+q):=λq=>ah;have er:zN (jq n.k.l b)= .dN [.agg [int ((jq n.k.l b).getD default).ao,u64 ((jq n.k.l b).getD default).bk],bQ (jq n.k.l b).isSome]:=rfl;have Jr:¬(b::r=[]):=bL;have ge:∀q,¬(e.bJ=nx'+q):=λq=>ah;simp+decide-dsimp only[go_sem,Ow,s1,e4,hci,KP,ge,Jr,Ax.cells,reduceAdd];generalize hq:nx'+Array.size _=nq;have rm:nx'<=nq:=ah;clear hq;refine bm (Vn n.k b _ nq (Cs.same ?_ rm)) ?_
   .repeat' first|exact aH.refl|apply aH.fJ|(apply aH.set;rotate_left;omega)
   rw[er];cases hkg:jq n.k.l b with
   |none=>
    simp+decide-dsimp only[go_sem,s0,gt,o1.tk.tr,o.sp.pb,mA,reduceAdd];generalize hH:aK (aK h' _ _) _ _=H;have Gl:aH nx' h' H:=by
     rw[<-hH]
     repeat' first|exact aH.refl|apply aH.fJ|(apply aH.set;rotate_left;omega)
    clear hH;have o2:=o1.aX Gl rm;have c1:=Qo p H nq o2.pk 1;rw[show((1:Nat):Int)=1 from rfl]at c1;refine bm c1 ?_;by_cases hr:1<=p.fr.count true
    .have hbH:au H hb=some (.cells [int hd.ao,u64 hd.bk] 245):=by rw[Gl _ wG];exact Um
     simp+decide-dsimp only[go_sem,s0,s1,s2,s9,hr,hbH];have c:=ajw t p H nq o2 ah hd n hs b r v (by have:=bP;simp only[aq,bD]at this;omega);rw[Hd.av,Hd.cells]at c;refine cf c λ_ h3 nx3 l3 ⟨ev,t3,p3,x,k0,k1,f1,f2,f3,o3,E3,S3,f4,f5⟩=>?_;subst ev;simp+decide-dsimp only[go_sem];have UU:pa hd.ao++n.pre++b::r=k:=by rw[ay];exact PH
     have I3:=I.aE hs f1 (b:=b) (r:=r) hkg (m:=⟨r,v,true,k0⟩) rfl f2 (by rw[UU];exact hp) (by rw[UU];exact hl) (n':={n with k:=k1}) rfl rfl f3;refine⟨⟨_,_,_,rfl⟩,t3,p3,o3,E3,((dA.same tW).trans (dA.same Gl) Ce).trans S3 ah,?_⟩;show∃pa par,AI Pk (cV t3.a.es) t3.aO pa par;rw[E3.aO,f4];exact⟨_,_,I3⟩
    .simp+decide-dsimp only[go_sem,hr];exact⟨⟨_,_,_,rfl⟩,t,p,o2,.refl t,(dA.same tW).trans (dA.same Gl) Ce,pa,par,I⟩
   |some y=>
    have iI:=(kz (I.jr _ _ _ hs)).1 hkg;obtain⟨⟨m',i1⟩,i2,i3⟩:=I.lQ _ _ _ hs _ iI;simp+decide-dsimp only[go_sem,Ow,s0,s1,s2,s9,gb,Um,qb,eK,reduceAdd];refine⟨r.length,?_,y,m',r,hb,rfl,?_,i1,rfl,rfl,JX,ah,?_,?_,ah⟩;.omega
    .rw[i2,ay,ay];exact PH
    .rw[aw rfl]
    .repeat' first|exact tW|apply aH.fJ|(apply aH.set;rotate_left;omega)
theorem afd:dy prog 404=some [.nilFunc]:=aL
theorem Iw:cN prog 414=some 3:=aL
theorem aba:kg prog 414=some 24:=aL
theorem Qa:dy prog 414=some [.int .i64 0,.int .u64 0,.int .u8 0]:=aL
theorem Y9:aQ prog 414 0=some 0:=aL
theorem Xp:aQ prog 414 1=some 2:=aL
theorem ahO:fieldsOf prog 414=some [(0,2),(2,1)]:=aL
theorem Su:prog.underlying 415=some (.slice 414):=aL
theorem ahL:dy prog 420=some [.pointer none,.nilFunc,.bool false]:=aL
theorem aaq:aQ prog 420 0=some 0:=aL
theorem Z9:aQ prog 420 1=some 1:=aL
theorem agO:cN prog 449=some 6:=aL
theorem ahf:dy prog 449=some [.int .i64 0,.slice none 0 0,.int .i64 0,.int .u64 0,.int .u64 0,.int .u8 0]:=aL
theorem aaC:aQ prog 449 0=some 0:=aL
theorem aap:aQ prog 449 1=some 1:=aL
theorem ZG:aQ prog 449 2=some 2:=aL
theorem Yr:aQ prog 449 3=some 4:=aL
theorem afy:fieldsOf prog 449=some [(0,1),(1,1),(2,2),(4,2)]:=aL
attribute[go_sem] afd Iw aba Qa Y9 Xp ahO Su ahL aaq Z9 agO ahf aaC aap ZG Yr afy
def pF(s q:ba):Bool:=decide (q.length<=s.length)&&decide (s.take q.length=q)
def uB(s q:ba):ba:=if pF s q then s.drop q.length else s
theorem Bj{s q:ba}:pF s q=true↔∃r,s=q++r:=by
 unfold pF;simp only[aV,fM];constructor;.intro⟨_,h⟩;exact⟨s.drop q.length,by conv=>lhs;rw[<-bY q.length s,h]⟩
 .rintro⟨r,rfl⟩;simp
theorem akI(s q:ba)(hs:s.length<60000)(hq:q.length<60000):bo 297 [bR s,bR q] (bQ (pF s q)):=by
 refine bo.ac 2 T0 func297 λh nx=>?_;by_cases hl:q.length<=s.length;.have oh:((q.length:Int)<=(s.length:Int)):=ah;simp+decide-dsimp only[f297,go_sem,hl,oh];refine .dT .refl .cA ?_;unfold pF;rw[aM hl,xQ]
 .have oh:¬((q.length:Int)<=(s.length:Int)):=ah;simp+decide-dsimp only[f297,go_sem,oh];refine .dT .refl .cA ?_;unfold pF;rw[aU hl,oc]
theorem akt(s q:ba)(hs:s.length<60000)(hq:q.length<60000):bo 293 [bR s,bR q] (.dN [bR (uB s q),bQ (pF s q)]):=by
 refine bo.ac 2 T0 func293 λh nx=>?_;simp+decide-dsimp only[f293,go_sem];refine aZ (akI s q hs hq) ?_;cases hh:pF s q with
 |false=>simp+decide-dsimp only[go_sem];exact .dT .refl (.jS .bR .cA) (by unfold uB;rw[hh];rfl)
 |true=>
  have hl:q.length<=s.length:=by unfold pF at hh;simp at hh;exact hh.1
  simp+decide-dsimp only[go_sem,hl];exact .dT .refl (.jS .bR .cA) (by unfold uB;rw[hh];rfl)
theorem ago(s q:ba)(hs:s.length<60000)(hq:q.length<60000):bo 281 [bR s,bR q] (.dN [bR (uB s q),bQ (pF s q)]):=by refine bo.ac 2 T0 func281 λh nx=>?_;simp+decide-dsimp only[f281,go_sem];refine aZ (akt s q hs hq) ?_;simp+decide-dsimp only[go_sem];exact .dT .refl (.jS .bR .cA) rfl
def afJ:Nat->cU:=λid=>if id=3 then[(z4,[],some 5),([6,7,8],[],some 9),([],[],some 10),([],[],none)]else[]
theorem akb(a:Ar Ax)(h:aG)(nx wb:Nat)(ok:Px.ok a h nx){n:Ax}(hs:cV a.es hd.ao=some (hd.bk,n))(hkb:n.k.nb<nx){ag:Bool}(hw:au h wb=some (.cells [.ptr a.ab 0,.g .nilFunc,bQ ag] 420))(hwb:wb<nx):
 aA prog 286 [.ptr wb 0,.agg [int hd.ao,u64 hd.bk]] h nx (dr (.dN [n.av,bQ true]) h nx):=by
 obtain⟨e,he,e1,e2,e3,e4,e5,e6⟩:=ng ok hs;refine aA.pc 2 afJ func286 ?_;have d1:¬(wb=nx):=ah;have d2:¬(wb=nx+1):=ah;have d3:¬(e.bJ=nx):=ah;have d4:¬(e.bJ=nx+1):=ah;simp+decide-dsimp only[f286,go_sem,afJ,hw,d1,d2];generalize hq:nx+1+1+Array.size _=nq;have rm:nx<=nq:=ah;clear hq;refine bm (e6 _ nq ?_ rm) ?_
 .repeat' first|exact aH.refl|apply aH.fJ|(apply aH.set;rotate_left;omega)
 simp+decide-dsimp only[go_sem,e4,d3,d4,Ax.cells,reduceAdd];refine .dT ?_ (.jS (.cQ ⟨trivial,trivial,trivial,hkb,trivial⟩) .cA) rfl
 repeat' first|exact aH.refl|apply aH.fJ|(apply aH.set;rotate_left;omega)
def acb:Nat->cU:=λid=>if id=12 then[([0,1,2,3],[],some 4),([],[],some 5),([],[],some 6),([],[],none)]else if id=13 then[([0,1,2,3],[],some 4),([5,6,7],[],some 8),([],[],some 9),([],[],none)]else[]
theorem ame(t:At)(h:aG)(nx:Nat)(ok:t.ok h nx)(I:AI Pk (cV t.a.es) t.aO pa par)(k:ba)(hl:k.length<=24):
 aA prog 268 [.ptr t.tb 0,bR k,.g .nilFunc] h nx λr h' nx'=>(∃(v:ba) (lS again:Bool),r= .dN [bR v,bQ lS,bQ again])/\h'=h/\nx'=nx:=by
 have db:=ok.lt;have d1:¬(t.tb=nx):=ah;refine aA.pc 3 acb func268 ?_;simp+decide-dsimp only[f268,go_sem];refine bm (aak t _ _ ok) ?_;have d2:¬(t.tb=nx+1):=ah;simp+decide-dsimp only[go_sem,ok.tr,d1,reduceAdd];have hrt:=I.rt;refine cL _ _ (λm s h' nx'=>∃(hd:Hd) (n:Ax) (key:ba) (hb:Nat),m=key.length/\pa hd.ao++key=k/\cV t.a.es hd.ao=some (hd.bk,n)/\ao s 0= .ptr t.tb 0/\ao s 1=bR key/\ao s 9= .ptr nx 0/\ao s 10= .ptr hb 0/\nx+1<=hb/\hb<nx'/\au h' hb=some (.cells [int hd.ao,u64 hd.bk] 245)/\
  au h' nx=some (.cells [.ptr t.a.ab 0,.g .nilFunc,bQ false] 420)/\aH nx h h'/\nx+1<=nx') (n:=k.length) ?_ ?_
 .simp+decide-dsimp only[go_sem];obtain⟨n0,R6⟩:=hrt.1;refine⟨t.aO,n0,k,nx+1,rfl,by rw[hrt.2];rfl,R6,rfl,rfl,an _,aW _,by simp[aj],?_⟩
  repeat' first|exact aH.refl|apply aH.fJ|(apply aH.set;rotate_left;omega)
 rintro m s h' nx' ⟨hd,n,key,hb,rfl,PH,hs,s0,s1,s9,vE,JX,wG,Um,hw,tW,Ce⟩;have o1:t.ok h' nx':=ok.aX (λb hb=>tW b (ok.dm hb)) ah;obtain⟨e,he,e1,e2,e3,e4,e5,_⟩:=ng o1.ok hs;have Cs:n.k.ok h' nx':=by have:=o1.kn e he;rw[e3]at this;exact this
 have bP:(pa hd.ao).length+key.length=k.length:=by rw[<-PH,aq]
 have EP:n.pre.length<=24:=by have:=I.len _ _ _ hs;simp only[aq]at this;omega
 simp+decide-dsimp only[go_sem,s9,vE,Um];refine bm (akb t.a h' nx' nx o1.ok hs Cs.lt hw ah) ?_;simp+decide-dsimp only[go_sem,s1,Ax.av,Ax.cells,reduceAdd];refine aZ (ago key n.pre ah ah) ?_;cases hh:pF key n.pre with
 |false=>
  simp+decide-dsimp only[go_sem];refine⟨?_,_,.lZ .bR .cA .cA,_,_,_,rfl⟩
  repeat' first|exact tW|apply aH.fJ|(apply aH.set;rotate_left;omega)
 |true=>
  obtain⟨tV,rfl⟩:=Bj.1 hh;have M7:uB (n.pre++tV) n.pre=tV:=by unfold uB;rw[hh];simp
  rw[M7];cases tV with
  |nil=>
   simp+decide-dsimp only[go_sem,acb];refine⟨?_,_,.lZ .bR .cA .cA,_,_,_,rfl⟩
   repeat' first|exact tW|apply aH.fJ|(apply aH.set;rotate_left;omega)
  |cons b r=>
   have Jr:¬(b::r=[]):=bL;have gb:¬(hb=nx'):=ah;have er:zN (jq n.k.l b)= .dN [.agg [int ((jq n.k.l b).getD default).ao,u64 ((jq n.k.l b).getD default).bk],bQ (jq n.k.l b).isSome]:=rfl;simp+decide-dsimp only[go_sem,acb,Jr];generalize hq:nx'+1+Array.size _=nq;have rm:nx'+1<=nq:=ah;clear hq;refine bm (Vn n.k b _ nq (Cs.same ?_ ah)) ?_
   .repeat' first|exact aH.refl|apply aH.fJ|(apply aH.set;rotate_left;omega)
   rw[er];cases hkg:jq n.k.l b with
   |none=>
    simp+decide-dsimp only[go_sem,vE,gb,Um,mA,reduceAdd];refine⟨?_,_,.lZ .bR .cA .cA,_,_,_,rfl⟩
    repeat' first|exact tW|apply aH.fJ|(apply aH.set;rotate_left;omega)
   |some y=>
    have iI:=(kz (I.jr _ _ _ hs)).1 hkg;obtain⟨⟨m',i1⟩,i2,i3⟩:=I.lQ _ _ _ hs _ iI;have gw:¬(nx=nx'):=ah;have gw2:¬(nx=hb):=ah;have gw3:¬(nx=nq):=ah;simp+decide-dsimp only[go_sem,s0,s1,s9,vE,gb,Um,qb,eK,reduceAdd];refine⟨r.length,?_,y,m',r,nq,rfl,?_,i1,rfl,rfl,ah,ah,?_,?_,?_⟩;.omega
    .rw[i2,ay,ay];exact PH
    .simp[aj]
    .simp[gw,gw2,gw3,hw]
    .refine⟨?_,ah⟩
     repeat' first|exact tW|apply aH.fJ|(apply aH.set;rotate_left;omega)
variable{x y:Operand}{ys:Array Value}
section
variable{P:Program}
theorem Fi:br P (program:Sem Program)=some P:=bF rfl
theorem DF(d:Nat)(t:TypeId)(xs ys:Array Value)(ht:P.underlying t=some (.struct (P.fieldsOf t)))(hp:P.stoodInHeld t=false):
 br P (Op.equalIn (d+1) t (.agg xs) (.agg ys))=br P (Op.eqFields d xs ys (P.fieldsOf t).toList):=by
 simp only[Op.equalIn,bX,gI ht,Fi,hp,dk,cC];rw[<-Array.forIn_toList];generalize(P.fieldsOf t).toList=fs;clear ht
 induction fs with
 |nil=>simp[Op.eqFields,cG]
 |cons f fs ih=>
  by_cases hn:f.name= "_";.simp only[List.forIn_cons,Op.eqFields,bX,hn,ne_eq,Mg,cC,cG];exact ih
  .simp only[List.forIn_cons,Op.eqFields,bX,hn,ne_eq,L9,cz];cases br P (part f.type xs f.offset)with
   |none=>rfl
   |some a=>
    dsimp only;cases br P (part f.type ys f.offset)with
    |none=>rfl
    |some b=>
     dsimp only;cases br P (Op.equalIn d f.type a b)with
     |none=>rfl
     |some r=>
      cases r;.rfl
      .exact ih
theorem FG(d:Nat)(t:TypeId)(k k':IntKind)(a b:Int)(h:P.underlying t=some (.int k')):br P (Op.equalIn (d+1) t (.int k a) (.int k b))=some (a==b):=by simp[Op.equalIn,bX,gI h,cG]
def EqF(P:Program)(d:Nat)(xs ys:Array Value):List (TypeId×Nat×Bool)->Option Bool
 |[]=>some true
 |(t,o,u)::l=>if u=true then EqF P d xs ys l else match br P (part t xs o)with
  |some a=>match br P (part t ys o)with
   |some b=>match br P (Op.equalIn d t a b)with
    |some r=>if r=true then EqF P d xs ys l else some false
    |none=>none
   |none=>none
  |none=>none
theorem va{d:Nat}{xs ys:Array Value}:∀(fs:List Field),br P (Op.eqFields d xs ys fs)=EqF P d xs ys (fs.map λf=>(f.type,f.offset,decide (f.name= "_")))
 |[]=>rfl
 |f::fs=>by
  simp only[Op.eqFields,dQ,EqF];by_cases hn:f.name= "_";.simp only[hn,qF,ne_eq,Mg,cC,cz];exact va fs
  .simp only[hn,ne_eq,L9,cz,oG,dk,cC,bX];cases br P (part f.type xs f.offset)with
   |none=>rfl
   |some a=>
    dsimp only;cases br P (part f.type ys f.offset)with
    |none=>rfl
    |some b=>
     dsimp only;cases br P (Op.equalIn d f.type a b)with
     |none=>rfl
     |some r=>
      cases r;.rfl
      .exact va fs
theorem wV{d:Nat}{xs:Array Value}{t o l a b r}(ha:br P (part t xs o)=some a)(hb:br P (part t ys o)=some b)(hr:br P (Op.equalIn d t a b)=some r):EqF P d xs ys ((t,o,false)::l)=if r=true then EqF P d xs ys l else some false:=by simp only[EqF,ha,hb,hr,dk,cC]
end
theorem ahS(a b c d:Int)(q:Nat):br prog (Op.equalIn (q+2) 245 (.agg #[.int .i64 a,.int .u64 b]) (.agg #[.int .i64 c,.int .u64 d]))=some (a==c&&b==d):=by
 rw[DF (q+1) 245 _ _ aL aL];rw[va,show((prog.fieldsOf 245).toList.map λf=>(f.type,f.offset,decide (f.name= "_")))=[(3,0,false),(71,1,false)]from aL,
  wV aL aL (FG q 3 .i64 .i64 a c Da),wV aL aL (FG q 71 .u64 .u64 b d JY)]
 cases a==c<;>cases b==d<;>rfl
theorem Hi{P:Program}{al bl:List AV}{u v:List Value}{r:Bool}(ha:AV.CX al=some u)(hb:AV.CX bl=some v)(hg:P.eqGuardType P.depth t=false)(hr:br P (Op.equalIn 10000 t (.agg u.toArray) (.agg v.toArray))=some r):
 cZ P h .eql t x y (.agg al) (.agg bl)=some (bQ r)/\cZ P h .neq t x y (.agg al) (.agg bl)=some (bQ !r):=by
 have e1:(AV.agg al).pd=some (.agg u.toArray):=by simp only[AV.pd,ha]
 have e2:(AV.agg bl).pd=some (.agg v.toArray):=by simp only[AV.pd,hb]
 have qa:br P (Op.equal t (.agg u.toArray) (.agg v.toArray))=some r:=hr;constructor
 .show iG P h .eql t x y (.agg al) (.agg bl)=_;unfold iG;rw[e1,e2];show ke P .eql t x y _ _=_;unfold ke;have:br P (do eqGuard .eql t x y (.agg u.toArray) (.agg v.toArray);binOp .eql t (.agg u.toArray) (.agg v.toArray))=some (.bool r):=by simp only[eqGuard,binOp,bX,qa,cG];simp only[reduceCtorEq,jB,cC,bX];rw[Fi];simp[hg,cG]
  rw[this]
 .show iG P h .neq t x y (.agg al) (.agg bl)=_;unfold iG;rw[e1,e2];show ke P .neq t x y _ _=_;unfold ke;have:br P (do eqGuard .neq t x y (.agg u.toArray) (.agg v.toArray);binOp .neq t (.agg u.toArray) (.agg v.toArray))=some (.bool !r):=by simp only[eqGuard,binOp,bX,qa,cG];simp only[reduceCtorEq,jB,cC,bX];rw[Fi];simp[hg,cG]
  rw[this]
theorem acA{a b c d:Int}:cZ prog h .eql 245 x y (.agg [int a,u64 b]) (.agg [int c,u64 d])=some (bQ (a==c&&b==d)):=(Hi (u:=[_,_]) (v:=[_,_]) rfl rfl aL (ahS a b c d 9998)).1
attribute[go_sem] acA
end
end bC
end Go.Proofs.YtonnifoeokagjaaGreat
