/- The theorem plans_holds of OrdersPlans: part 15 of its proof; no conditions. -/
import Derived.Test.YtonnifoeokagjaaGreatF14
namespace Go.Proofs.YtonnifoeokagjaaGreat
set_option linter.all false
set_option maxRecDepth 8000
open Go Go.RowKit
open Tryz
open Nat(reduceAdd reduceMul)
namespace bC
noncomputable section
variable{Pk:ba->Prop}{aO:Hd}{h h':aG}{iJ l1 l2 o1:Nat->Prop}{lv:Nat->Nat}{nx nx':Nat}{p':bj}{α:Type}
inductive Tr where
 |b (t:Bl)
 |a (t:At)
 |m (t:Mt)
namespace Tr
def tb:Tr->Nat
 |b t=>t.tb
 |a t=>t.tb
 |m t=>t.tb
def ty:Tr->TypeId
 |b _=>212
 |a _=>215
 |m _=>218
def kind:Tr->Nat
 |b _=>1
 |a _=>2
 |m _=>3
def own:Tr->Nat->Prop
 |b t=>t.own
 |a t=>t.own
 |m t=>t.own
def sl:Tr->Nat->Prop
 |b t=>t.a.sl
 |a t=>t.a.sl
 |m t=>t.a.sl
def W:Tr->bj->aG->Nat->Prop
 |b t=>BW t
 |a t=>AW t
 |m t=>MW t
def ok(Pk:ba->Prop):Tr->Nat->Prop
 |b t,k=>∃d,d<=k/\Mh Pk (cV t.a.es) t.aO d
 |a t,_=>LQ Pk t
 |m t,_=>U4 Pk t
theorem W.pk{T:Tr}{p:bj}{h:aG}{nx:Nat}(o:T.W p h nx):p.ok h nx:=by
 cases T with
 |b t=>exact BW.pk o
 |a t=>exact AW.pk o
 |m t=>exact MW.pk o
theorem W.lt{T:Tr}{p:bj}{h:aG}{nx:Nat}(o:T.W p h nx){b:Nat}(hb:T.own b):b<nx:=by
 cases T with
 |b t=>
  have o:BW t p h nx:=o;rcases hb with e|e
  .rw[e];exact o.tk.lt
  .exact o.tk.ok.dm e
 |a t=>exact AW.tk o|>.dm hb
 |m t=>exact MW.tk o|>.dm hb
theorem W.np{T:Tr}{p:bj}(o:T.W p h nx){b:Nat}(hb:T.own b):b≠p.pb/\b≠p.gb/\b≠p.fb:=by
 cases T with
 |b t=>
  have o:BW t p h nx:=o;rcases hb with e|e|e|⟨f,hf,e⟩
  .rw[e];exact o.sd
  .rw[e];exact o.sp.sa
  .rw[e];exact o.sp.sm
  .rw[<-e];exact o.sp.sc f hf
 |a t=>exact AW.sd o b hb
 |m t=>
  have o:MW t p h nx:=o;rcases hb with e|e|e|⟨f,hf,e⟩
  .rw[e];exact o.sd
  .rw[e];exact o.sp.sa
  .rw[e];exact o.sp.sm
  .rw[<-e];exact o.sp.sc f hf
theorem W.tk{T:Tr}{p:bj}(o:T.W p h nx){s:Nat}(hs:T.sl s):p.fr.getD s false=false:=by
 cases T with
 |b t=>obtain⟨e,he,rfl⟩:=hs;exact(BW.sp o).taken e he|>.2
 |a t=>obtain⟨e,he,rfl⟩:=hs;exact(AW.sp o).taken e he|>.2
 |m t=>obtain⟨e,he,rfl⟩:=hs;exact(MW.sp o).taken e he|>.2
theorem JO{a:Ar α}{p:bj}(s:Sep a p)(h1:p'.pb=p.pb)(h2:p'.gb=p.gb)(h3:p'.fb=p.fb)(h4:p'.fr.length=p.fr.length)(h5:∀e∈a.es,p'.fr.getD e.ao false=false):Sep a p':=
 ⟨s.pb.trans h1.symm,by rw[h1,h2,h3];exact s.sa,by rw[h1,h2,h3];exact s.sm,by rw[h1,h2,h3];exact s.sc,λe he=>⟨by rw[h4];exact(s.taken e he).1,h5 e he⟩⟩
theorem W.to{T:Tr}{p:bj}(o:T.W p h nx)(k:∀b,T.own b->au h' b=au h b)(pk:p'.ok h' nx')(h1:p'.pb=p.pb)(h2:p'.gb=p.gb)(h3:p'.fb=p.fb)(h4:p'.fr.length=p.fr.length)(h5:∀s,T.sl s->p'.fr.getD s false=false)(hn:nx<=nx'):T.W p' h' nx':=by
 cases T with
 |b t=>have o:BW t p h nx:=o;exact(⟨⟨by rw[k _ (.inl rfl)];exact o.tk.tr,o.tk.ok.iy (λb hb=>k b (.inr hb)) hn,o.tk.d1,o.tk.d2,o.tk.d3,aP o.tk.lt hn⟩,pk,JO o.sp h1 h2 h3 h4 λe he=>h5 _ ⟨e,he,rfl⟩,by rw[h1,h2,h3];exact o.sd⟩:BW t p' h' nx')
 |a t=>have o:AW t p h nx:=o;exact(⟨o.tk.aX k hn,pk,JO o.sp h1 h2 h3 h4 λe he=>h5 _ ⟨e,he,rfl⟩,by rw[h1,h2,h3];exact o.sd⟩:AW t p' h' nx')
 |m t=>have o:MW t p h nx:=o;exact(⟨o.tk.aX k hn,pk,JO o.sp h1 h2 h3 h4 λe he=>h5 _ ⟨e,he,rfl⟩,by rw[h1,h2,h3];exact o.sd⟩:MW t p' h' nx')
theorem W.other{T:Tr}{p:bj}{o2:Nat->Prop}(o:T.W p h nx)(S:dA nx o1 o2 l1 l2 p p' h h')(h1:∀b,T.own b->¬o1 b)(h2:∀s,T.sl s->¬l1 s)(pk:p'.ok h' nx')(hn:nx<=nx'):T.W p' h' nx':=
 o.to (λb hb=>S.aX b (o.lt hb) (h1 b hb) (o.np hb).1 (o.np hb).2.1 (o.np hb).2.2) pk S.pb S.gb S.fb S.fl (λs hs=>(S.fr s (o.tk hs)).resolve_right (h2 s hs)) hn
theorem W.aX{T:Tr}{p:bj}(o:T.W p h nx)(k:∀b,T.own b\/b=p.pb\/b=p.gb\/b=p.fb->au h' b=au h b)(hn:nx<=nx'):T.W p h' nx':=
 o.to (λb hb=>k b (.inl hb)) (o.pk.iy (k _ (.inr (.inl rfl))) (k _ (.inr (.inr (.inl rfl)))) (k _ (.inr (.inr (.inr rfl)))) hn) rfl rfl rfl rfl (λs hs=>o.tk hs) hn
end Tr
theorem BI.aiz{σ:LI}{lo:Nat->ba}(I:BI Pk σ aO lo lv iJ){k:ba}:∀(d s g:Nat) (n:Nd),σ s=some (g,n)->lv s=d->PG lo s n k->∃s g n,σ s=some (g,n)/\n.aE=true/\PG lo s n k:=by
 intro d
 induction d with
 |zero=>exact λs g n hs hd hc=>⟨s,g,n,hs,(I.aE _ _ _ hs).2 hd,hc⟩
 |succ d ih=>
  intro s g n hs hd hc;have hl:n.aE=false:=by
   cases hl:n.aE with
   |false=>rfl
   |true=>have:=(I.aE _ _ _ hs).1 hl;omega
  obtain⟨m,h1,h2,h3⟩:=I.down hs hl hc;exact ih _ _ _ h1 ah h3
def BlR(Pk:ba->Prop)(t:Bl)(L:List Pr):Prop:=∃lo lv s g n j,BI Pk (cV t.a.es) t.aO lo lv (λ_=>False)/\cV t.a.es s=some (g,n)/\n.aE=true/\PG lo s n []/\Ch (cV t.a.es) j n L/\L.length<=4*(t.a.es.length+1)/\KB Pk [] L
theorem Mh.ex{t:Bl}{d:Nat}(h:Mh Pk (cV t.a.es) t.aO d):∃L,BlR Pk t L:=by obtain⟨lo,lv,I,_⟩:=h;obtain⟨n0,r1,r2,r3⟩:=I.rt;obtain⟨s,g,n,h1,h2,h3⟩:=I.aiz (k:=[]) _ _ _ _ r1 rfl ⟨by rw[r2];exact kj,fZ.2 λh=>by rw[r3]at h;cases h⟩;obtain⟨j,L,j1,j2,j3,j4⟩:=I.chain (t.a.es.length) s g n h1 h2 (List.length_filter_le _ _);exact⟨L,lo,lv,s,g,n,j,I,h1,h2,h3,j2,ah,⟨j4.jr,λk _=>kj,j4.pk⟩⟩
open Classical in
def Bl.all(Pk:ba->Prop)(t:Bl):List Pr:=if h:∃L,BlR Pk t L then Classical.choose h else[]
theorem Bl.abw{t:Bl}{d:Nat}(h:Mh Pk (cV t.a.es) t.aO d):BlR Pk t (t.all Pk):=by unfold Bl.all;rw[dif_pos h.ex];exact Classical.choose_spec h.ex
theorem BW.vW{t:Bl}{p:bj}(o:BW t p h nx):t.a.es.length<=4096:=by
 have i1:=uv p.fr.length (t.a.es.map jE.ao) o.tk.ok.rK λx hx=>by obtain⟨e,he,rfl⟩:=bu.1 hx;exact(o.sp.taken e he).1
 have i2:=o.pk.small;rw[bc]at i1;omega
def Tr.all(Pk:ba->Prop):Tr->List Pr
 | .b t=>t.all Pk
 | .a t=>t.all
 | .m t=>t.all
theorem Tr.zP{Pk:ba->Prop}{T:Tr}{k:Nat}{p:bj}{h:aG}{nx:Nat}(o:T.W p h nx)(hk:T.ok Pk k):KB Pk [] (T.all Pk)/\(T.all Pk).length<=30000:=by
 cases T with
 |b t=>have o:BW t p h nx:=o;obtain⟨d,_,hT⟩:=hk;obtain⟨_,_,_,_,_,_,_,_,_,_,_,h1,h2⟩:=Bl.abw hT;have:=o.vW;exact⟨h2,by show(t.all Pk).length<=_;omega⟩
 |a t=>have o:AW t p h nx:=o;obtain⟨_,_,I⟩:=(hk:LQ Pk t);have:=o.vW;have h2:=I.zP;exact⟨h2.1,by show t.all.length<=_;omega⟩
 |m t=>have o:MW t p h nx:=o;obtain⟨_,_,_,_,_,I⟩:=(hk:U4 Pk t);have:=o.vW;have h2:=MI.zP o.tk.ok.rK I;exact⟨h2.2.1,by show t.all.length<=_;omega⟩
variable{f:FuncId}{k:Nat}{key:ba}{name:String}{t:TypeId}
section
namespace Tr
def ai1:Tr->FuncId
 |b _=>227
 |a _=>271
 |m _=>305
def agj:Tr->FuncId
 |b _=>222
 |a _=>266
 |m _=>300
def afW:Tr->FuncId
 |b _=>224
 |a _=>268
 |m _=>302
def afE:Tr->FuncId
 |b _=>220
 |a _=>264
 |m _=>298
end Tr
theorem inv_of{h:aG}{args:List AV}{v:AV}(hm:lT prog t name=some f)(hb:GG prog xt f=true):nO prog xt h name args (.kB t v)=some (.enter f (v::args)):=by unfold nO;simp only[hm];exact wW hb
variable{h:aG}{args:List AV}{v:AV}
theorem Tr.ah6(T:Tr):nO prog xt h "Put" args (.kB T.ty v)=some (.enter T.ai1 (v::args)):=by cases T<;>exact inv_of aL aL
theorem Tr.agU(T:Tr):nO prog xt h "Delete" args (.kB T.ty v)=some (.enter T.agj (v::args)):=by cases T<;>exact inv_of aL aL
theorem Tr.aif(T:Tr):nO prog xt h "Get" args (.kB T.ty v)=some (.enter T.afW (v::args)):=by cases T<;>exact inv_of aL aL
theorem Tr.afq(T:Tr):nO prog xt h "All" args (.kB T.ty v)=some (.enter T.afE (v::args)):=by cases T<;>exact inv_of aL aL
def jJ(Pk:ba->Prop)(k nx:Nat)(T:Tr)(p:bj)(h h':aG)(nx':Nat):Prop:=∃(T':Tr) (p':bj),T'.tb=T.tb/\T'.ty=T.ty/\T'.kind=T.kind/\T'.W p' h' nx'/\dA nx T.own T'.own T.sl T'.sl p p' h h'/\T'.ok Pk (k+1)
theorem Tr.put(T:Tr){p:bj}{h:aG}(o:T.W p h nx)(hk:k<1000)(ok:T.ok Pk k)(v:ba)(hp:Pk key)(hl:key.length<=24):
 aA prog T.ai1 [.ptr T.tb 0,bR key,bR v] h nx λw h' nx'=>(∃(old:ba) (lS:Bool) (e:Int),w= .dN [bR old,bQ lS,.g (.int .i64 e)])/\jJ Pk k nx T p h h' nx':=by
 cases T with
 |b t=>obtain⟨d,hd,hT⟩:=ok;refine(aka t p h nx o hT ah key v hp).mono _ ?_;rintro w h' nx' ⟨t',p',old,lS,e,rfl,B,S,T2⟩;exact⟨⟨_,_,_,rfl⟩,.b t',p',S.tb,rfl,rfl,B,S.p,d+1,ah,T2⟩
 |a t=>obtain⟨pa,par,I⟩:=(ok:LQ Pk t);refine(akr t p h nx o I key v hp hl).mono _ ?_;rintro w h' nx' ⟨hw,t',p',B,E,S,T2⟩;exact⟨hw,.a t',p',E.tb,rfl,rfl,B,S,T2⟩
 |m t=>refine(akE t p h nx o ok key v hl hp).mono _ ?_;rintro w h' nx' ⟨hw,t',p',B,S,T2⟩;exact⟨hw,.m t',p',S.tb,rfl,rfl,B,S.p,T2⟩
theorem Tr.del(T:Tr){p:bj}{h:aG}(o:T.W p h nx)(hk:k<1000)(ok:T.ok Pk k)(hl:key.length<=24):
 aA prog T.agj [.ptr T.tb 0,bR key] h nx λw h' nx'=>(∃(old:ba) (lS:Bool),w= .dN [bR old,bQ lS])/\jJ Pk k nx T p h h' nx':=by
 cases T with
 |b t=>obtain⟨d,hd,hT⟩:=ok;refine(alq t p h nx o hT ah key).mono _ ?_;rintro w h' nx' ⟨t',old,lS,rfl,B,S,T2⟩;exact⟨⟨_,_,rfl⟩,.b t',p,S.tb,rfl,rfl,B,S.p,d,ah,T2⟩
 |a t=>obtain⟨pa,par,I⟩:=(ok:LQ Pk t);refine(amB t p h nx o I key hl).mono _ ?_;rintro w h' nx' ⟨hw,t',p',B,E,S,T2⟩;exact⟨hw,.a t',p',E.tb,rfl,rfl,B,S,T2⟩
 |m t=>refine(alZ t p h nx o ok key ah).mono _ ?_;rintro w h' nx' ⟨hw,t',B,S,T2⟩;exact⟨hw,.m t',p,S.tb,rfl,rfl,B,S.p,T2⟩
theorem Tr.get(T:Tr){p:bj}{h:aG}(o:T.W p h nx)(ok:T.ok Pk k)(hl:key.length<=24):
 aA prog T.afW [.ptr T.tb 0,bR key,.g .nilFunc] h nx λw h' nx'=>(∃(old:ba) (lS again:Bool),w= .dN [bR old,bQ lS,bQ again])/\h'=h/\nx'=nx:=by
 cases T with
 |b t=>obtain⟨d,hd,hT⟩:=ok;exact ano t h nx (BW.tk o) hT key
 |a t=>obtain⟨pa,par,I⟩:=(ok:LQ Pk t);exact ame t h nx (AW.tk o) I key hl
 |m t=>obtain⟨_,_,_,_,_,I⟩:=(ok:U4 Pk t);exact alp t h nx (MW.tk o) I key ah
theorem Tr.ahv(T:Tr){p:bj}{h:aG}(o:T.W p h nx)(ok:T.ok Pk k):
 aA prog T.afE [.ptr T.tb 0] h nx (dr (ze (T.all Pk)) h nx):=by
 cases T with
 |b t=>have o:BW t p h nx:=o;obtain⟨d,_,hT⟩:=ok;obtain⟨lo,lv,s,g,n,j,I,h1,h2,h3,h4,h5,_⟩:=Bl.abw hT;have:=o.vW;exact akS t h nx o.tk I h1 h2 h3 h4 (show(t.all Pk).length<60000 from ah)
 |a t=>obtain⟨_,_,I⟩:=(ok:LQ Pk t);exact alv t p h nx o I
 |m t=>obtain⟨_,_,_,_,_,I⟩:=(ok:U4 Pk t);exact akV t p h nx o I
end
variable{b:Nat}
theorem ajr{ev ps}:fy prog ev 46 2 ps=fG 5 2 (fo (λi=>some (i*1,1)) ev ps [u8 0,u8 0]):=ql vP PC Vt bN rfl
theorem afs{ev ps}:fy prog ev 46 3 ps=fG 5 3 (fo (λi=>some (i*1,1)) ev ps [u8 0,u8 0,u8 0]):=ql vP PC Vt bN rfl
theorem akz{ev ps}:fy prog ev 32 1 ps=fG 78 1 (fo (λi=>some (i*1,1)) ev ps [.g (.pointer none)]):=ql Ki JJ Ts bN rfl
theorem Ml:dy prog 129=some [.int .u8 0,.int .i64 0,.int .u8 0,.string ⟨#[]⟩,.string ⟨#[]⟩,.string ⟨#[]⟩,.bool false,.bool false,.slice none 0 0,.int .i64 0,.bool false,.string ⟨#[]⟩,.string ⟨#[]⟩]:=aL
abbrev evZ:List AV:=[u8 0,int 0,u8 0,bR [],bR [],bR [],bQ false,bQ false,.g (.slice none 0 0),int 0,bQ false,bR [],bR []]
theorem agQ{ev ps}:fy prog ev 33 1 ps=fG 129 1 (fo (λi=>some (i*13,13)) ev ps evZ):=ql W9 Ll Ml bN rfl
theorem aiV{ev ps}:fy prog ev 33 2 ps=fG 129 2 (fo (λi=>some (i*13,13)) ev ps (evZ++evZ)):=ql W9 Ll Ml bN rfl
theorem al6{ev ps}:fy prog ev 58 1 ps=fG 131 1 (fo (λi=>some (i*3,3)) ev ps [bR [],.g (.slice none 0 0),u8 0]):=ql adq SO Q6 bN rfl
section
variable{h:aG}{s x:AV}
theorem alg:gj prog h #[32,32] s x=tw h 78 1 (dV h 1 x) s:=uy Ki JJ YT Ts bN
theorem alc:gj prog h #[33,33] s x=tw h 129 13 (dV h 13 x) s:=uy W9 Ll abe Ml bN
theorem anJ:gj prog h #[58,58] s x=tw h 131 3 (dV h 3 x) s:=uy adq SO abE Q6 bN
end
theorem ajP{o:Nat}:kX prog 212 (.ptr b o)=some (.val (.kB 212 (.ptr b o))):=by simp[kX]
theorem ahz{o:Nat}:kX prog 215 (.ptr b o)=some (.val (.kB 215 (.ptr b o))):=by simp[kX]
theorem af3{o:Nat}:kX prog 218 (.ptr b o)=some (.val (.kB 218 (.ptr b o))):=by simp[kX]
attribute[go_sem] ajP ahz af3 ajr afs akz Ml agQ aiV al6 alg alc anJ
variable{H h2 h3:aG}{T:Tr}{dU ib nx3:Nat}
abbrev i6(e:Int):AV:= .g (.int .i64 e)
def lrg(k v:ba):Bool:=decide (24<k.length)||decide (32<v.length)
theorem Y7(k v:ba):bo 151 [bR k,bR v] (bQ (lrg k v)):=by
 refine bo.ac 2 T0 func151 λh nx=>?_;unfold lrg;by_cases h1:24<k.length;.have jj:(24:Int)<(k.length:Int):=ah;simp+decide-dsimp only[f151,go_sem,jj];exact .dT .refl .cA (by simp[h1])
 .have jj:¬(24:Int)<(k.length:Int):=ah;by_cases h2:32<v.length;.have nU:(32:Int)<(v.length:Int):=ah;simp+decide-dsimp only[f151,go_sem,jj,nU];exact .dT .refl .cA (by simp[h1,h2])
  .have nU:¬(32:Int)<(v.length:Int):=ah;simp+decide-dsimp only[f151,go_sem,jj,nU];exact .dT .refl .cA (by simp[h1,h2])
theorem RF(b:Bool)(e:Int):bo 150 [bQ b,i6 e] (i6 (if b then e else 0)):=by refine bo.ac 2 T0 func150 λh nx=>?_;cases b<;>simp+decide-dsimp only[f150,go_sem]<;>exact .dT .refl .cA rfl
structure Jd where
 kind:Nat
 key:ba
 val:ba
 old:ba
 lS:Bool
 after:Bool
 ws:AV
abbrev Jd.cells(o:Jd):List AV:=[u8 (o.kind:Nat),bR o.key,bR o.val,bR o.old,bQ o.lS,bQ o.after,o.ws]
abbrev Jd.av(o:Jd):AV:= .agg o.cells
structure Jd.R(o:Jd):Prop where
 k:o.kind=2\/o.kind=3\/o.kind=4
 c:o.ws.cy=true
 c2:o.ws.cells=some [o.ws]
def A7(o:Jd):Bool:=if o.kind=3 then lrg o.key []else lrg o.key o.val||(decide (o.kind=4)&&o.lS&&lrg [] o.old)
theorem alR(o:Jd)(R:o.R):bo 137 [o.av] (i6 (if A7 o then 7 else 0)):=by
 refine bo.ac 1 T0 func137 λh nx=>?_;obtain⟨kind,key,val,old,lS,after,ws⟩:=o;have hc:=R.c;have hk:=R.k;dsimp only at hc hk;unfold A7;rcases hk with rfl|rfl|rfl
 .simp+decide-dsimp only[f137,go_sem];refine aZ (Y7 key val) ?_;simp+decide-dsimp only[go_sem];refine aZ (RF _ 7) ?_;simp+decide-dsimp only[go_sem];exact .dT (jh) .cA bL
 .simp+decide-dsimp only[f137,go_sem];refine aZ (Y7 key []) ?_;simp+decide-dsimp only[go_sem];refine aZ (RF _ 7) ?_;simp+decide-dsimp only[go_sem];exact .dT (jh) .cA bL
 .simp+decide-dsimp only[f137,go_sem];refine aZ (Y7 key val) ?_;cases hl:lrg key val with
  |true=>simp+decide-dsimp only[go_sem];refine aZ (RF _ 7) ?_;simp+decide-dsimp only[go_sem];exact .dT (jh) .cA bL
  |false=>
   cases lS with
   |false=>simp+decide-dsimp only[go_sem];refine aZ (RF _ 7) ?_;simp+decide-dsimp only[go_sem];exact .dT (jh) .cA bL
   |true=>simp+decide-dsimp only[go_sem];refine aZ (Y7 [] old) ?_;simp+decide-dsimp only[go_sem];refine aZ (RF _ 7) ?_;simp+decide-dsimp only[go_sem];exact .dT (jh) .cA bL
theorem Hq{o:Jd}(h:A7 o=false):o.key.length<=24:=by
 unfold A7 lrg at h;split at h;.have:=(kQ.1 h).1;have:=qe this;omega
 .have:=(kQ.1 (kQ.1 h).1).1;have:=qe this;omega
abbrev ks3:List AV:=[u8 2,u8 3,u8 4]
theorem akO(hk:k=2\/k=3\/k=4)(hb:au h b=some (.cells ks3 5)):aA prog 149 [.sl b 0 3 3,u8 (k:Nat)] h nx (dr (int (k-2:Nat)) h nx):=by
 refine aA.pc 2 T0 func149 ?_;simp+decide-dsimp only[f149,go_sem];refine cL _ _ (λm s h' nx'=>∃i,i<=k-2/\m=k-2-i/\ao s 0= .sl b 0 3 3/\ao s 1=u8 (k:Nat)/\ao s 7=int 3/\ao s 8=int i/\h'=h/\nx<=nx') (n:=k-2) ?_ ?_;.simp+decide-dsimp only[go_sem];exact⟨0,aY _,rfl,rfl,rfl⟩
 rintro m s h' nx' ⟨i,hi,rfl,s0,s1,s7,s8,rfl,l1⟩;have hc:(k=2/\i=0)\/(k=3/\i=0)\/(k=3/\i=1)\/(k=4/\i=0)\/(k=4/\i=1)\/(k=4/\i=2):=ah;rcases hc with⟨rfl,rfl⟩|⟨rfl,rfl⟩|⟨rfl,rfl⟩|⟨rfl,rfl⟩|⟨rfl,rfl⟩|⟨rfl,rfl⟩
 all_goals simp+decide-dsimp only[go_sem,s0,s1,s7,s8,hb,reduceAdd]
 .exact .dT .refl .cA rfl
 .exact⟨0,bN,1,bN,rfl,rfl,ah⟩
 .exact .dT .refl .cA rfl
 .exact⟨1,bN,1,bN,rfl,rfl,ah⟩
 .exact⟨0,bN,2,bN,rfl,rfl,ah⟩
 .exact .dT .refl .cA rfl
theorem alB(hk:k=2\/k=3\/k=4)(hb:au h b=some (.cells ks3 5)):aA prog 136 [.sl b 0 3 3,u8 (k:Nat)] h nx (dr (bQ true) h nx):=by refine aA.pc 2 T0 func136 ?_;simp+decide-dsimp only[f136,go_sem];refine bm (akO hk hb) ?_;have hg:(0:Int)<=((k-2:Nat):Int):=gZ _;simp+decide-dsimp only[go_sem,hg];exact .dT .refl .cA rfl
abbrev Cu(T:Tr)(k:Nat):List AV:=[.kB T.ty (.ptr T.tb 0),u8 (k:Nat),.g (.int .u32 0),.g (.int .i32 0),.g (.int .u32 0),bQ false]
theorem Po(l:List Pr):sB nx (ze l):=by show gU nx _;exact gU.mem λy hy=>by obtain⟨x,_,hx⟩:=dp.1 hy;exact EM x y hx
theorem a76(T:Tr)(k:Nat)(hb:au h ib=some (.cells (Cu T k) 175)):aA prog 76 [.ptr ib 0] h nx (dr (bQ false) h nx):=by refine aA.pc 1 T0 func76 ?_;simp+decide-dsimp only[f76,go_sem,hb];exact .dT .refl .cA rfl
theorem a74(T:Tr)(k:Nat)(hb:au h ib=some (.cells (Cu T k) 175)):aA prog 74 [.ptr ib 0] h nx (dr (i6 0) h nx):=by refine aA.pc 1 T0 func74 ?_;simp+decide-dsimp only[f74,go_sem];refine bm (a76 T k hb) ?_;simp+decide-dsimp only[go_sem,hb];exact .dT .refl .cA rfl
theorem a36(T:Tr)(k:Nat)(hb:au h ib=some (.cells (Cu T k) 175)):aA prog 36 [.ptr ib 0] h nx (dr (u8 (k:Nat)) h nx):=by refine aA.pc 1 T0 func36 ?_;simp+decide-dsimp only[f36,go_sem];refine bm (a76 T k hb) ?_;simp+decide-dsimp only[go_sem,hb];exact .dT .refl .cA rfl
theorem a34(T:Tr)(k:Nat)(hb:au h ib=some (.cells (Cu T k) 175)){p:bj}(o:T.W p h nx){q:Nat}(ok:T.ok Pk q):aA prog 34 [.ptr ib 0] h nx (dr (ze (T.all Pk)) h nx):=by refine aA.pc 1 T0 func34 ?_;simp+decide-dsimp only[f34,go_sem];refine bm (a74 T k hb) ?_;simp+decide-dsimp only[go_sem,hb,T.afq];refine bm (T.ahv o ok) ?_;simp+decide-dsimp only[go_sem];exact .dT .refl (.cQ (Po _)) rfl
theorem jJ.wrap{m:Nat}{p:bj}(o:T.W p h nx)(S:jJ Pk k m T p H h2 dU)(hs:aH nx h H)(hm:nx<=m)(hk:∀c,c<nx\/(m<=c/\c<dU)->au h3 c=au h2 c)(hn:dU<=nx3):jJ Pk k nx T p h h3 nx3:=by
 obtain⟨T',p',e1,e2,e3,W',S',J'⟩:=S;have l1:=o.pk.rY;have l2:=o.pk.ss;have l3:=o.pk.sr;refine⟨T',p',e1,e2,e3,W'.aX (λc hc=>hk c ?_) hn,⟨S'.pb,S'.gb,S'.fb,S'.fl,S'.fr,λb hb=>?_,S'.slt,λb hb g1 g2 g3 g4=>?_⟩,J'⟩
 .rcases hc with hc|hc|hc|hc
  .rcases S'.bl c hc with q|q;.exact .inl (o.lt q)
   .exact .inr ⟨q,W'.lt hc⟩
  .rw[S'.pb]at hc;left;omega
  .rw[S'.gb]at hc;left;omega
  .rw[S'.fb]at hc;left;omega
 .rcases S'.bl b hb with q|q;.exact .inl q
  .exact .inr ah
 .rw[hk b (.inl hb),S'.aX b ah g1 g2 g3 g4,hs b hb]
theorem jJ.at{m:Nat}{p:bj}(o:T.W p h nx)(S:jJ Pk k m T p H h2 dU){c:Nat}(h1:nx<=c)(Iy:c<m):au h2 c=au H c:=by obtain⟨T',p',e1,e2,e3,W',S',J'⟩:=S;have l1:=o.pk.rY;have l2:=o.pk.ss;have l3:=o.pk.sr;exact S'.aX c Iy (λe=>by have:=o.lt e;omega) ah ah ah
theorem jJ.none{p:bj}(o:T.W p h nx)(ok:T.ok Pk k)(hs:aH nx h h2)(hn:nx<=dU):jJ Pk k nx T p h h2 dU:=by
 have l1:=o.pk.rY;have l2:=o.pk.ss;have l3:=o.pk.sr;refine⟨T,p,rfl,rfl,rfl,o.aX (λc hc=>hs c ?_) hn,dA.same hs,?_⟩
 .rcases hc with hc|hc|hc|hc;.exact o.lt hc
  .omega
  .omega
  .omega
 .cases T with
  |b t=>obtain⟨d,h1,h2⟩:=ok;exact⟨d,ah,h2⟩
  |a t=>exact ok
  |m t=>exact ok
theorem Tr.W.same{p:bj}(o:T.W p h nx)(hs:aH nx h h')(hn:nx<=nx'):T.W p h' nx':=by
 have l1:=o.pk.rY;have l2:=o.pk.ss;have l3:=o.pk.sr;refine o.aX (λc hc=>hs c ?_) hn;rcases hc with hc|hc|hc|hc
 .exact o.lt hc
 .omega
 .omega
 .omega
abbrev BZ(code:Int)(found:Bool)(key val:ba):List AV:=[i6 code,bQ found,bR key,bR val]
theorem ah8(T:Tr)(kd:Nat)(hb:au h ib=some (.cells (Cu T kd) 175))(PI:ib<nx){p:bj}(o:T.W p h nx)(hk:k<1000)(ok:T.ok Pk k)(v:ba)(hp:Pk key)(hl:key.length<=24):
 aA prog 118 [.ptr ib 0,bR key,bR v] h nx λw h' nx'=>(∃(c:Int) (f:Bool) (x y:ba),w= .agg (BZ c f x y))/\jJ Pk k nx T p h h' nx':=by
 refine aA.ac 3 T0 func118 ?_;have d0:¬(ib=nx):=ah;simp+decide-dsimp only[f118,go_sem,hb,d0,T.ah6];have S0:∀o,aH nx h (aK h nx o):=λo=>aH.refl.set (an _);refine cf (T.put (o.same (S0 _) ah) hk ok v hp hl) λ_ h1 cm l1 ⟨⟨old,lS,e,e1⟩,S⟩=>?_;subst e1;have g0:=S.at o (an nx) (aW nx);rw[aj,aw rfl]at g0;by_cases he:e=0;.simp+decide-dsimp only[go_sem,g0,he,reduceAdd];exact⟨⟨_,_,_,_,rfl⟩,jJ.wrap o S (S0 _) (bz nx) (λc hc=>yL) (an _)⟩
 .simp+decide-dsimp only[go_sem,g0,he,reduceAdd];exact⟨⟨_,_,_,_,rfl⟩,jJ.wrap o S (S0 _) (bz nx) (λc hc=>yL) (an _)⟩
theorem alj(T:Tr)(kd:Nat){kb:Nat}(hb:au h ib=some (.cells (Cu T kd) 175))(PI:ib<nx)(hkb:au h kb=some (.cells ks3 5))(xT:kb<nx)(q:Jd)(R:q.R):
 aA prog 117 [.ptr ib 0,q.av,.sl kb 0 3 3] h nx (dr (i6 (if A7 q then 7 else 0)) h nx):=by
 refine aA.pc 3 T0 func117 ?_;have d0:¬(ib=nx):=ah;have d1:¬(kb=nx):=ah;have hc:=R.c;have wG:∀o,au (aK h nx o) ib=some (.cells (Cu T kd) 175):=λo=>by rw[aj,ak d0];exact hb
 have yB:∀o,au (aK h nx o) kb=some (.cells ks3 5):=λo=>by rw[aj,ak d1];exact hkb
 have e:q.av= .agg q.cells:=rfl;obtain⟨kind,key,val,old,lS,after,ws⟩:=q;simp+decide-dsimp only[f117,go_sem];refine bm (a76 T kd (wG _)) ?_;simp+decide-dsimp only[go_sem];refine bm (alB R.k (yB _)) ?_;simp+decide-dsimp only[go_sem];refine aZ (alR ⟨kind,key,val,old,lS,after,ws⟩ R) ?_;cases hr:A7 ⟨kind,key,val,old,lS,after,ws⟩with
 |true=>simp+decide-dsimp only[go_sem];exact .dT (jh) .cA rfl
 |false=>simp+decide-dsimp only[go_sem];refine bm (a74 T kd (wG _)) ?_;simp+decide-dsimp only[go_sem];exact .dT (jh) .cA rfl
def T93:Nat->cU:=λid=>if id=8 then[(z5,[],some 6),([7,8,9],[],some 10),([],[],some 11),([],[],none)]else if id=10 then[(z5,[],some 6),([7,8,9,10],[],some 11),([],[],some 12),([],[],some 13),([],[],none)]else[]
theorem a93(T:Tr)(kd:Nat)(hb:au h ib=some (.cells (Cu T kd) 175))(PI:ib<nx){p:bj}(o:T.W p h nx)(hk:k<1000)(ok:T.ok Pk k)(q:Jd)(R:q.R)(hp:A7 q=false->Pk q.key):
 aA prog 93 [.ptr ib 0,q.av] h nx λw h' nx'=>(∃(c:Int) (f:Bool) (x y:ba),w= .agg (BZ c f x y))/\jJ Pk k nx T p h h' nx':=by
 refine aA.ac 2 T93 func93 ?_;have d0:¬(ib=nx):=ah;have d1:¬(ib=nx+1):=ah;have d2:¬(nx=nx+1):=ah;have hc:=R.c;have ahW:=λ(h:aG) (nx kb:Nat) (hb:au h ib=some (.cells (Cu T kd) 175)) (PI:ib<nx) (hkb:au h kb=some (.cells ks3 5)) (xT:kb<nx)=>alj T kd hb PI hkb xT q R;have CL:= @Hq q;have qN:=R.k;obtain⟨kind,key,val,old,lS,after,ws⟩:=q;dsimp only at CL qN hp;simp+decide-dsimp only[f93,go_sem,d2];generalize hH:aK (aK (aK h nx _) (nx+1) _) (nx+1+1) _=H;have S0:aH nx h H:=by rw[<-hH];exact jh
 have g0:au H nx=some (.cells [u8 (kind:Nat),bR key,bR val,bR old,bQ lS,bQ after,ws] 40):=by rw[<-hH,aj,ak ah,aj,ak ah,aj,aw rfl]
 have g1:au H (nx+1)=some (.cells (BZ 0 false [] []) 125):=by rw[<-hH,aj,ak ah,aj,aw rfl]
 have g2:au H (nx+1+1)=some (.cells ks3 5):=by rw[<-hH,aj,aw rfl]
 clear hH;have wG:au H ib=some (.cells (Cu T kd) 175):=by rw[S0 ib PI];exact hb
 refine bm (ahW H (nx+1+1+1) (nx+1+1) wG ah g2 ah) ?_;cases hr:A7 ⟨kind,key,val,old,lS,after,ws⟩with
 |true=>simp+decide-dsimp only[go_sem,g1,reduceAdd];exact⟨⟨_,_,_,_,rfl⟩,jJ.none o ok (by(repeat' first|exact aH.refl|apply aH.fJ|(apply aH.set;rotate_left;omega));exact S0) ah⟩
 |false=>
 have hl:key.length<=24:=CL hr;replace hp:=hp hr;have o3:=o.same S0 (ah:nx<=nx+1+1+1);rcases qN with rfl|rfl|rfl
 .simp+decide-dsimp only[go_sem,g0];refine cf (ah8 T kd wG ah o3 hk ok val hp hl) λ_ h2 dU l2 ⟨⟨c,f,x,y,e1⟩,S⟩=>?_;subst e1;have k1:=S.at o (ah:nx<=nx+1) ah;rw[g1]at k1;simp+decide-dsimp only[go_sem,k1,reduceAdd];exact⟨⟨_,_,_,_,rfl⟩,jJ.wrap o S S0 ah (λc hc=>yL) (an _)⟩
 .simp+decide-dsimp only[go_sem,T93,g0,wG,T.agU];generalize hq:nx+1+1+1+Array.size _=nq;have rm:nx+3<=nq:=ah;clear hq;have o4:=o.same S0 (ah:nx<=nq);refine cf (T.del o4 hk ok hl) λ_ h2 dU l2 ⟨⟨x,f,e1⟩,S⟩=>?_;subst e1;have k1:=S.at o (ah:nx<=nx+1) ah;rw[g1]at k1;simp+decide-dsimp only[go_sem,k1,reduceAdd];exact⟨⟨_,_,_,_,rfl⟩,jJ.wrap o S S0 ah (λc hc=>yL) ah⟩
 .simp+decide-dsimp only[go_sem,T93,g0,wG,T.aif];generalize hq:nx+1+1+1+Array.size _=nq;have rm:nx+3<=nq:=ah;clear hq;have o4:=o.same S0 (ah:nx<=nq);refine cf (T.get o4 ok hl) λ_ h2 dU l2 ⟨⟨adf,NL,again,e1⟩,e2,e3⟩=>?_;subst e1;replace e2:=e2.symm;replace e3:=e3.symm;subst e2;subst e3;have d3:¬(nx=nx+1):=ah;have Qn:(NL=true/\lS=false)\/(NL=false/\lS=true)\/(NL=true/\lS=true/\adf≠old)\/(NL=true/\lS=true/\adf=old)\/(NL=false/\lS=false):=by by_cases hg:adf=old<;>cases NL<;>cases lS<;>simp[hg]
  rcases Qn with⟨rfl,rfl⟩|⟨rfl,rfl⟩|⟨rfl,rfl,hg⟩|⟨rfl,rfl,rfl⟩|⟨rfl,rfl⟩;.simp+decide-dsimp only[go_sem,g0,g1,xW,fj,fB,reduceAdd];exact⟨⟨_,_,_,_,rfl⟩,jJ.none o ok (by(repeat' first|exact aH.refl|apply aH.fJ|(apply aH.set;rotate_left;omega));exact S0) ah⟩
  .simp+decide-dsimp only[go_sem,g0,g1,DX,fj,fB,reduceAdd];exact⟨⟨_,_,_,_,rfl⟩,jJ.none o ok (by(repeat' first|exact aH.refl|apply aH.fJ|(apply aH.set;rotate_left;omega));exact S0) ah⟩
  .simp+decide-dsimp only[go_sem,g0,g1,hg,xW,fj,fB,reduceAdd];exact⟨⟨_,_,_,_,rfl⟩,jJ.none o ok (by(repeat' first|exact aH.refl|apply aH.fJ|(apply aH.set;rotate_left;omega));exact S0) ah⟩
  all_goals
   simp+decide-dsimp only[go_sem,g0,xW,DX,fj,fB];refine cf (ah8 T kd wG ah o4 hk ok val hp hl) λ_ h2 dU l2 ⟨⟨c,f,x,y,e1⟩,S⟩=>?_;subst e1;have k1:=S.at o (ah:nx<=nx+1) ah;rw[g1]at k1;have d4:¬(nx+1=dU):=ah;by_cases hcz:c=0;.simp+decide-dsimp only[go_sem,k1,hcz,d4,fj,reduceAdd];exact⟨⟨_,_,_,_,rfl⟩,jJ.wrap o S S0 ah (λc hc=>by rw[aj,ak ah,aj,ak ah,aj,ak ah]) ah⟩
   .simp+decide-dsimp only[go_sem,k1,hcz,d4,fB,reduceAdd];exact⟨⟨_,_,_,_,rfl⟩,jJ.wrap o S S0 ah (λc hc=>by rw[aj,ak ah,aj,ak ah,aj,ak ah]) ah⟩
theorem a83(kd:Nat)(qN:kd=1\/kd=2\/kd=3)(p:bj)(h:aG)(nx:Nat)(sg:p.ok h nx)(hc:p.fr.count true≠0)(Pk:ba->Prop):
 aA prog 83 [u8 (kd:Nat),.ptr p.pb 0] h nx λw h' nx'=>∃(T:Tr) (p':bj) (ib:Nat),w= .dN [.ptr ib 0,i6 0]/\au h' ib=some (.cells (Cu T kd) 175)/\nx<=ib/\ib<nx'/\¬T.own ib/\T.W p' h' nx'/\T.kind=kd/\T.ok Pk 0/\dA nx (λ_=>False) T.own (λ_=>False) T.sl p p' h h'/\p'.fr.count true+1=p.fr.count true:=by
 refine aA.ac 2 T0 func83 ?_;have l1:=sg.rY;have l2:=sg.ss;have l3:=sg.sr;have fin:∀(T:Tr) (p':bj) (h':aG) (nx':Nat) (o:AO),nx<=nx'->T.W p' h' nx'->dA nx (λ_=>False) T.own (λ_=>False) T.sl p p' h h'->o= .cells (Cu T kd) 175->au (aK h' nx' o) nx'=some (.cells (Cu T kd) 175)/\¬T.own nx'/\T.W p' (aK h' nx' o) (nx'+1)/\dA nx (λ_=>False) T.own (λ_=>False) T.sl p p' h (aK h' nx' o):=by intro T p' h' nx' o hn B S e;subst e;refine⟨gl,λhb=>by have:=B.lt hb;omega,B.same (aH.refl.set (an _)) (bz _),⟨S.pb,S.gb,S.fb,S.fl,S.fr,S.bl,S.slt,λb hb g1 g2 g3 g4=>by rw[aj,ak ah];exact S.aX b hb g1 g2 g3 g4⟩⟩
 rcases qN with rfl|rfl|rfl;.simp+decide-dsimp only[f83,go_sem];refine cf (alb p h nx sg hc Pk) λ_ h1 cm PJ ⟨t,p',e1,B,S,C,T⟩=>?_;subst e1;simp+decide-dsimp only[go_sem];obtain⟨f1,f2,f3,f4⟩:=fin (.b t) p' h1 cm _ PJ B S rfl;exact⟨.b t,p',cm,rfl,by rw[aw rfl];rfl,PJ,aW _,f2,f3,rfl,⟨0,an _,T⟩,f4,C⟩
 .simp+decide-dsimp only[f83,go_sem];refine cf (alh p h nx sg hc Pk) λ_ h1 cm PJ ⟨t,p',e1,B,S,C,T⟩=>?_;subst e1;simp+decide-dsimp only[go_sem];obtain⟨f1,f2,f3,f4⟩:=fin (.a t) p' h1 cm _ PJ B S rfl;exact⟨.a t,p',cm,rfl,by rw[aw rfl];rfl,PJ,aW _,f2,f3,rfl,T,f4,C⟩
 .simp+decide-dsimp only[f83,go_sem];refine cf (amZ p h nx sg hc) λ_ h1 cm PJ ⟨t,p',e1,B,S,C,e2⟩=>?_;subst e1;simp+decide-dsimp only[go_sem];obtain⟨f1,f2,f3,f4⟩:=fin (.m t) p' h1 cm _ PJ B S rfl;have T:U4 Pk t:=⟨_,_,_,_,_,by rw[e2];exact MI.new Pk t.aO⟩;exact⟨.m t,p',cm,rfl,by rw[aw rfl];rfl,PJ,aW _,f2,f3,rfl,T,f4,C⟩
structure Pt where
 xb:Nat
 ib:Nat
 lo:ba
 hi:ba
 last:Bool
 kd:Nat
 w:Nat
 rd:Int
 wr:Int
 T:Tr
abbrev Pt.cells(x:Pt):List AV:=[bR x.lo,bR x.hi,bQ x.last,.ptr x.ib 0,u64 (x.w:Nat),.g .nilFunc,i6 x.rd,i6 x.wr]
def Pt.has(x:Pt)(k:ba):Bool:= !decide (k<x.lo)&&(x.last||decide (k<x.hi))
def Pt.pk(x:Pt)(k:ba):Prop:=x.has k=true/\k.length<=24
section
variable(x:Pt){h:aG}{nx:Nat}(hx:au h x.xb=some (.cells x.cells 160))
include hx
theorem a73:aA prog 73 [.ptr x.xb 0] h nx (dr (bQ false) h nx):=by refine aA.pc 1 T0 func73 ?_;simp+decide-dsimp only[f73,go_sem,hx];exact .dT .refl .cA rfl
theorem a58:aA prog 58 [.ptr x.xb 0] h nx (dr (bR x.lo) h nx):=by refine aA.pc 1 T0 func58 ?_;simp+decide-dsimp only[f58,go_sem];refine bm (a73 x hx) ?_;simp+decide-dsimp only[go_sem,hx];exact .dT .refl .bR rfl
theorem a51:aA prog 51 [.ptr x.xb 0] h nx (dr (.ptr x.xb 4) h nx):=by refine aA.ac 1 T0 func51 ?_;simp+decide-dsimp only[f51,go_sem];refine bm (a73 x hx) ?_;simp+decide-dsimp only[go_sem];exact⟨rfl,rfl,rfl⟩
theorem a33:aA prog 33 [.ptr x.xb 0] h nx (dr (.ptr x.ib 0) h nx):=by refine aA.ac 1 T0 func33 ?_;simp+decide-dsimp only[f33,go_sem];refine bm (a73 x hx) ?_;simp+decide-dsimp only[go_sem,hx];exact⟨rfl,rfl,rfl⟩
theorem a67(k:ba):aA prog 67 [.ptr x.xb 0,bR k] h nx (dr (bQ (x.has k)) h nx):=by
 refine aA.pc 2 T0 func67 ?_;simp+decide-dsimp only[f67,go_sem];refine bm (a73 x hx) ?_;simp+decide-dsimp only[go_sem,hx];refine aZ (a82 x.lo k) ?_;simp+decide-dsimp only[go_sem];unfold Pt.has;by_cases h1:k<x.lo;.have jj:=aM h1;simp+decide-dsimp only[go_sem,jj];exact .dT .refl .cA rfl
 .have jj:=aU h1;cases hl:x.last with
  |true=>simp+decide-dsimp only[go_sem,hx,jj,hl];exact .dT .refl .cA rfl
  |false=>simp+decide-dsimp only[go_sem,hx,jj,hl];refine aZ (a82 k x.hi) ?_;simp+decide-dsimp only[go_sem,jj];exact .dT .refl .cA rfl
theorem a92(k:ba):aA prog 92 [.ptr x.xb 0,bR k] h nx (dr (bQ (decide (k.length<=24)&& !x.has k)) h nx):=by
 refine aA.pc 2 T0 func92 ?_;by_cases h1:k.length<=24;.have jj:(k.length:Int)<=24:=ah;have h2:=aM h1;simp+decide-dsimp only[f92,go_sem,jj];refine bm (a67 x hx k) ?_;simp+decide-dsimp only[go_sem];exact .dT .refl .cA (by rw[h2];rfl)
 .have jj:¬(k.length:Int)<=24:=ah;have h2:=aU h1;simp+decide-dsimp only[f92,go_sem,jj];exact .dT .refl .cA (by rw[h2];rfl)
end
def T53:Nat->cU:=λid=>if id=6 then[([0,1,2,3,4,6],[3,4],some 5),([],[6],some 7),([],[],none)]else if id=12 then[(z4,[],some 5),([],[],none)]else[]
set_option maxHeartbeats 1000000 in
theorem a53(x:Pt)(hx:au h x.xb=some (.cells x.cells 160))(hxl:x.xb<nx)(hi:au h x.ib=some (.cells (Cu x.T x.kd) 175))(mV:x.ib<nx)(cx:x.ib≠x.xb){p:bj}(o:x.T.W p h nx)(mS:¬x.T.own x.xb)(hnp:x.xb≠p.pb/\x.xb≠p.gb/\x.xb≠p.fb)(hk:k<1000)(ok:x.T.ok x.pk k)(q:Jd)(R:q.R):
 aA prog 53 [.ptr x.xb 0,q.av] h nx λw h' nx'=>(∃(c:Int) (f:Bool) (a b:ba),w= .agg (BZ c f a b))/\∃wr,jJ x.pk k nx x.T p (aK h x.xb (.cells ({x with wr:=wr}:Pt).cells 160)) h' nx':=by
 refine aA.ac 2 T53 func53 ?_;have d0:¬(x.xb=nx):=ah;have d1:¬(x.xb=nx+1):=ah;have d2:¬(nx=nx+1):=ah;have d3:¬(nx=x.xb):=ah;have d4:¬(nx+1=x.xb):=ah;have hc:=R.c;obtain⟨kind,key,val,old,lS,after,ws⟩:=q;have PB:∀o1 o2,au (aK (aK h nx o1) (nx+1) o2) x.xb=some (.cells x.cells 160):=λo1 o2=>by rw[aj,ak d1,aj,ak d0];exact hx
 simp+decide-dsimp only[f53,go_sem];refine bm (a73 x (PB _ _)) ?_;simp+decide-dsimp only[go_sem,hx,d0,d1,d2,d3];generalize hA:aK (aK (aK h nx _) (nx+1) _) x.xb _=A;obtain⟨wr,hwr⟩:∃wr,wr=cF .i64 (x.wr+1):=⟨_,rfl⟩;rw[<-hwr]at hA;generalize hS:aK h x.xb (.cells ({x with wr:=wr}:Pt).cells 160)=S;have SA:aH nx S A:=λc hc=>by
  have e1:¬c=nx:=ah;have e2:¬c=nx+1:=ah;rw[<-hS,<-hA];by_cases e:c=x.xb;.simp only[aj,aw e]
  .simp only[aj,ak e,ak e1,ak e2]
 have a0:au A nx=some (.cells [u8 (kind:Nat),bR key,bR val,bR old,bQ lS,bQ after,ws] 40):=by rw[<-hA,aj,ak d3,aj,ak d2,aj,aw rfl]
 have a1:au A (nx+1)=some (.cells (BZ 0 false [] []) 125):=by rw[<-hA,aj,ak d4,aj,aw rfl]
 have a2:au A x.xb=some (.cells ({x with wr:=wr}:Pt).cells 160):=by rw[<-hA,aj,aw rfl]
 have a3:au A x.ib=some (.cells (Cu x.T x.kd) 175):=by rw[<-hA,aj,ak cx,aj,ak ah,aj,ak ah];exact hi
 clear hA;have oS:x.T.W p S nx:=o.aX (λc hc=>by
  rw[<-hS,aj,ak];rcases hc with hc|hc|hc|hc
  .exact λe=>mS (e▸hc)
  .exact λe=>hnp.1 (e.symm.trans hc)
  .exact λe=>hnp.2.1 (e.symm.trans hc)
  .exact λe=>hnp.2.2 (e.symm.trans hc)) (an _)
 have oA:x.T.W p A (nx+1+1):=oS.same SA ah;refine bm (a92 {x with wr:=wr} a2 key) ?_;have fin:∀h' nx',aH nx S h'->nx<=nx'->∃wr,jJ x.pk k nx x.T p (aK h x.xb (.cells ({x with wr:=wr}:Pt).cells 160)) h' nx':=λh' nx' hs hn=>⟨wr,by rw[hS];exact jJ.none oS ok hs hn⟩;have ahB:∀y,({x with wr:=wr}:Pt).has y=x.has y:=λy=>rfl;by_cases VF:key.length<=24/\x.has key=false
 .have ho:(decide (key.length<=24)&& !({x with wr:=wr}:Pt).has key)=true:=by rw[ahB,aM VF.1,VF.2];rfl
  rw[ho];simp+decide-dsimp only[go_sem,a1,reduceAdd];exact⟨⟨_,_,_,_,rfl⟩,fin _ _ (by(repeat' first|exact aH.refl|apply aH.fJ|(apply aH.set;rotate_left;omega));exact SA) ah⟩
 .have ho:(decide (key.length<=24)&& !({x with wr:=wr}:Pt).has key)=false:=by
   rw[ahB];by_cases h1:key.length<=24
   .cases h2:x.has key with
    |true=>simp
    |false=>exact absurd ⟨h1,h2⟩ VF
   .simp[h1]
  rw[ho];have d5:¬(x.xb=nx+1+1+6):=ah;have d6:¬(nx=nx+1+1+6):=ah;have d7:¬(nx+1=nx+1+1+6):=ah;simp+decide-dsimp only[go_sem,T53,a0,a2,d5,d6];generalize hq:nx+1+1+Array.size _=nq;have rm:nx+1+1+7<=nq:=by rw[<-hq];exact eI bN _
  clear hq;generalize hB:aK A (nx+1+1+6) _=B;have SB:aH (nx+2) A B:=by rw[<-hB];exact aH.refl.set ah
  have b0:au B nx=some (.cells [u8 (kind:Nat),bR key,bR val,bR old,bQ lS,bQ after,ws] 40):=by rw[SB _ ah];exact a0
  have b1:au B (nx+1)=some (.cells (BZ 0 false [] []) 125):=by rw[SB _ ah];exact a1
  have b2:au B x.xb=some (.cells ({x with wr:=wr}:Pt).cells 160):=by rw[SB _ ah];exact a2
  have b3:au B x.ib=some (.cells (Cu x.T x.kd) 175):=by rw[SB _ ah];exact a3
  have b4:au B (nx+1+1+6)=some (.cells (BZ 0 false [] []) 125):=by rw[<-hB,aj,aw rfl]
  clear hB;have SB2:aH nx S B:=λc hc=>by rw[SB c ah];exact SA c hc
  have oB:x.T.W p B nq:=oS.same SB2 ah;refine cf (a93 x.T x.kd b3 ah oB hk ok ⟨kind,key,val,old,lS,after,ws⟩ R (λhr=>by
   have hl:=Hq hr;cases h2:x.has key with
   |true=>exact⟨h2,hl⟩
   |false=>exact absurd ⟨hl,h2⟩ VF)) λ_ h2 dU l2 ⟨⟨c,f,u,y,e1⟩,TS⟩=>?_
  subst e1;have k0:=TS.at oS (an nx) ah;rw[b0]at k0;have k1:=TS.at oS (ah:nx<=nx+1) ah;rw[b1]at k1;have k4:=TS.at oS (ah:nx<=nx+1+1+6) ah;rw[b4]at k4;have k2:au h2 x.xb=some (.cells ({x with wr:=wr}:Pt).cells 160):=by obtain⟨_,_,_,_,_,_,S',_⟩:=TS;rw[S'.aX x.xb ah mS hnp.1 hnp.2.1 hnp.2.2];exact b2
  have d8:¬(nx+1+1+6=nx+1):=ah;by_cases hcz:c=0
  .by_cases yB:kind=2;.simp+decide-dsimp only[go_sem,k0,k1,k2,k4,d5,d7,hcz,yB,reduceAdd];exact⟨⟨_,_,_,_,rfl⟩,wr,by rw[hS];exact jJ.wrap oS TS SB2 ah (λc hc=>by rw[aj,ak ah,aj,ak ah]) ah⟩
   .have ag4:¬(((kind:Nat):Int)=2):=ah;cases f;.simp+decide-dsimp only[go_sem,k0,k1,k4,d7,hcz,ag4,reduceAdd];exact⟨⟨_,_,_,_,rfl⟩,wr,by rw[hS];exact jJ.wrap oS TS SB2 ah (λc hc=>by rw[aj,ak ah,aj,ak ah]) ah⟩
    .simp+decide-dsimp only[go_sem,k0,k1,k2,k4,d5,d7,hcz,ag4,reduceAdd];exact⟨⟨_,_,_,_,rfl⟩,wr,by rw[hS];exact jJ.wrap oS TS SB2 ah (λc hc=>by rw[aj,ak ah,aj,ak ah]) ah⟩
  .simp+decide-dsimp only[go_sem,k1,k4,d7,hcz,reduceAdd];exact⟨⟨_,_,_,_,rfl⟩,wr,by rw[hS];exact jJ.wrap oS TS SB2 ah (λc hc=>by rw[aj,ak ah,aj,ak ah]) ah⟩
variable{K:AV->aG->Nat->Prop}{args:List AV}
theorem nZ{r:AV}{h:aG}{nx:Nat}(hc:aA prog f args h nx (dr r h2 nx)){k:Kp K}(hk:K r h2 nx):Bu prog f args h nx K k:=
 hc.mono _ λ_ _ _ ⟨a,b,c⟩=>by subst a;subst b;subst c;exact hk
theorem Zx(n:Nat)(h:n<1000):(4*n)&&&3=0/\(4*n)|||1=4*n+1/\(4*n+1)&&&1=1/\(4*n+1)&&&2=0:=by
 have a3:∀x:Nat,x&&&3=x%4:=λx=>PE x 2;have a1:∀x:Nat,x&&&1=x%2:=λx=>Nat.and_one_is_mod x;refine⟨by rw[a3];omega,?_,by rw[a1];omega,?_⟩;.have:=Zo (i:=2) (b:=1) bN n;rw[show 2^2*n+1=4*n+1 from rfl]at this;exact this.symm
 .have:=Zo (i:=2) (b:=1) bN n;rw[show 2^2*n+1=4*n+1 from rfl]at this;rw[this,Nat.and_or_distrib_right];have b1:(1&&&2:Nat)=0:=rfl;have b2:2^2*n&&&2=0:=by
   have:2^2*n&&&2=(2^2*n&&&3)&&&2:=by rw[Nat.and_assoc,show(3&&&2:Nat)=2 from rfl]
   rw[this,a3,show 2^2*n%4=0 from ah];rfl
  rw[b1,b2];rfl
section
variable(x:Pt){h:aG}{nx:Nat}(hx:au h x.xb=some (.cells x.cells 160))
theorem ahg(hx:au h x.xb=some (.cells x.cells 160)):dt h (.load (.int .u64)) [.ptr x.xb 4]=some (.val (u64 (x.w:Nat)) h):=by
 have:cK h x.xb 4 1=some [u64 (x.w:Nat)]:=by unfold cK;rw[hx];rfl
 show xe h (.int .u64) x.xb 4=_;unfold xe;rw[this];rfl
theorem ahV(hx:au h x.xb=some (.cells x.cells 160)):dt h (.cas (.int .u64)) [.ptr x.xb 4,u64 (x.w:Nat),u64 (b:Nat)]=some (.val (bQ true) (aK h x.xb (.cells ({x with w:=b}:Pt).cells 160))):=by
 have h1:cK h x.xb 4 1=some [u64 (x.w:Nat)]:=by unfold cK;rw[hx];rfl
 have h2:eQ h x.xb 4 [u64 (b:Nat)]=some (aK h x.xb (.cells ({x with w:=b}:Pt).cells 160)):=by unfold eQ;rw[hx];rfl
 have e:dt h (.cas (.int .u64)) [.ptr x.xb 4,u64 (x.w:Nat),u64 (b:Nat)]=JM h (.int .u64) x.xb 4 (u64 (x.w:Nat)) (u64 (b:Nat)):=by unfold dt;rfl
 rw[e];unfold JM;rw[h1];simp only[eD,Ik];rw[h2];simp
include hx
theorem anb:aA prog 106 [.ptr x.xb 4] h nx (dr (u64 (x.w:Nat)) h nx):=by refine aA.ac 1 T0 func106 ?_;simp+decide-dsimp only[f106,go_sem,ahg x hx];exact⟨rfl,rfl,rfl⟩
theorem a63:aA prog 63 [.ptr x.xb 4] h nx (dr (u64 (x.w:Nat)) h nx):=by refine aA.ac 1 T0 func63 ?_;simp+decide-dsimp only[f63,go_sem];refine bm (anb x hx) ?_;simp+decide-dsimp only[go_sem];exact⟨rfl,rfl,rfl⟩
theorem ak':aA prog 116 [.ptr x.xb 4,u64 (x.w:Nat),u64 (b:Nat)] h nx (dr (bQ true) (aK h x.xb (.cells ({x with w:=b}:Pt).cells 160)) nx):=by refine aA.ac 3 T0 func116 ?_;simp+decide-dsimp only[f116,go_sem,ahV x hx];exact⟨rfl,rfl,rfl⟩
theorem a91:aA prog 91 [.ptr x.xb 4,u64 (x.w:Nat),u64 (b:Nat)] h nx (dr (bQ true) (aK h x.xb (.cells ({x with w:=b}:Pt).cells 160)) nx):=by refine aA.ac 3 T0 func91 ?_;simp+decide-dsimp only[f91,go_sem];refine nZ (ak' x hx) ?_;simp+decide-dsimp only[go_sem];exact⟨rfl,rfl,rfl⟩
end
section
variable{n:Nat}(hn:n<1000)
include hn
theorem alS:bo 115 [u64 (4*n:Nat)] (bQ true):=by
 refine bo.ac 1 T0 func115 λh nx=>?_;have e:∀{h t x y},cZ prog h .and t x y (u64 (4*n:Nat)) (u64 3)=some (u64 0):=λ{h t x y}=>by have:=zZ (h:=h) (P:=prog) (t:=t) (x:=x) (y:=y) (a:=4*n) (b:=3) ah bN;rw[(Zx n hn).1]at this;exact this
 simp+decide-dsimp only[f115,go_sem,e];exact .dT .refl .cA rfl
theorem a90:bo 90 [u64 (4*n:Nat)] (.dN [u64 (4*n+1:Nat),bQ true]):=by
 refine bo.ac 1 T0 func90 λh nx=>?_;have e:∀{h t x y},cZ prog h .or t x y (u64 (4*n:Nat)) (u64 1)=some (u64 (4*n+1:Nat)):=λ{h t x y}=>by have:=Fv (h:=h) (P:=prog) (t:=t) (x:=x) (y:=y) (a:=4*n) (b:=1) ah bN;rw[(Zx n hn).2.1]at this;exact this
 simp+decide-dsimp only[f90,go_sem];refine aZ (alS hn) ?_;simp+decide-dsimp only[go_sem,e];exact .dT .refl (.jS .cA .cA) rfl
theorem a64:bo 64 [u64 (4*n+1:Nat)] (bQ true):=by
 refine bo.ac 1 T0 func64 λh nx=>?_;have e:∀{h t x y},cZ prog h .and t x y (u64 (4*n+1:Nat)) (u64 1)=some (u64 1):=λ{h t x y}=>by have:=zZ (h:=h) (P:=prog) (t:=t) (x:=x) (y:=y) (a:=4*n+1) (b:=1) ah bN;rw[(Zx n hn).2.2.1]at this;exact this
 simp+decide-dsimp only[f64,go_sem,e];exact .dT .refl .cA rfl
theorem a65:bo 65 [u64 (4*n+1:Nat)] (bQ false):=by
 refine bo.ac 1 T0 func65 λh nx=>?_;have e:∀{h t x y},cZ prog h .and t x y (u64 (4*n+1:Nat)) (u64 2)=some (u64 0):=λ{h t x y}=>by have:=zZ (h:=h) (P:=prog) (t:=t) (x:=x) (y:=y) (a:=4*n+1) (b:=2) ah bN;rw[(Zx n hn).2.2.2]at this;exact this
 simp+decide-dsimp only[f65,go_sem,e];exact .dT .refl .cA rfl
theorem a95:bo 95 [u64 (4*n+1:Nat)] (u64 (4*(n+1):Nat)):=by
 refine bo.ac 1 T0 func95 λh nx=>?_;simp+decide-dsimp only[f95,go_sem];refine aZ (a64 hn) ?_;simp+decide-dsimp only[go_sem];refine .dT .refl .cA ?_;have e1:cF .u64 (((4*n+1:Nat):Int)-1)=((4*n:Nat):Int):=by rw[lg ah ah];omega
 have e2:cF .u64 (((4*n:Nat):Int)+4)=((4*(n+1):Nat):Int):=by rw[lg ah ah];omega
 rw[e1,e2]
variable(x:Pt)(hw:x.w=4*n)(Iz:x.w=4*n+1){h:aG}{nx:Nat}(hx:au h x.xb=some (.cells x.cells 160))
include hx
include hw in
theorem a52:aA prog 52 [.ptr x.xb 4] h nx (dr (.dN [u64 (4*n:Nat),bQ true]) (aK h x.xb (.cells ({x with w:=4*n+1}:Pt).cells 160)) nx):=by
 refine aA.ac 1 T0 func52 ?_;simp+decide-dsimp only[f52,go_sem];refine cL _ _ (λm s h' nx'=>ao s 0= .ptr x.xb 4/\h'=h/\nx'=nx) (n:=0) ?_ ?_;.simp+decide-dsimp only[go_sem]
 rintro m s h' nx' ⟨s0,rfl,rfl⟩;have c1:=a63 x (nx:=nx') hx;have c2:=a91 x (nx:=nx') (b:=4*n+1) hx;rw[hw]at c1 c2;simp+decide-dsimp only[go_sem,s0];refine bm c1 ?_;simp+decide-dsimp only[go_sem];refine aZ (a90 hn) ?_;simp+decide-dsimp only[go_sem,s0];refine nZ c2 ?_;simp+decide-dsimp only[go_sem];exact⟨rfl,rfl,rfl⟩
include Iz in
theorem a94:aA prog 94 [.ptr x.xb 4,.fn 95 []] h nx (dr (bQ true) (aK h x.xb (.cells ({x with w:=4*(n+1)}:Pt).cells 160)) nx):=by
 refine aA.ac 2 T0 func94 ?_;simp+decide-dsimp only[f94,go_sem];refine cL _ _ (λm s h' nx'=>ao s 0= .ptr x.xb 4/\ao s 1= .fn 95 []/\h'=h/\nx'=nx) (n:=0) ?_ ?_;.simp+decide-dsimp only[go_sem]
 rintro m s h' nx' ⟨s0,s1,rfl,rfl⟩;have c1:=a63 x (nx:=nx') hx;have c2:=a91 x (nx:=nx') (b:=4*(n+1)) hx;rw[Iz]at c1 c2;simp+decide-dsimp only[go_sem,s0];refine bm c1 ?_;simp+decide-dsimp only[go_sem];refine aZ (a64 hn) ?_;simp+decide-dsimp only[go_sem];refine aZ (a65 hn) ?_;simp+decide-dsimp only[go_sem,s0,s1];refine aZ (a95 hn) ?_;simp+decide-dsimp only[go_sem];refine nZ c2 ?_;simp+decide-dsimp only[go_sem];exact⟨rfl,rfl,rfl⟩
include Iz in
theorem a55:aA prog 55 [.ptr x.xb 4] h nx (dr (bQ true) (aK h x.xb (.cells ({x with w:=4*(n+1)}:Pt).cells 160)) nx):=by refine aA.ac 1 T0 func55 ?_;simp+decide-dsimp only[f55,go_sem];refine nZ (a94 hn x Iz hx) ?_;simp+decide-dsimp only[go_sem];exact⟨rfl,rfl,rfl⟩
end
variable{H':aG}{N:Nat}
abbrev Pq(N:Nat):=Option (_root_.Fin N)
def cq{N:Nat}:Pq N->List AV
 |none=>[.g (.pointer none)]
 |some b=>[.ptr b.1 0]
abbrev IC{N:Nat}(l:List (Pq N)):AV:=Jm cq l
theorem sV(x:Pq N):(cq x).length=1:=by cases x<;>rfl
theorem KG(x:Pq N):(cq x).all AV.cy=true:=by cases x<;>rfl
theorem afS(l:List (Pq N)):(l.flatMap cq).length=l.length*1:=bT sV l
attribute[go_sem] afS
theorem TK(hN:N<=nx)(x:Pq N):∀y∈cq x,sB nx y:=λy hy=>by
 cases x with
 |none=>rw[aR.1 hy];trivial
 |some b=>rw[aR.1 hy];show b.1<nx;omega
theorem Le(hN:N<=nx)(l:List (Pq N)):sB nx (IC l):=by show gU nx _;exact gU.mem λy hy=>by obtain⟨x,_,hx⟩:=dp.1 hy;exact TK hN x y hx
theorem TV{e}:Zi (some (.slice e)) (.g (.slice none 0 0))=some (.val (int 0)):=aL
theorem ahT:eS prog 45 (.g (.slice none 0 0)) none (some (int 0))=some (.g (.slice none 0 0)):=aL
theorem ahc:eS prog 32 (.g (.slice none 0 0)) none (some (int 0))=some (.g (.slice none 0 0)):=aL
section
variable{h:aG}{b off len cap n:Nat}{cs:List AV}{lo hi:Option AV}{v s x:AV}{m:Int}
theorem alY:eS prog 32 (.sl b off len cap) lo hi=sv 1 b off len cap lo hi:=asl Ki JJ
theorem amu:eS prog 32 (.fz len cs) lo hi=vq 1 len cs lo hi:=asf Ki JJ
theorem akd:gj prog h #[32,3] s (int n)=tw h 78 1 (some (n,fK n [.g (.pointer none)])) s:=by exact Ah Ki JJ YT Ts bN Da
end
attribute[go_sem] TV ahT ahc alY amu akd
theorem amy(n:Nat)(hn:n<60000)(h:aG)(nx:Nat):aA prog 113 [.g (.slice none 0 0),int n] h nx λv h' nx'=>aH nx h h'/\In nx nx' v/\Own fH 9 1 h' v []:=by
 refine aA.ac 2 T0 func113 ?_;have c0:¬((n:Int)<0):=ah;have c1:cF .i64 ((n:Int)-0)=(n:Int):=pC;have c3:cF .i64 ((0:Int)-((0:Nat):Int))=0:=by rw[wrap_i64 ah ah];rfl
 by_cases hz:n=0;.subst hz;simp+decide-dsimp only[f113,go_sem];exact⟨.refl,.nil,.inl ⟨rfl,rfl⟩⟩
 .have c2:(0:Int)<(n:Int):=ah;have hz':(n==0)=false:=by simpa using hz
  have hl:(fK n [bR []]).length=n:=by
   have:∀m,(fK m [bR []]:List AV).length=m:=λm=>by
    induction m with
    |zero=>rfl
    |succ m ih=>show([bR []]++fK m [bR []]:List AV).length=m+1;rw[aq,ih];show 1+m=_;omega
   exact this n
  have hn6:n<65536:=ah;simp+decide-dsimp only[f113,go_sem,c0,c1,c2,c3,hz',hn6,hl];refine oa λcap gs g1 g2=>?_;have h0:(0:Nat)<=cap:=aY _;simp+decide-dsimp only[go_sem,h0];exact⟨aH.refl.set (an _),.sl (an _) (aW _),.inr ⟨nx,cap,_,rfl,gl,aY _,by rw[aq,hl,bc];exact g2,rfl⟩⟩
theorem alx{α:Type}(c:α->List AV)(n:Nat)(hn:n<60000)(h:aG)(nx:Nat):aA prog 114 [.g (.slice none 0 0),int n] h nx λv h' nx'=>aH nx h h'/\In nx nx' v/\Own c 78 1 h' v []:=by
 refine aA.ac 2 T0 func114 ?_;have c0:¬((n:Int)<0):=ah;have c1:cF .i64 ((n:Int)-0)=(n:Int):=pC;have c3:cF .i64 ((0:Int)-((0:Nat):Int))=0:=by rw[wrap_i64 ah ah];rfl
 by_cases hz:n=0;.subst hz;simp+decide-dsimp only[f114,go_sem];exact⟨.refl,.nil,.inl ⟨rfl,rfl⟩⟩
 .have c2:(0:Int)<(n:Int):=ah;have hz':(n==0)=false:=by simpa using hz
  have hl:(fK n [AV.g (.pointer none)]).length=n:=by
   have:∀m,(fK m [AV.g (.pointer none)]:List AV).length=m:=λm=>by
    induction m with
    |zero=>rfl
    |succ m ih=>show([.g (.pointer none)]++fK m [AV.g (.pointer none)]:List AV).length=m+1;rw[aq,ih];show 1+m=_;omega
   exact this n
  have hn6:n<65536:=ah;simp+decide-dsimp only[f114,go_sem,c0,c1,c2,c3,hz',hn6,hl];refine oa λcap gs g1 g2=>?_;have h0:(0:Nat)<=cap:=aY _;simp+decide-dsimp only[go_sem,h0];exact⟨aH.refl.set (an _),.sl (an _) (aW _),.inr ⟨nx,cap,_,rfl,gl,aY _,by rw[aq,hl,bc];exact g2,rfl⟩⟩
section
variable{α:Type}{c:α->List AV}{e sz:Nat}{h:aG}{v:AV}{l:List α}
theorem Own.apps(o:Own c e sz h v l)(hz:∀x,(c x).length=sz)(hc:∀x,(c x).all AV.cy=true)(k:List α)(hk:(k.length==0)=false)(hl:l.length+k.length<65536):
 (∃h' v',pQ h e sz k.length (k.flatMap c) v=some (.val v' h')/\Own c e sz h' v' (l++k)/\bZ v'=bZ v/\(∀b,bZ v≠some b->au h' b=au h b))\/
 (pQ h e sz k.length (k.flatMap c) v=some (.pT (.eP (l.flatMap c++k.flatMap c) e sz) (l.length+k.length) h)):=by
 have xT:=bT hz k;have kD:(k.flatMap c).all AV.cy=true:=by rw[eY];intro a ha;obtain⟨x,_,hx⟩:=dp.1 ha;exact eY.1 (hc x) a hx
 rcases o with⟨rfl,rfl⟩|⟨b,cap,A,rfl,hA,h1,h2,h3⟩;.right;rw[Be hk];simp
 .have h5:=aI sz h1;by_cases hr:l.length+k.length<=cap
  .left;have h6:=aI sz hr;rw[bh]at h6;have hp:=cp (l.length*sz) A (k.flatMap c) (by rw[xT,h2];omega);refine⟨aK h b (.cells (A.take (l.length*sz)++k.flatMap c++A.drop (l.length*sz+(k.flatMap c).length)) e),.sl b 0 (l.length+k.length) cap,by rw[x7 hk hr kD,fx,xN,hA,vo,hp];rfl,?_,rfl,λb' gC=>?_⟩
   .refine .inr ⟨b,cap,_,by rw[aq],gl,by rw[aq];exact hr,?_,?_⟩;.simp only[aq,ax,aC,xT,h2];omega
    .rw[cM,aq,bh,<-h3];rw[show l.length*sz+k.length*sz=(A.take (l.length*sz)++k.flatMap c).length from by rw[aq,ax,xT,h2];omega,tI rfl]
   .rw[aj,ak (λe=>gC (by rw[e];rfl))]
  .right;rw[yE hk hr hl,cr,hA,cB,fS,aS,bO _ _ (by rw[h2];exact h5),h3];rfl
end
theorem mY{α:Type}{c:α->List AV}{e sz:Nat}{v:AV}{l:List α}(o:Own c e sz H v l)(hz:∀x,(c x).length=sz)(hc:∀x,(c x).all AV.cy=true)(k:List α)(hl:l.length+k.length<65536)
 {d:Tmp} {op ty po af g} {K:BT AV->aG->Nat->Prop} {s:BT AV}   {kk}
 (hk:∀v' h' nx',nx<=nx'->Own c e sz h' v' (l++k)->(∀b,bZ v'=some b->bZ v=some b\/(nx<=b/\b<nx'))->(∀b,b<nx->bZ v≠some b->au h' b=au H b)->K (sset s d v') h' nx'):
 EW prog (pQ H e sz k.length (k.flatMap c) v) ⟨⟨some d,op,ty,po,af,g⟩,K,s,H',nx⟩ kk:=by
 by_cases h0:k.length=0
 .have:k=[]:=List.eq_nil_of_length_eq_zero h0;subst this;have e1:pQ H e sz 0 ([]:List AV) v=some (.val v H):=by
   rw[R4];rcases o with⟨rfl,rfl⟩|⟨b,cap,A,rfl,hA,h1,h2,h3⟩
   .rfl
   .exact Dr h1
  show EW prog (pQ H e sz 0 ([]:List AV) v) _ _;rw[e1];exact hk v H nx (an _) (by rw[cD];exact o) (λb hb=> .inl hb) (λb _ _=>rfl)
 .rcases o.apps hz hc k (by simpa using h0) hl with⟨h',v',e1,e2,e3,e4⟩|e1;.rw[e1];exact hk v' h' nx (an _) e2 (λb hb=> .inl (by rw[<-e3];exact hb)) (λb _ hb=>e4 b hb)
  .rw[e1,FO];refine oa λcap gs h1 h2=>?_;have bP:(l++k).length=l.length+k.length:=bL;have hfm:(l++k).flatMap c=l.flatMap c++k.flatMap c:=bL;rw[<-hfm,<-bP];rw[<-hfm]at h2;rw[<-bP]at h1;refine hk _ _ _ (bz _) (Own.grown hz h1 h2) (λb hb=> .inr ?_) (λb hb _=>yL);injection hb with hb;omega
variable{A:List AV}{cap sb:Nat}
theorem a86(l1 l2 l3:List ba)(hl:l1.length+l2.length+l3.length<60000)(hb:au h sb=some (.cells [strs l1,strs l2,strs l3] 45))(hsb:sb<nx):
 aA prog 86 [.sl sb 0 3 3] h nx (dr (strs (l1++l2++l3)) h nx):=by
 refine aA.pc 1 T0 func86 ?_;simp+decide-dsimp only[f86,go_sem]
 let sm:Nat->Nat:=λi=>if i=0 then 0 else if i=1 then l1.length else if i=2 then l1.length+l2.length else l1.length+l2.length+l3.length
 let pr:Nat->List ba:=λi=>if i=0 then[]else if i=1 then l1 else if i=2 then l1++l2 else l1++l2++l3
 refine cL _ _ (λm s h' nx'=>∃i,i<=3/\m=3-i/\ao s 0= .sl sb 0 3 3/\ao s 3=int (sm i)/\ao s 9= .sl sb 0 3 3/\ao s 10=int 3/\ao s 11=int i/\h'=h/\nx'=nx) (n:=3) ?_ ?_;.simp+decide-dsimp only[go_sem];exact⟨0,bN,rfl,rfl,rfl,rfl⟩
 rintro m s h' nx' ⟨i,hi,rfl,s0,s3,s9,vE,w8,rfl,rfl⟩;have hc:i=0\/i=1\/i=2\/i=3:=ah;have b1:l1.length<60000:=ah;have b2:l1.length+l2.length<60000:=ah;rcases hc with rfl|rfl|rfl|rfl
 .have w:cF .i64 (((0:Nat):Int)+(l1.length:Int))=(l1.length:Int):=pC;have g:¬((l1.length:Int)<0):=ah;simp+decide-dsimp only[go_sem,s0,s3,s9,vE,w8,hb,sm,w,g];exact⟨2,bN,1,bN,rfl,rfl,rfl⟩
 .have w:cF .i64 ((l1.length:Int)+(l2.length:Int))=((l1.length+l2.length:Nat):Int):=pC;have g:¬(((l1.length+l2.length:Nat):Int)<0):=ah;simp+decide-dsimp only[go_sem,s0,s3,s9,vE,w8,hb,sm,w,g,reduceAdd];exact⟨1,bN,2,bN,rfl,rfl,rfl⟩
 .have w:cF .i64 (((l1.length+l2.length:Nat):Int)+(l3.length:Int))=((l1.length+l2.length+l3.length:Nat):Int):=pC;have g:¬(((l1.length+l2.length+l3.length:Nat):Int)<0):=ah;simp+decide-dsimp only[go_sem,s0,s3,s9,vE,w8,hb,sm,w,g,reduceAdd];exact⟨0,bN,3,bN,rfl,rfl,rfl⟩
 .simp+decide-dsimp only[go_sem,s3,vE,w8,sm];refine cf (amy (l1.length+l2.length+l3.length) hl _ _) λv1 h1 cm PJ ⟨S1,i1,o1⟩=>?_;simp+decide-dsimp only[go_sem,s0];refine cL _ _ (λm s J4 CN=>∃i v,i<=3/\m=3-i/\ao s 6=v/\ao s 25= .sl sb 0 3 3/\ao s 26=int 3/\ao s 27=int i/\aH nx' h' J4/\nx'<=CN/\Own fH 9 1 J4 v (pr i)/\In nx' CN v) (n:=3) ?_ ?_;.simp+decide-dsimp only[go_sem];exact⟨0,v1,bN,rfl,rfl,rfl,rfl,S1,PJ,o1,i1⟩
  clear s0 s3 s9 vE w8;rintro m s h2 dU ⟨i,v,hi,rfl,s6,FZ,JG,Fs,S2,l2',o2,i2⟩;have wG:au h2 sb=some (.cells [strs l1,strs l2,strs l3] 45):=by rw[S2 sb hsb];exact hb
  have hc:i=0\/i=1\/i=2\/i=3:=ah;rcases hc with rfl|rfl|rfl|rfl
  .have hk:l1.length<65536:=ah;simp+decide-dsimp only[go_sem,s6,FZ,JG,Fs,wG,hk];refine mY (c:=fH) o2 (λ_=>rfl) (λ_=>rfl) l1 (by show 0+l1.length<_;omega) ?_;intro v' h3 nx3 l3' p1 p2 p3;simp+decide-dsimp only[go_sem,s6,FZ,JG,Fs];refine⟨2,bN,1,v',bN,rfl,rfl,rfl,λq hq=>?_,ah,p1,λq e'=>?_⟩;.rw[p3 q ah (λe'=>by have:=i2 q e';omega)];exact S2 q hq
   .rcases p2 q e' with e2|e2;.have:=i2 q e2;omega
    .omega
  .have hk:l2.length<65536:=ah;simp+decide-dsimp only[go_sem,s6,FZ,JG,Fs,wG,hk];refine mY (c:=fH) o2 (λ_=>rfl) (λ_=>rfl) l2 (by show l1.length+l2.length<_;omega) ?_;intro v' h3 nx3 l3' p1 p2 p3;simp+decide-dsimp only[go_sem,s6,FZ,JG,Fs,reduceAdd];refine⟨1,bN,2,v',bN,rfl,rfl,rfl,λq hq=>?_,ah,p1,λq e'=>?_⟩;.rw[p3 q ah (λe'=>by have:=i2 q e';omega)];exact S2 q hq
   .rcases p2 q e' with e2|e2;.have:=i2 q e2;omega
    .omega
  .have hk:l3.length<65536:=ah;simp+decide-dsimp only[go_sem,s6,FZ,JG,Fs,wG,hk];refine mY (c:=fH) o2 (λ_=>rfl) (λ_=>rfl) l3 (by show(l1++l2).length+l3.length<_;rw[aq];omega) ?_;intro v' h3 nx3 l3' p1 p2 p3;simp+decide-dsimp only[go_sem,s6,FZ,JG,Fs,reduceAdd];refine⟨0,bN,3,v',bN,rfl,rfl,rfl,λq hq=>?_,ah,p1,λq e'=>?_⟩;.rw[p3 q ah (λe'=>by have:=i2 q e';omega)];exact S2 q hq
   .rcases p2 q e' with e2|e2;.have:=i2 q e2;omega
    .omega
  .simp+decide-dsimp only[go_sem,s6,JG,Fs];exact .of S2 (o2.fz i2 kJ)
theorem a87(l1 l2 l3:List (Pq N))(hl:l1.length+l2.length+l3.length<60000)(hN:N<=nx)(hA:au h b=some (.cells A 78))(V0:A.take l2.length=l2.flatMap cq)(hAl:l2.length<=A.length)(hbl:b<nx)(hb:au h sb=some (.cells [IC l1,.sl b 0 l2.length cap,IC l3] 32))(hsb:sb<nx):
 aA prog 87 [.sl sb 0 3 3] h nx (dr (IC (l1++l2++l3)) h nx):=by
 refine aA.pc 1 T0 func87 ?_;simp+decide-dsimp only[f87,go_sem]
 let sm:Nat->Nat:=λi=>if i=0 then 0 else if i=1 then l1.length else if i=2 then l1.length+l2.length else l1.length+l2.length+l3.length
 let pr:Nat->List (Pq N):=λi=>if i=0 then[]else if i=1 then l1 else if i=2 then l1++l2 else l1++l2++l3
 refine cL _ _ (λm s h' nx'=>∃i,i<=3/\m=3-i/\ao s 0= .sl sb 0 3 3/\ao s 3=int (sm i)/\ao s 9= .sl sb 0 3 3/\ao s 10=int 3/\ao s 11=int i/\h'=h/\nx'=nx) (n:=3) ?_ ?_;.simp+decide-dsimp only[go_sem];exact⟨0,bN,rfl,rfl,rfl,rfl⟩
 rintro m s h' nx' ⟨i,hi,rfl,s0,s3,s9,vE,w8,rfl,rfl⟩;have wu:∀h2,au h2 b=some (.cells A 78)->dV h2 1 (.sl b 0 l2.length cap)=some (l2.length,l2.flatMap cq):=λh2 e=>by rw[yy,cr,e,cB,fS,aS,cJ,bO _ _ hAl,V0];rfl
 have hc:i=0\/i=1\/i=2\/i=3:=ah;have b1:l1.length<60000:=ah;have b2:l1.length+l2.length<60000:=ah;rcases hc with rfl|rfl|rfl|rfl
 .have w:cF .i64 (((0:Nat):Int)+(l1.length:Int))=(l1.length:Int):=pC;have g:¬((l1.length:Int)<0):=ah;simp+decide-dsimp only[go_sem,s0,s3,s9,vE,w8,hb,sm,w,g];exact⟨2,bN,1,bN,rfl,rfl,rfl⟩
 .have w:cF .i64 ((l1.length:Int)+(l2.length:Int))=((l1.length+l2.length:Nat):Int):=pC;have g:¬(((l1.length+l2.length:Nat):Int)<0):=ah;simp+decide-dsimp only[go_sem,s0,s3,s9,vE,w8,hb,sm,w,g,reduceAdd];exact⟨1,bN,2,bN,rfl,rfl,rfl⟩
 .have w:cF .i64 (((l1.length+l2.length:Nat):Int)+(l3.length:Int))=((l1.length+l2.length+l3.length:Nat):Int):=pC;have g:¬(((l1.length+l2.length+l3.length:Nat):Int)<0):=ah;simp+decide-dsimp only[go_sem,s0,s3,s9,vE,w8,hb,sm,w,g,reduceAdd];exact⟨0,bN,3,bN,rfl,rfl,rfl⟩
 .simp+decide-dsimp only[go_sem,s3,vE,w8,sm];refine cf (alx (c:=cq (N:=N)) (l1.length+l2.length+l3.length) hl _ _) λv1 h1 cm PJ ⟨S1,i1,o1⟩=>?_;simp+decide-dsimp only[go_sem,s0];refine cL _ _ (λm s J4 CN=>∃i v,i<=3/\m=3-i/\ao s 6=v/\ao s 25= .sl sb 0 3 3/\ao s 26=int 3/\ao s 27=int i/\aH nx' h' J4/\nx'<=CN/\Own cq 78 1 J4 v (pr i)/\In nx' CN v) (n:=3) ?_ ?_;.simp+decide-dsimp only[go_sem];exact⟨0,v1,bN,rfl,rfl,rfl,rfl,S1,PJ,o1,i1⟩
  clear s0 s3 s9 vE w8;rintro m s h2 dU ⟨i,v,hi,rfl,s6,FZ,JG,Fs,S2,l2',o2,i2⟩;have hA2:au h2 b=some (.cells A 78):=by rw[S2 b hbl];exact hA
  have rP:=wu h2 hA2;have wG:au h2 sb=some (.cells [IC l1,.sl b 0 l2.length cap,IC l3] 32):=by rw[S2 sb hsb];exact hb
  have hc:i=0\/i=1\/i=2\/i=3:=ah;rcases hc with rfl|rfl|rfl|rfl
  .have hk:l1.length<65536:=ah;simp+decide-dsimp only[go_sem,s6,FZ,JG,Fs,wG,hk];refine mY (c:=cq) o2 sV KG l1 (by show 0+l1.length<_;omega) ?_;intro v' h3 nx3 l3' p1 p2 p3;simp+decide-dsimp only[go_sem,s6,FZ,JG,Fs];refine⟨2,bN,1,v',bN,rfl,rfl,rfl,λq hq=>?_,ah,p1,λq e'=>?_⟩;.rw[p3 q ah (λe'=>by have:=i2 q e';omega)];exact S2 q hq
   .rcases p2 q e' with e2|e2;.have:=i2 q e2;omega
    .omega
  .have hk:l2.length<65536:=ah;simp+decide-dsimp only[go_sem,s6,FZ,JG,Fs,wG,rP,hk];refine mY (c:=cq) o2 sV KG l2 (by show l1.length+l2.length<_;omega) ?_;intro v' h3 nx3 l3' p1 p2 p3;simp+decide-dsimp only[go_sem,s6,FZ,JG,Fs,reduceAdd];refine⟨1,bN,2,v',bN,rfl,rfl,rfl,λq hq=>?_,ah,p1,λq e'=>?_⟩;.rw[p3 q ah (λe'=>by have:=i2 q e';omega)];exact S2 q hq
   .rcases p2 q e' with e2|e2;.have:=i2 q e2;omega
    .omega
  .have hk:l3.length<65536:=ah;simp+decide-dsimp only[go_sem,s6,FZ,JG,Fs,wG,hk];refine mY (c:=cq) o2 sV KG l3 (by show(l1++l2).length+l3.length<_;rw[aq];omega) ?_;intro v' h3 nx3 l3' p1 p2 p3;simp+decide-dsimp only[go_sem,s6,FZ,JG,Fs,reduceAdd];refine⟨0,bN,3,v',bN,rfl,rfl,rfl,λq hq=>?_,ah,p1,λq e'=>?_⟩;.rw[p3 q ah (λe'=>by have:=i2 q e';omega)];exact S2 q hq
   .rcases p2 q e' with e2|e2;.have:=i2 q e2;omega
    .omega
  .simp+decide-dsimp only[go_sem,s6,JG,Fs];exact .of S2 (o2.fz i2 (TK hN))
variable{cs:List AV}{i n:Nat}{nl:List ba}{x y:Operand}
theorem L6{e:TypeId}(hu:prog.underlying t=some (.pointer e)):cZ prog h .eql t x y (.fp cs) (.g (.pointer none))=some (bQ false):=by simp[cZ,eD,iG,AV.pd,pG,vy,hu,DH]
theorem akv:cZ prog h .eql 70 x y (.fp cs) (.g (.pointer none))=some (bQ false):=L6 acg
attribute[go_sem] akv
def Yj{N:Nat}:Pq N->AV
 |none=> .g (.pointer none)
 |some b=> .ptr b.1 0
theorem Uy{N:Nat}{e:TypeId}{sz:TypeId->Option Nat}{l:List (Pq N)}(hk:k<l.length):rT (some (.slice e)) sz (IC l) (int k)=(sz e).bind λsize=>(ed (k*size) (l.flatMap cq)).map λl=> .val (.fp l):=sS hk
theorem Ro{N:Nat}{l:List (Pq N)}(hk:k<l.length):ed (k*1) (l.flatMap cq)=some ((l.drop k).flatMap cq):=ni sV ah
theorem WS{N:Nat}{l:List (Pq N)}(hk:k<l.length):iW 0 ((l.drop k).flatMap cq)=some (Yj (l.getD k none)):=by rw[da hk,bG,az,aF hk,eK];cases l[k]<;>rfl
attribute[go_sem] Uy Ro WS
def T69:Nat->cU:=λid=>if id=3 then[(z13,[],some 14),([],[],some 15),([],[],some 16),([],[],none)]else[]
abbrev CY{N:Nat}(los:List ba)(xs:List (Pq N)):AV:= .fp [strs los,IC xs]
section
variable{N:Nat}{los:List ba}{xs:List (Pq N)}(cx:0<los.length)(hl:los.length<60000)(hx:xs.length=los.length)
include cx
theorem a84:bo 84 [CY los xs] (bQ false):=by refine bo.ac 1 T0 func84 λh nx=>?_;have c:¬((los.length:Int)=0):=ah;simp+decide-dsimp only[f84,go_sem,c];exact .dT .refl .cA rfl
theorem a70:bo 70 [CY los xs] (int los.length):=by refine bo.ac 1 T0 func70 λh nx=>?_;simp+decide-dsimp only[f70,go_sem];refine aZ (a84 cx) ?_;simp+decide-dsimp only[go_sem];exact .dT .refl .cA rfl
include hl
theorem anB(i:Nat)(hi:i<60000):bo 112 [CY los xs,int i] (.dN [bR (if i+1<los.length then los.getD (i+1) []else[]),bQ (decide (i+1<los.length))]):=by
 refine bo.ac 2 T0 func112 λh nx=>?_;have c0:¬((i:Int)<0):=ah;have w:cF .i64 ((los.length:Int)-1)=((los.length-1:Nat):Int):=pC;simp+decide-dsimp only[f112,go_sem];refine aZ (a84 cx) ?_;by_cases h1:i+1<los.length;.have c1:¬(((los.length-1:Nat):Int)<=(i:Int)):=ah;have wi:i+1<9223372036854775808:=ah;have hd:=aM h1;simp+decide-dsimp only[go_sem,c0,c1,w,wi,h1];exact .dT .refl (.jS .bR .cA) rfl
 .have c1:(((los.length-1:Nat):Int)<=(i:Int)):=ah;simp+decide-dsimp only[go_sem,c0,c1,w,h1];exact .dT .refl (.jS .bR .cA) rfl
include hx
theorem a69(i:Nat)(hi:i<los.length)(hN:N<=nx):aA prog 69 [CY los xs,int i] h nx (dr (.dN [bR (los.getD i []),Yj (xs.getD i none),bQ true]) h nx):=by
 refine aA.pc 2 T69 func69 ?_;have c0:¬((i:Int)<0):=ah;have c1:¬((los.length:Int)<=(i:Int)):=ah;have hix:i<xs.length:=ah;simp+decide-dsimp only[f69,go_sem];refine aZ (a84 cx) ?_;simp+decide-dsimp only[go_sem,T69,c0,c1,hi,hix];refine .dT .refl (.lZ .bR (.cQ ?_) .cA) rfl;cases xs.getD i none with
 |none=>trivial
 |some b=>show b.1<nx;omega
omit hx in
theorem akm(i:Int)(hi:i<0\/(los.length:Int)<=i):bo 69 [CY los xs,i6 i] (.dN [bR [],.g (.pointer none),bQ false]):=by
 refine bo.ac 2 T69 func69 λh nx=>?_;simp+decide-dsimp only[f69,go_sem];refine aZ (a84 cx) ?_;by_cases c0:i<0;.simp+decide-dsimp only[go_sem,c0];exact .dT .refl (.lZ .bR .cA .cA) rfl
 .have c1:(los.length:Int)<=i:=ah;simp+decide-dsimp only[go_sem,c0,c1];exact .dT .refl (.lZ .bR .cA .cA) rfl
def T85:Nat->cU:=λid=>if id=1 then[(z43,[],none)]else if id=6 then[(z8,[],some 9),([10],[],none)]else[]
structure Fit(los:List ba)(i n:Nat)(nl:List ba):Prop where
 n1:1<=n
 le:i+n<=los.length
 ne:0<nl.length
 hd:nl.getD 0 []=los.getD i []
 up:∀k,k+1<nl.length->nl.getD k []<nl.getD (k+1) []
 hi:i+n<los.length->nl.getD (nl.length-1) []<los.getD (i+n) []
 sm:nl.length<60000
omit hx in
theorem a85(F:Fit los i n nl):bo 85 [CY los xs,int i,int n,strs nl] (bQ true):=by
 refine bo.ac 4 T85 func85 λh nx=>?_;have f1:=F.n1;have f2:=F.le;have f3:=F.ne;have f7:=F.sm;have c0:¬((i:Int)<0):=ah;have c1:¬((n:Int)<1):=ah;have c2:¬((los.length:Int)<=(i:Int)):=ah;have c3:cF .i64 ((los.length:Int)-(i:Int))=((los.length-i:Nat):Int):=pC;have c4:¬(((los.length-i:Nat):Int)<(n:Int)):=ah;have c5:¬((nl.length:Int)=0):=ah;have hi:i<los.length:=ah;have ix0:rT (some (.slice 9)) (cN prog) (strs nl) (.g (.int .i64 0))=(cN prog 9).bind λsize=>(ed (0*size) (nl.flatMap fH)).map λl=> .val (.fp l):=DM (k:=0) f3;have nt0:iW 0 (nl.flatMap fH)=some (bR (nl.getD 0 [])):=Im (k:=0) f3;simp+decide-dsimp only[f85,go_sem,T85,c0,c1,c2,c3,c4,c5,hi,ix0,nt0,F.hd];refine cL _ _ (λm s h' nx'=>∃k,1<=k/\k<=nl.length/\m=nl.length-k/\ao s 0=CY los xs/\ao s 1=int i/\ao s 2=int n/\ao s 3=strs nl/\ao s 9=int k/\h'=h/\nx<=nx') (n:=nl.length-1) ?_ ?_;.simp+decide-dsimp only[go_sem];exact⟨1,an _,f3,rfl,rfl⟩
 rintro m s h' nx' ⟨k,k1,k2,rfl,s0,s1,s2,s3,s9,rfl,l1⟩;by_cases hk:k<nl.length;.have CA:(k:Int)<(nl.length:Int):=ah;have w:cF .i64 ((k:Int)-1)=((k-1:Nat):Int):=pC;have w2:k+1<9223372036854775808:=ah;have hk1:k-1<nl.length:=ah;have YE:=F.up (k-1) ah;rw[show k-1+1=k from ah]at YE;have hd:=aM YE;simp+decide-dsimp only[go_sem,T85,s3,s9,hk,CA,w,hk1];refine aZ (a82 _ _) ?_;simp+decide-dsimp only[go_sem,s0,s1,s2,s3,s9,hd,w2];exact⟨nl.length-(k+1),ah,k+1,ah,hk,rfl,rfl,ah⟩
 .have CA:¬(k:Int)<(nl.length:Int):=ah;have w:cF .i64 ((i:Int)+(n:Int))=((i+n:Nat):Int):=pC;have w2:cF .i64 (((i+n:Nat):Int)-1)=((i+n-1:Nat):Int):=pC;simp+decide-dsimp only[go_sem,s0,s1,s2,s3,s9,CA,w,w2];refine aZ (anB cx hl (i+n-1) ah) ?_;rw[show i+n-1+1=i+n from ah];by_cases hh:i+n<los.length;.have ZX:=aM hh;have w3:cF .i64 ((nl.length:Int)-1)=((nl.length-1:Nat):Int):=pC;have h3:nl.length-1<nl.length:=ah;have db:=aM (F.hi hh);simp+decide-dsimp only[go_sem,s3,hh,w3,h3];refine aZ (a82 _ _) ?_;simp+decide-dsimp only[go_sem,db];exact .dT .refl .cA rfl
  .have ZX:=aU hh;simp+decide-dsimp only[go_sem,hh];exact .dT .refl .cA rfl
end
variable{fn:Func}{o:Oper}{ops:Array Oper}{s:BT AV}{size:Nat}{todo:List dc}
def BK(f:FuncId)(args:List AV)(h:aG)(nx:Nat)(h2:aG):Prop:=
 ∃fr,bI.enter prog f args true=some fr/\∀(wait:bI) (cs:List bI) (R:AM->Prop),wait.ret=true->(∀nx',nx<=nx'->eH prog ⟨wait,cs,h2,nx'⟩ R)->eH prog ⟨fr,wait::cs,h,nx⟩ R
theorem BK.of{T:Nat->cU}{c:Code}(hf:prog.funcs[f]?=some fn)(hb:fn.body=some c)(Re:fn.results.toList=[])
 (hd:(gM fn.ntmps c&&fh prog T c)=true)  (ha:args.length<=fn.ntmps)  
 (hw:W prog xt T c (λe _ h' nx'=>match e with| .out _=>False|_=>h'=h2/\nx<=nx') (ey args 0 .nil) h nx):BK f args h nx h2:=by
 rw[aV]at hd;refine⟨⟨f,ey args 0 .nil,fn.ntmps,[.code c],[],false,true,none⟩,?_,?_⟩;.unfold bI.enter;rw[hf];show(match fn.body with|some c=>_|none=>_)=_;rw[hb];show(if args.length<=fn.ntmps then _ else _)=_;rw[aw ha]
 intro wait cs R hr hk
 let x:Fx:=⟨f,fn.ntmps,[],true,wait::cs,none⟩
 have fU:∀s h' nx' t,qZ t=false->h'=h2/\nx<=nx'->eH prog ⟨x.fr s t true,x.callers,h',nx'⟩ R:=by
  intro s h' nx' t ht ⟨he,hn⟩;subst he;refine .gS prog xt pk ⟨⟨wait,cs,h',nx'⟩,?_,hk _ hn⟩;show(if qZ t then none else match prog.funcs[f]? with
   |some fn=>match eo prog h' s fn.results.toList with
    |some vs=>xB ⟨x.fr s t true,x.callers,h',nx'⟩ (one vs) wait cs
    |none=>none
   |none=>none)=_
  rw[ht,hf];show(match eo prog h' s fn.results.toList with
   |some vs=>xB ⟨x.fr s t true,x.callers,h',nx'⟩ (one vs) wait cs
   |none=>none)=_
  rw[Re];show(if wait.ret then _ else _)=_;rw[hr];rfl
 refine oP prog xt pk T x c hd.1 hd.2 _ [] _ ?_ _ h nx hw;intro e s h' nx' he;cases e with
 |iA=>exact .gS prog xt pk ⟨⟨x.fr s [] true,x.callers,h',nx'⟩,rfl,fU s h' nx' [] rfl he⟩
 |ret=>exact λt ht=>fU s h' nx' t ht he
 |out id=>exact he.elim
theorem eH.deferred{fn:FuncId}{g:FuncId}{cap:List AV}{ds:List AD}{dfd:Bool}{ro:Option Nat}{cs:List bI}{R:AM->Prop}
 (hc:BK g (args++cap) h nx h2) (hk:∀nx',nx<=nx'->eH prog ⟨⟨fn,s,size,todo,ds,true,dfd,ro⟩,cs,h2,nx'⟩ R):eH prog ⟨⟨fn,s,size,todo,.fn g cap args::ds,true,dfd,ro⟩,cs,h,nx⟩ R:=by
 obtain⟨fr,he,hr⟩:=hc;refine .gS prog xt pk ⟨⟨fr,⟨fn,s,size,todo,ds,true,dfd,ro⟩::cs,h,nx⟩,?_,hr _ _ _ rfl hk⟩;show(match bI.enter prog g (args++cap) true with|some fr=>_|none=>_)=_;rw[he];rfl
theorem eH.quiet{x:Fx}{l:List Oper}{k:List dc}{R:AM->Prop}{d:Tmp}{v:AV}(hg:o.guard=none)(he:ct o.op=false)(hd:o.dst=some d)(hx:d<x.size)
 (hq:dE prog h (oZ s) o=some (.val v)) (hr:eH prog (x.at (sset s d v) h nx (.ops l ops::k)) R):eH prog (x.at s h nx (.ops (o::l) ops::k)) R:=by
 refine .gS prog xt pk ⟨_,?_,hr⟩;show UQ prog xt _ o (.ops l ops::k) ops=_;unfold UQ;rw[show dO ops (x.at s h nx (.ops (o::l) ops::k)).fr.cE o=some true by unfold dO;rw[hg]];show(if ct o.op=true then _ else _)=_;rw[ak (by rw[he];decide)];show xj _ o _ (dE prog h (oZ s) o)=_;rw[hq];have nX:∀t,bI.put (x.fr s t false) o.dst v=some (x.fr (sset s d v) t false):=λt=>by rw[hd];show(if d<x.size then some ((x.fr s t false).yP (sset s d v))else none)=_;rw[aw hx];rfl
 unfold xj;show(match bI.put (x.fr s (.ops (o::l) ops::k) false) o.dst v with
  |some fr=>some ((x.at s h nx (.ops (o::l) ops::k)).wFr (fr.jV (.ops l ops::k)))
  |none=>none)=_
 rw[nX];rfl
theorem eH.defer{x:Fx}{l:List Oper}{k:List dc}{R:AM->Prop}{c:Call}{d:AD}(hg:o.guard=none)(ho:o.op= .defer c)(hd:o.dst=none)(hr:x.round=none)
 (hq:pW (oZ s) c=some (.defer d)) (hk:eH prog ((⟨x.fn,x.size,d::x.defers,x.deferred,x.callers,x.round⟩:Fx).at s h nx (.ops l ops::k)) R):eH prog (x.at s h nx (.ops (o::l) ops::k)) R:=by
 refine .gS prog xt pk ⟨_,?_,hk⟩;show UQ prog xt _ o (.ops l ops::k) ops=_;unfold UQ;rw[show dO ops (x.at s h nx (.ops (o::l) ops::k)).fr.cE o=some true by unfold dO;rw[hg]];show(if ct o.op=true then _ else _)=_;rw[aw (by rw[ho];rfl)];show se _ _ _ (nE prog xt h (oZ s) o)=_;have:nE prog xt h (oZ s) o=pW (oZ s) c:=by unfold nE;rw[ho]
 rw[this,hq];obtain⟨dst,op,ty,pos,aft,gd⟩:=o;cases hd;obtain⟨fn,size,defers,deferred,callers,round⟩:=x;cases hr;rfl
variable{bq bx:Nat}{ps:List AV}
abbrev fO(d m:Int)(q:Int)(ask now:AV):List AV:=[.g (.int .u32 d),.g (.int .i32 m),.g (.int .u32 q),ask,now]
section
variable{h:aG}{nx rb:Nat}{q:Int}{ask now:AV}
theorem ajG{T:TypeId}{off:Nat}{d:Int}(hR:au h rb=some (.cells cs T))(hn:(ed off cs).bind (de 1)=some [.g (.int .u32 d)]):dt h (.load (.int .u32)) [.ptr rb off]=some (.val (.g (.int .u32 d)) h):=by
 have e:dt h (.load (.int .u32)) [.ptr rb off]=xe h (.int .u32) rb off:=by unfold dt;rfl
 have h1:cK h rb off 1=some [.g (.int .u32 d)]:=by rw[cr,hR,cB];exact hn
 rw[e];unfold xe;rw[h1];rfl
theorem acI{d m:Int}(hR:au h rb=some (.cells (fO d m q ask now) 201))(hd:d=0\/d=1):aA prog 119 [.ptr rb 0] h nx (dr (bQ (decide (d=1))) h nx):=by
 refine aA.ac 1 T0 func119 ?_;have e:=ajG (off:=0) hR rfl;rcases hd with rfl|rfl
 .simp+decide-dsimp only[f119,go_sem,e];exact⟨rfl,rfl,rfl⟩
 .simp+decide-dsimp only[f119,go_sem,e];exact⟨rfl,rfl,rfl⟩
theorem abr{h:aG}{off:Nat}{e:TypeId}(hc:au h b=some (.cells cs e))(hl:off<cs.length):nD prog h 336 197 (.ptr b off)=some (.ptr b off):=by show vM prog h 336 197 b off=_;unfold vM;rw[abd];dsimp only;rw[LS];dsimp only;rw[abz];dsimp only;rw[hc];dsimp only;rw[aw hl]
theorem ahd{h:aG}{off:Nat}{e:TypeId}(hc:au h b=some (.cells cs e))(hl:off<cs.length):nD prog h 138 197 (.ptr b off)=some (.ptr b off):=by show vM prog h 138 197 b off=_;unfold vM;rw[QV];dsimp only;rw[LS];dsimp only;rw[QX];dsimp only;rw[hc];dsimp only;rw[aw hl]
theorem XJ:liesAt prog prog.depth 141 (2 / prog.cellsOf 141) 0 141 1=true:=aL
theorem aje{h:aG}{x y:AV}(hc:au h b=some (.cells [x,y] 141)):nD prog h 197 138 (.ptr b 0)=some (.ptr b 0):=by show vM prog h 197 138 b 0=_;unfold vM;rw[LS];dsimp only;rw[QV];dsimp only;rw[QX];dsimp only;rw[hc];dsimp only;show(if liesAt prog prog.depth 141 (2 / prog.cellsOf 141) 0 141 1=true then _ else _)=_;rw[aw XJ]
theorem xm0{h:aG}:dt h .mark0 []=some (.val (.g undef) h):=by unfold dt;rfl
theorem xm1{h:aG}{o:Nat}:dt h .mark1 [.ptr b o]=some (.val (.g undef) h):=by unfold dt;rfl
theorem amU{d:Int}(hR:au h rb=some (.cells (fO d 0 q ask now) 201)):aA prog 154 [.ptr rb 1] h nx (dr (.dN []) (aK h rb (.cells (fO d 1 q ask now) 201)) nx):=by
 refine aA.ac 1 T0 func154 ?_;have e:dt h (.cas (.int .i32)) [.ptr rb 1,.g (.int .i32 0),.g (.int .i32 1)]=some (.val (bQ true) (aK h rb (.cells (fO d 1 q ask now) 201))):=by
  have h1:cK h rb 1 1=some [.g (.int .i32 0)]:=by unfold cK;rw[hR];rfl
  have h2:eQ h rb 1 [.g (.int .i32 1)]=some (aK h rb (.cells (fO d 1 q ask now) 201)):=by unfold eQ;rw[hR];rfl
  have e:dt h (.cas (.int .i32)) [.ptr rb 1,.g (.int .i32 0),.g (.int .i32 1)]=JM h (.int .i32) rb 1 (.g (.int .i32 0)) (.g (.int .i32 1)):=by unfold dt;rfl
  rw[e];unfold JM;rw[h1];simp only[eD,Ik];rw[h2];simp
 have g:au (aK h rb (.cells (fO d 1 q ask now) 201)) rb=some (.cells (fO d 1 q ask now) 201):=gl;have cv:=abr (off:=1) g (by show 1<5;decide);simp+decide-dsimp only[f154,go_sem,e,xm0,xm1,cv];exact⟨rfl,rfl,rfl⟩
theorem amJ{d:Int}(hR:au h rb=some (.cells (fO d 0 q ask now) 201)):aA prog 139 [.ptr rb 1] h nx (dr (.dN []) (aK h rb (.cells (fO d 1 q ask now) 201)) nx):=by refine aA.ac 1 T0 func139 ?_;simp+decide-dsimp only[f139,go_sem];refine nZ (amU hR) ?_;simp+decide-dsimp only[go_sem];exact⟨rfl,rfl,rfl⟩
theorem amH{d:Int}(hR:au h rb=some (.cells (fO d 1 q ask now) 201)):aA prog 155 [.ptr rb 1] h nx (dr (.dN []) (aK h rb (.cells (fO d 0 q ask now) 201)) nx):=by
 refine aA.ac 1 T0 func155 ?_;have e:dt h (.add .i32) [.ptr rb 1,.g (.int .i32 (-1))]=some (.val (.g (.int .i32 0)) (aK h rb (.cells (fO d 0 q ask now) 201))):=by
  have h1:cK h rb 1 1=some [.g (.int .i32 1)]:=by unfold cK;rw[hR];rfl
  have h2:eQ h rb 1 [.g (.int .i32 0)]=some (aK h rb (.cells (fO d 0 q ask now) 201)):=by unfold eQ;rw[hR];rfl
  have e:dt h (.add .i32) [.ptr rb 1,.g (.int .i32 (-1))]=RY h .i32 rb 1 (.g (.int .i32 (-1))):=by unfold dt;rfl
  rw[e];unfold RY;rw[h1];simp only[eD];rw[show cF IntKind.i32 (1+ -1)=0 from bN,h2];simp
 have cv:=abr (off:=1) hR (by show 1<5;decide);simp+decide-dsimp only[f155,go_sem,hR,e,xm0,xm1,cv];exact⟨rfl,rfl,rfl⟩
def aiJ:Nat->cU:=λid=>if id=0 then[([0,1,2,3],[],some 4),([],[],some 5),([],[],none)]else[]
theorem d140{d:Int}(hR:au h rb=some (.cells (fO d 1 q ask now) 201)):BK 140 [.ptr rb 1] h nx (aK h rb (.cells (fO d 0 q ask now) 201)):=by refine BK.of (T:=λ_=>[]) func140 (c:=f140.body.getD .skip) rfl rfl aL (by show 1<=_;decide) ?_;simp+decide-dsimp only[f140,go_sem];refine nZ (amH hR) ?_;simp+decide-dsimp only[go_sem]
theorem anx:bo 157 [bQ true] (.g (.int .u32 1)):=by intro h nx;refine aA.ac 1 T0 func157 ?_;simp+decide-dsimp only[f157,go_sem];exact⟨rfl,rfl,rfl⟩
theorem d141{m:Int}(hR:au h rb=some (.cells (fO 0 m q ask now) 201)):BK 141 [.ptr rb 0,bQ true] h nx (aK h rb (.cells (fO 1 m q ask now) 201)):=by
 refine BK.of (T:=aiJ) func141 (c:=f141.body.getD .skip) rfl rfl aL (by show 2<=_;decide) ?_;have e:dt h .store [.ptr rb 0,.g (.int .u32 1)]=some (.val (.g undef) (aK h rb (.cells (fO 1 m q ask now) 201))):=by
  have h2:eQ h rb 0 [.g (.int .u32 1)]=some (aK h rb (.cells (fO 1 m q ask now) 201)):=by unfold eQ;rw[hR];rfl
  have e:dt h .store [.ptr rb 0,.g (.int .u32 1)]=wC h rb 0 (.g (.int .u32 1)):=by unfold dt;rfl
  rw[e];unfold wC kR;rw[h2];rfl
 simp+decide-dsimp only[f141,go_sem,aiJ];refine aZ anx ?_;simp+decide-dsimp only[go_sem,e]
def T98:Nat->cU:=λid=>if id=0 then[(z6,[],some 7),([8,9],[0],some 10),([],[],none)]else[]
structure an6(h:aG)(rb:Nat)(v:AV):Prop where
 ex:∃q bq,au h rb=some (.cells (fO 0 0 q (.fn 89 [.ptr bq 0]) (.g (.pointer none))) 201)/\au h bq=some (.cells [v] 70)/\bq≠rb
structure Pa(h:aG)(rb sb:Nat)(v:AV):Prop where
 ex:∃q bq,au h rb=some (.cells (fO 1 0 q (.fn 89 [.ptr bq 0]) (.ptr sb 0)) 201)
 st:au h sb=some (.cells [v,u64 0] 141)
theorem ac5{d m:Int}(hR:au h rb=some (.cells (fO d m q ask (.ptr sb 0)) 201)):dt h (.load .ptr) [.ptr rb 4]=some (.val (.ptr sb 0) h):=by
 have e:dt h (.load .ptr) [.ptr rb 4]=xe h .ptr rb 4:=by unfold dt;rfl
 have h1:cK h rb 4 1=some [.ptr sb 0]:=by unfold cK;rw[hR];rfl
 rw[e];unfold xe;rw[h1];rfl
theorem aec{v:AV}(hw:Pa h rb sb v):aA prog 100 [.ptr rb 4] h nx (dr (.ptr sb 0) h nx):=by obtain⟨⟨q,bq,hR⟩,hs⟩:=hw;refine aA.ac 1 T0 func100 ?_;have e:=ac5 hR;have cv:=aje hs;simp+decide-dsimp only[f100,go_sem,e,cv];exact⟨rfl,rfl,rfl⟩
theorem a99{d m:Int}{x y:AV}(hR:au h rb=some (.cells (fO d m q ask now) 201))(hs:au h sb=some (.cells [x,y] 141)):aA prog 99 [.ptr rb 4,.ptr sb 0] h nx (dr (.dN []) (aK h rb (.cells (fO d m q ask (.ptr sb 0)) 201)) nx):=by
 refine aA.ac 2 T0 func99 ?_;have e:dt h .store [.ptr rb 4,.ptr sb 0]=some (.val (.g undef) (aK h rb (.cells (fO d m q ask (.ptr sb 0)) 201))):=by
  have h2:eQ h rb 4 [.ptr sb 0]=some (aK h rb (.cells (fO d m q ask (.ptr sb 0)) 201)):=by unfold eQ;rw[hR];rfl
  have e:dt h .store [.ptr rb 4,.ptr sb 0]=wC h rb 4 (.ptr sb 0):=by unfold dt;rfl
  rw[e];unfold wC kR;rw[h2];rfl
 have cv:=ahd (off:=0) hs (by show 0<2;decide);simp+decide-dsimp only[f99,go_sem,e,cv];exact⟨rfl,rfl,rfl⟩
theorem a89{v:AV}(hb:au h bq=some (.cells [v] 70)):aA prog 89 [.ptr bq 0] h nx (dr v h nx):=by refine aA.ac 1 T0 func89 ?_;simp+decide-dsimp only[f89,go_sem,hb];exact⟨rfl,rfl,rfl⟩
theorem a98{d m:Int}(hx:au h bx=some (.cells [.ptr rb 0] 62))(hR:au h rb=some (.cells (fO d m q (.fn 89 [.ptr bq 0]) now) 201))(hb:au h bq=some (.cells [.fp ps] 70))(h1:rb<nx)(h2:bx<nx):
 aA prog 98 [.ptr bx 0] h nx λw h' nx'=>w= .dN []/\∃sb,nx<=sb/\sb<nx'/\h'=aK (aK h sb (.cells [.fp ps,u64 0] 141)) rb (.cells (fO d m q (.fn 89 [.ptr bq 0]) (.ptr sb 0)) 201):=by
 refine aA.ac 1 T98 func98 ?_;simp+decide-dsimp only[f98,go_sem,hR,hx,T98];refine bm (a89 hb) ?_;have e1:¬(bx=nx+9):=ah;have e2:¬(rb=nx+9):=ah;simp+decide-dsimp only[go_sem,hx,e1];refine nZ (a99 (ask:= .fn 89 [.ptr bq 0]) (now:=now) (q:=q) (d:=d) (m:=m) (x:= .fp ps) (y:=u64 0) (by rw[aj,ak e2];exact hR) gl) ?_;have e3:¬(nx+9=rb):=ah;have e4:¬(bx=rb):=λe=>by rw[e,hR]at hx;cases hx
 simp+decide-dsimp only[go_sem];exact⟨nx+9,ah,Gp bN _,rfl⟩
theorem am4(hx:au h bx=some (.cells [.ptr rb 0] 62))(hR:au h rb=some (.cells (fO 0 0 q (.fn 89 [.ptr bq 0]) now) 201))(hb:au h bq=some (.cells [.fp ps] 70))(h1:rb<nx)(h2:bx<nx)(h3:bq<nx):
 aA prog 120 [.ptr rb 0,.fn 98 [.ptr bx 0]] h nx λw h' nx'=>w= .dN []/\nx<=nx'/\∃sb,nx<=sb/\sb<nx'/\(∀b,au h' b=if b=rb then some (.cells (fO 1 0 q (.fn 89 [.ptr bq 0]) (.ptr sb 0)) 201)else if b=sb then some (.cells [.fp ps,u64 0] 141)else au h b):=by
 have hbx:¬(bx=rb):=λe=>by rw[e,hR]at hx;cases hx
 have hbq:¬(bq=rb):=λe=>by rw[e,hR]at hb;cases hb
 refine .F' (fr:=⟨120,ey [.ptr rb 0,.fn 98 [.ptr bx 0]] 0 .nil,21,[.code (f120.body.getD .skip)],[],false,false,none⟩) prog rfl ?_
 let x:Fx:=⟨120,21,[],false,[],none⟩
 show eH prog (x.at (ey [.ptr rb 0,.fn 98 [.ptr bx 0]] 0 .nil) h nx [.code (f120.body.getD .skip)]) _;have ho:∀{x:Fx} {c1 c2:Code} {s h nx k R},eH prog (x.at s h nx (.code c1:: .code c2::k)) R->eH prog (x.at s h nx (.code (.seq c1 c2)::k)) R:=λhr=> .gS prog xt pk ⟨_,rfl,hr⟩;have hq:∀{x:Fx} {id:Nat} {ops:Array Oper} {s h nx k R},eH prog (x.at s h nx (.ops ops.toList ops::k)) R->eH prog (x.at s h nx (.code (.region id ops false)::k)) R:=λhr=> .gS prog xt pk ⟨_,rfl,hr⟩;have hz:∀{x:Fx} {ops:Array Oper} {s h nx k R},eH prog (x.at s h nx k) R->eH prog (x.at s h nx (.ops [] ops::k)) R:=λhr=> .gS prog xt pk ⟨_,rfl,hr⟩;dsimp only[f120,Option.getD];refine ho ?_;refine oP prog xt pk (λ_=>[]) x _ bN rfl _ _ _ (λe s h' nx' he=>he) _ _ _ ?_;simp+decide-dsimp only[go_sem];refine nZ (amJ hR) ?_;simp+decide-dsimp only[go_sem];generalize hH:aK h rb (.cells (fO 0 1 q (.fn 89 [.ptr bq 0]) now) 201)=H;have gR:au H rb=some (.cells (fO 0 1 q (.fn 89 [.ptr bq 0]) now) 201):=by rw[<-hH,aj,aw rfl]
 have gX:au H bx=some (.cells [.ptr rb 0] 62):=by rw[<-hH,aj,ak hbx];exact hx
 have gB:au H bq=some (.cells [.fp ps] 70):=by rw[<-hH,aj,ak hbq];exact hb
 have gO:∀b,b≠rb->au H b=au h b:=λb hb=>by rw[<-hH,aj,ak hb]
 clear hH;refine ho (hq ?_);refine eH.quiet (v:= .ptr rb 0) rfl rfl rfl bN rfl ?_;refine eH.quiet (v:= .ptr rb 0) rfl rfl rfl bN rfl ?_;refine eH.quiet (v:= .ptr rb 1) rfl rfl rfl bN (by simp+decide-dsimp only[go_sem]) ?_;refine eH.defer (d:= .fn 140 [] [.ptr rb 1]) rfl rfl rfl rfl rfl ?_;refine hz (ho ?_)
 let x2:Fx:=⟨120,21,[.fn 140 [] [.ptr rb 1]],false,[],none⟩
 refine oP prog xt pk (λ_=>[]) x2 _ rfl rfl _ _ _ (λe s h' nx' he=>he) _ _ _ ?_;simp+decide-dsimp only[go_sem];refine nZ (acI gR (.inl rfl)) ?_;simp+decide-dsimp only[go_sem];have hi:∀{x:Fx} {c:Operand} {a b:Code} {s h nx k R},oZ s c=bQ true->eH prog (x.at s h nx (.code a::k)) R->eH prog (x.at s h nx (.code (.cond c a b)::k)) R:=λ{x c a b s h nx k R} hc hr=> .gS prog xt pk ⟨_,by show tX _ a b k (oZ s c)=_;rw[hc];rfl,hr⟩;refine hi rfl (ho (hq ?_));refine eH.quiet (v:= .ptr rb 0) rfl rfl rfl (dM rfl) rfl ?_;refine eH.quiet (v:= .ptr rb 0) rfl rfl rfl (dM rfl) rfl ?_;refine eH.quiet (v:= .ptr rb 0) rfl rfl rfl (dM rfl) (by simp+decide-dsimp only[go_sem]) ?_;refine eH.defer (d:= .fn 141 [] [.ptr rb 0,bQ true]) rfl rfl rfl rfl rfl ?_;refine hz ?_
 let x3:Fx:=⟨120,21,[.fn 141 [] [.ptr rb 0,bQ true],.fn 140 [] [.ptr rb 1]],false,[],none⟩
 refine oP prog xt pk (λ_=>[]) x3 _ rfl rfl _ _ _ (λe s h' nx' he=>he) _ _ _ ?_;simp+decide-dsimp only[go_sem];refine cf (a98 gX gR gB h1 h2) ?_;rintro _ h' nx' hle ⟨rfl,sb,ya,rP,rfl⟩;simp+decide-dsimp only[go_sem];generalize hJ:aK (aK H sb _) rb _=J;have jO:∀b,au J b=if b=rb then some (.cells (fO 0 1 q (.fn 89 [.ptr bq 0]) (.ptr sb 0)) 201)else if b=sb then some (.cells [.fp ps,u64 0] 141)else au H b:=λb=>by rw[<-hJ,aj,aj]
 clear hJ;have j1:=(jO rb).trans (aw rfl);refine .gS prog xt pk ⟨⟨x3.fr _ [] true,[],J,nx'⟩,rfl,?_⟩;refine eH.deferred (h2:=aK J rb (.cells (fO 1 1 q (.fn 89 [.ptr bq 0]) (.ptr sb 0)) 201)) (d141 j1) λn1 TY=>?_
 refine eH.deferred (h2:=aK (aK J rb (.cells (fO 1 1 q (.fn 89 [.ptr bq 0]) (.ptr sb 0)) 201)) rb (.cells (fO 1 0 q (.fn 89 [.ptr bq 0]) (.ptr sb 0)) 201)) (d140 ((aj _ _ _ _).trans (aw rfl))) λn2 Gq=>?_;refine .done prog ⟨rfl,.dN [],rfl,rfl,by show nx<=n2;omega,sb,ya,by show sb<n2;omega,λb=>?_⟩;show au (aK (aK J rb _) rb _) b=_;rw[aj,aj];by_cases e:b=rb;.rw[aw e,aw e]
 .rw[ak e,ak e,ak e,jO,ak e];by_cases e2:b=sb;.rw[aw e2,aw e2]
  .rw[ak e2,ak e2,gO b e]
def afZ(nx rb sb:Nat)(ps:List AV)(q:Int)(bq:Nat)(h h':aG):Prop:=
 ∀b,au h' b=if b=rb then some (.cells (fO 1 0 q (.fn 89 [.ptr bq 0]) (.ptr sb 0)) 201)else if b=sb then some (.cells [.fp ps,u64 0] 141)else au h b
theorem a97(hx:au h bx=some (.cells [.ptr rb 0] 62))(hR:au h rb=some (.cells (fO 0 0 q (.fn 89 [.ptr bq 0]) now) 201))(hb:au h bq=some (.cells [.fp ps] 70))(h1:rb<nx)(h2:bx<nx)(h3:bq<nx):
 aA prog 97 [.ptr rb 0,.fn 98 [.ptr bx 0]] h nx λw h' nx'=>w= .dN []/\nx<=nx'/\∃sb,nx<=sb/\sb<nx'/\afZ nx rb sb ps q bq h h':=by
 refine aA.ac 2 T0 func97 ?_;simp+decide-dsimp only[f97,go_sem];refine nZ (acI hR (.inl rfl)) ?_;simp+decide-dsimp only[go_sem];refine cf (am4 hx hR hb h1 h2 h3) ?_;rintro _ h' nx' hle ⟨rfl,hn,sb,ya,rP,hh⟩;simp+decide-dsimp only[go_sem];exact⟨hn,sb,ya,rP,hh⟩
theorem afz(hR:au h rb=some (.cells (fO 1 0 q ask now) 201)):
 aA prog 97 [.ptr rb 0,.fn 98 [.ptr bx 0]] h nx (dr (.dN []) h nx):=by
 refine aA.ac 2 T0 func97 ?_;simp+decide-dsimp only[f97,go_sem];refine nZ (acI hR (.inr rfl)) ?_;simp+decide-dsimp only[go_sem];exact⟨rfl,rfl,rfl⟩
structure pL(h:aG)(nx rb x:Nat)(ps:List AV):Prop where
 ok:(∃q,au h rb=some (.cells (fO 0 0 q (.fn 89 [.ptr x 0]) (.g (.pointer none))) 201)/\au h x=some (.cells [.fp ps] 70))\/∃q bq,au h rb=some (.cells (fO 1 0 q (.fn 89 [.ptr bq 0]) (.ptr x 0)) 201)/\au h x=some (.cells [.fp ps,u64 0] 141)
 UP:rb<nx
 PA:x<nx
theorem pL.aX{h:aG}{nx rb x:Nat}(hr:pL h nx rb x ps)(h1:au h' rb=au h rb)(h2:au h' x=au h x)(hn:nx<=nx'):pL h' nx' rb x ps:=
 ⟨by rw[h1,h2];exact hr.ok,aP hr.UP hn,aP hr.PA hn⟩
theorem a59{x:Nat}(hR:pL h nx rb x ps):
 aA prog 59 [.ptr rb 0] h nx λw h' nx'=>nx<=nx'/\∃x',w= .ptr x' 0/\pL h' nx' rb x' ps/\au h' x'=some (.cells [.fp ps,u64 0] 141)/\(x'=x\/nx<=x')/\∀b,b<nx->b≠rb->au h' b=au h b:=by
 refine aA.ac 1 T0 func59 ?_;obtain⟨hR,h1,h3⟩:=hR;have e1:¬(rb=nx):=ah;have e2:¬(nx=rb):=ah;have e5:¬(x=nx):=ah;rcases hR with⟨q,hR,hb⟩|⟨q,bq,hR,hs⟩
 .simp+decide-dsimp only[f59,go_sem,hR,e1];refine cf (a97 (q:=q) (bq:=x) (ps:=ps) (now:= .g (.pointer none)) ((aj _ _ _ _).trans (aw rfl)) ((aj _ _ _ _).trans ((ak e1).trans hR)) ((aj _ _ _ _).trans ((ak e5).trans hb)) ah ah ah) ?_;rintro _ h' nx' hle ⟨rfl,hn,sb,ya,rP,hh⟩;have g1:=(hh rb).trans (aw rfl);have e3:¬(sb=rb):=ah;have e6:¬(nx=sb):=ah;have g2:=(hh sb).trans ((ak e3).trans (aw rfl));have g3:au h' nx=some (.cells [.ptr rb 0] 62):=by rw[hh,ak e2,ak e6,aj,aw rfl]
  simp+decide-dsimp only[go_sem,g3];refine nZ (aec (v:= .fp ps) ⟨⟨q,x,g1⟩,g2⟩) ?_;simp+decide-dsimp only[go_sem];refine⟨ah,sb,rfl,⟨.inr ⟨q,x,g1,g2⟩,ah,rP⟩,g2,.inr ah,λb hb hbr=>?_⟩;have b1:¬(b=sb):=ah;have b2:¬(b=nx):=ah;rw[hh,ak hbr,ak b1,aj,ak b2]
 .simp+decide-dsimp only[f59,go_sem,hR,e1];have g1:au (aK h nx (.cells [.ptr rb 0] 62)) rb=some (.cells (fO 1 0 q (.fn 89 [.ptr bq 0]) (.ptr x 0)) 201):=(aj _ _ _ _).trans ((ak e1).trans hR);have g2:au (aK h nx (.cells [.ptr rb 0] 62)) x=some (.cells [.fp ps,u64 0] 141):=(aj _ _ _ _).trans ((ak e5).trans hs);refine nZ (afz g1) ?_;simp+decide-dsimp only[go_sem];refine nZ (aec (v:= .fp ps) ⟨⟨q,bq,g1⟩,g2⟩) ?_;simp+decide-dsimp only[go_sem];refine⟨x,rfl,⟨.inr ⟨q,bq,g1,g2⟩,ah,ah⟩,(ak e5).trans hs,.inl rfl,λb hb hbr=>ak ah⟩
def T26:Nat->cU:=λid=>if id=4 then[(z7,[],some 8),([],[],some 9),([],[],none)]else[]
theorem a26{x:Nat}(hR:pL h nx rb x ps):
 aA prog 26 [.ptr rb 0] h nx λw h' nx'=>nx<=nx'/\w= .dN [.fp ps,u64 0]/\∃x',pL h' nx' rb x' ps/\au h' x'=some (.cells [.fp ps,u64 0] 141)/\(x'=x\/nx<=x')/\∀b,b<nx->b≠rb->au h' b=au h b:=by
 refine aA.ac 1 T26 func26 ?_;simp+decide-dsimp only[f26,go_sem];refine cf (a59 hR) ?_;rintro _ h' nx' hle ⟨hn,x',rfl,hR',hs,hx,hh⟩;simp+decide-dsimp only[go_sem,T26,hs];exact⟨by show nx<=nx'+_;omega,x',hR'.aX rfl rfl (by show nx'<=nx'+_;omega),hs,hx,hh⟩
theorem pL.am'{x:Nat}(r:pL h nx rb x ps)(hs:au h x=some (.cells [.fp ps,u64 0] 141)):Pa h rb x (.fp ps):=by
 rcases r.ok with⟨q,h1,h2⟩|⟨q,bq,h1,h2⟩;.rw[h2]at hs;injection hs with hs;injection hs with ya rP;exact absurd rP bN
 .exact⟨⟨q,bq,h1⟩,h2⟩
theorem alG{x:Nat}(hw:Pa h rb x (.fp ps))(h1:rb<nx)(h3:x<nx):aA prog 59 [.ptr rb 0] h nx (dr (.ptr x 0) h nx):=by obtain⟨⟨q,bq,hR⟩,hs⟩:=hw;refine aA.pc 1 T0 func59 ?_;have e1:¬(rb=nx):=ah;have e5:¬(x=nx):=ah;simp+decide-dsimp only[f59,go_sem,hR,e1];have g1:au (aK h nx (.cells [.ptr rb 0] 62)) rb=some (.cells (fO 1 0 q (.fn 89 [.ptr bq 0]) (.ptr x 0)) 201):=(aj _ _ _ _).trans ((ak e1).trans hR);have g2:au (aK h nx (.cells [.ptr rb 0] 62)) x=some (.cells [.fp ps,u64 0] 141):=(aj _ _ _ _).trans ((ak e5).trans hs);refine nZ (afz g1) ?_;simp+decide-dsimp only[go_sem];refine nZ (aec (v:= .fp ps) ⟨⟨q,bq,g1⟩,g2⟩) ?_;simp+decide-dsimp only[go_sem];exact .dT (jh) (.cQ (show x<nx from h3)) rfl
theorem acx{x:Nat}(hw:Pa h rb x (.fp ps))(h1:rb<nx)(h3:x<nx)(hl:sB nx (.fp ps)):aA prog 26 [.ptr rb 0] h nx (dr (.dN [.fp ps,u64 0]) h nx):=by have hs:=hw.st;refine aA.pc 1 T26 func26 ?_;simp+decide-dsimp only[f26,go_sem];refine bm (alG hw h1 h3) ?_;simp+decide-dsimp only[go_sem,T26,hs];exact .dT (jh) (.jS (.cQ hl) .cA) rfl
end
structure Wr where
 key:ba
 val:ba
 gone:Bool
 deriving Inhabited
abbrev Wr.cells(w:Wr):List AV:=[bR w.key,bR w.val,bQ w.gone]
abbrev wrs(l:List Wr):AV:=Jm Wr.cells l
theorem KU[Inhabited α]{c:α->List AV}{l:List α}(hk:k<l.length):(l.drop k).flatMap c=c (l.getD k default)++(l.drop (k+1)).flatMap c:=by rw[da hk,bG];simp[List.getD,hk]
theorem Q3{e:TypeId}{sz:TypeId->Option Nat}{l:List Wr}(hk:k<l.length):rT (some (.slice e)) sz (wrs l) (int k)=(sz e).bind λsize=>(ed (k*size) (l.flatMap Wr.cells)).map λl=> .val (.fp l):=sS hk
theorem To{l:List Wr}(hk:k<l.length):ed (k*3) (l.flatMap Wr.cells)=some ([bR (l.getD k default).key,bR (l.getD k default).val,bQ (l.getD k default).gone]++(l.drop (k+1)).flatMap Wr.cells):=by rw[ni (n:=3) (λ_=>rfl) (dP hk),KU hk]
attribute[go_sem] Q3 To
structure Ai where
 kind:Nat
 key:ba
 val:ba
 old:ba
 lS:Bool
 after:Bool
 ws:List Wr
 deriving Inhabited
abbrev Ai.v(o:Ai):Jd:=⟨o.kind,o.key,o.val,o.old,o.lS,o.after,wrs o.ws⟩
abbrev Ai.cells(o:Ai):List AV:=o.v.cells
abbrev KI(l:List Ai):AV:=Jm Ai.cells l
theorem QD{e:TypeId}{sz:TypeId->Option Nat}{l:List Ai}(hk:k<l.length):rT (some (.slice e)) sz (KI l) (int k)=(sz e).bind λsize=>(ed (k*size) (l.flatMap Ai.cells)).map λl=> .val (.fp l):=sS hk
theorem TI{l:List Ai}(hk:k<l.length):ed (k*7) (l.flatMap Ai.cells)=some ((l.getD k default).cells++(l.drop (k+1)).flatMap Ai.cells):=by rw[ni (n:=7) (λ_=>rfl) (dP hk),KU hk]
attribute[go_sem] QD TI
def Kv(l:List ba):Bool:=decide (100<l.length)||l.any λs=>decide (500<s.length)
theorem iX{l:List α}{d:α}(h:k<l.length):l.getD k d∈l:=by rw[az,aF h];exact bS h
theorem rG{l:List α}{d:α}{f:α->Bool}(h:k<l.length):(l.take (k+1)).any f=((l.take k).any f||f (l.getD k d)):=by rw[b9 h,List.any_append];simp[List.getD,h]
theorem a16(l:List ba):bo 16 [strs l] (bQ (Kv l)):=by
 refine bo.ac 1 T0 func16 λh nx=>?_;by_cases h0:100<l.length;.have qP:(100:Int)<(l.length:Int):=ah;simp+decide-dsimp only[f16,go_sem,qP];exact .dT .refl .cA (by unfold Kv;rw[aM h0,K8])
 have qP:¬(100:Int)<(l.length:Int):=ah;simp+decide-dsimp only[f16,go_sem,qP];refine cL _ _ (λm s h' nx'=>∃k,k<=l.length/\m=l.length-k/\(l.take k).any (λs=>decide (500<s.length))=false/\ao s 0=strs l/\ao s 3=int k/\h'=h/\nx<=nx') (n:=l.length) ?_ ?_;.simp+decide-dsimp only[go_sem];exact⟨0,aY _,rfl,rfl,rfl⟩
 rintro m s h' nx' ⟨k,k1,rfl,hk,s0,s3,rfl,l1⟩;by_cases h1:k<l.length
 .have jj:(k:Int)<(l.length:Int):=ah;by_cases h2:500<(l.getD k []).length;.have nU:(500:Int)<((l.getD k []).length:Int):=ah;simp+decide-dsimp only[go_sem,s0,s3,h1,jj,nU];refine .dT .refl .cA ?_;have:l.any (λs=>decide (500<s.length))=true:=sD.2 ⟨l.getD k [],iX h1,aM h2⟩;unfold Kv;rw[this,Ap]
  .have nU:¬(500:Int)<((l.getD k []).length:Int):=ah;have w:k+1<9223372036854775808:=ah;simp+decide-dsimp only[go_sem,s0,s3,h1,jj,nU,w];exact⟨l.length-(k+1),ah,k+1,h1,rfl,by rw[rG h1,hk,pJ];exact aU h2,rfl,ah⟩
 .have jj:¬(k:Int)<(l.length:Int):=ah;simp+decide-dsimp only[go_sem,s0,s3,jj];rw[aD ah]at hk;exact .dT .refl .cA (by unfold Kv;rw[hk,aU h0];rfl)
def BD(o:Ai):Bool:=decide (500<o.key.length)||decide (500<o.val.length)||decide (500<o.old.length)||decide (40<o.ws.length)||o.ws.any λw=>decide (500<w.key.length)||decide (500<w.val.length)
theorem a17(o:Ai):bo 17 [o.v.av] (bQ (BD o)):=by
 refine bo.ac 1 T0 func17 λh nx=>?_;obtain⟨kind,key,val,old,lS,after,l⟩:=o;by_cases k1:500<key.length;.have Bf:(500:Int)<(key.length:Int):=ah;simp+decide-dsimp only[f17,go_sem,Bf];exact .dT (jh) .cA (by unfold BD;dsimp only;rw[aM k1];simp)
 have Bf:¬(500:Int)<(key.length:Int):=ah;by_cases k2:500<val.length;.have Gk:(500:Int)<(val.length:Int):=ah;simp+decide-dsimp only[f17,go_sem,Bf,Gk];exact .dT (jh) .cA (by unfold BD;dsimp only;rw[aM k2];simp)
 have Gk:¬(500:Int)<(val.length:Int):=ah;by_cases k3:500<old.length;.have KY:(500:Int)<(old.length:Int):=ah;simp+decide-dsimp only[f17,go_sem,Bf,Gk,KY];exact .dT (jh) .cA (by unfold BD;dsimp only;rw[aM k3];simp)
 have KY:¬(500:Int)<(old.length:Int):=ah;by_cases k4:40<l.length;.have k4':(40:Int)<(l.length:Int):=ah;simp+decide-dsimp only[f17,go_sem,Bf,Gk,KY,k4'];exact .dT (jh) .cA (by unfold BD;dsimp only;rw[aM k4];simp)
 have k4':¬(40:Int)<(l.length:Int):=ah;simp+decide-dsimp only[f17,go_sem,Bf,Gk,KY,k4'];have e1:BD ⟨kind,key,val,old,lS,after,l⟩=l.any λw=>decide (500<w.key.length)||decide (500<w.val.length):=by unfold BD;dsimp only;rw[aU k1,aU k2,aU k3,aU k4];rfl
 rw[e1];generalize hH:aK h nx _=H;have SH:aH nx h H:=by rw[<-hH];exact jh
 have gH:au H nx=some (.cells (Ai.cells ⟨kind,key,val,old,lS,after,l⟩) 40):=by rw[<-hH,aj,aw rfl]
 clear hH;refine cL _ _ (λm s h' nx'=>∃k,k<=l.length/\m=l.length-k/\(l.take k).any (λw=>decide (500<w.key.length)||decide (500<w.val.length))=false/\ao s 1= .ptr nx 0/\ao s 3=int k/\h'=H/\nx<=nx') (n:=l.length) ?_ ?_;.simp+decide-dsimp only[go_sem];exact⟨0,aY _,rfl,rfl,rfl⟩
 rintro m s h' nx' ⟨k,q1,rfl,hk,s1,s3,rfl,l1⟩;by_cases h1:k<l.length
 .have jj:(k:Int)<(l.length:Int):=ah;have w:k+1<9223372036854775808:=ah;by_cases h2:500<(l.getD k default).key.length;.have nU:(500:Int)<((l.getD k default).key.length:Int):=ah;simp+decide-dsimp only[go_sem,gH,s1,s3,h1,jj,nU];exact .dT SH .cA (fN bQ (sD.2 ⟨_,iX (d:=default) h1,by rw[aM h2];rfl⟩).symm)
  have nU:¬(500:Int)<((l.getD k default).key.length:Int):=ah;by_cases h3:500<(l.getD k default).val.length;.have x8:(500:Int)<((l.getD k default).val.length:Int):=ah;simp+decide-dsimp only[go_sem,gH,s1,s3,h1,jj,nU,x8];exact .dT SH .cA (fN bQ (sD.2 ⟨_,iX (d:=default) h1,by rw[aM h3,Ap]⟩).symm)
  have x8:¬(500:Int)<((l.getD k default).val.length:Int):=ah;simp+decide-dsimp only[go_sem,gH,s1,s3,h1,jj,nU,x8,w];exact⟨l.length-(k+1),ah,k+1,h1,rfl,by rw[rG h1,hk,aU h2,aU h3];rfl,rfl,ah⟩
 .have jj:¬(k:Int)<(l.length:Int):=ah;simp+decide-dsimp only[go_sem,gH,s1,s3,jj];rw[aD ah]at hk;exact .dT SH .cA (by rw[hk])
def AX(l:List Ai):Bool:=decide (100<l.length)||l.any BD
theorem a15(l:List Ai):bo 15 [.g (.slice none 0 0),KI l] (bQ (AX l)):=by
 refine bo.ac 2 T0 func15 λh nx=>?_;by_cases h0:100<l.length;.have qP:(100:Int)<(l.length:Int):=ah;simp+decide-dsimp only[f15,go_sem,qP];exact .dT .refl .cA (by unfold AX;rw[aM h0,K8])
 have qP:¬(100:Int)<(l.length:Int):=ah;simp+decide-dsimp only[f15,go_sem,qP];refine cL _ _ (λm s h' nx'=>ao s 0= .g (.slice none 0 0)/\ao s 1=KI l/\ao s 5=int 0/\h'=h/\nx<=nx') (n:=0) ?_ ?_;.simp+decide-dsimp only[go_sem]
 rintro m s h' nx' ⟨s0,s1,s5,rfl,l1⟩;simp+decide-dsimp only[go_sem,s0,s5];refine cL _ _ (λm s J4 nx'=>∃k,k<=l.length/\m=l.length-k/\(l.take k).any BD=false/\ao s 1=KI l/\ao s 6=int k/\J4=h'/\nx<=nx') (n:=l.length) ?_ ?_;.simp+decide-dsimp only[go_sem,s1];exact⟨0,aY _,rfl,rfl,rfl,l1⟩
 rintro m s J4 nx' ⟨k,q1,rfl,hk,s1,s6,rfl,l1⟩;by_cases h1:k<l.length
 .have jj:(k:Int)<(l.length:Int):=ah;have w:k+1<9223372036854775808:=ah;simp+decide-dsimp only[go_sem,s1,s6,h1,jj];refine aZ (a17 (l.getD k default)) ?_;cases h2:BD (l.getD k default)with
  |true=>simp+decide-dsimp only[go_sem];exact .dT .refl .cA (by unfold AX;rw[sD.2 ⟨_,iX (d:=default) h1,h2⟩,Ap])
  |false=>simp+decide-dsimp only[go_sem,s1,s6,w];exact⟨l.length-(k+1),ah,k+1,h1,rfl,by rw[rG h1,hk,h2];rfl,rfl,ah⟩
 .have jj:¬(k:Int)<(l.length:Int):=ah;simp+decide-dsimp only[go_sem,s1,s6,jj];rw[aD ah]at hk;exact .dT .refl .cA (by unfold AX;rw[hk,aU h0];rfl)
theorem a49(o:Jd)(R:o.R):bo 49 [o.av] (i6 (if A7 o then 7 else 0)):=by
 refine bo.ac 1 T0 func49 λh nx=>?_;obtain⟨kind,key,val,old,lS,after,ws⟩:=o;have hc:=R.c;have Iy:=R.c2;have hk:=R.k;dsimp only at hc hk Iy;unfold A7 lrg;by_cases k1:24<key.length
 .have Bf:(24:Int)<(key.length:Int):=ah;have Ya:=aM k1;rcases hk with rfl|rfl|rfl<;>
  .simp+decide-dsimp only[f49,go_sem,Bf];exact .dT (jh) .cA (by rw[Ya];rfl)
 have Bf:¬(24:Int)<(key.length:Int):=ah;have Ya:=aU k1;rcases hk with rfl|rfl|rfl
 .by_cases k2:32<val.length;.have Gk:(32:Int)<(val.length:Int):=ah;have V4:=aM k2;simp+decide-dsimp only[f49,go_sem,Bf,Gk];exact .dT (jh) .cA (by rw[Ya,V4];rfl)
  .have Gk:¬(32:Int)<(val.length:Int):=ah;have V4:=aU k2;simp+decide-dsimp only[f49,go_sem,Bf,Gk];exact .dT (jh) .cA (by rw[Ya,V4];rfl)
 .simp+decide-dsimp only[f49,go_sem,Bf];exact .dT (jh) .cA (by rw[Ya];rfl)
 .by_cases k2:32<val.length;.have Gk:(32:Int)<(val.length:Int):=ah;have V4:=aM k2;simp+decide-dsimp only[f49,go_sem,Bf,Gk];exact .dT (jh) .cA (by rw[Ya,V4];rfl)
  .have Gk:¬(32:Int)<(val.length:Int):=ah;have V4:=aU k2;cases lS with
   |false=>simp+decide-dsimp only[f49,go_sem,Bf,Gk];exact .dT (jh) .cA (by rw[Ya,V4];rfl)
   |true=>
    by_cases k3:32<old.length;.have KY:(32:Int)<(old.length:Int):=ah;have k3d:=aM k3;simp+decide-dsimp only[f49,go_sem,Bf,Gk,KY];exact .dT (jh) .cA (by rw[Ya,V4,k3d];rfl)
    .have KY:¬(32:Int)<(old.length:Int):=ah;have k3d:=aU k3;simp+decide-dsimp only[f49,go_sem,Bf,Gk,KY];exact .dT (jh) .cA (by rw[Ya,V4,k3d];rfl)
variable{k':Nat}{x':Pt}{xs:List Pt}
structure Gm(x:Pt)(p:bj)(k:Nat)(h:aG)(nx:Nat):Prop where
 c:au h x.xb=some (.cells x.cells 160)
 xl:x.xb<nx
 i:au h x.ib=some (.cells (Cu x.T x.kd) 175)
 il:x.ib<nx
 w:x.T.W p h nx
 nox:¬x.T.own x.xb
 noi:¬x.T.own x.ib
 ok:x.T.ok x.pk k
 wd:∃n,n<=k/\x.w=4*n
 kd:x.kd=1\/x.kd=2\/x.kd=3
def Pt.nW(x:Pt)(b:Nat):Prop:=b=x.xb\/b=x.ib\/x.T.own b
theorem eO{b':Nat}{rJ:List AV}{t':TypeId}(h1:au h b=some (.cells cs t))(h2:au h b'=some (.cells rJ t'))(cx:t≠t'):b≠b':=λe=>by subst e;rw[h1]at h2;injection h2 with h2;injection h2 with h2 h3;exact cx h3
theorem Gm.ne{x:Pt}{p:bj}(o:Gm x p k h nx):x.ib≠x.xb:=eO o.i o.c bN
theorem Gm.np{x:Pt}{p:bj}{k:Nat}{h:aG}{nx:Nat}(o:Gm x p k h nx){b:Nat}(hb:x.nW b):b≠p.pb/\b≠p.gb/\b≠p.fb:=by
 have pk:=o.w.pk;rcases hb with rfl|rfl|hb
 .exact⟨eO o.c pk.a bN,eO o.c pk.g bN,eO o.c pk.f bN⟩
 .exact⟨eO o.i pk.a bN,eO o.i pk.g bN,eO o.i pk.f bN⟩
 .exact o.w.np hb
theorem Gm.lt{x:Pt}{p:bj}{k:Nat}{h:aG}{nx:Nat}(o:Gm x p k h nx){b:Nat}(hb:x.nW b):b<nx:=by
 rcases hb with rfl|rfl|hb;.exact o.xl
 .exact o.il
 .exact o.w.lt hb
theorem Tr.ok.mono(o:T.ok Pk k)(hk:k<=k'):T.ok Pk k':=by
 cases T with
 |b t=>obtain⟨d,h1,h2⟩:=o;exact⟨d,gi h1 hk,h2⟩
 |a t=>exact o
 |m t=>exact o
theorem Gm.to{x:Pt}{p p':bj}{k k':Nat}{h h':aG}{nx nx':Nat}(o:Gm x p k h nx)(ks:∀b,x.nW b->au h' b=au h b)(pk:p'.ok h' nx')(h1:p'.pb=p.pb)(h2:p'.gb=p.gb)(h3:p'.fb=p.fb)(h4:p'.fr.length=p.fr.length)(h5:∀s,x.T.sl s->p'.fr.getD s false=false)(hn:nx<=nx')(hk:k<=k'):Gm x p' k' h' nx':=
 ⟨by rw[ks _ (.inl rfl)];exact o.c,aP o.xl hn,by rw[ks _ (.inr (.inl rfl))];exact o.i,aP o.il hn,o.w.to (λb hb=>ks b (.inr (.inr hb))) pk h1 h2 h3 h4 h5 hn,o.nox,o.noi,o.ok.mono hk,let⟨n,a,b⟩:=o.wd;⟨n,gi a hk,b⟩,o.kd⟩
structure Dp(xs:List Pt)(p:bj)(k:Nat)(h:aG)(nx:Nat):Prop where
 all:∀x∈xs,Gm x p k h nx
 pk:p.ok h nx
 sep:xs.Pairwise λx y=>(∀b,x.nW b->¬y.nW b)/\∀s,x.T.sl s->¬y.T.sl s
theorem Dp.to{xs:List Pt}{p:bj}{k k':Nat}{h h':aG}{nx nx':Nat}(o:Dp xs p k h nx)(ks:∀b,(∃x∈xs,x.nW b)\/b=p.pb\/b=p.gb\/b=p.fb->au h' b=au h b)(hn:nx<=nx')(hk:k<=k'):Dp xs p k' h' nx':=by have pk:=o.pk.iy (ks _ (.inr (.inl rfl))) (ks _ (.inr (.inr (.inl rfl)))) (ks _ (.inr (.inr (.inr rfl)))) hn;exact⟨λx hx=>(o.all x hx).to (λb hb=>ks b (.inl ⟨x,hx,hb⟩)) pk rfl rfl rfl rfl (λs hs=>(o.all x hx).w.tk hs) hn hk,pk,o.sep⟩
theorem Dp.lt{xs:List Pt}{p:bj}{k:Nat}{h:aG}{nx:Nat}(o:Dp xs p k h nx){b:Nat}(hb:(∃x∈xs,x.nW b)\/b=p.pb\/b=p.gb\/b=p.fb):b<nx:=by
 rcases hb with⟨x,hx,hb⟩|rfl|rfl|rfl;.exact(o.all x hx).lt hb
 .exact o.pk.rY
 .exact o.pk.ss
 .exact o.pk.sr
theorem Dp.same{p:bj}(o:Dp xs p k h nx)(hs:aH nx h h')(hn:nx<=nx'):Dp xs p k h' nx':=
 o.to (λb hb=>hs b (o.lt hb)) hn (an _)
theorem Dp.step{l1 l2:List Pt}{x:Pt}{p:bj}(o:Dp (l1++x::l2) p k h nx)(o':Gm x' p' (k+1) h' nx')(hf:∀b,x'.nW b->x.nW b\/nx<=b)(hs:∀s,x'.T.sl s->x.T.sl s\/p.fr.getD s false=true)
 (ks:∀b,b<nx->¬x.nW b->b≠p.pb->b≠p.gb->b≠p.fb->au h' b=au h b) (h1:p'.pb=p.pb) (h2:p'.gb=p.gb) (h3:p'.fb=p.fb) (h4:p'.fr.length=p.fr.length) (h5:∀s,p.fr.getD s false=false->p'.fr.getD s false=false\/x.T.sl s) (hn:nx<=nx'):Dp (l1++x'::l2) p' (k+1) h' nx':=by
 have pk:=o'.w.pk;obtain⟨s1,s2,s3⟩:=im.1 o.sep;obtain⟨s4,s5⟩:=dS.1 s2;have oth:∀y∈l1++x::l2,(∀b,y.nW b->¬x.nW b)->(∀s,y.T.sl s->¬x.T.sl s)->Gm y p' (k+1) h' nx'/\(∀b,y.nW b->¬x'.nW b)/\∀s,y.T.sl s->¬x'.T.sl s:=by
  intro y hy hyf CE;have oy:=o.all y hy;refine⟨oy.to (λb hb=>ks b (oy.lt hb) (hyf b hb) (oy.np hb).1 (oy.np hb).2.1 (oy.np hb).2.2) pk h1 h2 h3 h4 (λs hs=>(h5 s (oy.w.tk hs)).resolve_right (CE s hs)) hn (bz _),λb hb gC=>?_,λs hb gC=>?_⟩
  .rcases hf b gC with q|q;.exact hyf b hb q
   .have:=oy.lt hb;omega
  .rcases hs s gC with q|q;.exact CE s hb q
   .rw[oy.w.tk hb]at q;cases q
 have a1:∀y∈l1,Gm y p' (k+1) h' nx'/\(∀b,y.nW b->¬x'.nW b)/\∀s,y.T.sl s->¬x'.T.sl s:=λy hy=>oth y (by simp[hy]) (s3 y hy x bL).1 (s3 y hy x bL).2;have a2:∀y∈l2,Gm y p' (k+1) h' nx'/\(∀b,y.nW b->¬x'.nW b)/\∀s,y.T.sl s->¬x'.T.sl s:=λy hy=>oth y (by simp[hy]) (λb hb gC=>(s4 y hy).1 b gC hb) (λs hb gC=>(s4 y hy).2 s gC hb);refine⟨λy hy=>?_,pk,im.2 ⟨s1,dS.2 ⟨λy hy=>⟨λb hb gC=>(a2 y hy).2.1 b gC hb,λs hb gC=>(a2 y hy).2.2 s gC hb⟩,s5⟩,λy hy z hz=>?_⟩⟩
 .rcases bp.1 hy with hy|hy;.exact(a1 y hy).1
  .rcases bE.1 hy with rfl|hy;.exact o'
   .exact(a2 y hy).1
 .rcases bE.1 hz with rfl|hz;.exact(a1 y hy).2
  .exact s3 y hy z (by simp[hz])
variable{IE:Int}{eb mb pb sz wb:Nat}{hv:AV}
structure Ev where
 l:List AV
 len:l.length=13
 N5:l.all AV.cy=true
def evc(e:Ev):List AV:=e.l
abbrev wB(eb mb pb sb n cap:Nat)(hv:AV)(IE:Int):List AV:=[.ptr eb 0,.ptr mb 0,.ptr pb 0,.sl sb 0 n cap,.g (.slice none 0 0),hv,bQ false,i6 IE]
theorem Own.bJ{c:α->List AV}{e:Nat}{v:AV}{l:List α}(o:Own c e sz h v l)(hb:bZ v=some b):∃A,au h b=some (.cells A e):=by
 rcases o with⟨rfl,rfl⟩|⟨b',cap,A,rfl,h1,_⟩;.cases hb
 .cases hb;exact⟨A,h1⟩
def T54:Nat->cU:=λid=>if id=2 then[(z11,[4,8,9],some 12),([13,14],[],some 15),([],[],none)]else[]
theorem a54{KW:List Ev}(hw:au h wb=some (.cells (wB eb mb pb sb n cap hv IE) 35))(ho:Own evc 129 13 h hv KW)(lB:In 0 nx hv)(hl:KW.length<60000)(q:Jd)(R:q.R)(hwl:wb<nx):
 aA prog 54 [.ptr wb 0,q.av] h nx λw h' nx'=>∃(e:Ev) (hv':AV) (nxt':Int),w=i6 nxt'/\au h' wb=some (.cells (wB eb mb pb sb n cap hv' nxt') 35)/\Own evc 129 13 h' hv' (KW++[e])/\(∀b,bZ hv'=some b->bZ hv=some b\/(nx<=b/\b<nx'))/\∀b,b<nx->b≠wb->bZ hv≠some b->au h' b=au h b:=by
 refine aA.ac 2 T54 func54 ?_;have hc:=R.c;have Iy:=R.c2;obtain⟨v1,v2⟩:=ho.cells;have d0:¬(wb=nx):=ah;have d1:¬(nx=wb):=ah;have d2:¬(wb=nx+1+11):=ah;have d3:¬(nx=nx+1+11):=ah;have d4:¬(nx+1+11=wb):=ah;have d5:¬(nx+1+11=nx):=ah;simp+decide-dsimp only[f54,go_sem,T54,hw,d0,d1,d2,d3,d4,d5,cr,cB,reduceAdd,reduceMul];refine km (c:=evc) (x:=⟨u8 1::i6 (cF .i64 (IE+1))::(q.cells++[int 0,bQ false,bR [],bR []]),rfl,by simp+decide [go_sem,hc]⟩) (ho.aX λb e=>?_) (λe=>e.len) (λe=>e.N5) ah ?_;.obtain⟨A,hA⟩:=ho.bJ e;have e1:=(lB b e).2;rw[aj,ak ah,aj,ak (eO hA hw bN),aj,ak ah]
 rintro v' h' nx' hn ov CS tP;have Gq:nx+1+11<nx':=aP (Gp bN _) hn;have cx:bZ hv≠some wb:=λe=>by obtain⟨A,hA⟩:=ho.bJ e;exact eO hA hw bN rfl
 have g1:au h' wb=some (.cells (wB eb mb pb sb n cap hv (cF .i64 (IE+1))) 35):=by rw[tP wb ah cx,aj,ak d2,aj,aw rfl]
 obtain⟨u1,u2⟩:=ov.cells;simp+decide-dsimp only[go_sem,g1,u1,u2];refine⟨_,v',_,rfl,rfl,ov.aX λb e=>?_,λb e=>?_,λb hb wG Um=>?_⟩;.rw[aj,ak (λq=>by subst q;obtain⟨A,hA⟩:=ov.bJ e;exact eO hA g1 bN rfl)]
 .rcases CS b e with q|q;.exact .inl q
  .exact .inr ⟨by have:=q.1;omega,q.2⟩
 .first
  |rw[aj,ak wG,tP b ah Um,aj,ak ah,aj,ak wG,aj,ak ah]
  |rw[ak wG,tP b ah Um,aj,ak ah,aj,ak wG,aj,ak ah]
variable{rb:Nat}
abbrev Ct(x:Pt):List AV:=[.ptr x.xb 0]
theorem Fe(hA:A.take xs.length=xs.flatMap Ct)(hk:k<xs.length)(d:Pt):iW (k*1) A=some (.ptr (xs.getD k d).xb 0):=by
 have e1:(xs.flatMap Ct)[k]?=some (.ptr (xs.getD k d).xb 0):=by
  have:xs.flatMap Ct=xs.map λx=> .ptr x.xb 0:=by
   clear hA hk
   induction xs with
   |nil=>rfl
   |cons x xs ih=>rw[bG,ih];rfl
  rw[this,ff,az,aF hk];rfl
 rw[<-hA,gK hk]at e1;rw[cJ,kr];exact e1
theorem a50(hw:au h wb=some (.cells (wB eb mb pb sb xs.length cap hv IE) 35))(hs:au h sb=some (.cells A 78))(hA:A.take xs.length=xs.flatMap Ct)(hl:xs.length<60000)
 (hx:∀x∈xs,au h x.xb=some (.cells x.cells 160)) (key:ba):
 aA prog 50 [.ptr wb 0,bR key] h nx λw h' nx'=>(w= .g (.pointer none)\/∃x∈xs,w= .ptr x.xb 0)/\h'=h/\nx'=nx:=by
 refine aA.ac 2 T0 func50 ?_;simp+decide-dsimp only[f50,go_sem];refine cL _ _ (λm s h' nx'=>∃k,k<=xs.length/\m=xs.length-k/\ao s 0= .ptr wb 0/\ao s 1=bR key/\ao s 5=int k/\h'=h/\nx'=nx) (n:=xs.length) ?_ ?_;.simp+decide-dsimp only[go_sem];exact⟨0,aY _,rfl,rfl⟩
 rintro m s h' nx' ⟨k,q1,rfl,s0,s1,s5,rfl,rfl⟩;by_cases h1:k<xs.length
 .have jj:(k:Int)<(xs.length:Int):=ah;have w:k+1<9223372036854775808:=ah;have dx:Pt:=xs[k];have gn:=Fe hA h1 dx;have gx:=hx _ (iX (d:=dx) h1);simp+decide-dsimp only[go_sem,s0,s1,s5,h1,jj,hw,hs,gn];refine bm (a67 _ gx key) ?_;cases hh:(xs.getD k dx).has key with
  |true=>simp+decide-dsimp only[go_sem,s0,s5,h1,hw,hs,gn];exact .inr ⟨_,iX h1,rfl⟩
  |false=>simp+decide-dsimp only[go_sem,s0,s1,s5,w];exact⟨xs.length-(k+1),ah,k+1,h1,rfl,rfl⟩
 .have jj:¬(k:Int)<(xs.length:Int):=ah;simp+decide-dsimp only[go_sem,s0,s5,jj,hw];exact .inl trivial
def Is(N b:Nat):Pq N:=if h:b<N then some ⟨b,h⟩else none
theorem adn(h:b<N):cq (Is N b)=[.ptr b 0]:=by unfold Is;rw[dif_pos h];rfl
theorem FM(h:b<N):Yj (Is N b)= .ptr b 0:=by unfold Is;rw[dif_pos h];rfl
structure Wd where
 wb:Nat
 eb:Nat
 mb:Nat
 ep:Nat
 rb:Nat
 rx:Nat
 sb:Nat
 cap:Nat
 A:List AV
 hv:AV
 KW:List Ev
 IE:Int
 p:bj
 xs:List Pt
 los:List ba
 N:Nat
abbrev Wd.dir(d:Wd):List AV:=[strs d.los,IC (d.xs.map λx=>Is d.N x.xb)]
def Wd.bJ(d:Wd)(b:Nat):Prop:=b=d.wb\/b=d.eb\/b=d.mb\/b=d.rb\/b=d.rx\/b=d.sb\/bZ d.hv=some b
structure Bnd(los:List ba)(xs:List Pt):Prop where
 len:xs.length=los.length
 vW:los.length<=12
 one:0<los.length
 fst:los.getD 0 []=[]
 up:∀i,i+1<los.length->los.getD i []<los.getD (i+1) []
 sm:∀i,(los.getD i []).length<=500
 lo:∀i (h:i<xs.length),xs[i].lo=los.getD i []
 hi:∀i (h:i<xs.length),xs[i].last=decide (i+1=xs.length)/\(i+1<xs.length->xs[i].hi=los.getD (i+1) [])
structure Wd.ok(d:Wd)(k:Nat)(h:aG)(nx:Nat):Prop where
 w:au h d.wb=some (.cells (wB d.eb d.mb d.p.pb d.sb d.xs.length d.cap d.hv d.IE) 35)
 e:au h d.eb=some (.cells [.ptr d.rb 0,.ptr d.ep 0] 65)
 m:au h d.mb=some (.cells [.g (.slice none 0 0),i6 0,i6 0,bQ false,bQ false] 96)
 r:pL h nx d.rb d.rx d.dir
 s:au h d.sb=some (.cells d.A 78)
 sA:d.A.take d.xs.length=d.xs.flatMap Ct
 hv:Own evc 129 13 h d.hv d.KW
 lB:In 0 nx d.hv
 vW:d.KW.length<=3*k
 P:Dp d.xs d.p k h nx
 lt:∀b,d.bJ b->b<nx
 wo:∀x∈d.xs,∀b,d.bJ b->¬x.T.own b
 bn:Bnd d.los d.xs
 N:d.N<=nx/\∀x∈d.xs,x.xb<d.N
theorem pL.ty{x:Nat}(r:pL h nx rb x ps):(∃cs,au h rb=some (.cells cs 201))/\∃cs,au h x=some (.cells cs 70)\/au h x=some (.cells cs 141):=by
 rcases r.ok with⟨q,h1,h2⟩|⟨q,bq,h1,h2⟩;.exact⟨⟨_,h1⟩,_,.inl h2⟩
 .exact⟨⟨_,h1⟩,_,.inr h2⟩
theorem Wd.ok.ty{d:Wd}{k:Nat}{h:aG}{nx:Nat}(o:d.ok k h nx){b:Nat}(hb:d.bJ b):∃cs t,au h b=some (.cells cs t)/\(t=35\/t=65\/t=96\/t=201\/t=70\/t=141\/t=78\/t=129):=by
 rcases hb with rfl|rfl|rfl|rfl|rfl|rfl|hb;.exact⟨_,_,o.w,bN⟩
 .exact⟨_,_,o.e,bN⟩
 .exact⟨_,_,o.m,bN⟩
 .obtain⟨⟨cs,h1⟩,_⟩:=o.r.ty;exact⟨_,_,h1,bN⟩
 .obtain⟨_,cs,h1|h1⟩:=o.r.ty;.exact⟨_,_,h1,bN⟩
  .exact⟨_,_,h1,bN⟩
 .exact⟨_,_,o.s,bN⟩
 .obtain⟨A,hA⟩:=o.hv.bJ hb;exact⟨_,_,hA,bN⟩
theorem Wd.ok.nf{d:Wd}(o:d.ok k h nx)(hb:d.bJ b):(∀x∈d.xs,¬x.nW b)/\b≠d.p.pb/\b≠d.p.gb/\b≠d.p.fb:=by
 obtain⟨cs,t,h1,ht⟩:=o.ty hb;have pk:=o.P.pk;refine⟨λx hx hf=>?_,eO h1 pk.a (by rcases ht with rfl|rfl|rfl|rfl|rfl|rfl|rfl|rfl<;>decide),eO h1 pk.g (by rcases ht with rfl|rfl|rfl|rfl|rfl|rfl|rfl|rfl<;>decide),eO h1 pk.f (by rcases ht with rfl|rfl|rfl|rfl|rfl|rfl|rfl|rfl<;>decide)⟩;have px:=o.P.all x hx;rcases hf with e|e|e;.exact eO h1 px.c (by rcases ht with rfl|rfl|rfl|rfl|rfl|rfl|rfl|rfl<;>decide) e
 .exact eO h1 px.i (by rcases ht with rfl|rfl|rfl|rfl|rfl|rfl|rfl|rfl<;>decide) e
 .exact o.wo x hx b hb e
theorem Wd.ok.to{d:Wd}{k k':Nat}{h h':aG}{nx nx':Nat}(o:d.ok k h nx)(hs:∀b,b<nx->au h' b=au h b)(hn:nx<=nx')(hk:k<=k'):d.ok k' h' nx':=by have g:∀b,d.bJ b->au h' b=au h b:=λb hb=>hs b (o.lt b hb);exact⟨by rw[g _ (.inl rfl)];exact o.w,by rw[g _ (.inr (.inl rfl))];exact o.e,by rw[g _ (.inr (.inr (.inl rfl)))];exact o.m,o.r.aX (hs _ o.r.UP) (hs _ o.r.PA) hn,by rw[g _ (.inr (.inr (.inr (.inr (.inr (.inl rfl))))))];exact o.s,o.sA,o.hv.aX λb hb=>g b (.inr (.inr (.inr (.inr (.inr (.inr hb)))))),λb hb=>⟨aY _,aP (o.lB b hb).2 hn⟩,gi o.vW (Gx _ hk),o.P.to (λb hb=>hs b (o.P.lt hb)) hn hk,λb hb=>aP (o.lt b hb) hn,o.wo,o.bn,gi o.N.1 hn,o.N.2⟩
variable{d:Wd}{los:List ba}
def Wd.all(d:Wd)(b:Nat):Prop:=d.bJ b\/(∃x∈d.xs,x.nW b)\/b=d.p.pb\/b=d.p.gb\/b=d.p.fb
theorem Bnd.rep{l1 l2:List Pt}{x:Pt}(o:Bnd los (l1++x::l2))(h1:x'.lo=x.lo)(h2:x'.hi=x.hi)(h3:x'.last=x.last):Bnd los (l1++x'::l2):=by
 have len:(l1++x'::l2).length=(l1++x::l2).length:=bL;have key:∀i (h:i<(l1++x'::l2).length) (h':i<(l1++x::l2).length),(l1++x'::l2)[i].lo=(l1++x::l2)[i].lo/\(l1++x'::l2)[i].hi=(l1++x::l2)[i].hi/\(l1++x'::l2)[i].last=(l1++x::l2)[i].last:=by
  intro i h h';by_cases e:i<l1.length;.rw[xZ e,xZ e];exact⟨rfl,rfl,rfl⟩
  .rw[List.getElem_append_right ah,List.getElem_append_right ah];by_cases e2:i=l1.length;.subst e2;simp[h1,h2,h3]
   .obtain⟨j,hj⟩:∃j,i-l1.length=j+1:=⟨i-l1.length-1,ah⟩;simp[hj]
 refine⟨by rw[len];exact o.len,o.vW,o.one,o.fst,o.up,o.sm,λi h=>?_,λi h=>?_⟩;.rw[(key i h (by rw[<-len];exact h)).1];exact o.lo i _
 .rw[(key i h (by rw[<-len];exact h)).2.2,(key i h (by rw[<-len];exact h)).2.1];obtain⟨a,b⟩:=o.hi i (by rw[<-len];exact h);exact⟨by rw[a,eW];omega,λq=>b ah⟩
theorem Wd.ok.wr{d:Wd}{k:Nat}{h:aG}{nx:Nat}(o:d.ok k h nx){x:Pt}(hx:x∈d.xs){n:Nat}(hn:n<=k){wr:Int}{T':Tr}{p':bj}{S0 h2:aG}{dU:Nat}(CB:nx<=dU)(e1:T'.tb=x.T.tb)(e2:T'.ty=x.T.ty)(W':T'.W p' h2 dU)
 (S:dA nx x.T.own T'.own x.T.sl T'.sl d.p p' S0 h2) (hS0:∀b,b≠x.xb->b<nx->au S0 b=au h b) (J':T'.ok x.pk (k+1)):
 ∃d2:Wd,d2.ok (k+1) (aK h2 x.xb (.cells ({x with wr:=wr,w:=4*(n+1)}:Pt).cells 160)) dU/\(∀b,d2.all b->d.all b\/nx<=b)/\(∀b,b<nx->¬d.all b->au h2 b=au h b)/\(∀b,d.bJ b->au h2 b=au h b)/\
  d2.wb=d.wb/\d2.eb=d.eb/\d2.mb=d.mb/\d2.p.pb=d.p.pb/\d2.sb=d.sb/\d2.xs.length=d.xs.length/\d2.cap=d.cap/\d2.hv=d.hv/\d2.KW=d.KW:=by
 obtain⟨l1,l2,hl⟩:=List.append_of_mem hx;have px:=o.P.all x hx;have Ug:∀b,T'.own b->b≠x.xb:=λb hb e=>by
  rcases S.bl b hb with q|q;.rw[e]at q;exact px.nox q
  .have:=px.xl;omega
 have ad6:∀b,T'.own b->b≠x.ib:=λb hb e=>by
  rcases S.bl b hb with q|q;.rw[e]at q;exact px.noi q
  .have:=px.il;omega
 have Sw:=px.np (.inl rfl);have abj:∀b,d.bJ b->au h2 b=au h b:=λb hb=>by have nf:=o.nf hb;have db:=o.lt b hb;rw[S.aX b db (λq=>nf.1 x hx (.inr (.inr q))) nf.2.1 nf.2.2.1 nf.2.2.2,hS0 b (λe=>nf.1 x hx (.inl e)) db]
 refine⟨{d with p:=p',xs:=l1++{x with wr:=wr,w:=4*(n+1),T:=T'}::l2},?_,?_,?_,abj,rfl,rfl,rfl,S.pb,rfl,?_,rfl,rfl,rfl⟩
 .generalize hH:aK h2 x.xb _=H;have gH:∀b,b≠x.xb->au H b=au h2 b:=λb hb=>by rw[<-hH,aj,ak hb]
  have gX:au H x.xb=some (.cells ({x with wr:=wr,w:=4*(n+1)}:Pt).cells 160):=by rw[<-hH,aj,aw rfl]
  have ahs:(l1++({x with wr:=wr,w:=4*(n+1),T:=T'}:Pt)::l2).length=d.xs.length:=by rw[hl];simp
  have kb:∀b,d.bJ b->au H b=au h b:=λb hb=>by rw[gH b (λe=>(o.nf hb).1 x hx (.inl e)),abj b hb]
  have bx:∀b,d.bJ b->b<dU:=λb hb=>aP (o.lt b hb) CB;have W2:T'.W p' H dU:=W'.aX (λb hb=>gH b (by
   rcases hb with q|q|q|q;.exact Ug b q
   .rw[q,S.pb];exact Sw.1.symm
   .rw[q,S.gb];exact Sw.2.1.symm
   .rw[q,S.fb];exact Sw.2.2.symm)) (an _)
  have PI:au H x.ib=some (.cells (Cu T' x.kd) 175):=by have npi:=px.np (.inr (.inl rfl));rw[gH _ px.ne,S.aX _ px.il px.noi npi.1 npi.2.1 npi.2.2,hS0 _ px.ne px.il,px.i,show Cu T' x.kd=Cu x.T x.kd by unfold Cu;rw[e1,e2]]
  have PP:Dp (l1++({x with wr:=wr,w:=4*(n+1),T:=T'}:Pt)::l2) p' (k+1) H dU:=by
   have P:=o.P;rw[hl]at P;refine P.step (x:=x) (x':={x with wr:=wr,w:=4*(n+1),T:=T'}) ⟨gX,aP px.xl CB,PI,aP px.il CB,W2,λq=>Ug _ q rfl,λq=>ad6 _ q rfl,J',⟨n+1,ah,rfl⟩,px.kd⟩ ?_ S.slt ?_ S.pb S.gb S.fb S.fl S.fr CB
   .rintro b (q|q|q);.exact .inl (.inl q)
    .exact .inl (.inr (.inl q))
    .exact(S.bl b q).imp (λq=> .inr (.inr q)) id
   .intro b hb hf g1 g2 g3;rw[gH b (λe=>hf (.inl e)),S.aX b hb (λq=>hf (.inr (.inr q))) g1 g2 g3,hS0 b (λe=>hf (.inl e)) hb]
  have hm:(l1++({x with wr:=wr,w:=4*(n+1),T:=T'}:Pt)::l2).map (λx=>x.xb)=d.xs.map (λx=>x.xb):=by rw[hl];simp
  have JH:(l1++({x with wr:=wr,w:=4*(n+1),T:=T'}:Pt)::l2).map (λx=>Is d.N x.xb)=d.xs.map (λx=>Is d.N x.xb):=by rw[hl];simp
  have hm3:(l1++({x with wr:=wr,w:=4*(n+1),T:=T'}:Pt)::l2).flatMap Ct=d.xs.flatMap Ct:=by rw[hl];simp
  refine⟨?_,?_,?_,?_,?_,?_,?_,?_,?_,PP,bx,?_,?_,?_⟩;.show au H d.wb=some (.cells (wB d.eb d.mb p'.pb d.sb (l1++({x with wr:=wr,w:=4*(n+1),T:=T'}:Pt)::l2).length d.cap d.hv d.IE) 35);rw[kb _ (.inl rfl),S.pb,ahs];exact o.w
  .rw[kb _ (.inr (.inl rfl))];exact o.e
  .rw[kb _ (.inr (.inr (.inl rfl)))];exact o.m
  .show pL H dU d.rb d.rx [strs d.los,IC ((l1++({x with wr:=wr,w:=4*(n+1),T:=T'}:Pt)::l2).map λx=>Is d.N x.xb)];rw[JH];exact o.r.aX (kb _ (.inr (.inr (.inr (.inl rfl))))) (kb _ (.inr (.inr (.inr (.inr (.inl rfl)))))) CB
  .rw[kb _ (.inr (.inr (.inr (.inr (.inr (.inl rfl))))))];exact o.s
  .show d.A.take (l1++({x with wr:=wr,w:=4*(n+1),T:=T'}:Pt)::l2).length=(l1++({x with wr:=wr,w:=4*(n+1),T:=T'}:Pt)::l2).flatMap Ct;rw[ahs,hm3];exact o.sA
  .exact o.hv.aX λb hb=>kb b (.inr (.inr (.inr (.inr (.inr (.inr hb))))))
  .exact λb hb=>⟨aY _,aP (o.lB b hb).2 CB⟩
  .exact gi o.vW (by show 3*k<=3*(k+1);omega)
  .intro y hy b hb;rcases bp.1 hy with hy|hy
   .exact o.wo y (by rw[hl];simp[hy]) b hb
   .rcases bE.1 hy with rfl|hy
    .intro q;rcases S.bl b q with q|q
     .exact o.wo x hx b hb q
     .have:=o.lt b hb;omega
    .exact o.wo y (by rw[hl];simp[hy]) b hb
  .have bn:=o.bn;rw[hl]at bn;exact bn.rep rfl rfl rfl
  .refine⟨gi o.N.1 CB,λy hy=>?_⟩;have:y.xb∈(l1++({x with wr:=wr,w:=4*(n+1),T:=T'}:Pt)::l2).map (λx=>x.xb):=List.mem_map_of_mem hy;rw[hm]at this;obtain⟨z,hz,e⟩:=bu.1 this;rw[<-e];exact o.N.2 z hz
 .rintro b (hb|⟨y,hy,hb⟩|hb|hb|hb);.exact .inl (.inl hb)
  .rcases bp.1 hy with hy|hy;.exact .inl (.inr (.inl ⟨y,by rw[hl];simp[hy],hb⟩))
   .rcases bE.1 hy with rfl|hy
    .rcases hb with q|q|q;.exact .inl (.inr (.inl ⟨x,hx,.inl q⟩))
     .exact .inl (.inr (.inl ⟨x,hx,.inr (.inl q)⟩))
     .exact(S.bl b q).imp (λq=> .inr (.inl ⟨x,hx,.inr (.inr q)⟩)) id
    .exact .inl (.inr (.inl ⟨y,by rw[hl];simp[hy],hb⟩))
  .exact .inl (.inr (.inr (.inl (hb.trans S.pb))))
  .exact .inl (.inr (.inr (.inr (.inl (hb.trans S.gb)))))
  .exact .inl (.inr (.inr (.inr (.inr (hb.trans S.fb)))))
 .intro b hb hna;have nf:¬x.nW b:=λq=>hna (.inr (.inl ⟨x,hx,q⟩));rw[S.aX b hb (λq=>nf (.inr (.inr q))) (λe=>hna (.inr (.inr (.inl e)))) (λe=>hna (.inr (.inr (.inr (.inl e))))) (λe=>hna (.inr (.inr (.inr (.inr e))))),hS0 b (λe=>nf (.inl e)) hb]
 .rw[hl];simp
theorem Wd.ok.ev(o:d.ok k h nx){hv':AV}{nxt':Int}{evs':List Ev}(hn:nx<=nx')(hs:∀b,b<nx->b≠d.wb->bZ d.hv≠some b->au h' b=au h b)
 (hw:au h' d.wb=some (.cells (wB d.eb d.mb d.p.pb d.sb d.xs.length d.cap hv' nxt') 35)) (ho:Own evc 129 13 h' hv' evs') (lB:∀b,bZ hv'=some b->bZ d.hv=some b\/(nx<=b/\b<nx')) (hf:evs'.length<=3*k):
 ({d with hv:=hv',IE:=nxt',KW:=evs'}:Wd).ok k h' nx'/\∀b,({d with hv:=hv',IE:=nxt',KW:=evs'}:Wd).all b->d.all b\/nx<=b:=by
 have g:∀b t cs,au h b=some (.cells cs t)->t≠35->t≠129->b<nx->au h' b=au h b:=λb t cs hb h1 h2 db=>hs b db (eO hb o.w h1) λe=>by obtain⟨A,hA⟩:=o.hv.bJ e;exact eO hb hA h2 rfl
 have nb:∀b,({d with hv:=hv',IE:=nxt',KW:=evs'}:Wd).bJ b->d.bJ b\/(nx<=b/\b<nx'):=by
  rintro b (q|q|q|q|q|q|q);.exact .inl (.inl q)
  .exact .inl (.inr (.inl q))
  .exact .inl (.inr (.inr (.inl q)))
  .exact .inl (.inr (.inr (.inr (.inl q))))
  .exact .inl (.inr (.inr (.inr (.inr (.inl q)))))
  .exact .inl (.inr (.inr (.inr (.inr (.inr (.inl q))))))
  .exact(lB b q).imp (λq=> .inr (.inr (.inr (.inr (.inr (.inr q)))))) id
 have rk:pL h' nx' d.rb d.rx d.dir:=by
  obtain⟨⟨c1,t1⟩,c2,t2⟩:=o.r.ty;refine o.r.aX (g _ _ _ t1 bN bN o.r.UP) ?_ hn;rcases t2 with t2|t2;.exact g _ _ _ t2 bN bN o.r.PA
  .exact g _ _ _ t2 bN bN o.r.PA
 have pk:Dp d.xs d.p k h' nx':=by
  refine o.P.to (λb hb=>?_) hn (an _);have db:=o.P.lt hb;have nf:¬d.bJ b:=λq=>by
   obtain⟨n1,n2,n3,n4⟩:=o.nf q;rcases hb with⟨x,hx,hb⟩|e|e|e;.exact n1 x hx hb
   .exact n2 e
   .exact n3 e
   .exact n4 e
  exact hs b db (λe=>nf (.inl e)) (λe=>nf (.inr (.inr (.inr (.inr (.inr (.inr e)))))))
 refine⟨⟨hw,?_,?_,rk,?_,o.sA,ho,λb hb=>?_,hf,pk,λb hb=>?_,λx hx b hb q=>?_,o.bn,gi o.N.1 hn,o.N.2⟩,λb hb=>?_⟩;.rw[g _ _ _ o.e bN bN (o.lt _ (.inr (.inl rfl)))];exact o.e
 .rw[g _ _ _ o.m bN bN (o.lt _ (.inr (.inr (.inl rfl))))];exact o.m
 .rw[g _ _ _ o.s bN bN (o.lt _ (.inr (.inr (.inr (.inr (.inr (.inl rfl)))))))];exact o.s
 .rcases lB b hb with q|q;.exact⟨aY _,aP (o.lB b q).2 hn⟩
  .exact⟨aY _,q.2⟩
 .rcases nb b hb with q|q;.exact aP (o.lt b q) hn
  .exact q.2
 .rcases nb b hb with q2|q2;.exact o.wo x hx b q2 q
  .have:=(o.P.all x hx).w.lt q;omega
 .rcases hb with q|q|q;.exact(nb b q).imp .inl (·.1)
  .exact .inl (.inr (.inl q))
  .exact .inl (.inr (.inr q))
end
end bC
end Go.Proofs.YtonnifoeokagjaaGreat
