/- The theorem plans_holds of OrdersPlans: part 9 of its proof; no conditions. -/
import Derived.Test.YtonnifoeokagjaaGreatF08
namespace Go.Proofs.YtonnifoeokagjaaGreat
set_option linter.all false
set_option maxRecDepth 8000
open Go Go.RowKit
open Tryz
open Nat(reduceAdd reduceMul)
namespace bC
noncomputable section
variable{P:Program}{a:AV}{r:dG}{t:TypeId}
structure dA(nx:Nat)(own yV:Nat->Prop)(sl sl':Nat->Prop)(p p':bj)(h h':aG):Prop where
 pb:p'.pb=p.pb
 gb:p'.gb=p.gb
 fb:p'.fb=p.fb
 fl:p'.fr.length=p.fr.length
 fr:∀s,p.fr.getD s false=false->p'.fr.getD s false=false\/sl s
 bl:∀b,yV b->own b\/nx<=b
 slt:∀s,sl' s->sl s\/p.fr.getD s false=true
 aX:∀b,b<nx->¬own b->b≠p.pb->b≠p.gb->b≠p.fb->au h' b=au h b
def Ar.own{α:Type}(a:Ar α)(b:Nat):Prop:=b=a.ab\/b=a.mb\/∃e∈a.es,e.bJ=b
def Ar.sl{α:Type}(a:Ar α)(s:Nat):Prop:=∃e∈a.es,e.ao=s
def Bl.own(t:Bl)(b:Nat):Prop:=b=t.tb\/t.a.own b
theorem Step.p{nx:Nat}{t t':Bl}{p p':bj}{h h':aG}(s:Step nx t t' p p' h h'):dA nx t.own t'.own t.a.sl t'.a.sl p p' h h':=
 ⟨s.pb,s.gb,s.fb,s.fl,λx hx=> .inl (s.fr x hx),λb hb=>by
  rcases hb with e1|e1|e1|⟨e,he,rfl⟩;.exact .inl (.inl (e1.trans s.tb))
  .exact .inl (.inr (.inl (e1.trans s.ab)))
  .exact .inl (.inr (.inr (.inl (e1.trans s.mb))))
  .rcases s.bJ e he with⟨f,hf,e1⟩|q;.exact .inl (.inr (.inr (.inr ⟨f,hf,e1⟩)))
   .exact .inr q,λx hx=>by
  obtain⟨e,he,rfl⟩:=hx;rcases s.slt e he with q|q;.exact .inl q
  .exact .inr q,λb hb ho g1 g2 g3=>s.aX b hb (λe=>ho (.inl e)) g1 g2 g3 (λe=>ho (.inr (.inr (.inl e)))) (λe he e'=>ho (.inr (.inr (.inr ⟨e,he,e'⟩))))⟩
theorem aeN:SM P t none=some (.yC (.map [] 0)):=bF rfl
attribute[go_sem] aeN
theorem anG(h:aG)(nx pb:Nat):aA prog 128 [.ptr pb 0] h nx λv h' nx'=>∃ab mb,nx<=ab/\nx<=mb/\¬(ab=mb)/\ab<nx'/\mb<nx'/\v= .ptr ab 0/\au h' ab=some (.cells [.ptr pb 0,.mp mb] 289)/\au h' mb=some (.map [] 0)/\aH nx h h':=by refine aA.ac 1 T0 func128 ?_;simp+decide-dsimp only[f128,go_sem];exact⟨nx+1,nx,ah,ah,ah,ah,ah,rfl,by rw[aw rfl],by rw[ak ah,aw rfl],(aH.refl.set (an _)).set (bz _)⟩
def uJ:Nd:={aE:=true,aJ:=[],fQ:=[],bU:=[],cR:=[],bd:=false,next:=⟨0,0⟩}
theorem NZ{vs:List Value}(h:eM r [a,.agg [bQ true,.g (.slice none 0 0),.g (.slice none 0 0),.g (.slice none 0 0),bR [],bQ false,int 0,u64 0]] vs):eM r [a,uJ.av] vs:=by
 cases h with|cons h1 h=>cases h with|cons h2 h=>cases h with|nil=>
 refine .cons h1 (.cons ?_ .nil);cases h2 with|agg h=>
 cases h with|cons a1 h=>cases h with|cons a2 h=>cases h with|cons a3 h=>cases h with|cons a4 h=>cases h with|cons a5 h=>cases h with|cons a6 h=>cases h with|cons a7 h=>cases h with|cons a8 h=>cases h with|nil=>
 exact VR.agg (c:=[_,_,_,_,_,_,_,_]) (.cons a1 (.cons (qB a2) (.cons (qB a3) (.cons (qB a4) (.cons a5 (.cons a6 (.cons a7 (.cons a8 .nil))))))))
theorem BI.new(Pk:ba->Prop)(hd:Hd):BI Pk (up (λ_=>none) hd.ao (hd.bk,uJ)) hd (λ_=>[]) (λ_=>0) (λ_=>False):=by
 have get:∀s g n,up (λ_=>none) hd.ao (hd.bk,uJ) s=some (g,n)->s=hd.ao/\n=uJ:=by
  intro s g n h;by_cases hs:s=hd.ao;.subst hs;rw[cO]at h;injection h with h;injection h with _ h;exact⟨rfl,h.symm⟩
  .rw[cH hs]at h;cases h
 have hR:uJ.R:=⟨λi hi=>absurd hi (bW _),λi hi=>absurd hi (bW _),λ_=>rfl,λ_=>⟨rfl,rfl⟩,(λh=>by cases h),bN⟩;refine⟨λs g n h=>?_,λs g n h=>?_,λs g n h=>?_,λs g n h=>?_,λs g n h=>?_,λs g n h=>?_,λs g n h=>?_,λs g n s' g' n' h h' _ cx=>?_,⟨uJ,cO,rfl,rfl⟩,λs g n h=>?_,λs g n h=>?_⟩;.obtain⟨_,rfl⟩:=get s g n h;exact hR
 .obtain⟨_,rfl⟩:=get s g n h;exact .inl bN
 .obtain⟨_,rfl⟩:=get s g n h;exact⟨λ_=>rfl,λ_=>rfl⟩
 .obtain⟨_,rfl⟩:=get s g n h;exact λi hi=>absurd hi (bW _)
 .obtain⟨_,rfl⟩:=get s g n h;exact λh=>by cases h
 .obtain⟨_,rfl⟩:=get s g n h;exact λh=>by cases h
 .obtain⟨_,rfl⟩:=get s g n h;exact λ_ h=>by cases h
 .obtain⟨e1,_⟩:=get s g n h;obtain⟨e2,_⟩:=get s' g' n' h';exact absurd (e1.trans e2.symm) cx
 .obtain⟨_,rfl⟩:=get s g n h;exact λ_ k hk=>by cases hk
 .obtain⟨_,rfl⟩:=get s g n h;exact an _
theorem alb(p:bj)(h:aG)(nx:Nat)(sg:p.ok h nx)(hc:p.fr.count true≠0)(Pk:ba->Prop):
 aA prog 109 [.ptr p.pb 0] h nx λr h' nx'=>∃(t:Bl) (p':bj),r= .dN [.ptr t.tb 0,int 0]/\BW t p' h' nx'/\dA nx (λ_=>False) t.own (λ_=>False) t.a.sl p p' h h'/\p'.fr.count true+1=p.fr.count true/\Mh Pk (cV t.a.es) t.aO 0:=by
 have l1:=sg.rY;have l2:=sg.ss;have l3:=sg.sr;refine aA.ac 1 T0 func109 ?_;simp+decide-dsimp only[f109,go_sem];refine cf (anG h nx p.pb) λ_ h1 cm l1 ⟨ab,mb,g1,g2,g3,g4,g5,g6,g7,g8,g9⟩=>?_;subst g6;simp+decide-dsimp only[go_sem];have B0:BW ⟨cm,⟨ab,mb,0,p.pb,[]⟩,⟨0,0⟩,0⟩ p (aK h1 cm (.cells [.ptr p.pb 0,.ptr ab 0,int 0,u64 0,int 0,bQ false] 249)) (cm+1):=by
  refine⟨⟨by rw[aj,aw rfl];rfl,⟨by show au _ ab=_;rw[aj,ak ah];exact g7,by show au _ mb=_;rw[aj,ak ah];exact g8,(λe he=>by cases he),nY,nY,(λe he=>by cases he),g3,by show ab<_;omega,by show mb<_;omega⟩,by show cm≠ab;omega,by show cm≠mb;omega,(λe he=>by cases he),aW _⟩,
   sg.aX (λb hb=>by rw[aj,ak ah];exact g9 b hb) ah,⟨rfl,⟨by show ab≠_;omega,by show ab≠_;omega,by show ab≠_;omega⟩,⟨by show mb≠_;omega,by show mb≠_;omega,by show mb≠_;omega⟩,(λe he=>by cases he),(λe he=>by cases he)⟩,⟨by show cm≠_;omega,by show cm≠_;omega,by show cm≠_;omega⟩⟩
 refine cf (aA.Ue (args':=[.ptr ab 0,uJ.av]) (by rfl) (λr vs hv=>NZ hv) (B0.ur hc uJ)) λ_ h2 dU l2 ⟨t1,p1,x,f1,f2,B1,fI,f3,f4,f5,f6⟩=>?_;subst f2;have k1:au h2 cm=some (.cells [.ptr t1.a.pb 0,.ptr t1.a.ab 0,int t1.aO.ao,u64 t1.aO.bk,.g (.int .i64 t1.size),bQ false] 249):=by have:=B1.tk.tr;rw[fI.tb]at this;exact this
 have d1:¬(cm=dU):=ah;simp+decide-dsimp only[go_sem,k1,d1,reduceAdd];obtain⟨B2,tH⟩:=B1.tree x t1.size;rw[fI.tb]at B2 tH;have pz:=(fI.trans tH ah).p;have CS:∀b,Bl.own ⟨cm,⟨ab,mb,0,p.pb,[]⟩,⟨0,0⟩,0⟩ b->nx<=b:=by
  rintro b (e|e|e|⟨e,he,_⟩);.have e:b=cm:=e;omega
  .have e:b=ab:=e;omega
  .have e:b=mb:=e;omega
  .cases he
 refine⟨_,p1,rfl,B2.aX (aH.fJ ((aH.refl.set (an _)).set (an _))) ah,⟨pz.pb,pz.gb,pz.fb,pz.fl,λs hs=>?_,λb hb=>?_,λs hs=>?_,λb hb _ q1 q2 q3=>?_⟩,f6,⟨λ_=>[],λ_=>0,?_,an _⟩⟩
 .rcases pz.fr s hs with q|⟨e,he,_⟩;.exact .inl q
  .cases he
 .rcases pz.bl b hb with q|q;.exact .inr (CS b q)
  .right;omega
 .rcases pz.slt s hs with⟨e,he,_⟩|q;.cases he
  .exact .inr q
 .rw[show au _ b=au _ b from aH.fJ ((aH.refl.set (an dU)).set (an dU)) b ah,pz.aX b ah (λh=>by have:=CS b h;omega) q1 q2 q3,aj,ak ah];exact g9 b hb
 .show BI Pk (cV t1.a.es) x _ _ _;rw[f3];exact BI.new Pk x
variable{h:aG}{n:Nat}{op:BinOp}{x y:Operand}
section
variable{P:Program}
theorem mO{s d:TypeId}{k k':IntKind}{n:Int}{ds:TypeDesc}(hs:P.underlying s=some ds)(hd:P.underlying d=some (.int k')):nD P h s d (.g (.int k n))=some (.g (.int k' (cF k' n))):=by
 show(match br P (convert s d (.int k n))with|some r=>some (AV.g r)|none=>none)=_;have:br P (convert s d (.int k n))=some (.int k' (cF k' n)):=by unfold convert;simp only[bX,gI hs,gI hd];show br P (Conv.intToInt k' n)=_;rw[gT];rfl
 rw[this]
theorem yb{k k':IntKind}{m n:Int}{r:Int}(ho:op= .shr\/op= .shl)(hn:0<=n)(hr:br P (Op.shift op k m k' n)=some (.int k r)):
 cZ P h op t x y (.g (.int k m)) (.g (.int k' n))=some (.g (.int k r)):=by
 have hg:br P (do eqGuard op t x y (.int k m) (.int k' n);binOp op t (.int k m) (.int k' n))=some (.int k r):=by
  rcases ho with rfl|rfl;.unfold eqGuard binOp;simp only[bX];exact hr
  .unfold eqGuard binOp;simp only[bX];exact hr
 have hs:iG P h op t x y (.g (.int k m)) (.g (.int k' n))=some (.g (.int k r)):=by show ke P op t x y (.int k m) (.int k' n)=_;unfold ke;rw[hg]
 unfold cZ;simp only[eD];split;.rcases ho with rfl|rfl<;>exact hs
 .exact hs
theorem F5{k':IntKind}{a:Nat}(hn:n<=64):cZ P h .shr t x y (.g (.int .u64 a)) (.g (.int k' n))=some (.g (.int .u64 (a>>>n:Nat))):=by refine yb (.inl rfl) ah ?_;unfold Op.shift;rw[ak ah];show some (Value.int .u64 ((a:Int).fdiv (2^min (n:Int).toNat 64)))=_;rw[mZ,bM hn,pj];have:((2:Int)^n)=((2^n:Nat):Int):=bL;rw[this,Int.fdiv_eq_ediv_of_nonneg _ (gZ _)];rfl
theorem afG{k':IntKind}{a:Nat}:cZ P h .shr t x y (.g (.int .u64 a)) (.g (.int k' 1))=some (.g (.int .u64 (a / 2:Nat))):=by have:=F5 (P:=P) (h:=h) (t:=t) (x:=x) (y:=y) (k':=k') (a:=a) (n:=1) ah;rw[show a>>>1=a / 2 from rfl]at this;exact this
end
theorem X0{n:Int}:nD prog h 3 286 (.g (.int .i64 n))=some (.g (.int .u64 (cF .u64 n))):=mO Da Tv
theorem Yd{n:Int}:nD prog h 286 3 (.g (.int .u64 n))=some (.g (.int .i64 (cF .i64 n))):=mO Tv Da
theorem ah2{n:Int}:nD prog h 5 3 (.g (.int .u8 n))=some (.g (.int .i64 (cF .i64 n))):=mO UX Da
theorem ai2{n:Int}:nD prog h 3 5 (.g (.int .i64 n))=some (.g (.int .u8 (cF .u8 n))):=mO Da UX
theorem ak0{a:Nat}(h:a<9223372036854775808):cF .u64 (a:Int)=(a:Int):=lg ah ah
theorem ann{a:Nat}(h:a<9223372036854775808):cF .i64 (a:Int)=(a:Int):=wrap_i64 ah ah
theorem ajY{x:UInt8}:cF .i64 (x.toNat:Int)=(x.toNat:Int):=by have:=x.toNat_lt;exact wrap_i64 ah ah
theorem wu8{a:Nat}(h:a<256):cF .u8 (a:Int)=(a:Int):=wrap_u8 ah ah
attribute[go_sem] X0 Yd ah2 ai2 afG ak0 ann ajY wu8
variable{A:List AV}{b':AV}{i nx:Nat}
theorem Fz.jS{b a':AV}(h1:Fz h nx a a')(h2:Fz h nx b b'):Fz h nx (.dN [a,b]) (.dN [a',b']):= .dN (.cons h1 (.cons h2 .nil))
theorem ak3(x:UInt8):bo 374 [u8 x.toNat] (bQ false):=by refine bo.ac 1 T0 func374 λh nx=>?_;simp+decide-dsimp only[f374,go_sem];exact .of .refl .cA
theorem anp(x:UInt8):bo 371 [u8 x.toNat] (bQ false):=by refine bo.ac 1 T0 func371 λh nx=>?_;simp+decide-dsimp only[f371,go_sem];exact .of .refl .cA
theorem akg(x y:UInt8):bo 370 [u8 x.toNat,u8 y.toNat] (bQ (decide (x<y))):=by refine bo.ac 2 T0 func370 λh nx=>?_;simp+decide-dsimp only[f370,go_sem];refine aZ (ak3 x) ?_;simp+decide-dsimp only[go_sem];exact .dT .refl .cA rfl
def kU(l:List UInt8)(x:UInt8):Nat:=(l.takeWhile (· <x)).length
def lM(l:List UInt8):Prop:=l.Pairwise (· < ·)
theorem FC(l:List UInt8)(x:UInt8):kU l x<=l.length:=by unfold kU;exact(List.takeWhile_sublist _).length_le
theorem EO:∀{l:List UInt8} {x:UInt8} {i:Nat},i<kU l x->l.getD i 0<x
 |[],x,i,h=>by simp[kU]at h
 |a::l,x,i,h=>by
  unfold kU at h;rw[lP]at h;split at h
  .rename_i ha;cases i with
   |zero=>simpa using ha
   |succ i=>exact EO (l:=l) (by simpa[kU]using h)
  .simp at h
theorem A6:∀{l:List UInt8} {x:UInt8} {i:Nat},lM l->kU l x<=i->i<l.length->¬l.getD i 0<x
 |[],x,i,_,_,h=>by simp at h
 |a::l,x,i,hs,h,hi=>by
  unfold kU at h;rw[lP]at h;obtain⟨h1,h2⟩:=dS.1 hs;split at h
  .cases i with
   |zero=>simp at h
   |succ i=>exact A6 (l:=l) h2 (by simpa[kU]using h) (by simpa using hi)
  .rename_i ha;have ha:¬a<x:=by simpa using ha
   cases i with
   |zero=>simpa using ha
   |succ i=>
    have hi:i<l.length:=by simpa using hi
    have:=h1 (l[i]) (bS hi);intro db;refine ha (UInt8.lt_trans this ?_);simpa[List.getD,hi]using db
theorem Own.sl{α:Type}{c:α->List AV}{e sz:Nat}{h:aG}{v:AV}{l:List α}(o:Own c e sz h v l)(hl:0<l.length):∃b cap A,v= .sl b 0 l.length cap/\au h b=some (.cells A e)/\l.length<=cap/\A.length=cap*sz/\A.take (l.length*sz)=l.flatMap c:=by
 rcases o with⟨_,e⟩|o;.rw[e]at hl;cases hl
 .exact o
theorem z'{l:List UInt8}(h:A.take (l.length*1)=l.flatMap jc)(hi:i<l.length):iW (i*1) A=some (u8 (l.getD i 0).toNat):=by
 have e:l.flatMap jc=l.map (λb=>u8 b.toNat):=by
  clear h hi
  induction l with
  |nil=>rfl
  |cons a l ih=>rw[bG,ih];rfl
 rw[e,cJ]at h;rw[kr,cJ];have:(A.take l.length)[i]?=A[i]?:=by rw[eE,aw hi]
 rw[<-this,h];simp[List.getD,hi]
def hasB(l:List UInt8)(x:UInt8):Bool:=decide (kU l x<l.length)&&decide (l.getD (kU l x) 0=x)
theorem ab'(l:List UInt8)(hs:lM l)(hl:l.length<65536)(v:AV)(x:UInt8)(h:aG)(nx:Nat)(ho:Own jc 5 1 h v l)(lB:In 0 nx v):
 aA prog 366 [v,u8 x.toNat] h nx (dr (.dN [int (kU l x),bQ (hasB l x)]) h nx):=by
 refine aA.pc 2 T0 func366 ?_;simp+decide-dsimp only[f366,go_sem,ho.len];refine cL _ _ (λm s h' nx'=>∃i j,m=j-i/\i<=kU l x/\kU l x<=j/\j<=l.length/\ao s 0=v/\ao s 1=u8 x.toNat/\ao s 6=int l.length/\ao s 7=int i/\ao s 8=int j/\h'=h/\nx<=nx') (n:=l.length) ?_ ?_;.simp+decide-dsimp only[go_sem];exact⟨0,l.length,rfl,aY _,FC _ _,an _,rfl,rfl⟩
 rintro m s h' nx' ⟨i,j,rfl,h1,h2,h3,s0,s1,s6,s7,s8,rfl,l1⟩;by_cases CT:i<j
 .have w1:i+j<9223372036854775808:=ah;have w2:(i+j) / 2<9223372036854775808:=ah;have w3:(i+j) / 2<l.length:=ah;have w4:(i+j) / 2+1<9223372036854775808:=ah;obtain⟨b,cap,A,e1,e2,e3,e4,e5⟩:=ho.sl ah;have g:=z' e5 w3;subst e1;simp+decide-dsimp only[go_sem,s0,s1,s7,s8,CT,w1,w2,w3,e2,g];refine aZ (akg _ _) ?_;by_cases hx:l.getD ((i+j) / 2) 0<x
  .simp+decide-dsimp only[go_sem,s0,s1,s6,s7,s8,hx,w4];have:(i+j) / 2<kU l x:=by
    rcases bg ((i+j) / 2) (kU l x)with q|q;.exact q
    .exact absurd hx (A6 hs q w3)
   exact⟨_,(ah:j-((i+j) / 2+1)<j-i),_,_,rfl,ah,h2,h3,rfl,rfl,ah⟩
  .simp+decide-dsimp only[go_sem,s0,s1,s6,s7,s8,hx];have:¬(i+j) / 2<kU l x:=λq=>hx (EO q);exact⟨_,(ah:(i+j) / 2-i<j-i),_,_,rfl,h1,ah,ah,rfl,rfl,ah⟩
 .have hi:i=kU l x:=ah;have hj:j=kU l x:=ah;subst hi;subst hj;by_cases db:kU l x<l.length
  .obtain⟨b,cap,A,e1,e2,e3,e4,e5⟩:=ho.sl ah;have g:=z' e5 db;subst e1;by_cases hx:l.getD (kU l x) 0=x
   .have hx':((l.getD (kU l x) 0).toNat:Int)=(x.toNat:Int):=by rw[hx]
    simp+decide-dsimp only[go_sem,s0,s1,s6,s7,s8,CT,db,e2,g,hx'];exact .dT .refl (.jS .cA .cA) (by unfold hasB;rw[aM db,aM hx];rfl)
   .have hx':¬(((l.getD (kU l x) 0).toNat:Int)=(x.toNat:Int)):=λe=>hx (eA.1 ah);simp+decide-dsimp only[go_sem,s0,s1,s6,s7,s8,CT,db,e2,g,hx'];refine aZ (anp _) ?_;simp+decide-dsimp only[go_sem];exact .dT .refl (.jS .cA .cA) (by unfold hasB;rw[aU hx];simp)
  .simp+decide-dsimp only[go_sem,s6,s7,s8,CT,db];exact .dT .refl (.jS .cA .cA) (by unfold hasB;rw[aU db];rfl)
variable{j:Nat}
abbrev KL:=List (UInt8×Hd)
abbrev kf(l:KL):List UInt8:=l.map Prod.fst
abbrev kh(l:KL):List Hd:=l.map Prod.snd
def fD(l:KL):Prop:=lM (kf l)
def jq(l:KL)(x:UInt8):Option Hd:=if hasB (kf l) x then some ((kh l).getD (kU (kf l) x) default)else none
def nV(l:KL)(x:UInt8)(y:Hd):KL:=if hasB (kf l) x then l.set (kU (kf l) x) (x,y)else l.take (kU (kf l) x)++(x,y)::l.drop (kU (kf l) x)
def pg(l:KL)(x:UInt8):KL:=if hasB (kf l) x then l.eraseIdx (kU (kf l) x)else l
def qx(l:KL)(b:Nat):Option (UInt8×Hd):=l.find? (λe=>decide (b<=e.1.toNat))
def zN(o:Option Hd):AV:= .dN [(o.getD default).av,bQ o.isSome]
theorem mg{l:List UInt8}{x:UInt8}:hasB l x=true↔kU l x<l.length/\l.getD (kU l x) 0=x:=by unfold hasB;simp
theorem lM.lt{l:List UInt8}(hs:lM l)(CT:i<j)(hj:j<l.length):l.getD i 0<l.getD j 0:=by have:=(fq.1 hs) i j ah hj CT;simpa[List.getD,hj,Nat.lt_trans CT hj]using this
theorem EA{l:List UInt8}(hs:lM l)(hi:i<l.length):kU l (l.getD i 0)=i:=by
 rcases cI (kU l (l.getD i 0)) i with h|h|h;.have h1:=hs.lt h hi;exact absurd h1 (A6 hs (an _) ah)
 .exact h
 .exact absurd (EO h) (UInt8.lt_irrefl _)
theorem xI{l:List UInt8}(hs:lM l){x:UInt8}:hasB l x=true↔x∈l:=by
 rw[mg];constructor;.rintro⟨h1,h2⟩;rw[<-h2];simp[List.getD,h1]
 .intro h;obtain⟨i,hi,rfl⟩:=cu.1 h;have e:l[i]=l.getD i 0:=by simp[List.getD,hi]
  rw[e,EA hs hi];exact⟨hi,rfl⟩
theorem fD.uniq{l:KL}(hs:fD l){x:UInt8}{y y':Hd}(h:(x,y)∈l)(h':(x,y')∈l):y=y':=by
 obtain⟨i,hi,e⟩:=cu.1 h;obtain⟨j,hj,e'⟩:=cu.1 h';have key:i=j:=by
  rcases cI i j with q|q|q;.have:=lM.lt hs q (by simpa using hj);simp[List.getD,hi,hj,e,e']at this
  .exact q
  .have:=lM.lt hs q (by simpa using hi);simp[List.getD,hi,hj,e,e']at this
 subst key;rw[e]at e';injection e'
theorem kz{l:KL}(hs:fD l){x:UInt8}{y:Hd}:jq l x=some y↔(x,y)∈l:=by
 unfold jq;constructor
 .intro h;split at h
  .rename_i hh;obtain⟨h1,h2⟩:=mg.1 hh;injection h with h
   have hl:kU (kf l) x<l.length:=by simpa using h1
   have e1:l[kU (kf l) x].1=x:=by simpa[List.getD,hl]using h2
   have e2:l[kU (kf l) x].2=y:=by rw[<-h];simp[List.getD,hl]
   have:=bS hl;rw[show l[kU (kf l) x]=(x,y)from Prod.ext e1 e2]at this;exact this
  .cases h
 .intro h;have hm:x∈kf l:=bu.2 ⟨_,h,rfl⟩;rw[aw ((xI hs).2 hm)];obtain⟨i,hi,e⟩:=cu.1 h;have hx:x=(kf l).getD i 0:=by simp[List.getD,hi,e]
  have hp:kU (kf l) x=i:=by rw[hx];exact EA hs (by simpa using hi)
  rw[hp];simp[List.getD,hi,e]
theorem mK{l:KL}(hs:fD l){x:UInt8}:jq l x=none↔∀y,(x,y)∉l:=by
 constructor;.intro h y hy;rw[(kz hs).2 hy]at h;cases h
 .intro h;cases hq:jq l x with
  |none=>rfl
  |some y=>exact absurd ((kz hs).1 hq) (h y)
theorem wL{l:KL}{x:UInt8}:(jq l x).isSome=hasB (kf l) x:=by unfold jq;split<;>simp_all
theorem xd{l:KL}(hs:fD l){x:UInt8}{y:Hd}{e:UInt8×Hd}:e∈nV l x y↔e=(x,y)\/(e.1≠x/\e∈l):=by
 unfold nV;cases hh:hasB (kf l) x with
 |true=>
  obtain⟨h1,h2⟩:=mg.1 hh;have hl:kU (kf l) x<l.length:=by simpa using h1
  have e1:l[kU (kf l) x].1=x:=by simpa[List.getD,hl]using h2
  rw[aw rfl];constructor
  .intro h;obtain⟨i,hi,e2⟩:=cu.1 h;rw[List.getElem_set]at e2;split at e2;.exact .inl e2.symm
   .rename_i cx;have rX:i<l.length:=by simpa using hi
    refine .inr ⟨λhx=>cx ?_,by rw[<-e2];exact bS rX⟩;have:(kf l).getD i 0=x:=by rw[<-hx,<-e2];simp[List.getD,rX]
    rw[<-this];exact EA hs (by simpa using rX)
  .rintro(rfl|⟨cx,h⟩);.exact cu.2 ⟨_,by simpa using hl,by rw[List.getElem_set_self]⟩
   .obtain⟨i,hi,e2⟩:=cu.1 h;refine cu.2 ⟨i,by simpa using hi,?_⟩;rw[List.getElem_set_ne,e2];intro hq;subst hq;rw[e2]at e1;exact cx e1
 |false=>
  have mS:∀z,(x,z)∉l:=λz hz=>by have:=(xI hs).2 (bu.2 ⟨_,hz,rfl⟩);rw[hh]at this;cases this
  rw[ak bL];rw[bp,bE];constructor
  .rintro(h|rfl|h);.have:=ef h;exact .inr ⟨λhx=>mS e.2 (by rw[<-hx];exact this),this⟩
   .exact .inl rfl
   .have:=ir h;exact .inr ⟨λhx=>mS e.2 (by rw[<-hx];exact this),this⟩
  .rintro(rfl|⟨_,h⟩);.exact .inr (.inl rfl)
   .rw[<-bY (kU (kf l) x) l,bp]at h;rcases h with h|h
    .exact .inl h
    .exact .inr (.inr h)
theorem jy{l:KL}(hs:fD l)(x:UInt8)(y:Hd):fD (nV l x y):=by
 unfold nV;cases hh:hasB (kf l) x with
 |true=>
  obtain⟨h1,h2⟩:=mg.1 hh;rw[aw rfl];have:kf (l.set (kU (kf l) x) (x,y))=kf l:=by
   rw[kf,oE];refine nM λi=>?_;rw[xq];split
   .rename_i e;subst e;have hl:kU (kf l) x<l.length:=by simpa using h1
    have:(kf l)[kU (kf l) x]'h1=x:=by simpa[List.getD,hl]using h2
    rw[aF h1,this]
   .rfl
  unfold fD;rw[this];exact hs
 |false=>
  rw[ak bL];have qH:lM (kf l):=hs;unfold fD lM;have e:kf (l.take (kU (kf l) x)++(x,y)::l.drop (kU (kf l) x))=(kf l).take (kU (kf l) x)++x::(kf l).drop (kU (kf l) x):=by simp[sY,xO]
  rw[e,im,dS];have ht:∀a∈(kf l).take (kU (kf l) x),a<x:=by intro a ha;obtain⟨i,hi,rfl⟩:=cu.1 ha;rw[ax]at hi;have:=EO (l:=kf l) (x:=x) (i:=i) ah;simpa[List.getD,show i<l.length by simp at hi;omega]using this
  have hd:∀a∈(kf l).drop (kU (kf l) x),x<a:=by
   intro a ha;obtain⟨i,hi,rfl⟩:=cu.1 ha;rw[aC]at hi;have h1:=A6 qH (i:=kU (kf l) x+i) (x:=x) ah ah;have h2:(kf l).getD (kU (kf l) x+i) 0≠x:=by
    intro h;have hm:x∈kf l:=by rw[<-h];simp only[List.getD,aF (show kU (kf l) x+i<(kf l).length from ah)];exact bS _
    rw[(xI qH).2 hm]at hh;cases hh
   rw[Lg];have e3:(kf l).getD (kU (kf l) x+i) 0=(kf l)[kU (kf l) x+i]' ah:=by simp only[List.getD,aF (show kU (kf l) x+i<(kf l).length from ah)];rfl
   rw[<-e3];rcases UInt8.lt_or_lt_of_ne h2 with q|q
   .exact absurd q h1
   .exact q
  refine⟨qH.sublist (List.take_sublist _ _),⟨hd,qH.sublist (List.drop_sublist _ _)⟩,λa ha b hb=>?_⟩;rcases bE.1 hb with rfl|hb
  .exact ht a ha
  .exact UInt8.lt_trans (ht a ha) (hd b hb)
theorem wQ{l:KL}(hs:fD l){x:UInt8}{e:UInt8×Hd}:e∈pg l x↔e.1≠x/\e∈l:=by
 unfold pg;cases hh:hasB (kf l) x with
 |false=>rw[ak bL];refine⟨λh=>⟨λhx=>?_,h⟩,λh=>h.2⟩;rw[<-hx,(xI hs).2 (bu.2 ⟨_,h,rfl⟩)]at hh;cases hh
 |true=>
  obtain⟨h1,h2⟩:=mg.1 hh;have hl:kU (kf l) x<l.length:=by simpa using h1
  have e1:l[kU (kf l) x].1=x:=by simpa[List.getD,hl]using h2
  rw[aw rfl,List.mem_eraseIdx_iff_getElem];constructor
  .rintro⟨i,hi,cx,rfl⟩;refine⟨λhx=>cx ?_,bS hi⟩;have:(kf l).getD i 0=x:=by rw[<-hx];simp[List.getD,hi]
   rw[<-this];exact(EA hs (by simpa using hi)).symm
  .rintro⟨cx,h⟩;obtain⟨i,hi,rfl⟩:=cu.1 h;exact⟨i,hi,λhq=>cx (by subst hq;exact e1),rfl⟩
theorem lz{l:KL}(hs:fD l)(x:UInt8):fD (pg l x):=by
 unfold pg;split;.exact hs.sublist ((List.eraseIdx_sublist _ _).map _)
 .exact hs
theorem GF{l:KL}{x:UInt8}{y:Hd}:(nV l x y).length=l.length+(if hasB (kf l) x then 0 else 1):=by
 unfold nV;cases hh:hasB (kf l) x with
 |true=>simp
 |false=>have:=FC (kf l) x;simp at this⊢;omega
theorem Iq{l:KL}{x:UInt8}:(pg l x).length=l.length-(if hasB (kf l) x then 1 else 0):=by
 unfold pg;cases hh:hasB (kf l) x with
 |true=>have:=(mg.1 hh).1;rw[aw rfl,iQ (by simpa using this)];simp
 |false=>simp
theorem yR{l:KL}(hs:fD l){x z:UInt8}{y:Hd}:jq (nV l x y) z=if z=x then some y else jq l z:=by
 split;.rename_i e;subst e;exact(kz (jy hs _ _)).2 ((xd hs).2 (.inl rfl))
 .rename_i cx;cases hq:jq l z with
  |some w=>exact(kz (jy hs _ _)).2 ((xd hs).2 (.inr ⟨cx,(kz hs).1 hq⟩))
  |none=>
   refine(mK (jy hs _ _)).2 λw hw=>?_;rcases(xd hs).1 hw with e|⟨_,e⟩
   .injection e with e;exact cx e
   .exact(mK hs).1 hq w e
theorem Ek{l:KL}(hs:fD l){x z:UInt8}:jq (pg l x) z=if z=x then none else jq l z:=by
 split;.rename_i e;subst e;exact(mK (lz hs _)).2 λw hw=>((wQ hs).1 hw).1 rfl
 .rename_i cx;cases hq:jq l z with
  |some w=>exact(kz (lz hs _)).2 ((wQ hs).2 ⟨cx,(kz hs).1 hq⟩)
  |none=>exact(mK (lz hs _)).2 λw hw=>(mK hs).1 hq w ((wQ hs).1 hw).2
variable{b:Nat}
theorem fD.len{l:KL}(hs:fD l):l.length<=256:=by have:=uv 256 ((kf l).map UInt8.toNat) (by have h:(kf l).Pairwise (· < ·):=hs;refine List.pairwise_map.2 (h.imp λ{a b} xz e=>?_);have xz:=cW.1 xz;omega) (λx hx=>by obtain⟨y,_,rfl⟩:=bu.1 hx;exact y.toNat_lt);simpa using this
structure Srt(h:aG)(nx sb:Nat)(l:KL)(K H:AV):Prop where
 bJ:au h sb=some (.cells [K,H] 303)
 k:Own jc 5 1 h K (kf l)
 h:Own Hd.cells 245 2 h H (kh l)
 jr:fD l
 ik:In 0 nx K
 ih:In 0 nx H
 lt:sb<nx
 d1:bZ K≠some sb
 d2:bZ H≠some sb
 d3:∀b,bZ K=some b->bZ H≠some b
theorem al7(l:KL)(sb:Nat)(K H:AV)(x:UInt8)(h:aG)(nx:Nat)(o:Srt h nx sb l K H):
 aA prog 364 [.ptr sb 0,u8 x.toNat] h nx (dr (zN (jq l x)) h nx):=by
 have db:=o.lt;have bP:=o.jr.len;refine aA.pc 2 T0 func364 ?_;have d1:¬(sb=nx):=ah;simp+decide-dsimp only[f364,go_sem,o.bJ,d1];refine bm (ab' (kf l) o.jr fE K x _ _ (o.k.aX λb hb=>by have:=o.ik b hb;rw[aj,ak ah]) (o.ik.le (an _) (ah:nx<=nx+1))) ?_;cases hh:hasB (kf l) x with
 |false=>
  simp+decide-dsimp only[go_sem,reduceAdd];refine .dT ?_ (.jS (.agg (.cons .cA (.cons .cA .nil))) .cA) (by unfold zN jq;rw[hh];rfl)
  repeat' first|exact aH.refl|apply aH.fJ|(apply aH.set;rotate_left;omega)
 |true=>
  obtain⟨h1,h2⟩:=mg.1 hh;have hl:kU (kf l) x<(kh l).length:=by simpa using h1
  obtain⟨b,A,e1,e2,e3,e4⟩:=o.h.idx gr pH hl;have hb:=o.ih b e1;have d2:¬(b=nx):=ah;simp+decide-dsimp only[go_sem,o.bJ,d1,d2,e2,e3,e4,Hd.cells,reduceAdd];refine .dT ?_ (.jS (.agg (.cons .cA (.cons .cA .nil))) .cA) (by unfold zN jq;rw[hh];rfl)
  repeat' first|exact aH.refl|apply aH.fJ|(apply aH.set;rotate_left;omega)
def aeB:Nat->cU:=λid=>if id=5 then[(z7,[],some 8),([],[],some 9),([],[],some 10),([],[],none)]else if id=8 then[([0],[],some 1),([],[],some 2),([],[],some 3),([],[],none)]else[]
def Io(o:Option (UInt8×Hd)):AV:=match o with
 |some e=> .dN [u8 e.1.toNat,e.2.av,bQ true]
 |none=> .dN [u8 0,(Hd.mk 0 0).av,bQ false]
theorem wy{l:KL}(hi:i<l.length)(hn:∀j,j<i->(hj:j<l.length)->¬b<=l[j].1.toNat)(hb:b<=l[i].1.toNat):qx l b=some l[i]:=by unfold qx;rw[List.find?_eq_some_iff_getElem];exact⟨aM hb,i,hi,rfl,λj hj=>by simpa using hn j hj ah⟩
theorem wh{l:KL}(hn:∀j,(hj:j<l.length)->¬b<=l[j].1.toNat):qx l b=none:=by unfold qx;rw[vN];intro e he;obtain⟨j,hj,rfl⟩:=cu.1 he;simpa using hn j hj
theorem anq(l:KL)(sb:Nat)(K H:AV)(b:Nat)(hb:b<1000)(h:aG)(nx:Nat)(o:Srt h nx sb l K H):
 aA prog 363 [.ptr sb 0,int b] h nx (dr (Io (qx l b)) h nx):=by
 have db:=o.lt;have bP:=o.jr.len;refine aA.pc 2 aeB func363 ?_;have d1:¬(sb=nx):=ah;simp+decide-dsimp only[f363,go_sem,o.bJ,d1,o.k.len];refine cL _ _ (λm s h' nx'=>∃i,i<=l.length/\m=l.length-i/\(∀j,j<i->(hj:j<l.length)->¬b<=l[j].1.toNat)/\ao s 0= .ptr sb 0/\ao s 1=int b/\ao s 5= .ptr nx 0/\ao s 13=K/\ao s 14=int l.length/\ao s 15=int i/\h'=aK h nx (.cells [int 0,u64 0] 245)/\nx'=nx+1) (n:=l.length) ?_ ?_;.simp+decide-dsimp only[go_sem];exact⟨0,aY _,rfl,λj hj=>absurd hj (bW _),bL⟩
 rintro m s h' nx' ⟨i,hi,rfl,hn,s0,s1,s5,Ez,ym,Hy,rfl,rfl⟩;by_cases mV:i<l.length
 .have hkf:i<(kf l).length:=by simpa using mV
  have hkh:i<(kh l).length:=by simpa using mV
  obtain⟨kb,cap,A,e1,e2,e3,e4,e5⟩:=o.k.sl fE;have g:=z' e5 hkf;have hkb:=o.ik kb (by rw[e1];rfl);obtain⟨Ps,B,q1,q2,q3,q4⟩:=o.h.idx gr pH hkh;have hhb:=o.ih Ps q1;have d2:¬(kb=nx):=ah;have d3:¬(Ps=nx):=ah;have ek:(kf l).getD i 0=l[i].1:=by simp[List.getD,mV]
  have eh:(kh l).getD i default=l[i].2:=by simp[List.getD,mV]
  have ekl:(kf l).length=l.length:=bL;rw[ek]at g;rw[eh]at q4;rw[ekl]at e1;rw[e1]at Ez;have w1:i+1<9223372036854775808:=ah;by_cases Cb:(b:Int)<=(l[i].1.toNat:Int)
  .simp+decide-dsimp only[go_sem,aeB,s0,s1,s5,Ez,ym,Hy,mV,e2,g,d1,d2,d3,Cb,o.bJ,q2,q3,q4,Hd.cells,reduceAdd];refine .dT ?_ (.lZ .cA (.agg (.cons .cA (.cons .cA .nil))) .cA) (by rw[wy mV hn ah];rfl)
   repeat' first|exact aH.refl|apply aH.fJ|(apply aH.set;rotate_left;omega)
  .simp+decide-dsimp only[go_sem,s0,s1,s5,Ez,ym,Hy,mV,e2,g,d2,Cb,w1];refine⟨_,(ah:l.length-(i+1)<_),i+1,mV,rfl,λj hj hjl=>?_,?_⟩
   .rcases bg j i with q|q;.exact hn j q hjl
    .have:j=i:=ah;subst this;omega
   .simp[e1]
 .have:i=l.length:=ah;subst this;simp+decide-dsimp only[go_sem,aeB,s5,ym,Hy,eG,reduceAdd];refine .dT ?_ (.lZ .cA (.agg (.cons .cA (.cons .cA .nil))) .cA) (by rw[wh λj hj=>hn j hj hj];rfl)
  repeat' first|exact aH.refl|apply aH.fJ|(apply aH.set;rotate_left;omega)
def acM:Nat->cU:=λid=>if id=3 then[(z6,[],some 7),([],[],none)]else if id=4 then[([0,1,2,3,4,5,6,7,8,10,11,12,13,14,15,16],[5,8,13,15],some 9),([],[13,15,16],some 17),([18,19],[],some 20),([21,22],[],some 23),([],[],none)]else[]
theorem Own.amX{α:Type}{c:α->List AV}{e sz:Nat}{h:aG}{v:AV}{l:List α}(o:Own c e sz h v l)(hz:∀x,(c x).length=sz){i b:Nat}(hi:i<l.length)(hb:bZ v=some b)(y:α):
 ∃A B,au h b=some (.cells A e)/\dJ (i*sz) A (c y)=some B/\Own c e sz (aK h b (.cells B e)) v (l.set i y):=by
 rcases o with⟨_,e1⟩|⟨b',cap,A,rfl,hA,h1,h2,h3⟩;.rw[e1]at hi;cases hi
 injection hb with hb;subst hb
 have h5:=aI sz h1;have h4:=aI sz (show i+1<=l.length from hi);rw[bh,cP]at h4;refine⟨A,_,hA,cp _ _ _ (by rw[hz];omega),.inr ⟨b',cap,_,by rw[eJ],gl,by rw[eJ];exact h1,?_,?_⟩⟩;.simp only[aq,ax,aC,hz];omega
 .have hf:(l.set i y).flatMap c=(l.take i).flatMap c++c y++(l.drop (i+1)).flatMap c:=by rw[iD,aw hi,cM,bG,ay]
  have e1:(l.take i).flatMap c=A.take (i*sz):=by rw[<-fg hz,<-h3,bf,bM ah]
  have e2:(l.drop (i+1)).flatMap c=(A.drop (i*sz+sz)).take (l.length*sz-(i*sz+sz)):=by rw[<-dY hz,<-h3,fW,bh,cP]
  rw[eJ,hf,e1,e2,hz,za,aD (by simp only[aq,ax,hz];omega)]
  congr 1
  congr 1
  simp only[aq,ax,hz];omega
theorem ac'{l:KL}{p:Nat}{x:UInt8}{y:Hd}:kf (l.take p++(x,y)::l.drop p)=(kf l).take p++x::(kf l).drop p:=by simp[sY,xO]
theorem adu{l:KL}{p:Nat}{x:UInt8}{y:Hd}:kh (l.take p++(x,y)::l.drop p)=(kh l).take p++y::(kh l).drop p:=by simp[sY,xO]
def MJ(nx sb:Nat)(K H:AV)(h h':aG):Prop:=∀b,b<nx->b≠sb->bZ K≠some b->bZ H≠some b->au h' b=au h b
theorem amY(l:KL)(sb:Nat)(K H:AV)(x:UInt8)(y:Hd)(h:aG)(nx:Nat)(o:Srt h nx sb l K H):
 aA prog 365 [.ptr sb 0,u8 x.toNat,y.av] h nx λv h' nx'=>∃K' H',v= .dN []/\Srt h' nx' sb (nV l x y) K' H'/\MJ nx sb K H h' h/\(∀b,bZ K'=some b\/bZ H'=some b->bZ K=some b\/bZ H=some b\/nx<=b):=by
 have db:=o.lt;have bP:=o.jr.len;refine aA.ac 3 acM func365 ?_;have d1:¬(sb=nx):=ah;simp+decide-dsimp only[f365,go_sem,o.bJ,d1,Hd.av,Hd.cells];refine bm (ab' (kf l) o.jr fE K x _ _ (o.k.aX λb hb=>by have:=o.ik b hb;rw[aj,ak ah]) (o.ik.le (an _) (ah:nx<=nx+1))) ?_;cases hh:hasB (kf l) x with
 |true=>
  obtain⟨h1,h2⟩:=mg.1 hh;have hl:kU (kf l) x<(kh l).length:=by simpa using h1
  obtain⟨b,A,e1,e2,e3,e4⟩:=o.h.idx gr pH hl;have hb:=o.ih b e1;have d2:¬(b=nx):=ah;have d3:¬(sb=b):=λe=>o.d2 (by rw[e];exact e1);obtain⟨A',B,g1,g2,g3⟩:=(o.h.aX (h':=aK h nx (.cells [int y.ao,u64 y.bk] 245)) λb hb=>by have:=o.ih b hb;rw[aj,ak ah]).amX gr hl e1 y;rw[aj,ak d2,e2]at g1;injection g1 with g1;injection g1 with g1;subst g1;rw[Hd.cells]at g2;simp+decide-dsimp only[go_sem,acM,o.bJ,d1,d2,e2,e3,g2,reduceAdd];have ek:kf (nV l x y)=kf l:=by
   unfold nV;rw[aw hh,kf,oE];refine nM λi=>?_
   rw[xq];split
   .rename_i e;subst e;have oh:kU (kf l) x<l.length:=by simpa using h1
    have:(kf l)[kU (kf l) x]'h1=x:=by simpa[List.getD,oh]using h2
    rw[aF h1,this]
   .rfl
  have eh:kh (nV l x y)=(kh l).set (kU (kf l) x) y:=by unfold nV;rw[aw hh,kh,oE]
  refine⟨K,H,⟨?_,?_,?_,jy o.jr x y,o.ik.le (an _) ah,o.ih.le (an _) ah,ah,o.d1,o.d2,o.d3⟩,λq hq q1 q2 q3=>?_,λq hq=>?_⟩;.rw[aj,ak d3,aj,ak d1];exact o.bJ
  .rw[ek];refine o.k.aX λq hq=>?_;have:=o.ik q hq;have:=o.d3 q hq;rw[aj,ak (λe=>this (by rw[e];exact e1)),aj,ak ah]
  .rw[eh];exact g3
  .rw[aj,ak (λe=>q3 (by rw[e];exact e1)),aj,ak ah]
  .rcases hq with hq|hq;.exact .inl hq
   .exact .inr (.inl hq)
 |false=>
  have hp:=FC (kf l) x;have d4:¬(sb=nx+1+8):=ah;have d5:¬(sb=nx+1+16):=ah;simp+decide-dsimp only[go_sem,acM,o.bJ,d1,d4,d5,reduceAdd];generalize tz:nx+1+Array.size _=D';have hna:nx+1+23<=D':=by rw[<-tz];show nx+1+23<=nx+1+24;omega
  have same:aH nx h (aK (aK (aK h nx (.cells [int y.ao,u64 y.bk] 245)) (nx+1+8) (.cells [u8 x.toNat] 5)) (nx+1+16) (.cells [int y.ao,u64 y.bk] 245)):=by repeat' first|exact aH.refl|apply aH.fJ|(apply aH.set;rotate_left;omega)
  have ik:=o.ik;have ih:=o.ih;refine cf (akG (kf l) fE K _ hp x (nx+1+8) _ _ (o.k.aX λq hq=>same q (ik q hq).2) (ik.le (an _) ah) ah (λe=>by have:=ik _ e;omega) (by rw[aj,ak ah,aj,aw rfl];rfl)) λK' h2 dU l2 ⟨f1,f2,f3⟩=>?_;have k1:au h2 sb=some (.cells [K,H] 303):=by rw[f1 sb ah o.d1,same sb db];exact o.bJ
  have k2:au h2 nx=some (.cells [int y.ao,u64 y.bk] 245):=by rw[f1 nx ah (λe=>by have:=ik _ e;omega),aj,ak ah,aj,ak ah,aj,aw rfl]
  have k3:au h2 (nx+1+16)=some (.cells [int y.ao,u64 y.bk] 245):=by rw[f1 (nx+1+16) ah (λe=>by have:=ik _ e;omega),aj,aw rfl]
  simp+decide-dsimp only[go_sem,k1,k2,k3,reduceAdd];have L7:kU (kf l) x<=(kh l).length:=by simpa using hp
  refine cf (ahA (kh l) fE H _ L7 y (nx+1+16) _ _ (o.h.aX λq hq=>?_) (ih.le (an _) ah) ah (λe=>by have:=ih _ e;omega) k3) λH' h3 nx3 l3 ⟨g1,g2,g3⟩=>?_;.rw[f1 q (by have:=ih q hq;omega) (λe=>o.d3 q e hq),same q (ih q hq).2]
  have k4:au h3 sb=some (.cells [K,H] 303):=by rw[g1 sb ah o.d2];exact k1
  simp+decide-dsimp only[go_sem,k4,f3.cells.1,f3.cells.2,g3.cells.1,g3.cells.2];have ek:kf (nV l x y)=(kf l).take (kU (kf l) x)++x::(kf l).drop (kU (kf l) x):=by unfold nV;rw[ak (by rw[hh];simp),ac']
  have eh:kh (nV l x y)=(kh l).take (kU (kf l) x)++y::(kh l).drop (kU (kf l) x):=by unfold nV;rw[ak (by rw[hh];simp),adu]
  have bK:∀q,bZ K'=some q->(bZ K=some q/\q<nx\/D'<=q/\q<dU):=λq e=>by
   rcases f2 q e with e1|e1;.exact .inl ⟨e1,(ik q e1).2⟩
   .exact .inr e1
  have bH:∀q,bZ H'=some q->(bZ H=some q/\q<nx\/dU<=q/\q<nx3):=λq e=>by
   rcases g2 q e with e1|e1;.exact .inl ⟨e1,(ih q e1).2⟩
   .exact .inr e1
  have nK:∀q,bZ K'=some q->q≠sb:=λq e e'=>by
   subst e';rcases bK q e with⟨e1,_⟩|e1
   .exact o.d1 e1
   .omega
  have nH:∀q,bZ H'=some q->q≠sb:=λq e e'=>by
   subst e';rcases bH q e with⟨e1,_⟩|e1
   .exact o.d2 e1
   .omega
  refine⟨K',H',⟨gl,?_,?_,jy o.jr x y,λq e=>?_,λq e=>?_,ah,λe=>nK _ e rfl,λe=>nH _ e rfl,λq e e'=>?_⟩,λq hq q1 q2 q3=>?_,λq hq=>?_⟩
  .rw[ek];refine f3.aX λq e=>?_;have:=nK q e;rw[aj,ak this,aj,ak this];rcases bK q e with⟨e1,e2⟩|e1
   .exact g1 q ah (o.d3 q e1)
   .exact g1 q ah (λe'=>by have:=ih q e';omega)
  .rw[eh];refine g3.aX λq e=>?_;have:=nH q e;rw[aj,ak this,aj,ak this]
  .have:=bK q e;omega
  .have:=bH q e;omega
  .rcases bK q e with⟨e1,e2⟩|e1<;>rcases bH q e' with⟨e3,e4⟩|e3;.exact o.d3 q e1 e3
   .omega
   .omega
   .omega
  .rw[aj,ak q1,aj,ak q1,g1 q ah q3,f1 q ah q2,same q hq]
  .rcases hq with e|e
   .rcases bK q e with⟨e1,_⟩|e1;.exact .inl e1
    .exact .inr (.inr ah)
   .rcases bH q e with⟨e1,_⟩|e1;.exact .inr (.inl e1)
    .exact .inr (.inr ah)
def afY:Nat->cU:=λid=>if id=2 then[([0,1,2,3,4,5,6,7,8,10,11,12,13,14,15,16],[],some 9),([],[13],some 17),([18,19],[],some 20),([21,22],[],some 23),([],[],none)]else[]
theorem vj{α β:Type}{f:α->β}:∀{l:List α} {p:Nat},(l.eraseIdx p).map f=(l.map f).eraseIdx p
 |[],_=>rfl
 |_::_,0=>rfl
 |a::l,p+1=>by rw[List.eraseIdx_cons_succ,dQ,dQ,List.eraseIdx_cons_succ,vj]
theorem Tz{l:KL}{p:Nat}:kf (l.eraseIdx p)=(kf l).eraseIdx p:=vj
theorem T7{l:KL}{p:Nat}:kh (l.eraseIdx p)=(kh l).eraseIdx p:=vj
theorem al2(l:KL)(sb:Nat)(K H:AV)(x:UInt8)(h:aG)(nx:Nat)(o:Srt h nx sb l K H):
 aA prog 362 [.ptr sb 0,u8 x.toNat] h nx λv h' nx'=>∃K' H',v= .dN []/\Srt h' nx' sb (pg l x) K' H'/\MJ nx sb K H h' h/\bZ K'=bZ K/\bZ H'=bZ H:=by
 have db:=o.lt;have bP:=o.jr.len;have ik:=o.ik;have ih:=o.ih;refine aA.ac 2 afY func362 ?_;simp+decide-dsimp only[f362,go_sem,o.bJ];refine bm (ab' (kf l) o.jr fE K x _ _ o.k o.ik) ?_;cases hh:hasB (kf l) x with
 |false=>simp+decide-dsimp only[go_sem];exact⟨K,H,by rw[show pg l x=l by unfold pg;rw[hh];rfl];exact o,λq _ _ _ _=>rfl,rfl,rfl⟩
 |true=>
  obtain⟨h1,h2⟩:=mg.1 hh;have hl:kU (kf l) x<(kh l).length:=by simpa using h1
  have w1:kU (kf l) x+1<9223372036854775808:=by simp at hl;omega
  simp+decide-dsimp only[go_sem,afY,o.bJ,w1];generalize tz:nx+Array.size _=D';have hna:nx<=D':=ah;refine cf (amd (kf l) fE K _ h1 h D' o.k (ik.le (an _) hna)) λK' nU dU l2 ⟨f1,f2,f3⟩=>?_;have k1:au nU sb=some (.cells [K,H] 303):=by rw[f1 sb ah o.d1];exact o.bJ
  simp+decide-dsimp only[go_sem,k1];refine cf (alP (kh l) fE H _ hl nU dU (o.h.aX λq e=>f1 q (by have:=ih q e;omega) (λe'=>o.d3 q e' e)) (ih.le (an _) ah)) λH' h3 nx3 l3 ⟨g1,g2,g3⟩=>?_;have k4:au h3 sb=some (.cells [K,H] 303):=by rw[g1 sb ah o.d2];exact k1
  simp+decide-dsimp only[go_sem,k4,f3.cells.1,f3.cells.2,g3.cells.1,g3.cells.2];have e0:pg l x=l.eraseIdx (kU (kf l) x):=by unfold pg;rw[aw hh]
  have d1:=o.d1;have d2:=o.d2;refine⟨K',H',⟨gl,?_,?_,lz o.jr x,λq e=>?_,λq e=>?_,ah,by rw[f2];exact o.d1,by rw[g2];exact o.d2,λq e=>by rw[g2];rw[f2]at e;exact o.d3 q e⟩,λq hq q1 q2 q3=>?_,f2,g2⟩;.rw[e0,Tz];refine f3.aX λq e=>?_;rw[f2]at e;have:q≠sb:=λe'=>d1 (by rw[<-e'];exact e);rw[aj,ak this,aj,ak this,g1 q (by have:=ik q e;omega) (o.d3 q e)]
  .rw[e0,T7];refine g3.aX λq e=>?_;rw[g2]at e;have:q≠sb:=λe'=>d2 (by rw[<-e'];exact e);rw[aj,ak this,aj,ak this]
  .rw[f2]at e;have:=ik q e;omega
  .rw[g2]at e;have:=ih q e;omega
  .rw[aj,ak q1,aj,ak q1,g1 q ah q3,f1 q ah q2]
variable{B:List AV}{k:Nat}{l:List Nat}
def agK:List Value:=List.replicate 256 (.int .u8 0)++(List.replicate 48 [Value.int .i64 0,.int .u64 0]).flatten++List.replicate 48 (.bool false)
def aiC:List Value:=(List.replicate 256 [Value.int .i64 0,.int .u64 0]).flatten++List.replicate 256 (.bool false)
theorem ais:dy prog 438=some agK:=aL
theorem af7:dy prog 442=some aiC:=aL
theorem agX:fieldsOf prog 438=some [(0,256),(256,96),(352,48)]:=aL
theorem ai7:fieldsOf prog 442=some [(0,512),(512,256)]:=aL
theorem aeS:vp prog 438=true:=aL
theorem ag8:vp prog 442=true:=aL
theorem Vx:aQ prog 438 0=some 0:=aL
theorem X7:aQ prog 438 1=some 256:=aL
theorem Vo:aQ prog 438 2=some 352:=aL
theorem XW:aQ prog 442 0=some 0:=aL
theorem X4:aQ prog 442 1=some 512:=aL
theorem ag':prog.underlying 434=some (.array 256 5):=aL
theorem ag7:prog.underlying 435=some (.array 48 245):=aL
theorem ahn:prog.underlying 436=some (.array 48 4):=aL
theorem ain:prog.underlying 439=some (.array 256 245):=aL
theorem ajc:prog.underlying 440=some (.array 256 4):=aL
theorem NC{e:TypeId}{sz:TypeId->Option Nat}{off:Nat}(hk:k<n):rT (some (.array n e)) sz (.ptr b off) (u8 k)=(sz e).map λsize=> .val (.ptr b (off+k*size)):=by simp only[rT,lK,aS,qu hk,HV]
theorem JL{a:Nat}(h:1<=a)(h':a<256):cF .u8 ((a:Int)-1)=((a-1:Nat):Int):=by rw[wrap_u8]<;>omega
attribute[go_sem] ais af7 agX ai7 aeS ag8 Vx X7 Vo XW X4 ag' ag7 ahn ain ajc NC JL
theorem ag3(fr:List Bool)(fb off c:Nat)(A:List AV)(h:aG)(nx:Nat)(e:TypeId)(hf:au h fb=some (.cells A e))(hl:fr.length<65536)(w:Bool)(hA:∀i,i<fr.length->iW (off+i*1) A=some (bQ (fr.getD i (!w))))(hx:∃i,i<fr.length/\fr.getD i (!w)=w):
 aA prog 169 [.sl fb off fr.length c,bQ w] h nx λv h' nx'=>∃i,i<fr.length/\fr.getD i (!w)=w/\dr (int i) h nx v h' nx':=by
 obtain⟨j,hj,hjt⟩:=hx;refine aA.ac 2 T0 func169 ?_;simp+decide-dsimp only[f169,go_sem];refine cL _ _ (λm s h' nx'=>∃i,i<=j/\m=j-i/\ao s 0= .sl fb off fr.length c/\ao s 1=bQ w/\ao s 7=int fr.length/\ao s 8=int i/\h'=h/\nx'=nx) (n:=j) ?_ ?_;.simp+decide-dsimp only[go_sem];exact⟨0,aY _,bL⟩
 rintro m s h' nx' ⟨i,hi,rfl,s0,s1,s7,s8,rfl,rfl⟩;have mV:i<fr.length:=ah;have hw:i+1<9223372036854775808:=ah;have hn:=hA i mV;by_cases hc:fr.getD i (!w)=w
 .have hbe:(w==fr.getD i (!w))=true:=by rw[hc];simp
  simp+decide-dsimp only[go_sem,s0,s1,s7,s8,mV,hf,hn,hbe];exact⟨i,mV,hc,rfl,rfl,rfl⟩
 .have hbe:(w==fr.getD i (!w))=false:=by cases w<;>cases hb:fr.getD i _<;>simp_all
  simp+decide-dsimp only[go_sem,s0,s1,s7,s8,mV,hf,hn,hbe,hw];have:i<j:=by
   rcases bg i j with h|h;.exact h
   .have:i=j:=ah;subst this;exact absurd hjt hc
  exact⟨_,(ah:j-(i+1)<_),i+1,this,bL⟩
abbrev UD(l:List Nat):List AV:=l.map λn:Nat=>(u8 (n:Int))
abbrev yU(l:List Bool):List AV:=l.map bQ
theorem Ns{v:AV}(h:A[i]?=some v):iW i (A++B)=some v:=by rw[kr,cj (cT.1 h).1];exact h
theorem abR(h:i<l.length):(UD l)[i]?=some (u8 (l.getD i 0)):=by simp[List.getD,h]
theorem K7{l:List Bool}(h:i<l.length)(d:Bool):(yU l)[i]?=some (bQ (l.getD i d)):=by simp[List.getD,h]
theorem Gy{v:AV}(h:i<A.length):dJ i (A++B) [v]=some (A.set i v++B):=by
 rw[cp _ _ _ fE]
 congr 1
 rw[aB ah,iD,aw h,gG,cg ah];simp
theorem G6{v:AV}(h:i<B.length):dJ (A.length+i) (A++B) [v]=some (A++B.set i v):=by
 rw[cp _ _ _ fE]
 congr 1
 rw[za,aD ah,iD,aw h,gG,iz,aT ah,fR,show A.length+i+1-A.length=i+1 from ah];simp
theorem aaf:(UD l).set i (u8 n)=UD (l.set i n):=by rw[UD,UD,oE]
theorem HZ{l:List Bool}{b:Bool}:(yU l).set i (bQ b)=yU (l.set i b):=by rw[yU,yU,oE]
theorem TD{l:List Hd}(h:i<l.length):(ed (A.length+i*2) (A++(l.flatMap Hd.cells++B))).bind (de 2)=some (l.getD i default).cells:=by
 have hl:(l.flatMap Hd.cells).length=l.length*2:=bT gr l;rw[eF _ _ (by simp[hl];omega),aS,iz,aT ah,ch,fR,cg ah,dY gr];have h2:=Cd gr h;have h3:((l.drop i).flatMap Hd.cells).length=(l.length-i)*2:=by rw[bT gr,aC]
 rw[bO _ _ ah]at h2;rw[bO _ _ (by simp only[aq];omega),aB ah];exact h2
theorem Mu{l:List Hd}{y:Hd}(h:i<l.length):dJ (A.length+i*2) (A++(l.flatMap Hd.cells++B)) y.cells=some (A++((l.set i y).flatMap Hd.cells++B)):=by
 have hl:(l.flatMap Hd.cells).length=l.length*2:=bT gr l;rw[cp _ _ _ (by rw[gr];simp[hl];omega)]
 congr 1
 have hf:(l.set i y).flatMap Hd.cells=(l.flatMap Hd.cells).take (i*2)++y.cells++(l.flatMap Hd.cells).drop (i*2+2):=by rw[iD,aw h,cM,bG,fg gr,show i*2+2=(i+1)*2 from ah,dY gr,ay]
 rw[hf,gr,za,aD ah,fR,aB ah,iz,aT ah,ch,show A.length+i*2+2-A.length=i*2+2 from ah,cg ah];simp
def nI(pl:List Nat)(ks:List Hd)(us:List Bool):List AV:=UD pl++(ks.flatMap Hd.cells++yU us)
structure Idx(h:aG)(nx sb:Nat)(pl:List Nat)(ks:List Hd)(us:List Bool):Prop where
 bJ:au h sb=some (.cells (nI pl ks us) 438)
 lp:pl.length=256
 lk:ks.length=48
 lu:us.length=48
 lt:sb<nx
abbrev zO(pl:List Nat)(x:UInt8):Nat:=pl.getD x.toNat 0
structure su(pl:List Nat)(ks:List Hd)(us:List Bool)(l:KL):Prop where
 jr:fD l
 le:∀x,zO pl x<=48
 get:∀x,jq l x=if zO pl x=0 then none else some (ks.getD (zO pl x-1) default)
 inj:∀x y,zO pl x=zO pl y->zO pl x≠0->x=y
 us:∀i,i<48->(us.getD i false=true↔∃x,zO pl x=i+1)
section
variable{pl:List Nat}{ks:List Hd}{us:List Bool}
theorem Lq(h:pl.length=256)(hi:i<256):iW (i*1) (nI pl ks us)=some (u8 (pl.getD i 0:Nat)):=by rw[cJ];exact Ns (abR ah)
theorem vn:(UD l).length=l.length:=bL
theorem aby(h:pl.length=256)(hi:i<ks.length):(ed (256+i*2) (nI pl ks us)).bind (de 2)=some (ks.getD i default).cells:=by have:=TD (A:=UD pl) (B:=yU us) hi;rw[vn,h]at this;exact this
theorem ajm(h:pl.length=256)(h':ks.length=48)(hi:i<us.length)(d:Bool):iW (352+i*1) (nI pl ks us)=some (bQ (us.getD i d)):=by
 have hl:(ks.flatMap Hd.cells).length=96:=by rw[bT gr,h']
 rw[cJ,kr];unfold nI;rw[dh (by rw[vn];omega),vn,h,dh ah,hl,show 352+i-256-96=i from ah];exact K7 hi d
theorem Dy(h:pl.length=256)(hi:i<256):dJ (i*1) (nI pl ks us) [u8 (n:Nat)]=some (nI (pl.set i n) ks us):=by unfold nI;rw[cJ,Gy (by rw[vn];omega),aaf]
theorem yf(h:pl.length=256)(hi:i<ks.length)(y:Hd):dJ (256+i*2) (nI pl ks us) y.cells=some (nI pl (ks.set i y) us):=by have:=Mu (A:=UD pl) (B:=yU us) (y:=y) hi;rw[vn,h]at this;exact this
theorem DV(h:pl.length=256)(h':ks.length=48)(hi:i<us.length)(b:Bool):dJ (352+i*1) (nI pl ks us) [bQ b]=some (nI pl ks (us.set i b)):=by
 have hl:(ks.flatMap Hd.cells).length=96:=by rw[bT gr,h']
 have:=G6 (A:=UD pl++ks.flatMap Hd.cells) (B:=yU us) (i:=i) (v:=bQ b) (by simpa using hi);rw[aq,vn,h,hl,HZ,ay,ay]at this;rw[cJ];exact this
end
theorem akL(pl:List Nat)(ks:List Hd)(us:List Bool)(l:KL)(sb:Nat)(x:UInt8)(h:aG)(nx:Nat)(o:Idx h nx sb pl ks us)(R:su pl ks us l):
 aA prog 381 [.ptr sb 0,u8 x.toNat] h nx (dr (zN (jq l x)) h nx):=by
 have db:=o.lt;have hx:x.toNat<256:=x.toNat_lt;have d1:¬(sb=nx):=ah;have g:=Lq (ks:=ks) (us:=us) o.lp hx;have hle:=R.le x;refine aA.pc 2 T0 func381 ?_;have hg:=R.get x;generalize hp:zO pl x=p at hle hg;have hp:pl.getD x.toNat 0=p:=hp;rw[hp]at g;by_cases h0:p=0
 .have qP:¬(0:Int)<(p:Int):=ah;simp+decide-dsimp only[f381,go_sem,o.bJ,d1,hx,g,qP,reduceAdd];refine .dT ?_ (.jS (.agg (.cons .cA (.cons .cA .nil))) .cA) (by rw[hg,aw h0];rfl)
  repeat' first|exact aH.refl|apply aH.fJ|(apply aH.set;rotate_left;omega)
 .have qP:(0:Int)<(p:Int):=ah;have w1:1<=p:=ah;have w2:p<256:=ah;have w3:p-1<48:=ah;have g2:=aby (us:=us) o.lp (ks:=ks) (i:=p-1) (by rw[o.lk];omega);simp+decide-dsimp only[f381,go_sem,o.bJ,d1,hx,g,qP,w1,w2,w3,g2,Hd.cells,reduceAdd];refine .dT ?_ (.jS (.agg (.cons .cA (.cons .cA .nil))) .cA) (by rw[hg,ak h0];rfl)
  repeat' first|exact aH.refl|apply aH.fJ|(apply aH.set;rotate_left;omega)
theorem zK{l:KL}(hs:fD l){x:UInt8}{y:Hd}(h:jq l x=some y)(hb:b<=x.toNat)(hn:∀z:UInt8,b<=z.toNat->z.toNat<x.toNat->jq l z=none):qx l b=some (x,y):=by
 obtain⟨i,hi,e⟩:=cu.1 ((kz hs).1 h);rw[<-e];refine wy hi (λj hj hjl hq=>?_) (by rw[e];exact hb);have h1:=lM.lt hs hj (by simpa using hi);have h2:l[j].1<x:=by simpa[List.getD,hi,hjl,e]using h1
 have:=hn l[j].1 hq (cW.1 h2);exact(mK hs).1 this l[j].2 (bS hjl)
theorem Ir{l:KL}(hs:fD l)(hn:∀z:UInt8,b<=z.toNat->jq l z=none):qx l b=none:=
 wh λj hj hq=>(mK hs).1 (hn l[j].1 hq) l[j].2 (bS hj)
theorem ad':O1 P (int b) (int 0)=some (.val (int b)):=by
 rw[Wy];have:br P (Builtin.max2 (.int .i64 b) (.int .i64 0))=some (.int .i64 b):=by show some (Value.int .i64 (if(0:Int)>(b:Int)then 0 else b))=_;rw[ak ah]
 rw[this]
attribute[go_sem] ad'
theorem ofNat_lt{k:Nat}(h:k<256):(UInt8.ofNat k).toNat=k:=fF h
def abQ:Nat->cU:=λid=>if id=6 then[(z8,[],some 9),([],[],some 10),([],[],some 11),([],[],none)]else if id=8 then[([0],[],some 1),([],[],some 2),([],[],some 3),([],[],none)]else[]
theorem alr(pl:List Nat)(ks:List Hd)(us:List Bool)(l:KL)(sb b:Nat)(hb:b<=256)(h:aG)(nx:Nat)(o:Idx h nx sb pl ks us)(R:su pl ks us l):
 aA prog 380 [.ptr sb 0,int b] h nx (dr (Io (qx l b)) h nx):=by
 have db:=o.lt;have d1:¬(sb=nx):=ah;refine aA.pc 2 abQ func380 ?_;simp+decide-dsimp only[f380,go_sem];refine cL _ _ (λm s h' nx'=>∃k,b<=k/\k<=256/\m=256-k/\(∀z:UInt8,b<=z.toNat->z.toNat<k->jq l z=none)/\ao s 0= .ptr sb 0/\ao s 5= .ptr nx 0/\ao s 7=int k/\h'=aK h nx (.cells [int 0,u64 0] 245)/\nx'=nx+1) (n:=256-b) ?_ ?_;.simp+decide-dsimp only[go_sem];exact⟨b,an _,hb,rfl,λz h1 h2=>ah,bL⟩
 rintro m s h' nx' ⟨k,Ps,hk,rfl,hn,s0,s5,s7,rfl,rfl⟩;by_cases yB:k<256
 .have Z':(k:Int)<256:=ah;have g:=Lq (ks:=ks) (us:=us) o.lp yB;have hle:=R.le (UInt8.ofNat k);have hg:=R.get (UInt8.ofNat k);unfold zO at hle hg;rw[ofNat_lt yB]at hle hg;generalize pl.getD k 0=p at g hle hg;by_cases h0:p=0
  .have qP:¬(0:Int)<(p:Int):=ah;have w1:k+1<9223372036854775808:=ah;simp+decide-dsimp only[go_sem,s0,s5,s7,Z',yB,o.bJ,d1,g,qP,w1];refine⟨_,(ah:256-(k+1)<_),k+1,ah,ah,rfl,λz h1 h2=>?_,rfl⟩;rcases bg z.toNat k with q|q
   .exact hn z h1 q
   .have:z=UInt8.ofNat k:=eA.1 (by rw[ofNat_lt yB];omega);rw[this,hg,aw h0]
  .have qP:(0:Int)<(p:Int):=ah;have w1:1<=p:=ah;have w2:p<256:=ah;have w3:p-1<48:=ah;have g2:=aby (us:=us) o.lp (ks:=ks) (i:=p-1) (by rw[o.lk];omega);simp+decide-dsimp only[go_sem,abQ,s0,s5,s7,Z',yB,o.bJ,d1,g,qP,w1,w2,w3,g2,Hd.cells,reduceAdd];have e:=zK R.jr (x:=UInt8.ofNat k) (b:=b) (by rw[hg,ak h0]) (by rw[ofNat_lt yB];exact Ps) (λz h1 h2=>hn z h1 (by rw[ofNat_lt yB]at h2;exact h2));refine .dT ?_ (.lZ .cA (.agg (.cons .cA (.cons .cA .nil))) .cA) (by rw[e];show _=AV.dN [u8 ((UInt8.ofNat k).toNat:Nat),_,_];rw[ofNat_lt yB];rfl)
   repeat' first|exact aH.refl|apply aH.fJ|(apply aH.set;rotate_left;omega)
 .have Z':¬(k:Int)<256:=ah;simp+decide-dsimp only[go_sem,abQ,s5,s7,Z',reduceAdd];have e:=Ir R.jr (b:=b) (λz h1=>hn z h1 (by have:=z.toNat_lt;omega));refine .dT ?_ (.lZ .cA (.agg (.cons .cA (.cons .cA .nil))) .cA) (by rw[e];rfl)
  repeat' first|exact aH.refl|apply aH.fJ|(apply aH.set;rotate_left;omega)
variable{α:Type}
theorem Sp:∀(N:Nat) (l:List Nat),(∀i,i<N->i∈l)->N<=l.length
 |0,_,_=>aY _
 |N+1,l,h=>by have h1:=Sp N (l.erase N) λi hi=>(DJ ah).2 (h i ah);have h2:=xS (h N ah);have:=mB (h N ah);omega
section
variable{pl:List Nat}{ks:List Hd}{us:List Bool}{l:KL}
theorem su.free(R:su pl ks us l)(hn:l.length<48):∃i,i<48/\us.getD i false=false:=by
 refine cS λhc=>?_;have h:∀i,i<48->us.getD i false=true:=λi hi=>by
  cases hq:us.getD i false with
  |true=>rfl
  |false=>exact absurd ⟨i,hi,hq⟩ hc
 have:=Sp 48 ((kf l).map λx=>zO pl x-1) λi hi=>by obtain⟨x,hx⟩:=(R.us i hi).1 (h i hi);refine bu.2 ⟨x,?_,by show zO pl x-1=i;omega⟩;have:=R.get x;rw[ak ah]at this;exact bu.2 ⟨_,(kz R.jr).1 this,rfl⟩
 simp at this;omega
theorem jN{x z:UInt8}(h:pl.length=256):zO (pl.set x.toNat n) z=if z=x then n else zO pl z:=by
 unfold zO;have hx:x.toNat<pl.length:=by rw[h];exact x.toNat_lt
 split;.rename_i e;subst e;simp[List.getD,hx]
 .rename_i cx;have:x.toNat≠z.toNat:=λe=>cx (eA.1 e.symm)
  simp[List.getD,this]
theorem kq{l:List α}{y d:α}(h:i<l.length):(l.set i y).getD j d=if j=i then y else l.getD j d:=by
 split;.rename_i e;subst e;simp[List.getD,h]
 .rename_i cx;simp[List.getD,Ne.symm cx]
theorem su.put(R:su pl ks us l)(lk:ks.length=48){x:UInt8}(h0:zO pl x≠0)(y:Hd):su pl (ks.set (zO pl x-1) y) us (nV l x y):=by
 have hle:=R.le x;refine⟨jy R.jr x y,R.le,λz=>?_,R.inj,R.us⟩;rw[yR R.jr];split;.rename_i e;subst e;rw[ak h0,kq ah,aw rfl]
 .rename_i cx;rw[R.get z];split;.rfl
  .rename_i hz;rw[kq ah,ak];intro e;exact cx (R.inj z x ah hz)
theorem su.more(R:su pl ks us l)(lp:pl.length=256)(lk:ks.length=48)(lu:us.length=48){x:UInt8}(h0:zO pl x=0)(hi:i<48)(hu:us.getD i false=false)(y:Hd):
 su (pl.set x.toNat (i+1)) (ks.set i y) (us.set i true) (nV l x y):=by
 have mS:∀z,zO pl z≠i+1:=λz hz=>by have:=(R.us i hi).2 ⟨z,hz⟩;rw[hu]at this;cases this
 refine⟨jy R.jr x y,λz=>?_,λz=>?_,λz w e cx=>?_,λj hj=>?_⟩
 .rw[jN lp];split;.omega
  .exact R.le z
 .rw[yR R.jr,jN lp];split;.rw[ak ah,kq ah,aw ah]
  .rw[R.get z];split;.rfl
   .rename_i hz;rw[kq ah,ak];intro e;exact mS z ah
 .rw[jN lp,jN lp]at e;rw[jN lp]at cx;split at e
  .rename_i hz;split at e;.rename_i hw;rw[hz,hw]
   .exact absurd e.symm (mS w)
  .rename_i hz;rw[ak hz]at cx;split at e;.exact absurd e (mS z)
   .exact R.inj z w e cx
 .rw[kq ah];split;.rename_i e;subst e;exact⟨λ_=>⟨x,by rw[jN lp,aw rfl]⟩,λ_=>rfl⟩
  .rename_i cx;rw[R.us j hj];constructor
   .rintro⟨z,hz⟩;refine⟨z,?_⟩;rw[jN lp,ak];.exact hz
    .intro e;subst e;omega
   .rintro⟨z,hz⟩;rw[jN lp]at hz;split at hz;.omega
    .exact⟨z,hz⟩
theorem su.del(R:su pl ks us l)(lp:pl.length=256)(lk:ks.length=48)(lu:us.length=48){x:UInt8}(h0:zO pl x≠0)(y:Hd):
 su (pl.set x.toNat 0) (ks.set (zO pl x-1) y) (us.set (zO pl x-1) false) (pg l x):=by
 have hle:=R.le x;refine⟨lz R.jr x,λz=>?_,λz=>?_,λz w e cx=>?_,λj hj=>?_⟩
 .rw[jN lp];split;.omega
  .exact R.le z
 .rw[Ek R.jr,jN lp];split;.rw[aw rfl]
  .rename_i cx;rw[R.get z];split;.rfl
   .rename_i hz;rw[kq ah,ak];intro e;exact cx (R.inj z x ah hz)
 .rw[jN lp,jN lp]at e;rw[jN lp]at cx;split at e;.rename_i hz;rw[aw hz]at cx;exact absurd rfl cx
  .rename_i hz;rw[ak hz]at cx;split at e;.exact absurd e cx
   .exact R.inj z w e cx
 .rw[kq ah];split
  .rename_i e;subst e;constructor;.intro h;cases h
   .rintro⟨z,hz⟩;rw[jN lp]at hz;split at hz;.omega
    .rename_i cx;exact absurd (R.inj z x ah ah) cx
  .rename_i cx;rw[R.us j hj];constructor
   .rintro⟨z,hz⟩;refine⟨z,?_⟩;rw[jN lp,ak];.exact hz
    .intro e;subst e;omega
   .rintro⟨z,hz⟩;rw[jN lp]at hz;split at hz;.omega
    .exact⟨z,hz⟩
theorem su.nil:su (List.replicate 256 0) (List.replicate 48 ⟨0,0⟩) (List.replicate 48 false) []:=by
 have h:∀x,zO (List.replicate 256 0) x=0:=λx=>by unfold zO;rw[List.getD,lW];split<;>rfl
 refine⟨List.Pairwise.nil,λx=>by rw[h];omega,λx=>by rw[h,aw rfl];rfl,λx y _ cx=>absurd (h x) cx,λi hi=>⟨λhq=>?_,λ⟨x,hx⟩=>by rw[h]at hx;omega⟩⟩;rw[List.getD,lW,aw hi]at hq;cases hq
end
def ac1:Nat->cU:=λid=>if id=4 then[([0,1,2,3,4,5,6,7,8,9,11,12],[],some 10),([13],[],some 14),([],[],none)]else if id=5 then[(z5,[],some 6),([],[],none)]else[]
theorem ajo{off:Nat}:eS prog 436 (.ptr b off) none none=some (.sl b off 48 48):=by simp[eS,ts4,sv,fe]
attribute[go_sem] ajo
def Es(nx sb:Nat)(h h':aG):Prop:=∀b,b<nx->b≠sb->au h' b=au h b
theorem anf(pl:List Nat)(ks:List Hd)(us:List Bool)(l:KL)(sb:Nat)(x:UInt8)(y:Hd)(h:aG)(nx:Nat)(o:Idx h nx sb pl ks us)(R:su pl ks us l)(hn:hasB (kf l) x=true\/l.length<48):
 aA prog 382 [.ptr sb 0,u8 x.toNat,y.av] h nx λv h' nx'=>v= .dN []/\(∃Am Fm Zk,Idx h' nx' sb Am Fm Zk/\su Am Fm Zk (nV l x y))/\Es nx sb h h':=by
 have db:=o.lt;have hx:x.toNat<256:=x.toNat_lt;have lp:=o.lp;have lk:=o.lk;have lu:=o.lu;have d1:¬(sb=nx):=ah;have d2:¬(nx=sb):=ah;have g:=Lq (ks:=ks) (us:=us) lp hx;have hle:=R.le x;have hg:=R.get x;refine aA.ac 3 ac1 func382 ?_;generalize hp:zO pl x=p at hle hg;have L7:pl.getD x.toNat 0=p:=hp;rw[L7]at g;by_cases h0:p=0
 .subst h0;have mS:hasB (kf l) x=false:=by rw[<-wL,hg];rfl
  have hl:l.length<48:=by
   rcases hn with q|q;.rw[mS]at q;cases q
   .exact q
  obtain⟨j,hj,hju⟩:=R.free hl;have wm:cF .i64 ((0:Int)-1)= -1:=by rw[wrap_i64 ah ah];rfl
  simp+decide-dsimp only[f382,go_sem,o.bJ,d1,hx,g,Hd.av,Hd.cells];have tP:us.length<65536:=ah;have ajE:=ag3 us sb 352 48 (nI pl ks us) (aK h nx (.cells [int y.ao,u64 y.bk] 245)) (nx+1) 438 (by rw[aj,ak d1];exact o.bJ) tP false (λi hi=>ajm lp lk hi true) ⟨j,ah,by
   have:us.getD j true=us.getD j false:=by simp[List.getD,show j<us.length from ah]
   show us.getD j true=false;rw[this];exact hju⟩
  rw[lu]at ajE;refine cf ajE λ_ h1 cm l1 ⟨i,hi,hiu,e1,e2,e3⟩=>?_;subst e1;subst e2;subst e3;have hiu':us.getD i false=false:=by
   have:us.getD i true=us.getD i false:=by simp[List.getD,show i<us.length from ah]
   rw[<-this];exact hiu
  have w1:i+1<9223372036854775808:=ah;have w2:i+1<256:=ah;have g1:=Dy (pl:=pl) (ks:=ks) (us:=us) lp (n:=i+1) hx;have g2:=DV (pl:=pl.set x.toNat (i+1)) (ks:=ks) (us:=us) (by simpa using lp) lk (i:=i) ah true;have g3:=yf (pl:=pl.set x.toNat (i+1)) (us:=us.set i true) (by simpa using lp) (ks:=ks) (i:=i) ah y;rw[Hd.cells]at g3;have w3:¬((i:Int)<0):=ah;simp+decide-dsimp only[go_sem,ac1,o.bJ,d1,d2,hx,hi,w1,w2,g1,g2,g3,reduceAdd];exact⟨⟨_,_,_,⟨gl,by simpa using lp,by simpa using lk,by simpa using lu,ah⟩,R.more lp lk lu hp hi hiu' y⟩,λb hb cx=>by rw[aj,ak cx,aj,ak cx,aj,ak cx,aj,ak ah]⟩
 .have w1:1<=p:=ah;have w2:p<256:=ah;have w3:p-1<48:=ah;have w4:p<9223372036854775808:=ah;have jj:¬((p-1:Nat):Int)<0:=ah;have g2:=yf (us:=us) lp (ks:=ks) (i:=p-1) ah y;rw[Hd.cells]at g2;simp+decide-dsimp only[f382,go_sem,ac1,o.bJ,d1,hx,g,w1,w3,w4,jj,g2,Hd.av,Hd.cells,reduceAdd];refine⟨⟨pl,ks.set (p-1) y,us,⟨gl,lp,by simpa using lk,lu,ah⟩,?_⟩,λb hb cx=>by rw[aj,ak cx,aj,ak ah]⟩;have:=R.put lk (x:=x) (by rw[hp];exact h0) y;rw[hp]at this;exact this
def ahZ:Nat->cU:=λid=>if id=3 then[([0,1,2,3,4,5,6,7,8,9,10,11,13,14,17,18],[],some 12),([15],[],some 16),([19],[],some 20),([],[],none)]else[]
theorem alV(pl:List Nat)(ks:List Hd)(us:List Bool)(l:KL)(sb:Nat)(x:UInt8)(h:aG)(nx:Nat)(o:Idx h nx sb pl ks us)(R:su pl ks us l):
 aA prog 379 [.ptr sb 0,u8 x.toNat] h nx λv h' nx'=>v= .dN []/\(∃Am Fm Zk,Idx h' nx' sb Am Fm Zk/\su Am Fm Zk (pg l x))/\Es nx sb h h':=by
 have db:=o.lt;have hx:x.toNat<256:=x.toNat_lt;have lp:=o.lp;have lk:=o.lk;have lu:=o.lu;have d1:¬(sb=nx):=ah;have d2:¬(nx=sb):=ah;have g:=Lq (ks:=ks) (us:=us) lp hx;have hle:=R.le x;have hg:=R.get x;refine aA.ac 2 ahZ func379 ?_;generalize hp:zO pl x=p at hle hg;have L7:pl.getD x.toNat 0=p:=hp;rw[L7]at g;by_cases h0:p=0
 .have qP:¬(0:Int)<(p:Int):=ah;have mS:hasB (kf l) x=false:=by rw[<-wL,hg,aw h0];rfl
  simp+decide-dsimp only[f379,go_sem,o.bJ,hx,g,qP];exact⟨⟨pl,ks,us,o,by rw[show pg l x=l by unfold pg;rw[mS];rfl];exact R⟩,λ_ _ _=>rfl⟩
 .have qP:(0:Int)<(p:Int):=ah;have w1:1<=p:=ah;have w2:p<256:=ah;have w3:p-1<48:=ah;have g1:=yf (us:=us) lp (ks:=ks) (i:=p-1) ah ⟨0,0⟩;have g2:=DV (pl:=pl) (ks:=ks.set (p-1) ⟨0,0⟩) (us:=us) lp (by simpa using lk) (i:=p-1) ah false;have g3:=Dy (pl:=pl) (ks:=ks.set (p-1) ⟨0,0⟩) (us:=us.set (p-1) false) lp (n:=0) hx;rw[Hd.cells]at g1;have e0:((0:Nat):Int)=0:=rfl;simp only[e0]at g1 g3;simp+decide-dsimp only[f379,go_sem,ahZ,o.bJ,d1,hx,g,qP,w1,w2,w3,g1,g2,g3,reduceAdd];have:=R.del lp lk lu (x:=x) (by rw[hp];exact h0) ⟨0,0⟩;rw[hp]at this;exact⟨⟨_,_,_,⟨gl,by simpa using lp,by simpa using lk,by simpa using lu,ah⟩,this⟩,λb hb cx=>by rw[aj,ak cx,aj,ak cx,aj,ak cx,aj,ak ah]⟩
def qk(ks:List Hd)(hs:List Bool):List AV:=ks.flatMap Hd.cells++yU hs
structure Dir(h:aG)(nx sb:Nat)(ks:List Hd)(hs:List Bool):Prop where
 bJ:au h sb=some (.cells (qk ks hs) 442)
 lk:ks.length=256
 lh:hs.length=256
 lt:sb<nx
abbrev VV(hs:List Bool)(x:UInt8):Bool:=hs.getD x.toNat false
structure vV(ks:List Hd)(hs:List Bool)(l:KL):Prop where
 jr:fD l
 get:∀x,jq l x=if VV hs x then some (ks.getD x.toNat default)else none
 zero:∀x,VV hs x=false->ks.getD x.toNat default=⟨0,0⟩
section
variable{ks:List Hd}{hs:List Bool}{l:KL}
theorem abi(hi:i<ks.length):(ed (i*2) (qk ks hs)).bind (de 2)=some (ks.getD i default).cells:=by have:=TD (A:=[]) (B:=yU hs) hi;simpa[qk]using this
theorem abq(h:ks.length=256)(hi:i<hs.length):iW (512+i*1) (qk ks hs)=some (bQ (hs.getD i false)):=by
 have hl:(ks.flatMap Hd.cells).length=512:=by rw[bT gr,h]
 rw[cJ,kr];unfold qk;rw[dh ah,hl,fR];exact K7 hi false
theorem Em(hi:i<ks.length)(y:Hd):dJ (i*2) (qk ks hs) y.cells=some (qk (ks.set i y) hs):=by have:=Mu (A:=[]) (B:=yU hs) (y:=y) hi;simpa[qk]using this
theorem DS(h:ks.length=256)(hi:i<hs.length)(b:Bool):dJ (512+i*1) (qk ks hs) [bQ b]=some (qk ks (hs.set i b)):=by
 have hl:(ks.flatMap Hd.cells).length=512:=by rw[bT gr,h]
 have:=G6 (A:=ks.flatMap Hd.cells) (B:=yU hs) (i:=i) (v:=bQ b) (by simpa using hi);rw[hl,HZ]at this;rw[cJ];exact this
theorem Ab{x z:UInt8}{b:Bool}(h:hs.length=256):VV (hs.set x.toNat b) z=if z=x then b else VV hs z:=by
 unfold VV;rw[kq (by rw[h];exact x.toNat_lt)];by_cases e:z=x;.subst e;simp
 .rw[ak e,ak (λh=>e (eA.1 h))]
theorem vV.put(R:vV ks hs l)(lk:ks.length=256)(lh:hs.length=256)(x:UInt8)(y:Hd):vV (ks.set x.toNat y) (hs.set x.toNat true) (nV l x y):=by
 refine⟨jy R.jr x y,λz=>?_,λz hz=>?_⟩
 .rw[yR R.jr,Ab lh,kq (by rw[lk];exact x.toNat_lt)];by_cases e:z=x;.subst e;simp
  .rw[ak e,ak e,ak (λh=>e (eA.1 h)),R.get z]
 .rw[Ab lh]at hz;by_cases e:z=x;.rw[aw e]at hz;cases hz
  .rw[ak e]at hz;rw[kq (by rw[lk];exact x.toNat_lt),ak (λh=>e (eA.1 h))];exact R.zero z hz
theorem vV.del(R:vV ks hs l)(lk:ks.length=256)(lh:hs.length=256)(x:UInt8):vV (ks.set x.toNat ⟨0,0⟩) (hs.set x.toNat false) (pg l x):=by
 refine⟨lz R.jr x,λz=>?_,λz hz=>?_⟩
 .rw[Ek R.jr,Ab lh,kq (by rw[lk];exact x.toNat_lt)];by_cases e:z=x;.subst e;simp
  .rw[ak e,ak e,ak (λh=>e (eA.1 h)),R.get z]
 .rw[Ab lh]at hz;rw[kq (by rw[lk];exact x.toNat_lt)];by_cases e:z=x;.subst e;simp
  .rw[ak e]at hz;rw[ak (λh=>e (eA.1 h))];exact R.zero z hz
theorem vV.nil:vV (List.replicate 256 ⟨0,0⟩) (List.replicate 256 false) []:=by
 have h:∀x,VV (List.replicate 256 false) x=false:=λx=>by unfold VV;rw[List.getD,lW];split<;>rfl
 refine⟨List.Pairwise.nil,λx=>by rw[h];rfl,λx _=>?_⟩;rw[List.getD,lW];split<;>rfl
end
def aeQ:Nat->cU:=λid=>if id=1 then[(z11,[],some 12),([],[11],some 13),([],[],none)]else[]
def aik:Nat->cU:=λid=>if id=1 then[([0,1,2,3,4,5,6,7,9,10],[],some 8),([11],[],some 12),([],[],none)]else[]
def ajW:Nat->cU:=λid=>if id=1 then[([0,1,2,3,4,5,6,7,9,10],[],some 8),([11],[],some 12),([],[],none)]else[]
def adJ:Nat->cU:=λid=>if id=5 then[(z7,[],some 8),([],[],some 9),([],[],some 10),([],[],none)]else if id=7 then[([0],[],some 1),([],[],some 2),([],[],some 3),([],[],none)]else[]
theorem alQ(ks:List Hd)(hs:List Bool)(l:KL)(sb:Nat)(x:UInt8)(h:aG)(nx:Nat)(o:Dir h nx sb ks hs)(R:vV ks hs l):
 aA prog 385 [.ptr sb 0,u8 x.toNat] h nx (dr (zN (jq l x)) h nx):=by
 have db:=o.lt;have hx:x.toNat<256:=x.toNat_lt;have d1:¬(sb=nx):=ah;have g1:=abi (ks:=ks) (hs:=hs) (i:=x.toNat) (by rw[o.lk];exact hx);have g2:=abq (ks:=ks) (hs:=hs) o.lk (i:=x.toNat) (by rw[o.lh];exact hx);refine aA.pc 2 aeQ func385 ?_;simp+decide-dsimp only[f385,go_sem,aeQ,o.bJ,d1,hx,g1,g2,Hd.cells,reduceAdd];have hg:=R.get x;have hz:=R.zero x;unfold VV at hg hz;refine .dT ?_ (.jS (.agg (.cons .cA (.cons .cA .nil))) .cA) ?_
 .repeat' first|exact aH.refl|apply aH.fJ|(apply aH.set;rotate_left;omega)
 .rw[hg];cases hb:hs.getD x.toNat false with
  |true=>rfl
  |false=>rw[hz hb];rfl
theorem anD(ks:List Hd)(hs:List Bool)(l:KL)(sb:Nat)(x:UInt8)(y:Hd)(h:aG)(nx:Nat)(o:Dir h nx sb ks hs)(R:vV ks hs l):
 aA prog 386 [.ptr sb 0,u8 x.toNat,y.av] h nx λv h' nx'=>v= .dN []/\(∃Fm qH,Dir h' nx' sb Fm qH/\vV Fm qH (nV l x y))/\Es nx sb h h':=by
 have db:=o.lt;have lk:=o.lk;have lh:=o.lh;have hx:x.toNat<256:=x.toNat_lt;have d1:¬(sb=nx):=ah;have g1:=Em (ks:=ks) (hs:=hs) (i:=x.toNat) (by rw[o.lk];exact hx) y;have g2:=DS (ks:=ks.set x.toNat y) (hs:=hs) (by simpa using lk) (i:=x.toNat) (by rw[o.lh];exact hx) true;rw[Hd.cells]at g1;refine aA.ac 3 aik func386 ?_;simp+decide-dsimp only[f386,go_sem,aik,o.bJ,d1,hx,g1,g2,Hd.av,Hd.cells,reduceAdd];exact⟨⟨_,_,⟨gl,by simpa using lk,by simpa using lh,ah⟩,R.put lk lh x y⟩,λb hb cx=>by rw[aj,ak cx,aj,ak cx,aj,ak ah]⟩
theorem anh(ks:List Hd)(hs:List Bool)(l:KL)(sb:Nat)(x:UInt8)(h:aG)(nx:Nat)(o:Dir h nx sb ks hs)(R:vV ks hs l):
 aA prog 383 [.ptr sb 0,u8 x.toNat] h nx λv h' nx'=>v= .dN []/\(∃Fm qH,Dir h' nx' sb Fm qH/\vV Fm qH (pg l x))/\Es nx sb h h':=by
 have db:=o.lt;have lk:=o.lk;have lh:=o.lh;have hx:x.toNat<256:=x.toNat_lt;have d1:¬(sb=nx):=ah;have g1:=Em (ks:=ks) (hs:=hs) (i:=x.toNat) (by rw[o.lk];exact hx) ⟨0,0⟩;have g2:=DS (ks:=ks.set x.toNat ⟨0,0⟩) (hs:=hs) (by simpa using lk) (i:=x.toNat) (by rw[o.lh];exact hx) false;have e0:((0:Nat):Int)=0:=rfl;rw[Hd.cells]at g1;simp only[e0]at g1;refine aA.ac 2 ajW func383 ?_;simp+decide-dsimp only[f383,go_sem,ajW,o.bJ,d1,hx,g1,g2,reduceAdd];exact⟨⟨_,_,⟨gl,by simpa using lk,by simpa using lh,ah⟩,R.del lk lh x⟩,λb hb cx=>by rw[aj,ak cx,aj,ak cx,aj,ak ah]⟩
theorem aj8(ks:List Hd)(hs:List Bool)(l:KL)(sb b:Nat)(hb:b<=256)(h:aG)(nx:Nat)(o:Dir h nx sb ks hs)(R:vV ks hs l):
 aA prog 384 [.ptr sb 0,int b] h nx (dr (Io (qx l b)) h nx):=by
 have db:=o.lt;have d1:¬(sb=nx):=ah;refine aA.pc 2 adJ func384 ?_;simp+decide-dsimp only[f384,go_sem];refine cL _ _ (λm s h' nx'=>∃k,b<=k/\k<=256/\m=256-k/\(∀z:UInt8,b<=z.toNat->z.toNat<k->jq l z=none)/\ao s 0= .ptr sb 0/\ao s 5= .ptr nx 0/\ao s 7=int k/\h'=aK h nx (.cells [int 0,u64 0] 245)/\nx'=nx+1) (n:=256-b) ?_ ?_;.simp+decide-dsimp only[go_sem];exact⟨b,an _,hb,rfl,λz h1 h2=>ah,bL⟩
 rintro m s h' nx' ⟨k,Ps,hk,rfl,hn,s0,s5,s7,rfl,rfl⟩;by_cases yB:k<256
 .have Z':(k:Int)<256:=ah;have g:=abq (ks:=ks) (hs:=hs) o.lk (i:=k) (by rw[o.lh];exact yB);have g1:=abi (ks:=ks) (hs:=hs) (i:=k) (by rw[o.lk];exact yB);have hg:=R.get (UInt8.ofNat k);unfold VV at hg;rw[ofNat_lt yB]at hg;cases h0:hs.getD k false with
  |false=>
   rw[h0]at g hg;have w1:k+1<9223372036854775808:=ah;simp+decide-dsimp only[go_sem,s0,s5,s7,Z',yB,o.bJ,d1,g,w1];refine⟨_,(ah:256-(k+1)<_),k+1,ah,ah,rfl,λz h1 h2=>?_,rfl⟩;rcases bg z.toNat k with q|q
   .exact hn z h1 q
   .have:z=UInt8.ofNat k:=eA.1 (by rw[ofNat_lt yB];omega);rw[this,hg];rfl
  |true=>
   rw[h0]at g hg;simp+decide-dsimp only[go_sem,adJ,s0,s5,s7,Z',yB,o.bJ,d1,g,g1,Hd.cells,reduceAdd];have e:=zK R.jr (x:=UInt8.ofNat k) (b:=b) hg (by rw[ofNat_lt yB];exact Ps) (λz h1 h2=>hn z h1 (by rw[ofNat_lt yB]at h2;exact h2));refine .dT ?_ (.lZ .cA (.agg (.cons .cA (.cons .cA .nil))) .cA) (by rw[e];show _=AV.dN [u8 ((UInt8.ofNat k).toNat:Nat),_,_];rw[ofNat_lt yB];rfl)
   repeat' first|exact aH.refl|apply aH.fJ|(apply aH.set;rotate_left;omega)
 .have Z':¬(k:Int)<256:=ah;simp+decide-dsimp only[go_sem,adJ,s5,s7,Z',reduceAdd];have e:=Ir R.jr (b:=b) (λz h1=>hn z h1 (by have:=z.toNat_lt;omega));refine .dT ?_ (.lZ .cA (.agg (.cons .cA (.cons .cA .nil))) .cA) (by rw[e];rfl)
  repeat' first|exact aH.refl|apply aH.fJ|(apply aH.set;rotate_left;omega)
variable{K Q:AV->aG->Nat->Prop}{args:List AV}{cE:BT AV}{f:FuncId}{fn:Func}
section
variable(P:Program)(xt:FuncId->Option Ext)
theorem zL{fr:bI}{c:bI}{cs:List bI}{l:Nat}{r:mM}{j:Option Code}(hl:au h l=some (.loop r)){yH:bI}(hf:c.finish (.g (.bool j.isNone))=some yH):
 endRound ⟨fr,c::cs,h,nx⟩ l j=some ⟨yH,cs,aK h l (.loop (r.fY (if j.isNone then .ready else .done) j)),nx⟩:=by
 unfold endRound;show(match au h l,c::cs with|some (.loop r),c::cs=>_|_,_=>none)=_;rw[hl];show(match c.finish (.g (.bool j.isNone))with|some fr=>some _|none=>none)=_;rw[hf];rfl
theorem jH.aeg(pk:PK P xt)(T:Nat->cU){l:Nat}{r:mM}(hl:au h l=some (.loop r))(hp:ju r.params args r.size r.cE=some cE)
 (d1:gM r.size r.assign=true) (d2:gM r.size r.body=true) (p1:fh P T r.assign=true) (p2:fh P T r.body=true)
 (hw:W P xt T r.assign (λe s h nx=>match e with
  | .iA=>∃r',au h l=some (.loop r')/\r'.state= .ready/\W P xt T r.body (λe s h nx=>match e with
   | .iA=>∃r',au h l=some (.loop r')/\K (.g (.bool true)) (aK h l (.loop (r'.fY .ready none))) nx
   | .ret=>∃r',au h l=some (.loop r')/\K (.g (.bool false)) (aK h l (.loop (r'.fY .done (some .ret)))) nx
   | .out _=>False) s (aK h l (.loop (r'.fY .busy r'.pending))) nx
  |_=>False) cE h nx):jH P l args h nx K:=by
 refine⟨r,cE,hl,hp,λwait cs R hq=>?_⟩
 let x:Fx:=⟨r.fn,r.size,[],false,wait::cs,some l⟩
 show eH P (x.at cE h nx (.code r.assign::[.beginRound,.code r.body])) R;refine oP P xt pk T x r.assign d1 p1 _ _ R ?_ cE h nx hw;intro e s h nx he;cases e with
 |ret=>exact he.elim
 |out id=>exact he.elim
 |iA=>
 obtain⟨r',g1,g2,g3⟩:=he;show eH P (x.at s h nx [.beginRound,.code r.body]) R;refine .gS P xt pk ⟨x.at s (aK h l (.loop (r'.fY .busy r'.pending))) nx [.code r.body],?_,?_⟩;.show(match au h l with|some (.loop r)=>(match r.state with| .ready=>_|_=>none)|_=>none)=_;rw[g1];show(match r'.state with| .ready=>_|_=>none)=_;rw[g2];rfl
 refine oP P xt pk T x r.body d2 p2 _ [] R ?_ s _ nx g3;intro e s h nx he;cases e with
 |out id=>exact he.elim
 |iA=>obtain⟨r2,q1,q2⟩:=he;obtain⟨yH,f1,f2⟩:=hq _ _ _ q2;show eH P (x.at s h nx []) R;refine .gS P xt pk ⟨_,?_,f2⟩;show endRound ⟨x.fr s [] false,wait::cs,h,nx⟩ l none=_;exact zL q1 f1
 |ret=>obtain⟨r2,q1,q2⟩:=he;obtain⟨yH,f1,f2⟩:=hq _ _ _ q2;exact⟨rfl,_,zL q1 f1,f2⟩
def gQ:Code->Bool
 | .rangeFunc _ _ _ _=>true
 | .seq a b=>gQ a||gQ b
 | .block _ b=>gQ b
 |_=>false
def WR(T Ti:Nat->cU)(xg:FuncId)(size:Nat):Code->(Option Nat->jm)->BT AV->aG->Nat->Prop
 | .seq a b,E,s,h,nx=>if gQ a=true then WR T Ti xg size a (λd=>jm.seq (W P xt T b (E d)) (E d)) s h nx else W P xt T a (jm.seq (WR T Ti xg size b E) (E none)) s h nx
 | .block id c,E,s,h,nx=>WR T Ti xg size c (λd=>jm.bJ id (E d)) s h nx
 | .rangeFunc g ps yu body,E,s,h,nx=>∃f cap fn c,oZ s g= .fn f cap/\P.funcs[f]?=some fn/\xt f=none/\fn.body=some c/\fn.results.toList=[]/\cap.length+1<=fn.ntmps/\gM fn.ntmps c=true/\fh P Ti c=true/\
  W P xt Ti c (λe s' h' nx'=>match e with
   | .out _=>False
   |_=>∃r,au h' (nx+1)=some (.loop r)/\r.state≠ .busy/\(r.pending=none/\E (some nx) .iA s (aK h' (nx+1) (.loop (r.fY .exhausted r.pending))) nx'\/r.pending=some .ret/\E (some nx) .ret s (aK h' (nx+1) (.loop (r.fY .exhausted r.pending))) nx'))
   (ey (.sO (nx+1)::cap) 0 .nil) (aK (aK h nx (.defs (some []))) (nx+1) (.loop ⟨.ready,none,xg,s,size,ps.toList,yu,body,nx⟩)) (nx+2)
 |_,_,_,_,_=>False
def WD(d:Option Nat):List AD:=match d with
 |none=>[]
 |some b=>[.vr b]
def Fx.wD(x:Fx)(d:Option Nat):Fx:=⟨x.fn,x.size,WD d,x.deferred,x.callers,x.round⟩
theorem Fx.K9{x:Fx}(h:x.defers=[]):x.wD none=x:=by obtain⟨a,b,c,d,e,f⟩:=x;have h:c=[]:=h;subst h;rfl
theorem QE(pk:PK P xt)(T Ti:Nat->cU)(x:Fx)(hx:x.round=none)(r7:x.defers=[]):
 ∀(c:Code),gQ c=true->gM x.size c=true->fh P T c=true->∀(E:Option Nat->jm) (k:List dc) (R:AM->Prop),(∀d e s h nx,E d e s h nx->abm P (x.wD d) k R e s h nx)->∀s h nx,WR P xt T Ti x.fn x.size c E s h nx->eH P (x.at s h nx (.code c::k)) R:=by
 intro c
 induction c with
 |seq a b iha ihb=>
  intro hr hd hp E k R hE s h nx hw;simp only[gM,aV]at hd;simp only[fh,aV]at hp;refine .gS P xt pk ⟨x.at s h nx (.code a:: .code b::k),rfl,?_⟩;simp only[WR]at hw;by_cases ha:gQ a=true
  .rw[aw ha]at hw;refine iha ha hd.1 hp.1 _ _ R ?_ s h nx hw;intro d e s h nx he;cases e with
   |iA=>exact oP P xt pk T (x.wD d) b hd.2 hp.2 (E d) k R (hE d) s h nx he
   |ret=>exact hE d .ret s h nx he
   |out id=>exact hE d (.out id) s h nx he
  .rw[ak ha]at hw;have hb:gQ b=true:=by
    simp only[gQ,tJ]at hr;rcases hr with h|h
    .exact absurd h ha
    .exact h
   refine oP P xt pk T x a hd.1 hp.1 _ _ R ?_ s h nx hw;intro e s h nx he;cases e with
   |iA=>exact ihb hb hd.2 hp.2 E k R hE s h nx he
   |ret=>have:=hE none .ret s h nx he;rw[Fx.K9 r7]at this;exact this
   |out id=>have:=hE none (.out id) s h nx he;rw[Fx.K9 r7]at this;exact this
 |block id b ih=>
  intro hr hd hp E k R hE s h nx hw;refine .gS P xt pk ⟨x.at s h nx (.code b:: .inBlock id::k),rfl,ih hr hd hp _ _ R ?_ s h nx hw⟩;intro d e s h nx he;cases e with
  |iA=>exact .gS P xt pk ⟨_,rfl,hE d .iA s h nx he⟩
  |ret=>exact hE d .ret s h nx he
  |out zQ=>
   simp only[jm.bJ]at he;by_cases Gw:id=zQ;.rw[aw Gw]at he;refine⟨k,?_,hE d .iA s h nx he⟩;show(if id==zQ then some k else nL zQ k)=some k;rw[aw (by simpa using Gw)]
   .rw[ak Gw]at he;obtain⟨k',h1,h2⟩:=hE d (.out zQ) s h nx he;refine⟨k',?_,h2⟩;show(if id==zQ then some k else nL zQ k)=some k';rw[ak (by simpa using Gw)];exact h1
 |rangeFunc g ps yu body=>
  intro _ _ _ E k R hE s h nx hw;obtain⟨f,cap,fn,c,e1,e2,e3,e4,e5,e6,e7,e8,hw⟩:=hw;obtain⟨xf,xsz,xds,xdf,xcs,xr⟩:=x;have hx:xr=none:=hx;have r7:xds=[]:=r7;subst hx;subst r7;generalize hh:aK (aK h nx (.defs (some []))) (nx+1) (.loop ⟨.ready,none,xf,s,xsz,ps.toList,yu,body,nx⟩)=H at hw
  let wait:bI:=⟨xf,s,xsz,.jQ (nx+1)::k,[.vr nx],false,xdf,none⟩
  let x1:Fx:=⟨f,fn.ntmps,[],false,wait::xcs,none⟩
  have LX:bI.enter P f (.sO (nx+1)::cap) false=some (x1.fr (ey (.sO (nx+1)::cap) 0 .nil) [.code c] false):=by unfold bI.enter;rw[e2];show(match fn.body with|some c=>_|none=>_)=_;rw[e4];show(if(AV.sO (nx+1)::cap).length<=fn.ntmps then _ else _)=_;rw[aw (by simpa using e6)];rfl
  refine .gS P xt pk ⟨x1.at (ey (.sO (nx+1)::cap) 0 .nil) H (nx+2) [.code c],?_,?_⟩
  .show se P _ _ (ou P xt (aK (aK h nx (.defs (some []))) (nx+1) (.loop ⟨.ready,none,xf,s,xsz,ps.toList,yu,body,nx⟩)) (oZ s g) [.sO (nx+1)])=_;rw[hh,e1];show se P _ _ (fk P xt H f (.sO (nx+1)::cap))=_;have:fk P xt H f (.sO (nx+1)::cap)=some (.enter f (.sO (nx+1)::cap)):=by unfold fk;rw[e3];show(match P.funcs[f]? with|some fn=>_|none=>none)=_;rw[e2];show(match fn.body with|some _=>_|none=>none)=_;rw[e4]
   rw[this];show(match bI.enter P f (.sO (nx+1)::cap) false with|some fr=>some _|none=>none)=_;rw[LX];subst hh;rfl
  have back:∀(s':BT AV) (h':aG) (nx':Nat) (t:List dc),qZ t=false->(∃r,au h' (nx+1)=some (.loop r)/\r.state≠ .busy/\(r.pending=none/\E (some nx) .iA s (aK h' (nx+1) (.loop (r.fY .exhausted r.pending))) nx'\/r.pending=some .ret/\E (some nx) .ret s (aK h' (nx+1) (.loop (r.fY .exhausted r.pending))) nx'))->
   eH P ⟨x1.fr s' t true,x1.callers,h',nx'⟩ R:=by
   intro s' h' nx' t ht ⟨r,q1,q2,q3⟩
   let x2:Fx:=⟨xf,xsz,[.vr nx],xdf,xcs,none⟩
   refine .gS P xt pk ⟨x2.at s h' nx' (.jW (nx+1)::k),?_,?_⟩;.show(if qZ t=true then none else match P.funcs[f]? with|some fn=>_|none=>none)=_;rw[ht,e2];show(match eo P h' s' fn.results.toList with|some vs=>_|none=>none)=_;rw[e5];rfl
   .have jf:tm P xt (x2.at s h' nx' (.jW (nx+1)::k))=some (x2.at s (aK h' (nx+1) (.loop (r.fY .exhausted r.pending))) nx' ((match r.pending with|some c=>[.code c]|none=>[])++k)):=by
     show pN _ (nx+1) k (au h' (nx+1))=_;rw[q1];show(match r.state with| .busy=>none|_=>some _)=_;cases hs:r.state with
     |busy=>exact absurd hs q2
     |_=>rfl
    refine .gS P xt pk ⟨_,jf,?_⟩;rcases q3 with⟨w1,w2⟩|⟨w1,w2⟩
    .have:=hE (some nx) .iA s _ nx' w2;rw[w1]at this⊢;exact this
    .have:=hE (some nx) .ret s _ nx' w2;rw[w1]at this⊢;exact .gS P xt pk ⟨_,rfl,(this:∀t,qZ t=false->_) _ rfl⟩
  refine oP P xt pk Ti x1 c e7 e8 _ [] R ?_ _ H (nx+2) hw;intro e s' h' nx' he;cases e with
  |out id=>exact he.elim
  |iA=>exact .gS P xt pk ⟨⟨x1.fr s' [] true,x1.callers,h',nx'⟩,rfl,back s' h' nx' [] rfl he⟩
  |ret=>exact λt ht=>back s' h' nx' t ht he
 |_=>intro hr;cases hr
theorem aA.QB(pk:PK P xt)(T Ti:Nat->cU){c:Code}(hf:P.funcs[f]?=some fn)(hb:fn.body=some c)(hr:gQ c=true)
 (hd:gM fn.ntmps c=true) (hp:fh P T c=true)  (ha:args.length<=fn.ntmps)   
 (hw:WR P xt T Ti f fn.ntmps c (λd e s h nx=>match e with
  | .out _=>False
  |_=>match d with
   |none=>∃vs,eo P h s fn.results.toList=some vs/\Q (one vs) h nx
   |some b=>au h b=some (.defs (some []))/\∃vs,eo P (aK h b (.defs none)) s fn.results.toList=some vs/\Q (one vs) (aK h b (.defs none)) nx) (ey args 0 .nil) h nx):aA P f args h nx Q:=by
 have he:bI.enter P f args false=some ⟨f,ey args 0 .nil,fn.ntmps,[.code c],[],false,false,none⟩:=by unfold bI.enter;rw[hf];show(match fn.body with|some c=>_|none=>_)=_;rw[hb];show(if args.length<=fn.ntmps then _ else _)=_;rw[aw ha]
 refine .F' P he ?_
 let x:Fx:=⟨f,fn.ntmps,[],false,[],none⟩
 have abv:∀s h nx t,qZ t=false->(∃vs,eo P h s fn.results.toList=some vs/\Q (one vs) h nx)->eH P ⟨x.fr s t true,x.callers,h,nx⟩ λm=>m.fr.fn=f/\∃v,zw P m=some v/\Q v m.heap m.next:=by
  intro s h nx t ht ⟨vs,h1,h2⟩;refine .done P ⟨rfl,one vs,?_,h2⟩;show(if true&& !false&& !qZ t then(match P.funcs[f]? with
   |some fn=>match eo P h s fn.results.toList with
    |some vs=>some (one vs)
    |none=>none
   |none=>none)else none)=_
  rw[ht,hf];show(match eo P h s fn.results.toList with|some vs=>_|none=>_)=_;rw[h1]
 have fU:∀d s h nx t,qZ t=false->(match d with
  |none=>∃vs,eo P h s fn.results.toList=some vs/\Q (one vs) h nx
  |some b=>au h b=some (.defs (some []))/\∃vs,eo P (aK h b (.defs none)) s fn.results.toList=some vs/\Q (one vs) (aK h b (.defs none)) nx)->eH P ⟨(x.wD d).fr s t true,x.callers,h,nx⟩ λm=>m.fr.fn=f/\∃v,zw P m=some v/\Q v m.heap m.next:=by
  intro d s h nx t ht hq;cases d with
  |none=>exact abv s h nx t ht hq
  |some b=>obtain⟨h1,h2⟩:=hq;refine .gS P xt pk ⟨⟨x.fr s t true,x.callers,aK h b (.defs none),nx⟩,?_,abv s _ nx t ht h2⟩;show(match au h b with|some (.defs (some calls))=>_|_=>none)=_;rw[h1];rfl
 refine QE P xt pk T Ti x rfl rfl c hr hd hp _ [] _ ?_ _ h nx hw;intro d e s h nx he;cases e with
 |iA=>exact .gS P xt pk ⟨⟨(x.wD d).fr s [] true,x.callers,h,nx⟩,rfl,fU d s h nx [] rfl he⟩
 |ret=>exact λt ht=>fU d s h nx t ht he
 |out id=>exact he.elim
end
variable{h':aG}{name:String}{nx':Nat}
def Nc(P:Program)(xt:FuncId->Option Ext)(h:aG)(f:Option FuncId)(v:AV)(args:List AV):Option ER:=match f with
 |some f=>fk P xt h f (v::args)
 |none=>none
theorem YG{xt:FuncId->Option Ext}{v:AV}:nO P xt h name args (.kB t v)=Nc P xt h (lT P t name) v args:=by show(match lT P t name with|some f=>fk P xt h f (v::args)|none=>none)=_;unfold Nc;cases lT P t name<;>rfl
theorem Nb{xt:FuncId->Option Ext}{v:AV}:Nc P xt h (some f) v args=fk P xt h f (v::args):=bF rfl
theorem agl:lT prog 301 "marshalling/artnode.get" =some 364:=aL
theorem aj2:lT prog 301 "marshalling/artnode.set" =some 365:=aL
theorem afD:lT prog 301 "marshalling/artnode.drop" =some 362:=aL
theorem ahy:lT prog 301 "marshalling/artnode.from" =some 363:=aL
theorem ahe:lT prog 432 "marshalling/artnode.get" =some 381:=aL
theorem agx:lT prog 432 "marshalling/artnode.set" =some 382:=aL
theorem af4:lT prog 432 "marshalling/artnode.drop" =some 379:=aL
theorem aju:lT prog 432 "marshalling/artnode.from" =some 380:=aL
theorem ajs:lT prog 433 "marshalling/artnode.get" =some 385:=aL
theorem aiL:lT prog 433 "marshalling/artnode.set" =some 386:=aL
theorem aha:lT prog 433 "marshalling/artnode.drop" =some 383:=aL
theorem ajR:lT prog 433 "marshalling/artnode.from" =some 384:=aL
theorem ajQ:mc prog 432=some (.pointer none):=aL
theorem Oo{v:AV}:jF prog (.kB 301 v) 301 true=some (.val (.dN [v,bQ true])):=by simp[jF]
theorem Pb{v:AV}:jF prog (.kB 432 v) 301 true=some (.val (.dN [.g (.pointer none),bQ false])):=by simp[jF,QK]
theorem Og{v:AV}:jF prog (.kB 432 v) 432 true=some (.val (.dN [v,bQ true])):=by simp[jF]
theorem NB{v:AV}:jF prog (.kB 433 v) 301 true=some (.val (.dN [.g (.pointer none),bQ false])):=by simp[jF,QK]
theorem Nz{v:AV}:jF prog (.kB 433 v) 432 true=some (.val (.dN [.g (.pointer none),bQ false])):=by simp[jF,ajQ]
theorem MN{v:AV}:jF prog (.kB 433 v) 433 true=some (.val (.dN [v,bQ true])):=by simp[jF]
attribute[go_sem] Oo Pb Og NB Nz MN
attribute[go_sem] YG Nb agl aj2 afD ahy ahe agx af4 aju ajs aiL aha ajR
theorem aj0{o:Nat}:kX prog 301 (.ptr b o)=some (.val (.kB 301 (.ptr b o))):=by simp[kX]
theorem ahq{o:Nat}:kX prog 432 (.ptr b o)=some (.val (.kB 432 (.ptr b o))):=by simp[kX]
theorem ag9{o:Nat}:kX prog 433 (.ptr b o)=some (.val (.kB 433 (.ptr b o))):=by simp[kX]
attribute[go_sem] aj0 ahq ag9
structure KN where
 nb:Nat
 sb:Nat
 t:TypeId
 kind:Nat
 l:KL
 K:AV
 H:AV
inductive kY(h:aG)(nx:Nat)(k:KN):Prop
 |jr:k.t=301->(k.kind=4\/k.kind=16)->Srt h nx k.sb k.l k.K k.H->kY h nx k
 |idx (pl:List Nat) (ks:List Hd) (us:List Bool):k.t=432->k.kind=48->k.l.length<=48->bZ k.K=none->bZ k.H=none->Idx h nx k.sb pl ks us->su pl ks us k.l->kY h nx k
 |dir (ks:List Hd) (hs:List Bool):k.t=433->k.kind=256->bZ k.K=none->bZ k.H=none->Dir h nx k.sb ks hs->vV ks hs k.l->kY h nx k
structure KN.ok(k:KN)(h:aG)(nx:Nat):Prop where
 bJ:au h k.nb=some (.cells [.kB k.t (.ptr k.sb 0),int k.kind,int k.l.length] 307)
 sh:kY h nx k
 lt:k.nb<nx
 d1:k.nb≠k.sb
 d2:bZ k.K≠some k.nb
 d3:bZ k.H≠some k.nb
def KN.own(k:KN)(b:Nat):Prop:=b=k.nb\/b=k.sb\/bZ k.K=some b\/bZ k.H=some b
theorem kY.RQ{k:KN}(o:kY h nx k):fD k.l:=by
 cases o with
 |jr _ _ o=>exact o.jr
 |idx _ _ _ _ _ _ _ _ _ R=>exact R.jr
 |dir _ _ _ _ _ _ _ R=>exact R.jr
theorem U'(k:KN)(h:aG)(nx:Nat)(o:k.ok h nx):aA prog 292 [.ptr k.nb 0] h nx (dr (bQ false) h nx):=by have ob:=o.bJ;refine aA.ac 1 T0 func292 ?_;simp+decide-dsimp only[f292,go_sem,ob];exact⟨rfl,rfl,rfl⟩
theorem ajx(k:KN)(h:aG)(nx:Nat)(o:k.ok h nx):aA prog 279 [.ptr k.nb 0] h nx (dr (int k.l.length) h nx):=by have ob:=o.bJ;refine aA.ac 1 T0 func279 ?_;simp+decide-dsimp only[f279,go_sem];refine bm (U' k _ _ o) ?_;simp+decide-dsimp only[go_sem,ob];exact⟨rfl,rfl,rfl⟩
theorem kY.aX{k:KN}{h h':aG}{nx nx':Nat}(o:kY h nx k)(hk:∀b,b=k.sb\/bZ k.K=some b\/bZ k.H=some b->au h' b=au h b)(hn:nx<=nx'):kY h' nx' k:=by
 have hs:=hk k.sb (.inl rfl);cases o with
 |jr e1 e2 s=>exact .jr e1 e2 ⟨by rw[hs];exact s.bJ,s.k.aX λb hb=>hk b (.inr (.inl hb)),s.h.aX λb hb=>hk b (.inr (.inr hb)),s.jr,s.ik.le (an _) hn,s.ih.le (an _) hn,aP s.lt hn,s.d1,s.d2,s.d3⟩
 |idx pl ks us e1 e2 e3 e4 e5 s R=>exact .idx pl ks us e1 e2 e3 e4 e5 ⟨by rw[hs];exact s.bJ,s.lp,s.lk,s.lu,aP s.lt hn⟩ R
 |dir ks qH e1 e2 e3 e4 s R=>exact .dir ks qH e1 e2 e3 e4 ⟨by rw[hs];exact s.bJ,s.lk,s.lh,aP s.lt hn⟩ R
theorem KN.ok.aX{k:KN}{h h':aG}{nx nx':Nat}(o:k.ok h nx)(hk:∀b,k.own b->au h' b=au h b)(hn:nx<=nx'):k.ok h' nx':=
 ⟨by rw[hk _ (.inl rfl)];exact o.bJ,o.sh.aX (λb hb=>hk b (.inr hb)) hn,aP o.lt hn,o.d1,o.d2,o.d3⟩
theorem kY.lt{k:KN}{h:aG}{nx:Nat}(o:kY h nx k):∀b,b=k.sb\/bZ k.K=some b\/bZ k.H=some b->b<nx:=by
 rintro b (rfl|hb|hb)
 .cases o with
  |jr _ _ s=>exact s.lt
  |idx _ _ _ _ _ _ _ _ s _=>exact s.lt
  |dir _ _ _ _ _ _ s _=>exact s.lt
 .cases o with
  |jr _ _ s=>exact(s.ik b hb).2
  |idx _ _ _ _ _ _ e _ _ _=>rw[e]at hb;cases hb
  |dir _ _ _ _ e _ _ _=>rw[e]at hb;cases hb
 .cases o with
  |jr _ _ s=>exact(s.ih b hb).2
  |idx _ _ _ _ _ _ _ e _ _=>rw[e]at hb;cases hb
  |dir _ _ _ _ _ e _ _=>rw[e]at hb;cases hb
theorem KN.ok.Pz{k:KN}(o:k.ok h nx):∀b,k.own b->b<nx:=by
 rintro b (rfl|hb);.exact o.lt
 .exact o.sh.lt b hb
theorem KN.ok.same{k:KN}(o:k.ok h nx)(hk:aH nx h h')(hn:nx<=nx'):k.ok h' nx':=o.aX (λb hb=>hk b (o.Pz b hb)) hn
def aii(k:KN)(name:String)(args:List AV)(h:aG)(nx:Nat)(Q:AV->aG->Nat->Prop):Prop:=
 ∃f,Nc prog xt h (lT prog k.t name) (.ptr k.sb 0) args=some (.enter f (.ptr k.sb 0::args))/\aA prog f (.ptr k.sb 0::args) h nx Q
theorem La{k:KN}(o:kY h nx k)(x:UInt8):aii k "marshalling/artnode.get" [u8 x.toNat] h nx (dr (zN (jq k.l x)) h nx):=by
 cases o with
 |jr e1 _ s=>exact⟨364,by simp+decide [e1,go_sem],al7 k.l k.sb k.K k.H x _ _ s⟩
 |idx pl ks us e1 _ _ _ _ s R=>exact⟨381,by simp+decide [e1,go_sem],akL pl ks us k.l k.sb x _ _ s R⟩
 |dir ks hs e1 _ _ _ s R=>exact⟨385,by simp+decide [e1,go_sem],alQ ks hs k.l k.sb x _ _ s R⟩
theorem TU{k:KN}(o:kY h nx k)(b:Nat)(hb:b<=256):aii k "marshalling/artnode.from" [int b] h nx (dr (Io (qx k.l b)) h nx):=by
 cases o with
 |jr e1 _ s=>exact⟨363,by simp+decide [e1,go_sem],anq k.l k.sb k.K k.H b ah _ _ s⟩
 |idx pl ks us e1 _ _ _ _ s R=>exact⟨380,by simp+decide [e1,go_sem],alr pl ks us k.l k.sb b hb _ _ s R⟩
 |dir ks hs e1 _ _ _ s R=>exact⟨384,by simp+decide [e1,go_sem],aj8 ks hs k.l k.sb b hb _ _ s R⟩
theorem Vn(k:KN)(x:UInt8)(h:aG)(nx:Nat)(o:k.ok h nx):aA prog 282 [.ptr k.nb 0,u8 x.toNat] h nx (dr (zN (jq k.l x)) h nx):=by have ob:=o.bJ;have db:=o.lt;have d1:¬(k.nb=nx):=ah;refine aA.pc 2 T0 func282 ?_;simp+decide-dsimp only[f282,go_sem];have o':k.ok (aK h nx (.cells [int 0,u64 0] 245)) (nx+1):=o.same (aH.refl.set (an _)) ah;refine bm (U' k _ _ o') ?_;obtain⟨f,e,c⟩:=La o'.sh x;rw[zN]at c;simp+decide-dsimp only[go_sem,ob,d1,e];refine bm c ?_;simp+decide-dsimp only[go_sem,Hd.av,Hd.cells,reduceAdd];exact .dT ((aH.refl.set (an _)).set (an _)) (.jS (.agg (.cons .cA (.cons .cA .nil))) .cA) rfl
theorem XZ(o:Option (UInt8×Hd)):∃(b:Nat) (y:Hd) (s:Bool),Io o= .dN [u8 (b:Int),.agg [int y.ao,u64 y.bk],bQ s]:=by
 cases o with
 |none=>exact⟨0,⟨0,0⟩,false,rfl⟩
 |some e=>exact⟨e.1.toNat,e.2,true,rfl⟩
def alU:Nat->cU:=λid=>if id=3 then[([0],[],some 1),([],[],some 2),([],[],some 3),([],[],none)]else[]
theorem aeD(k:KN)(b:Nat)(hb:b<=256)(h:aG)(nx:Nat)(o:k.ok h nx):aA prog 289 [.ptr k.nb 0,int b] h nx (dr (Io (qx k.l b)) h nx):=by have ob:=o.bJ;have db:=o.lt;have d1:¬(k.nb=nx):=ah;refine aA.pc 2 alU func289 ?_;simp+decide-dsimp only[f289,go_sem];have o':k.ok (aK h nx (.cells [int 0,u64 0] 245)) (nx+1):=o.same (aH.refl.set (an _)) ah;refine bm (U' k _ _ o') ?_;obtain⟨f,e,c⟩:=TU o'.sh b hb;obtain⟨q,y,t,er⟩:=XZ (qx k.l b);rw[er]at c⊢;simp+decide-dsimp only[go_sem,ob,d1,e];refine bm c ?_;simp+decide-dsimp only[go_sem,reduceAdd];exact .dT ((aH.refl.set (an _)).set (an _)) (.lZ .cA (.agg (.cons .cA (.cons .cA .nil))) .cA) rfl
theorem abZ(h:aG)(nx:Nat):aA prog 132 [] h nx λv h' nx'=>∃k:KN,v= .ptr k.nb 0/\k.l=[]/\k.ok h' nx'/\aH nx h h'/\∀b,k.own b->nx<=b:=by
 refine aA.ac 0 T0 func132 ?_;simp+decide-dsimp only[f132,go_sem];refine⟨⟨nx+1,nx,301,4,[],.g (.slice none 0 0),.g (.slice none 0 0)⟩,rfl,rfl,⟨by simp[aj],.jr rfl (.inl rfl) ⟨by simp[aj],.inl ⟨rfl,rfl⟩,.inl ⟨rfl,rfl⟩,List.Pairwise.nil,.nil,.nil,by show nx<_;omega,(λe=>by cases e),(λe=>by cases e),(λb e=>by cases e)⟩,by show nx+1<_;omega,by show nx+1≠nx;omega,(λe=>by cases e),(λe=>by cases e)⟩,(aH.refl.set (an _)).set (bz _),?_⟩;rintro b (e|e|e|e);.have e:b=nx+1:=e;omega
 .have e:b=nx:=e;omega
 .cases e
 .cases e
structure Ax where
 pre:ba
 val:ba
 has:Bool
 k:KN
abbrev Ju:=Nat->Option (Nat×Ax)
structure AI(Pk:ba->Prop)(σ:Ju)(aO:Hd)(pa:Nat->ba)(par:Nat->Nat):Prop where
 len:∀s g n,σ s=some (g,n)->(pa s++n.pre).length<=24
 jr:∀s g n,σ s=some (g,n)->fD n.k.l
 aJ:∀s g n,σ s=some (g,n)->n.has=true->Pk (pa s++n.pre)
 lQ:∀s g n,σ s=some (g,n)->∀e∈n.k.l,(∃m,σ e.2.ao=some (e.2.bk,m))/\pa e.2.ao=pa s++n.pre++[e.1]/\par e.2.ao=s
 rt:(∃n,σ aO.ao=some (aO.bk,n))/\pa aO.ao=[]
section
variable{Pk:ba->Prop}{σ:Ju}{aO:Hd}{pa:Nat->ba}{par:Nat->Nat}
theorem some_inj{s:Nat}{g g':Nat}{n n':Ax}(h:σ s=some (g,n))(h':σ s=some (g',n')):g=g'/\n=n':=by rw[h]at h';injection h' with h';injection h' with a b;exact⟨a,b⟩
theorem AI.one(I:AI Pk σ aO pa par){s g n s' g' n'}(h:σ s=some (g,n))(h':σ s'=some (g',n')){e e':UInt8×Hd}(he:e∈n.k.l)(tM:e'∈n'.k.l)(hs:e.2.ao=e'.2.ao):s=s'/\e=e':=by
 obtain⟨_,a2,a3⟩:=I.lQ _ _ _ h e he;obtain⟨_,b2,b3⟩:=I.lQ _ _ _ h' e' tM;have hss:s=s':=by rw[<-a3,<-b3,hs]
 subst hss;obtain⟨rfl,rfl⟩:=some_inj h h';rw[hs,b2]at a2;have:e'.1=e.1:=by simpa using a2
 obtain⟨x,y⟩:=e;obtain⟨x',y'⟩:=e';have:x'=x:=this;subst this;exact⟨rfl,by rw[(I.jr _ _ _ h).uniq he tM]⟩
theorem AI.Sb(I:AI Pk σ aO pa par){s g n}(h:σ s=some (g,n)){e:UInt8×Hd}(he:e∈n.k.l):e.2.ao≠aO.ao:=λhs=>by have:=(I.lQ _ _ _ h e he).2.1;rw[hs,I.rt.2]at this;simp at this
theorem AI.Ba(I:AI Pk σ aO pa par){s g n}(h:σ s=some (g,n)){e:UInt8×Hd}(he:e∈n.k.l):e.2.ao≠s:=λhs=>by have:=(I.lQ _ _ _ h e he).2.1;rw[hs]at this;have:=fN List.length this;simp at this
def tq(σ:Ju)(s:Nat)(x:Option (Nat×Ax)):Ju:=λt=>if t=s then x else σ t
theorem gg{s x}:tq σ s x s=x:=aw rfl
theorem iS{s x t}(h:t≠s):tq σ s x t=σ t:=ak h
theorem AI.val(I:AI Pk σ aO pa par){s g n}(h:σ s=some (g,n))(v:ba)(b:Bool)(hb:b=true->Pk (pa s++n.pre)):AI Pk (tq σ s (some (g,{n with val:=v,has:=b}))) aO pa par:=by
 have get:∀t g' m,tq σ s (some (g,{n with val:=v,has:=b})) t=some (g',m)->(t=s/\m={n with val:=v,has:=b})\/σ t=some (g',m):=by
  intro t g' m ht;by_cases e:t=s;.subst e;rw[gg]at ht;injection ht with ht;injection ht with _ ht;exact .inl ⟨rfl,ht.symm⟩
  .rw[iS e]at ht;exact .inr ht
 have put:∀t g' m,σ t=some (g',m)->∃m',tq σ s (some (g,{n with val:=v,has:=b})) t=some (g',m'):=by
  intro t g' m ht;by_cases e:t=s;.subst e;obtain⟨rfl,rfl⟩:=some_inj h ht;exact⟨_,gg⟩
  .exact⟨m,by rw[iS e];exact ht⟩
 refine⟨λt g' m ht=>?_,λt g' m ht=>?_,λt g' m ht hm=>?_,λt g' m ht e he=>?_,?_⟩
 .rcases get t g' m ht with⟨rfl,rfl⟩|ht;.have:=I.len _ _ _ h;exact this
  .exact I.len _ _ _ ht
 .rcases get t g' m ht with⟨rfl,rfl⟩|ht;.have:=I.jr _ _ _ h;exact this
  .exact I.jr _ _ _ ht
 .rcases get t g' m ht with⟨rfl,rfl⟩|ht;.exact hb hm
  .exact I.aJ _ _ _ ht hm
 .have hk:(∃m,σ e.2.ao=some (e.2.bk,m))/\pa e.2.ao=pa t++m.pre++[e.1]/\par e.2.ao=t:=by
   rcases get t g' m ht with⟨rfl,rfl⟩|ht;.have:=I.lQ _ _ _ h e he;exact this
   .exact I.lQ _ _ _ ht e he
  obtain⟨⟨m',h1⟩,h2⟩:=hk;exact⟨put _ _ _ h1,h2⟩
 .obtain⟨⟨m,h1⟩,h2⟩:=I.rt;exact⟨put _ _ _ h1,h2⟩
theorem AI.aE(I:AI Pk σ aO pa par){s g n}(h:σ s=some (g,n)){x:Hd}(hx:σ x.ao=none){b:UInt8}{r:ba}(hb:jq n.k.l b=none){m:Ax}(m1:m.pre=r)(m2:m.k.l=[])(hp:Pk (pa s++n.pre++b::r))(hl:(pa s++n.pre++b::r).length<=24)
 {n':Ax} (n1:n'.pre=n.pre) (n2:n'.has=n.has) (n3:n'.k.l=nV n.k.l b x):
 AI Pk (tq (tq σ x.ao (some (x.bk,m))) s (some (g,n'))) aO (λt=>if t=x.ao then pa s++n.pre++[b]else pa t) (λt=>if t=x.ao then s else par t):=by
 have ko:x.ao≠s:=λe=>by rw[e,h]at hx;cases hx
 have old:∀{t g' m},σ t=some (g',m)->t≠x.ao:=λht e=>by rw[e,hx]at ht;cases ht
 have get:∀t g' q,tq (tq σ x.ao (some (x.bk,m))) s (some (g,n')) t=some (g',q)->(t=s/\q=n')\/(t=x.ao/\q=m)\/(t≠s/\t≠x.ao/\σ t=some (g',q)):=by
  intro t g' q ht;by_cases e:t=s;.subst e;rw[gg]at ht;injection ht with ht;injection ht with _ ht;exact .inl ⟨rfl,ht.symm⟩
  .rw[iS e]at ht;by_cases e':t=x.ao;.subst e';rw[gg]at ht;injection ht with ht;injection ht with _ ht;exact .inr (.inl ⟨rfl,ht.symm⟩)
   .rw[iS e']at ht;exact .inr (.inr ⟨e,e',ht⟩)
 have put:∀t g' q,σ t=some (g',q)->∃q',tq (tq σ x.ao (some (x.bk,m))) s (some (g,n')) t=some (g',q'):=by
  intro t g' q ht;by_cases e:t=s;.subst e;obtain⟨rfl,rfl⟩:=some_inj h ht;exact⟨_,gg⟩
  .exact⟨q,by rw[iS e,iS (old ht)];exact ht⟩
 have L7:pa s++n.pre++[b]++r=pa s++n.pre++b::r:=bL;refine⟨λt g' q ht=>?_,λt g' q ht=>?_,λt g' q ht hm=>?_,λt g' q ht e he=>?_,?_⟩
 .rcases get t g' q ht with⟨rfl,rfl⟩|⟨rfl,rfl⟩|⟨e1,e2,ht⟩;.simp only[ak ko.symm];rw[n1];exact I.len _ _ _ h
  .simp only[cz];rw[m1,L7];exact hl
  .simp only[ak e2];exact I.len _ _ _ ht
 .rcases get t g' q ht with⟨rfl,rfl⟩|⟨rfl,rfl⟩|⟨e1,e2,ht⟩;.rw[n3];exact jy (I.jr _ _ _ h) _ _
  .rw[m2];exact List.Pairwise.nil
  .exact I.jr _ _ _ ht
 .rcases get t g' q ht with⟨rfl,rfl⟩|⟨rfl,rfl⟩|⟨e1,e2,ht⟩;.simp only[ak ko.symm];rw[n1];exact I.aJ _ _ _ h (by rw[<-n2];exact hm)
  .simp only[cz];rw[m1,L7];exact hp
  .simp only[ak e2];exact I.aJ _ _ _ ht hm
 .rcases get t g' q ht with⟨rfl,rfl⟩|⟨rfl,rfl⟩|⟨e1,e2,ht⟩
  .rw[n3]at he;rcases(xd (I.jr _ _ _ h)).1 he with rfl|⟨_,he⟩
   .exact⟨⟨m,by rw[iS ko,gg]⟩,by simp only[cz,ak ko.symm];rw[n1],by simp only[cz]⟩
   .obtain⟨⟨m',h1⟩,h2,h3⟩:=I.lQ _ _ _ h e he;exact⟨put _ _ _ h1,by simp only[ak (old h1),ak ko.symm];rw[n1];exact h2,by simp only[ak (old h1)];exact h3⟩
  .rw[m2]at he;cases he
  .obtain⟨⟨m',h1⟩,h2,h3⟩:=I.lQ _ _ _ ht e he;exact⟨put _ _ _ h1,by simp only[ak (old h1),ak e2];exact h2,by simp only[ak (old h1)];exact h3⟩
 .obtain⟨⟨m',h1⟩,h2⟩:=I.rt;exact⟨put _ _ _ h1,by simp only[ak (old h1)];exact h2⟩
theorem AI.split(I:AI Pk σ aO pa par){s g n}(h:σ s=some (g,n)){x:Hd}(hx:σ x.ao=none){c:Nat}(hc:c<n.pre.length){lw hi:Ax}(l1:lw.pre=n.pre.drop (c+1))(l2:lw.has=n.has)(l3:lw.k.l=n.k.l)
 (h1:hi.pre=n.pre.take c) (h2:hi.has=true->Pk (pa s++n.pre.take c)) (h3:hi.k.l=[(n.pre.getD c 0,x)]):
 AI Pk (tq (tq σ x.ao (some (x.bk,lw))) s (some (g,hi))) aO (λt=>if t=x.ao then pa s++n.pre.take c++[n.pre.getD c 0]else pa t) (λt=>if t=x.ao then s else if par t=s/\∃e∈n.k.l,e.2.ao=t then x.ao else par t):=by
 have ko:x.ao≠s:=λe=>by rw[e,h]at hx;cases hx
 have old:∀{t g' m},σ t=some (g',m)->t≠x.ao:=λht e=>by rw[e,hx]at ht;cases ht
 have get:∀t g' q,tq (tq σ x.ao (some (x.bk,lw))) s (some (g,hi)) t=some (g',q)->(t=s/\q=hi)\/(t=x.ao/\q=lw)\/(t≠s/\t≠x.ao/\σ t=some (g',q)):=by
  intro t g' q ht;by_cases e:t=s;.subst e;rw[gg]at ht;injection ht with ht;injection ht with _ ht;exact .inl ⟨rfl,ht.symm⟩
  .rw[iS e]at ht;by_cases e':t=x.ao;.subst e';rw[gg]at ht;injection ht with ht;injection ht with _ ht;exact .inr (.inl ⟨rfl,ht.symm⟩)
   .rw[iS e']at ht;exact .inr (.inr ⟨e,e',ht⟩)
 have put:∀t g' q,σ t=some (g',q)->∃q',tq (tq σ x.ao (some (x.bk,lw))) s (some (g,hi)) t=some (g',q'):=by
  intro t g' q ht;by_cases e:t=s;.subst e;obtain⟨rfl,rfl⟩:=some_inj h ht;exact⟨_,gg⟩
  .exact⟨q,by rw[iS e,iS (old ht)];exact ht⟩
 have EP:n.pre=n.pre.take c++[n.pre.getD c 0]++n.pre.drop (c+1):=by
  have e1:n.pre.getD c 0=n.pre[c]:=by simp[List.getD,hc]
  rw[e1,ay,List.singleton_append,<-da hc,bY]
 have UU:pa s++n.pre.take c++[n.pre.getD c 0]++n.pre.drop (c+1)=pa s++n.pre:=by rw[ay,ay,<-ay (n.pre.take c),<-EP]
 refine⟨λt g' q ht=>?_,λt g' q ht=>?_,λt g' q ht hm=>?_,λt g' q ht e he=>?_,?_⟩
 .rcases get t g' q ht with⟨rfl,rfl⟩|⟨rfl,rfl⟩|⟨e1,e2,ht⟩;.simp only[ak ko.symm];rw[h1];have:=I.len _ _ _ h;simp only[aq,ax]at this⊢;omega
  .simp only[cz];rw[l1,UU];exact I.len _ _ _ h
  .simp only[ak e2];exact I.len _ _ _ ht
 .rcases get t g' q ht with⟨rfl,rfl⟩|⟨rfl,rfl⟩|⟨e1,e2,ht⟩;.rw[h3];exact zC _ _
  .rw[l3];exact I.jr _ _ _ h
  .exact I.jr _ _ _ ht
 .rcases get t g' q ht with⟨rfl,rfl⟩|⟨rfl,rfl⟩|⟨e1,e2,ht⟩;.simp only[ak ko.symm];rw[h1];exact h2 hm
  .simp only[cz];rw[l1,UU];exact I.aJ _ _ _ h (by rw[<-l2];exact hm)
  .simp only[ak e2];exact I.aJ _ _ _ ht hm
 .rcases get t g' q ht with⟨rfl,rfl⟩|⟨rfl,rfl⟩|⟨e1,e2,ht⟩
  .rw[h3]at he;have he:e=(n.pre.getD c 0,x):=by simpa using he
   subst he;exact⟨⟨lw,by rw[iS ko,gg]⟩,by simp only[cz,ak ko.symm];rw[h1],by simp only[cz]⟩
  .rw[l3]at he;obtain⟨⟨m',k1⟩,k2,k3⟩:=I.lQ _ _ _ h e he;refine⟨put _ _ _ k1,by simp only[ak (old k1),cz];rw[l1,UU];exact k2,?_⟩;simp only[ak (old k1)];rw[aw ⟨k3,e,he,rfl⟩]
  .obtain⟨⟨m',k1⟩,k2,k3⟩:=I.lQ _ _ _ ht e he;refine⟨put _ _ _ k1,by simp only[ak (old k1),ak e2];exact k2,?_⟩;simp only[ak (old k1)];rw[ak (λhh=>e1 (by rw[<-k3];exact hh.1))];exact k3
 .obtain⟨⟨m',k1⟩,k2⟩:=I.rt;exact⟨put _ _ _ k1,by simp only[ak (old k1)];exact k2⟩
theorem AI.drop(I:AI Pk σ aO pa par){s g n}(h:σ s=some (g,n)){b:UInt8}{y:Hd}(hb:(b,y)∈n.k.l){n':Ax}(n1:n'.pre=n.pre)(n2:n'.has=n.has)(n3:n'.k.l=pg n.k.l b):
 AI Pk (tq (tq σ s (some (g,n'))) y.ao none) aO pa par:=by
 have rL:=I.jr _ _ _ h;have CE:y.ao≠s:=I.Ba h hb;have get:∀t g' q,tq (tq σ s (some (g,n'))) y.ao none t=some (g',q)->t≠y.ao/\((t=s/\q=n')\/(t≠s/\σ t=some (g',q))):=by
  intro t g' q ht;by_cases e:t=y.ao;.subst e;rw[gg]at ht;cases ht
  .rw[iS e]at ht;refine⟨e,?_⟩;by_cases e':t=s;.subst e';rw[gg]at ht;injection ht with ht;injection ht with _ ht;exact .inl ⟨rfl,ht.symm⟩
   .rw[iS e']at ht;exact .inr ⟨e',ht⟩
 have put:∀t g' q,t≠y.ao->σ t=some (g',q)->∃q',tq (tq σ s (some (g,n'))) y.ao none t=some (g',q'):=by
  intro t g' q cx ht;by_cases e:t=s;.subst e;obtain⟨rfl,rfl⟩:=some_inj h ht;exact⟨_,by rw[iS cx,gg]⟩
  .exact⟨q,by rw[iS cx,iS e];exact ht⟩
 refine⟨λt g' q ht=>?_,λt g' q ht=>?_,λt g' q ht hm=>?_,λt g' q ht e he=>?_,?_⟩
 .rcases get t g' q ht with⟨_,⟨rfl,rfl⟩|⟨_,ht⟩⟩;.rw[n1];exact I.len _ _ _ h
  .exact I.len _ _ _ ht
 .rcases get t g' q ht with⟨_,⟨rfl,rfl⟩|⟨_,ht⟩⟩;.rw[n3];exact lz rL _
  .exact I.jr _ _ _ ht
 .rcases get t g' q ht with⟨_,⟨rfl,rfl⟩|⟨_,ht⟩⟩;.rw[n1];exact I.aJ _ _ _ h (by rw[<-n2];exact hm)
  .exact I.aJ _ _ _ ht hm
 .rcases get t g' q ht with⟨_,⟨rfl,rfl⟩|⟨cx,ht⟩⟩;.rw[n3]at he;obtain⟨q1,q2⟩:=(wQ rL).1 he;obtain⟨⟨m',k1⟩,k2,k3⟩:=I.lQ _ _ _ h e q2;exact⟨put _ _ _ (λhh=>q1 (by rw[(I.one h h q2 hb hh).2])) k1,by rw[n1];exact k2,k3⟩
  .obtain⟨⟨m',k1⟩,k2,k3⟩:=I.lQ _ _ _ ht e he;exact⟨put _ _ _ (λhh=>cx (I.one ht h he hb hh).1) k1,k2,k3⟩
 .obtain⟨⟨m',k1⟩,k2⟩:=I.rt;exact⟨put _ _ _ (I.Sb h hb).symm k1,k2⟩
theorem AI.join(I:AI Pk σ aO pa par){s g n}(h:σ s=some (g,n)){b:UInt8}{y:Hd}(hl:n.k.l=[(b,y)]){m:Ax}(hy:σ y.ao=some (y.bk,m)){n':Ax}(n1:n'.pre=n.pre++[b]++m.pre)(n2:n'.has=m.has)(n3:n'.k.l=m.k.l):
 AI Pk (tq (tq σ y.ao none) s (some (g,n'))) aO pa (λt=>if par t=y.ao/\∃e∈m.k.l,e.2.ao=t then s else par t):=by
 have hb:(b,y)∈n.k.l:=by rw[hl];exact aR.2 rfl
 have CE:y.ao≠s:=I.Ba h hb;obtain⟨_,y2,y3⟩:=I.lQ _ _ _ h _ hb;have y2:pa y.ao=pa s++n.pre++[b]:=y2;have UU:pa s++(n.pre++[b]++m.pre)=pa y.ao++m.pre:=by rw[y2];simp
 have get:∀t g' q,tq (tq σ y.ao none) s (some (g,n')) t=some (g',q)->t≠y.ao/\((t=s/\q=n')\/(t≠s/\σ t=some (g',q))):=by
  intro t g' q ht;by_cases e:t=s;.subst e;rw[gg]at ht;injection ht with ht;injection ht with _ ht;exact⟨CE.symm,.inl ⟨rfl,ht.symm⟩⟩
  .rw[iS e]at ht;by_cases e':t=y.ao;.subst e';rw[gg]at ht;cases ht
   .rw[iS e']at ht;exact⟨e',.inr ⟨e,ht⟩⟩
 have put:∀t g' q,t≠y.ao->σ t=some (g',q)->∃q',tq (tq σ y.ao none) s (some (g,n')) t=some (g',q'):=by
  intro t g' q cx ht;by_cases e:t=s;.subst e;obtain⟨rfl,rfl⟩:=some_inj h ht;exact⟨_,gg⟩
  .exact⟨q,by rw[iS e,iS cx];exact ht⟩
 refine⟨λt g' q ht=>?_,λt g' q ht=>?_,λt g' q ht hm=>?_,λt g' q ht e he=>?_,?_⟩
 .rcases get t g' q ht with⟨_,⟨rfl,rfl⟩|⟨_,ht⟩⟩;.rw[n1,UU];exact I.len _ _ _ hy
  .exact I.len _ _ _ ht
 .rcases get t g' q ht with⟨_,⟨rfl,rfl⟩|⟨_,ht⟩⟩;.rw[n3];exact I.jr _ _ _ hy
  .exact I.jr _ _ _ ht
 .rcases get t g' q ht with⟨_,⟨rfl,rfl⟩|⟨_,ht⟩⟩;.rw[n1,UU];exact I.aJ _ _ _ hy (by rw[<-n2];exact hm)
  .exact I.aJ _ _ _ ht hm
 .rcases get t g' q ht with⟨_,⟨rfl,rfl⟩|⟨cx,ht⟩⟩;.rw[n3]at he;obtain⟨⟨m',k1⟩,k2,k3⟩:=I.lQ _ _ _ hy e he;refine⟨put _ _ _ (I.Ba hy he) k1,by rw[n1,UU];exact k2,?_⟩;show(if _ then _ else _)=_;rw[aw ⟨k3,e,he,rfl⟩]
  .rename_i Db;obtain⟨⟨m',k1⟩,k2,k3⟩:=I.lQ _ _ _ ht e he;refine⟨put _ _ _ (λhh=>cx (I.one ht h he hb hh).1) k1,k2,?_⟩;show(if _ then _ else _)=_;rw[ak (λhh=>Db (by rw[<-k3];exact hh.1))];exact k3
 .obtain⟨⟨m',k1⟩,k2⟩:=I.rt;exact⟨put _ _ _ (I.Sb h hb).symm k1,k2⟩
end
def Ax.cells(n:Ax):List AV:=[bR n.pre,bR n.val,bQ n.has,.ptr n.k.nb 0]
def Ax.av(n:Ax):AV:= .agg n.cells
theorem af'{h a k ok}:my prog h 295 a k ok=DU (.pointer none) (mapOf h a) k ok:=EX Li Da aa0
theorem ajO{h b k v}:qA prog h 295 (.mp b) k v=Oj h b (au h b) k v:=Jv Li Da
attribute[go_sem] af' ajO
abbrev Px.ok(a:Ar Ax)(h:aG)(nx:Nat):Prop:=Ar.ok Ax.cells 297 300 a h nx
def ajb:Nat->cU:=λid=>if id=3 then[(z9,[],some 10),([],[],some 11),([],[],none)]else if id=4 then[(z10,[],some 11),([],[],some 12),([],[],none)]else[]
theorem ajg(a:Ar Ax)(h:aG)(nx:Nat)(ok:Px.ok a h nx)(e:jE Ax)(he:e∈a.es):aA prog 291 [.ptr a.ab 0,(Hd.mk e.ao e.bk).av] h nx (dr (.dN [.ptr e.bJ 0,bQ true]) h nx):=by obtain⟨j,hj⟩:=AK ok.rK he;have hf:=ok.fr e he;have UG:=ok.la;have MQ:=ok.lm;refine aA.pc 2 ajb func291 ?_;have d1:¬(a.ab=nx):=ah;have d2:¬(a.mb=nx):=ah;have d3:¬(e.bJ=nx):=ah;simp+decide-dsimp only[f291,go_sem,ajb,Hd.av,Hd.cells,ok.ar,ok.mp,ok.cl e he,d1,d2,d3,hj];exact .of (aH.refl.set (an _)) (.cQ ⟨hf.2.2,trivial,trivial⟩)
theorem aeU(a:Ar Ax)(h:aG)(nx:Nat)(ok:Px.ok a h nx)(e:jE Ax)(he:e∈a.es):aA prog 278 [.ptr a.ab 0,(Hd.mk e.ao e.bk).av] h nx (dr (.dN [.ptr e.bJ 1,bQ true]) h nx):=by
 have hf:=ok.fr e he;refine aA.pc 2 T0 func278 ?_;have J':Px.ok a (aK h nx (.cells (Hd.mk e.ao e.bk).cells 245)) (nx+1):=by
  have UG:=ok.la;have MQ:=ok.lm;refine⟨by rw[aj,ak ah];exact ok.ar,by rw[aj,ak ah];exact ok.mp,λf mj=>?_,ok.rK,ok.IL,λf mj=>?_,ok.ne,ah,ah⟩;.have:=ok.fr f mj;rw[aj,ak ah];exact ok.cl f mj
  .have:=ok.fr f mj;exact⟨this.1,this.2.1,ah⟩
 have c:=ajg a _ _ J' e he;rw[Hd.av,Hd.cells]at c;simp+decide-dsimp only[f278,go_sem,Hd.av,Hd.cells];refine cf c λ_ h' nx' _ ⟨e1,e2,e3⟩=>?_;subst e1;subst e2;subst e3;simp+decide-dsimp only[go_sem];exact .of (aH.refl.set (an _)) (.cQ ⟨hf.2.2,trivial,trivial⟩)
theorem aly(h:aG)(nx pb:Nat):aA prog 130 [.ptr pb 0] h nx λv h' nx'=>∃ab mb,nx<=ab/\nx<=mb/\¬(ab=mb)/\ab<nx'/\mb<nx'/\v= .ptr ab 0/\au h' ab=some (.cells [.ptr pb 0,.mp mb] 297)/\au h' mb=some (.map [] 0)/\aH nx h h':=by refine aA.ac 1 T0 func130 ?_;simp+decide-dsimp only[f130,go_sem];exact⟨nx+1,nx,ah,ah,ah,ah,ah,rfl,by rw[aw rfl],by rw[ak ah,aw rfl],(aH.refl.set (an _)).set (bz _)⟩
def ai5:Nat->cU:=λid=>if id=6 then[(z10,[3,5,7,8],some 11),([],[],none)]else[]
theorem amx(a:Ar Ax)(p:bj)(h:aG)(nx:Nat)(ok:Px.ok a h nx)(sg:p.ok h nx)(sp:Sep a p)(hc:p.fr.count true≠0)(x:Ax):
 aA prog 131 [.ptr a.ab 0,.agg (Ax.cells x)] h nx λv h' nx'=>∃i bJ,i<p.fr.length/\p.fr.getD i false=true/\v= .dN [(Hd.mk i (p.gs.getD i 0)).av,int 0]/\
  ({p with fr:=p.fr.set i false}:bj).ok h' nx'/\Px.ok {a with ck:=a.ck+1,es:=a.es++[⟨i,bJ,a.ck,p.gs.getD i 0,x⟩]} h' nx'/\nx<=bJ/\QT nx a p h h':=by
 have l1:=sg.rY;have l2:=sg.ss;have l3:=sg.sr;have UG:=ok.la;have MQ:=ok.lm;have s1:=sp.sa;have s2:=sp.sm;refine aA.ac 2 ai5 func131 ?_;have d1:¬(a.ab=nx):=ah;have d2:¬(a.ab=nx+1):=ah;simp+decide-dsimp only[f131,go_sem,ok.ar,sp.pb,d1,d2];refine cf (ac6 p _ _ (sg.aX (aH.set (aH.set .refl (an _)) (bz _)) ah) hc) λ_ h1 cm l4 ⟨i,hi,ht,e,q1,q2⟩=>?_;subst e;have k1:au h1 a.ab=some (.cells [.ptr p.pb 0,.mp a.mb] 297):=by rw[q2 _ ah s1.1 s1.2.1 s1.2.2,aj,ak d2,aj,ak d1,ok.ar,sp.pb]
 have k2:au h1 a.mb=some (.map (a.es.map jE.row) a.ck):=by rw[q2 _ ah s2.1 s2.2.1 s2.2.2,aj,ak ah,aj,ak ah,ok.mp]
 have k3:au h1 nx=some (.cells (Ax.cells x) 256):=by rw[q2 _ ah ah ah ah,aj,ak ah,aj,aw rfl]
 have k4:au h1 (nx+1)=some (.cells [int 0,u64 0] 245):=by rw[q2 _ ah ah ah ah,aj,aw rfl]
 have d3:¬(a.ab=cm):=ah;have d4:¬(a.mb=cm):=ah;have d5:¬(nx=cm):=ah;have d6:¬(nx+1=cm):=ah;have d7:¬(a.ab=cm+1+10):=ah;have d8:¬(a.mb=cm+1+10):=ah;have d9:¬(nx=cm+1+10):=ah;have d10:¬(nx+1=cm+1+10):=ah;have d11:¬(cm=a.mb):=ah;have d12:¬(nx+1=a.mb):=ah;have hm:=vf (k:=i) a.es 0 λe he hs=>by have:=(sp.taken e he).2;rw[hs,ht]at this;cases this
 simp+decide-dsimp only[go_sem,ai5,Hd.av,Hd.cells,k1,k2,k3,k4,d3,d4,d5,d6,d7,d8,d9,d10,d11,d12,hm,Ax.cells,reduceAdd];refine⟨i,cm+1+10,hi,ht,rfl,?_,?_,ah,?_⟩
 .refine q1.iy ?_ ?_ ?_ (by show cm<=cm+1+12;omega);.show au _ p.pb=au _ p.pb;have:=s2.1;rw[aj,ak ah,aj,ak (λe=>this e.symm),aj,ak ah,aj,ak ah,aj,ak ah]
  .show au _ p.gb=au _ p.gb;have:=s2.2.1;rw[aj,ak ah,aj,ak (λe=>this e.symm),aj,ak ah,aj,ak ah,aj,ak ah]
  .show au _ p.fb=au _ p.fb;have:=s2.2.2;rw[aj,ak ah,aj,ak (λe=>this e.symm),aj,ak ah,aj,ak ah,aj,ak ah]
 .have cx:=ok.ne;refine⟨?_,?_,λe he=>?_,?_,?_,λe he=>?_,ok.ne,?_,?_⟩;.show au _ a.ab=_;rw[aj,ak ah,aj,ak cx,aj,ak ah,aj,ak ah,aj,ak ah,k1]
  .show au _ a.mb=_;rw[aj,ak ah,aj,aw rfl,dB];rfl
  .rcases bp.1 he with he|he;.have:=ok.fr e he;have g:=sp.sc e he;rw[aj,ak ah,aj,ak this.2.1,aj,ak ah,aj,ak ah,aj,ak ah,q2 _ ah g.1 g.2.1 g.2.2,aj,ak ah,aj,ak ah];exact ok.cl e he
   .simp only[aR]at he;subst he;show au _ (cm+1+10)=_;rw[aj,ak ah,aj,ak ah,aj,aw rfl];rfl
  .show((a.es++[_]).map jE.ao).Nodup;rw[dB,nm];refine⟨ok.rK,bL,λy hy z hz=>?_⟩;obtain⟨e,he,rfl⟩:=bu.1 hy;simp only[dQ,oQ,aR]at hz;intro hs;have:=(sp.taken e he).2;rw[hs,hz,ht]at this;cases this
  .show((a.es++[_]).map jE.bJ).Nodup;rw[dB,nm];refine⟨ok.IL,bL,λy hy z hz=>?_⟩;obtain⟨e,he,rfl⟩:=bu.1 hy;simp only[dQ,oQ,aR]at hz;have:=ok.fr e he;omega
  .show e.bJ≠a.ab/\e.bJ≠a.mb/\e.bJ<cm+1+12;rcases bp.1 he with he|he
   .have:=ok.fr e he;exact⟨this.1,this.2.1,ah⟩
   .simp only[aR]at he;subst he;show cm+1+10≠a.ab/\cm+1+10≠a.mb/\cm+1+10<cm+1+12;omega
  .show a.ab<cm+1+12;omega
  .show a.mb<cm+1+12;omega
 .intro b hb g1 g2 g3 g4;rw[aj,ak ah,aj,ak g4,aj,ak ah,aj,ak ah,aj,ak ah,q2 b ah g1 g2 g3,aj,ak ah,aj,ak ah]
variable{body yu:Code}{r0:mM}{s:BT AV}{size:Nat}{xg:FuncId}
section
variable{P:Program}{xt:FuncId->Option Ext}
def ajf(P:Program)(l:Nat)(args:List AV)(h:aG)(nx:Nat)(K:AV->aG->Nat->Prop)(_:Kp K):Prop:=jH P l args h nx K
theorem SD{d op ty po af g K s h nx l args k}:EW P (some (.round l args)) ⟨⟨d,op,ty,po,af,g⟩,K,s,h,nx⟩ k=ajf P l args h nx (λv h' nx'=>K (fT d s v) h' nx') .mk:=bF rfl
theorem jH.mono{l:Nat}{K':AV->aG->Nat->Prop}(hr:jH P l args h nx K)(hk:∀v h' nx',K v h' nx'->K' v h' nx'):jH P l args h nx K':=by obtain⟨r,cE,h1,h2,h3⟩:=hr;exact⟨r,cE,h1,h2,λwait cs R hq=>h3 wait cs R λv h' nx' q=>hq v h' nx' (hk v h' nx' q)⟩
theorem Qf{l:Nat}(hc:jH P l args h nx Q){k:Kp K}(hk:∀v h' nx',Q v h' nx'->K v h' nx'):ajf P l args h nx K k:=hc.mono hk
def ajB(o:Option AO)(l:Nat)(args:List AV):Option ER:=match o with
 |some (.loop r)=>if r.params.length=args.length then some (.round l args)else none
 |_=>none
theorem acC{l:Nat}:ou P xt h (.sO l) args=ajB (au h l) l args:=bF rfl
theorem OQ{r:mM}{l:Nat}:ajB (some (.loop r)) l args=if r.params.length=args.length then some (.round l args)else none:=bF rfl
def RP1(l:Nat)(r0 rb:mM)(F:BT AV->aG->Nat->Prop):jm:=λe s h nx=>match e with
 | .iA=>au h l=some (.loop r0)/\F s (aK h l (.loop rb)) nx
 |_=>False
def RP2(l:Nat)(r0 rb:mM)(K:AV->aG->Nat->Prop):jm:=λe s h nx=>match e with
 | .iA=>au h l=some (.loop rb)/\K (.g (.bool true)) (aK h l (.loop r0)) nx
 | .ret=>au h l=some (.loop rb)/\K (.g (.bool false)) (aK h l (.loop (r0.fY .done (some .ret)))) nx
 | .out _=>False
theorem Q5{l r0 rb F s h nx}:RP1 l r0 rb F .iA s h nx=CW (au h l=some (.loop r0)) (F s (aK h l (.loop rb)) nx) .mk:=bF rfl
theorem RC{l r0 rb K s h nx}:RP2 l r0 rb K .iA s h nx=CW (au h l=some (.loop rb)) (K (.g (.bool true)) (aK h l (.loop r0)) nx) .mk:=bF rfl
theorem U9{l r0 rb K s h nx}:RP2 l r0 rb K .ret s h nx=CW (au h l=some (.loop rb)) (K (.g (.bool false)) (aK h l (.loop (r0.fY .done (some .ret)))) nx) .mk:=bF rfl
theorem jH.mk(pk:PK P xt)(T:Nat->cU){l:Nat}{rb:mM}(hl:au h l=some (.loop r0))(hp:ju r0.params args r0.size r0.cE=some cE)
 (hs:r0.state= .ready) (hpd:r0.pending=none) (hb:rb=r0.fY .busy none)
 (d1:gM r0.size r0.assign=true) (d2:gM r0.size r0.body=true) (p1:fh P T r0.assign=true) (p2:fh P T r0.body=true)
 (hw:W P xt T r0.assign (RP1 l r0 rb (W P xt T r0.body (RP2 l r0 rb K))) cE h nx):jH P l args h nx K:=by
 refine jH.aeg P xt pk T hl hp d1 d2 p1 p2 (FV P xt _ _ _ (λe s h nx he=>?_) _ _ _ hw);cases e with
 |ret=>exact he
 |out id=>exact he
 |iA=>
  refine⟨r0,he.1,hs,?_⟩;rw[hpd,<-hb];refine FV P xt _ _ _ (λe s h nx he=>?_) _ _ _ he.2;have e1:rb.fY .ready none=r0:=by subst hb;obtain⟨a,b,_⟩:=r0;have hs:a= .ready:=hs;have hpd:b=none:=hpd;subst hs;subst hpd;rfl
  have e2:rb.fY .done (some .ret)=r0.fY .done (some .ret):=by subst hb;rfl
  cases e with
  |ret=>exact⟨rb,he.1,by rw[e2];exact he.2⟩
  |out id=>exact he
  |iA=>exact⟨rb,he.1,by rw[e1];exact he.2⟩
theorem jH.mk2(pk:PK P xt)(T:Nat->cU){l:Nat}{x y:AV}{p q:Tmp}{d:Nat}
 (yT:r0=⟨.ready,none,xg,s,size,[p,q],yu,body,d⟩) (hl:au h l=some (.loop r0)) (hd:(decide (p<size)&&decide (q<size)&&gM size yu&&gM size body&&fh P T yu&&fh P T body)=true)
 (hw:∀rb,W P xt T yu (RP1 l r0 rb (W P xt T body (RP2 l r0 rb K))) (sset (sset s p x) q y) h nx):jH P l [x,y] h nx K:=by
 simp only[aV,fM]at hd;obtain⟨⟨⟨⟨⟨a1,a2⟩,a3⟩,a4⟩,a5⟩,a6⟩:=hd;refine jH.mk (r0:=r0) (cE:=sset (sset s p x) q y) pk T hl ?_ (by rw[yT]) (by rw[yT]) rfl (by rw[yT];exact a3) (by rw[yT];exact a4) (by rw[yT];exact a5) (by rw[yT];exact a6) ?_;.rw[yT];show(if p<size then(if q<size then _ else none)else none)=_;rw[aw a1,aw a2];rfl
 .have:=hw (r0.fY .busy none);have e1:r0.assign=yu:=by rw[yT]
  have e2:r0.body=body:=by rw[yT]
  rw[e1,e2];exact this
theorem acP{a b}:gQ (.seq a b)=(gQ a||gQ b):=bF rfl
theorem RZ{i b}:gQ (.block i b)=gQ b:=bF rfl
theorem QJ{a b c d}:gQ (.rangeFunc a b c d)=true:=bF rfl
theorem Vp{a b c}:gQ (.cond a b c)=false:=bF rfl
theorem Oz{a b c}:gQ (.region a b c)=false:=bF rfl
def Tf(P:Program)(xt:FuncId->Option Ext)(Ti:Nat->cU)(xg:FuncId)(size:Nat)(g:AV)(ps:Array Tmp)(yu body:Code)(E:Option Nat->jm)(s:BT AV)(h:aG)(nx:Nat)(_:Kp yu)(_:Kp body)(_:Kp E):Prop:=
 ∃f cap fn c,g= .fn f cap/\P.funcs[f]?=some fn/\xt f=none/\fn.body=some c/\fn.results.toList=[]/\cap.length+1<=fn.ntmps/\gM fn.ntmps c=true/\fh P Ti c=true/\
  W P xt Ti c (λe s' h' nx'=>match e with
   | .out _=>False
   |_=>∃r,au h' (nx+1)=some (.loop r)/\r.state≠ .busy/\(r.pending=none/\E (some nx) .iA s (aK h' (nx+1) (.loop (r.fY .exhausted r.pending))) nx'\/r.pending=some .ret/\E (some nx) .ret s (aK h' (nx+1) (.loop (r.fY .exhausted r.pending))) nx'))
   (ey (.sO (nx+1)::cap) 0 .nil) (aK (aK h nx (.defs (some []))) (nx+1) (.loop ⟨.ready,none,xg,s,size,ps.toList,yu,body,nx⟩)) (nx+2)
@[congr] theorem aeh{Ti:Nat->cU}{xg:FuncId}{size:Nat}{g g':AV}{ps:Array Tmp}{yu body:Code}{E:Option Nat->jm}{s:BT AV}{h:aG}{nx:Nat}{a b c}(e:g=g'):Tf P xt Ti xg size g ps yu body E s h nx a b c=Tf P xt Ti xg size g' ps yu body E s h nx a b c:=by rw[e]
theorem abS{T Ti xg size a b E s h nx}:WR P xt T Ti xg size (.seq a b) E s h nx=DD (gQ a) (WR P xt T Ti xg size a (λd=>jm.seq (W P xt T b (E d)) (E d)) s h nx) (W P xt T a (jm.seq (WR P xt T Ti xg size b E) (E none)) s h nx) .mk .mk:=bF rfl
theorem QF{T Ti xg size id c E s h nx}:WR P xt T Ti xg size (.block id c) E s h nx=WR P xt T Ti xg size c (λd=>jm.bJ id (E d)) s h nx:=bF rfl
theorem SQ{T Ti xg size g ps yu body E s h nx}:WR P xt T Ti xg size (.rangeFunc g ps yu body) E s h nx=Tf P xt Ti xg size (oZ s g) ps yu body E s h nx .mk .mk .mk:=bF rfl
theorem ah3{l:List Operand}{ev:Operand->AV}:qFn (.func f) #[] l.toArray ev=some (.val (.fn f (l.map ev))):=bF rfl
end
attribute[go_sem↓] abS QF SQ acP RZ QJ Vp Oz
attribute[go_sem] Q5 RC U9 ah3 SD acC OQ Bool.or_false pJ Ap K8
end
end bC
end Go.Proofs.YtonnifoeokagjaaGreat
