/- The theorem quiet_holds of OrdersQuiet: part 20 of its proof; no conditions. -/
import Derived.Test.YtonnifoeokagjaaGreatF19
namespace Go.Proofs.YtonnifoeokagjaaGreat
set_option linter.all false
set_option maxRecDepth 8000
open Option renaming some->J,none->B
open Bool renaming true->M,false->R
open List renaming length->O
section
open Go.ChangeShapes Go.WideShapes Go.ChangeAt Go.RowKit
open br
theorem Tryz.own:ownKnob Tryz.prog.godebug=none:=by kernel_rfl
theorem Js(h1:World){v0 v1 v2 v3:Value}{los:List aY}{ks:List UInt8}{ops:List CY}{l:List Pc}(r0:VR (qM h1) (strs los) v0)(r1:VR (qM h1) (I0 ks) v1)(r2:VR (qM h1) (Nx ops) v2)(r3:VR (qM h1) (ens l) v3):
 Calls Tryz.prog 5 #[v0,v1,v2,v3] h1 λe W'=>e= .returned (.bool true)/\Below h1.heap.size h1 W':=by
 have c:=(a5 los ks ops l .nil 0).2 (qM h1) h1 h1 [v0,v1,v2,v3] (HR.all h1) (.cons r0 (.cons r1 (.cons r2 (.cons r3 .nil))));refine c.mono λe W' ⟨AV,r',v,Q,E,V,_,_,_,hH,hv,q⟩=>?_;subst q;cases hv;exact⟨V,hH.below⟩
set_option maxRecDepth 100000 in
theorem Hz(os:Os)(started:os.Started)(hi:Type)(enc:TypeId×Value->hi):
 ReturnsInHanded {} Tryz.checked os 5 .any (Rows.ordersQuietSpec.pre6 enc Tryz.prog Tryz.f5 Rows.ordersQuietRow.domain false) (Rows.ordersQuietSpec.post enc Tryz.prog Tryz.f5 false true false false):=by
 refine returnsInHanded_of_change (C:=Tryz.checked) Tryz.own started (by kernel_rfl) Tryz.func5
  (ChangeSpec.witness6 (enc:=enc) (C:=Tryz.checked) false ⟨#[],#[.slice none 0 0,.slice none 0 0,.slice none 0 0,.slice none 0 0],[]⟩ 8 (by kernel_rfl) (by kernel_rfl) (by kernel_rfl) (by kernel_rfl)) ?_
 intro h1 base args ds gs before aeD hW ar0 _;have W0:∀(j:Nat) t v,Tryz.f5.params[j]?=some t->args[j]?=some v->Value.okWide Tryz.prog h1 .any base t v:=aeD;have hW':=hW;obtain⟨p,q,hA0,hV,rfl,Yl,CL⟩:=hW;have hA:DataW.TrodAll enc Tryz.prog h1 0 (λ_=>true) true Tryz.f5.params.toList args.toList ds p:=hA0;rw[Tryz.params5]at hA W0;obtain⟨v0,vs0,d0,ds0,p0,q0,zJ,rfl,rfl,h0,r0⟩:=trodAll_cons hA;obtain⟨v1,vs1,d1,ds1,p1,q1,rfl,rfl,rfl,W,r1⟩:=trodAll_cons r0;obtain⟨v2,vs2,d2,ds2,p2,q2,rfl,rfl,rfl,F,r2⟩:=trodAll_cons r1;obtain⟨v3,vs3,d3,ds3,p3,q3,rfl,rfl,rfl,h3,r3⟩:=trodAll_cons r2;obtain⟨rfl,rfl,rfl⟩:=trodAll_nil r3;obtain rfl:args= #[v0,v1,v2,v3]:=by cases args;simp_all
 obtain⟨rfl,rfl⟩:=trodVars_none hV;clear hA0 aeD;have lt:∀{t v d p},DataW.Trod enc Tryz.prog h1 0 (λ_=>true) true t v d p->∀x∈p,x.block<h1.heap.size:=λ⟨m,hm⟩=>DataW.trod_lt m _ _ _ hm;obtain⟨a0,n0,c0,rfl⟩:=okWide_slice Ad (W0 0 45 v0 rfl rfl);obtain⟨a1,n1,c1,rfl⟩:=okWide_slice yz (W0 1 46 v1 rfl rfl);obtain⟨a2,n2,c2,rfl⟩:=okWide_slice afF (W0 2 51 v2 rfl rfl);obtain⟨a3,n3,c3,rfl⟩:=okWide_slice afQ (W0 3 67 v3 rfl rfl);obtain⟨f0,t0⟩:=h0;obtain⟨f1,t1⟩:=W;obtain⟨f2,t2⟩:=F;obtain⟨f3,t3⟩:=h3;obtain⟨los,w0⟩:=zp Ad Aj (by decide) t0 λn cs y h _=>Wi h;obtain⟨ks,w1⟩:=zp yz Na (by decide) t1 λn cs y h _=>ZR h;obtain⟨ops,w2⟩:=zp afF OW (by decide) t2 λn cs y h K=>Pd h K;obtain⟨l,w3⟩:=zp afQ YN (by decide) t3 λn cs y h K=>(aaz h K).elim λk ⟨a,b,o,hv⟩=>(⟨⟨k,a,b,o⟩,hv⟩:∃x:Pc,fv (qM h1) x.cells cs);refine(Js h1 w0 w1 w2 w3).mono λe W' ⟨V,bel⟩=>?_;subst V;exact⟨_,rfl,_,_,_,[],_,[],hW',trodAll_mk1 (shut_bool Tryz.underlying4 _),(trodAll_cons_mk (Below.trod vL (by kernel_rfl) (eN (by kernel_rfl)) ⟨f0,t0⟩ bel (lt ⟨f0,t0⟩)) (trodAll_cons_mk (Below.trod vL (by kernel_rfl) (eN (by kernel_rfl)) ⟨f1,t1⟩ bel (lt ⟨f1,t1⟩)) (trodAll_cons_mk (Below.trod vL (by kernel_rfl) (eN (by kernel_rfl)) ⟨f2,t2⟩ bel (lt ⟨f2,t2⟩)) (trodAll_cons_mk (Below.trod vL (by kernel_rfl) (eN (by kernel_rfl)) ⟨f3,t3⟩ bel (lt ⟨f3,t3⟩)) trodAll_mk0)))),rfl,bel.frame _,λh=>by cases h⟩
theorem Ig:joinedFacts Tryz.prog 5 Tryz.f5 Rows.ordersQuietSpec Rows.ordersQuietRow=true:=by
 unfold joinedFacts;rw[vL,M7,SR,JD,Rx,Mj]
 kernel_rfl
theorem quiet_holds:Rows.OrdersQuietSaid:=
 OpenClaim.holds_of_wide 5 Tryz.f5 rfl rfl rfl rfl rfl rfl rfl ⟨rfl,rfl,rfl,rfl,rfl⟩ rfl rfl rfl rfl rfl (by kernel_rfl) Tryz.func5 Ig
  (eN (by kernel_rfl)) (by unfold Func.isWrapper;rw[ak (rq (by kernel_rfl))];exact⟨rfl,rfl⟩)
  (λos started hi enc _=>Hz os started hi enc)
end
end Go.Proofs.YtonnifoeokagjaaGreat
