/- The theorem plans_holds of OrdersPlans: part 19 of its proof; no conditions. -/
import Derived.Test.YtonnifoeokagjaaGreatF18
namespace Go.Proofs.YtonnifoeokagjaaGreat
set_option linter.all false
set_option maxRecDepth 8000
open Go
section
open Go.ChangeShapes Go.WideShapes Go.ChangeAt Go.RowKit
open bC
theorem Tryz.own:ownKnob Tryz.prog.godebug=none:=by kernel_rfl
theorem Gz(W:World){v0 v1 v2 v3:Value}{los:List ba}{ks:List UInt8}{ops:List Ai}{x:En}{y:Ai}(hy:x.op=y.cells)(r0:VR (pK W) (strs los) v0)(r1:VR (pK W) (GP ks) v1)(r2:VR (pK W) (KI ops) v2)(r3:VR (pK W) (.agg x.cells) v3):
 Calls Tryz.prog 4 #[v0,v1,v2,v3] W λe W'=>e= .returned (.bool true)/\Below W.heap.size W W':=by
 have c:=(a4 los ks ops x y hy .nil 0).2 (pK W) W W [v0,v1,v2,v3] (HR.all W) (.cons r0 (.cons r1 (.cons r2 (.cons r3 .nil))));refine c.mono λe W' ⟨u,r',v,h',nx',he,_,_,_,hH,hv,q⟩=>?_;subst q;cases hv;exact⟨he,hH.below⟩
set_option maxRecDepth 100000 in
theorem Fq(os:Os)(started:os.Started)(H:Type)(enc:TypeId×Value->H):
 ReturnsInHanded {} Tryz.checked os 4 .any (Rows.ordersPlansSpec.pre6 enc Tryz.prog Tryz.f4 Rows.ordersPlansRow.domain false) (Rows.ordersPlansSpec.post enc Tryz.prog Tryz.f4 false true false false):=by
 refine returnsInHanded_of_change (C:=Tryz.checked) Tryz.own started (by kernel_rfl) Tryz.func4
  (ChangeSpec.witness6 (enc:=enc) (C:=Tryz.checked) false ⟨#[],#[.slice none 0 0,.slice none 0 0,.slice none 0 0,.agg #[.int .u8 0,.int .i64 0,.int .i64 0,.int .u8 0,.string ⟨#[]⟩,.string ⟨#[]⟩,.string ⟨#[]⟩,.bool false,.bool false,.slice none 0 0]],[]⟩ 8 (by kernel_rfl) (by kernel_rfl) (by kernel_rfl) (by kernel_rfl)) ?_
 intro W base args ds gs before aa9 hW anQ _;have Sg:∀(j:Nat) t v,Tryz.f4.params[j]?=some t->args[j]?=some v->Value.okWide Tryz.prog W .any base t v:=aa9;have hW':=hW;obtain⟨p,q,hA0,hV,rfl,UB,DE⟩:=hW;have hA:DataW.TrodAll enc Tryz.prog W 0 (λ_=>true) true Tryz.f4.params.toList args.toList ds p:=hA0;rw[Tryz.params4]at hA Sg;obtain⟨v0,vs0,d0,ds0,p0,q0,xD,rfl,rfl,h0,r0⟩:=trodAll_cons hA;obtain⟨v1,vs1,d1,ds1,p1,q1,rfl,rfl,rfl,h1,r1⟩:=trodAll_cons r0;obtain⟨v2,vs2,d2,ds2,p2,q2,rfl,rfl,rfl,h2,r2⟩:=trodAll_cons r1;obtain⟨v3,vs3,d3,ds3,p3,q3,rfl,rfl,rfl,h3,r3⟩:=trodAll_cons r2;obtain⟨rfl,rfl,rfl⟩:=trodAll_nil r3;obtain rfl:args= #[v0,v1,v2,v3]:=by cases args;simp_all
 obtain⟨rfl,rfl⟩:=trodVars_none hV;clear hA0 aa9;have lt:∀{t v d p},DataW.Trod enc Tryz.prog W 0 (λ_=>true) true t v d p->∀x∈p,x.block<W.heap.size:=λ⟨m,hm⟩=>DataW.trod_lt m _ _ _ hm;obtain⟨a0,n0,c0,rfl⟩:=okWide_slice yv (Sg 0 45 v0 rfl rfl);obtain⟨a1,n1,c1,rfl⟩:=okWide_slice vP (Sg 1 46 v1 rfl rfl);obtain⟨a2,n2,c2,rfl⟩:=okWide_slice adA (Sg 2 51 v2 rfl rfl);obtain⟨a3,rfl,hs3⟩:=okWide_struct Tryz.underlying42 (Sg 3 42 v3 rfl rfl);obtain⟨f0,t0⟩:=h0;obtain⟨f1,t1⟩:=h1;obtain⟨f2,t2⟩:=h2;obtain⟨f3,t3⟩:=h3;obtain⟨los,w0⟩:=Ao yv yM (by decide) t0 λn cs y h _=>QS h;obtain⟨ks,w1⟩:=Ao vP JI (by decide) t1 λn cs y h _=>YO h;obtain⟨ops,w2⟩:=Ao adA Lx (by decide) t2 λn cs y h hl=>Lr h hl;obtain⟨kd,a,b,o,w3⟩:=Xw (cs:=a3.toList) t3 (by rw[ZY]at hs3;simpa using hs3);obtain⟨x,hx⟩:∃x:En,x.cells=u8 (kd:Nat)::i6 a::i6 b::o.cells/\x.op=o.cells:=⟨⟨kd,a,b,o.cells,rfl,rfl⟩,rfl,rfl⟩;have w4:VR (pK W) (.agg x.cells) (.agg a3):=by rw[hx.1];have:=VR.agg w3;rw[dF]at this;exact this
 refine(Gz W hx.2 w0 w1 w2 w4).mono λe W' ⟨he,bel⟩=>?_;subst he;exact⟨_,rfl,_,_,_,[],_,[],hW',trodAll_mk1 (shut_bool Tryz.underlying4 _),(trodAll_cons_mk (Below.trod uQ (by kernel_rfl) (dM (by kernel_rfl)) ⟨f0,t0⟩ bel (lt ⟨f0,t0⟩)) (trodAll_cons_mk (Below.trod uQ (by kernel_rfl) (dM (by kernel_rfl)) ⟨f1,t1⟩ bel (lt ⟨f1,t1⟩)) (trodAll_cons_mk (Below.trod uQ (by kernel_rfl) (dM (by kernel_rfl)) ⟨f2,t2⟩ bel (lt ⟨f2,t2⟩)) (trodAll_cons_mk (Below.trod uQ (by kernel_rfl) (dM (by kernel_rfl)) ⟨f3,t3⟩ bel (lt ⟨f3,t3⟩)) trodAll_mk0)))),rfl,bel.frame _,λh=>by cases h⟩
theorem E0:joinedFacts Tryz.prog 4 Tryz.f4 Rows.ordersPlansSpec Rows.ordersPlansRow=true:=by
 unfold joinedFacts;rw[uQ,KE,Rt,Il,O2,Jn]
 kernel_rfl
theorem plans_holds:Rows.OrdersPlansSaid:=
 OpenClaim.holds_of_wide 4 Tryz.f4 rfl rfl rfl rfl rfl rfl rfl ⟨rfl,rfl,rfl,rfl,rfl⟩ rfl rfl rfl rfl rfl (by kernel_rfl) Tryz.func4 E0
  (dM (by kernel_rfl)) (by unfold Func.isWrapper;rw[ak (qe (by kernel_rfl))];exact⟨rfl,rfl⟩)
  (λos started H enc _=>Fq os started H enc)
end
end Go.Proofs.YtonnifoeokagjaaGreat
