/- 'Garbage' answers true for every input of its parameter types; its card is tied: the library's variables math/bits.deBruijn64tab and errors.errorType hold what the program's text lays. No other condition. -/
import Derived.Test.YtonfdlhikinldaaGreatDoorBu07
import Derived.Test.YtonfdlhikinldaaGreatDoorBu05
import Derived.Test.YtonfdlhikinldaaGreatDoorBu08
import Derived.Test.YtonfdlhikinldaaGreatDoorBu48
import Derived.Test.YtonfdlhikinldaaGreatDoorRows
import Derived.Test.YtonfdlhikinldaaGreatDoorCards
import Derived.Test.YtonfdlhikinldaaGreatDoorTie
import Derived.WalkKit
import Derived.ProofKit
import Derived.OpenShut
import Derived.Lib.SmallJoins
import Derived.SevenTiedAt
namespace Go.Proofs.YtonfdlhikinldaaGreatDoor.garbage
open Go.ChangeShapes Go.WideShapes Go.ChangeAt Go.RowKit Go.Deep Go.Joins Go.Proofs.Tryz
set_option linter.all false
set_option maxRecDepth 100000 in
theorem lifted(os:Os)(J:os.Started)(H:Type)(enc:TypeId × Value->H):
  ReturnsInHanded {} Tryz.checked os 3 .any (fun w args=>(Rows.garbageSpec.pre enc prog Tryz.f3 [] false w args∧laidMetH prog zGQ w)∧sizedMet enc prog Tryz.f3 (OpenSpec.ofChange Rows.garbageSpec) false w args)
   (Rows.garbageSpec.post enc prog Tryz.f3 false true false false):=by
 refine returnsInHanded_of_change_and (C:=Tryz.checked) (X:=fun w _=>laidMetH prog zGQ w) (fun _ _ _ hh h=>h.of_heap hh) zU6 J zk func3
  (ChangeSpec.witness_at (enc:=enc) (C:=Tryz.checked) (os:=os) (X:=fun w _=>laidMetH prog zGQ w) false (zHV os) #[.slice none 0 0,.int .i64 0,.int .i64 0,.int .i64 0,.slice none 0 0,.slice none 0 0] 9 rfl zk zk zk zk zk (zGm os _)) ?_
 intro W base args ds gs a2 V hW _ Z hL _;have O:(DataW.weightsEach prog (Tryz.f3.params.toList++Rows.garbageSpec.plain.varTypes prog) (ds++gs)).all (· ≤reachBytes)=true:=Z;have u:∀(j:Nat) t v,Tryz.f3.params[j]? =some t->args[j]? =some v->Value.okWide prog W .any base t v:=V;have a1:=hW;obtain⟨p,q,a5,hV,rfl,b1,b6⟩:=hW;have hA:DataW.TrodAll enc prog W 0 (fun _=>true) true Tryz.f3.params.toList args.toList ds p:=a5;rw[Tryz.params3]at hA u O;obtain⟨v0,b7,d0,c5,p0,q0,a9,rfl,rfl,h0,r0⟩:=trodAll_cons hA;obtain⟨v1,b2,d1,b9,p1,q1,rfl,rfl,rfl,h1,r1⟩:=trodAll_cons r0;obtain⟨v2,c1,d2,b3,p2,q2,rfl,rfl,rfl,h2,r2⟩:=trodAll_cons r1;obtain⟨v3,c4,d3,c6,p3,q3,rfl,rfl,rfl,h3,r3⟩:=trodAll_cons r2;obtain⟨v4,c3,d4,b4,p4,q4,rfl,rfl,rfl,h4,r4⟩:=trodAll_cons r3;obtain⟨v5,b0,d5,b5,p5,q5,rfl,rfl,rfl,h5,r5⟩:=trodAll_cons r4;obtain⟨rfl,rfl,rfl⟩:=trodAll_nil r5;obtain rfl:args=#[v0,v1,v2,v3,v4,v5]:=(by cases args;simp_all);obtain⟨rfl,rfl⟩:=trodVars_none hV;have hg:=zGR hL;have ht:=zKn hL;have a7:∃a n c,v0=.slice a n c:=(by obtain⟨a0,n0,c0,rfl⟩:=okWide_slice underlying22 (u 0 22 v0 rfl rfl);exact⟨_,_,_,rfl⟩);have a3:∃a n c,v4=.slice a n c:=(by obtain⟨a0,n0,c0,rfl⟩:=okWide_slice underlying23 (u 4 23 v4 rfl rfl);exact⟨_,_,_,rfl⟩);have a4:∃a n c,v5=.slice a n c:=(by obtain⟨a0,n0,c0,rfl⟩:=okWide_slice underlying22 (u 5 22 v5 rfl rfl);exact⟨_,_,_,rfl⟩);obtain⟨sa,a8,so,sc,Ls,Ss,rfl,hS⟩:=zLX O (j:=0) rfl rfl a7 h0;obtain⟨x1,rfl,rfl,rfl,_⟩:=open_int underlying3 (u 1 3 v1 rfl rfl) h1;obtain⟨x2,rfl,rfl,rfl,_⟩:=open_int underlying3 (u 2 3 v2 rfl rfl) h2;obtain⟨x3,rfl,rfl,rfl,_⟩:=open_int underlying3 (u 3 3 v3 rfl rfl) h3;obtain⟨la,lb,lo,lc,Ll,Sl,rfl,a6⟩:=zOc O (j:=4) rfl rfl a3 h4;obtain⟨ha,hb,ho,hc,Lh,Sh,rfl,hE⟩:=zLX O (j:=5) rfl rfl a4 h5;simp only[yAQ]at a1;refine(zIx W x1 x2 x3 sa a8 so sc Ls Ss la lb lo lc Ll Sl ha hb ho hc Lh Sh hS a6 hE hg ht).mono fun e W' ⟨he,hB⟩=>?_;subst he;exact⟨_,rfl,zQX zQW underlying4 zk zk rfl rfl rfl rfl (by simpa using a1) hB⟩
theorem row_holds:Rows.GarbageSaid:=
 OpenClaim.holds_of_wide 3 Tryz.f3 rfl rfl rfl rfl rfl rfl rfl ⟨rfl,rfl,rfl,rfl,rfl⟩ rfl rfl rfl rfl rfl zk func3 zk
  (yAV zk) (by unfold Func.isWrapper;first | (rw[yq (by decide+kernel)];kernel_rfl) | (rw[yl (by decide+kernel)];exact⟨rfl,rfl⟩))
  (fun os u H enc _=>lifted os u H enc)
theorem proved:Rows.GarbageCardSaid:=
 Claim7.holds_tied_plain_at .later [] [.data,.handle] true Rows.garbageCard.stood.harness true
  row_holds (fun _ h=>by cases h) zk (fun _ h=>by cases h) garbage_row_tie rfl ⟨rfl,rfl⟩ zk rfl
  (fun f O V J=>by
   obtain rfl:f=3:=yBh ((show prog.funcNamed "stripes/stripeslaw.Garbage"=some 3 by kernel_rfl).symm.trans V) |>.symm;obtain rfl:O=Tryz.f3:=(yBh (func3.symm.trans J)).symm;exact⟨by kernel_rfl,fun j t u=>by
              rw[Tryz.params3]at u;rcases j with _ | _ | _ | _ | _ | _ | j
              ·obtain rfl:t=22:=(by simpa using u.symm);exact(show prog.wantsStandIn 22=false by kernel_rfl)
              ·obtain rfl:t=3:=(by simpa using u.symm);exact(show prog.wantsStandIn 3=false by kernel_rfl)
              ·obtain rfl:t=3:=(by simpa using u.symm);exact(show prog.wantsStandIn 3=false by kernel_rfl)
              ·obtain rfl:t=3:=(by simpa using u.symm);exact(show prog.wantsStandIn 3=false by kernel_rfl)
              ·obtain rfl:t=23:=(by simpa using u.symm);exact(show prog.wantsStandIn 23=false by kernel_rfl)
              ·obtain rfl:t=22:=(by simpa using u.symm);exact(show prog.wantsStandIn 22=false by kernel_rfl)
              ·simp at u⟩)
  zk
#print axioms proved
end Go.Proofs.YtonfdlhikinldaaGreatDoor.garbage
