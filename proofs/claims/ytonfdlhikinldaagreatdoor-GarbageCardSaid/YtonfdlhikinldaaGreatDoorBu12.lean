import Derived.Test.YtonfdlhikinldaaGreatDoorBu03
import Derived.Test.YtonfdlhikinldaaGreatDoorBu11
import Derived.OwnWalk
import Derived.Lib.SliceRun
import Derived.WalkSpells
import Derived.Test.YtonfdlhikinldaaGreatDoorBu02
import Derived.Test.YtonfdlhikinldaaGreatDoorBu10
import Derived.ChangeKeysEq
import Derived.Laws.StructEq
set_option maxRecDepth 100000
set_option linter.all false
set_option linter.unusedVariables false
set_option maxHeartbeats 16000000
namespace Go.Proofs.YtonfdlhikinldaaGreatDoor
open Go Go.RowKit Go.Proofs Lin Go.Proofs.Tryz
variable {Q:Exit->Act->World->Prop}{rest:List Oper}{u:Array Oper}{o:Oper}{a:Act}{w:zw}{n:Nat}{e:TypeId}{C:World->Prop}{i:TypeInfo}{f g:Nat->Value}
section
variable {P:Program}
theorem zFF{V:Array Oper}(a0:o.guard=none)(s:Operand)(t:TypeId)
  (ho:o.op=.call {callee:=.builtin .clear,args:=#[s],argTypes:=#[t]})(e:TypeId)(z:Value)(ht:P.underlying t=some (.slice e))(hv:∀w,(zeroValue e).run P w=.ok z w)(hz:z.cells=#[z])(h1:z.oneCell'=true)
  (b k n c N:Nat)(f:Nat->Value)(hs:a.eval s=.slice (some ⟨b,k,none⟩) n c)(hn:0<n)(hk:k+n≤N)(O:Row w b 0 N f)
  (h:∀w',Upd (· =b) w w'->w'.heap.size=w.heap.size->zO w w'->Row w' b 0 N (fun i=>if k≤i∧i<k+n then z else f i)->wpList P V Q rest (a.put o.dst (.tuple #[])) w'):wpList P V Q (o::rest) a w:=by
 refine wpList_plain a0 fun K hK=>?_;have Z:=Lib.run_clear_slice (P:=P) w t e o.type z ht hv hz h1 b k n c hn (fun j u=>by have h:=O.cell (k+j) zo;rw[yc]at h;rw[h];rfl) (fun j u=>by have h:=O.free (k+j) zo;rwa[yc]at h);unfold Oper.wp execOp;simp only[ho,resolve,invoke,builtin,yS,yAw,yAs,List.map_toArray,yAT,yBi,hs,Z];have hh:=zA1 (b:=b) (List.replicate n z) k w;refine hK _ _ (h _ hh.1 hh.2 (fun _ _ hk=>hk.setCells _ _) ⟨fun i hi=>?_,fun i hi=>by rw[World.frozen?_setCells];exact O.free i hi⟩);rw[yc];have hc:=O.cell i hi;rw[yc]at hc;by_cases J:k≤i∧i<k+n;{rw[yq J];obtain⟨j,rfl⟩:∃j,i=k+j:=⟨i - k,zo⟩;have u:j<(List.replicate n z).length:=(by rw[List.length_replicate];omega);rw[World.cell?_setCells_in b (List.replicate n z) k w (fun j u=>by rw[List.length_replicate]at u;have h:=O.cell (k+j) zo;rw[yc]at h;rw[h];rfl) j u];simp};{rw[yl J,World.cell?_setCells_out b (List.replicate n z) k w _ (fun _ _=>by simp;omega)];exact hc}
theorem zJq{t e:TypeId}(f:Nat->Value)(k:Nat)(V:P.underlying t=some (.array n e))(J:(P.info? e).map (·.size)=some 1)(O:∀w,(isAgg e).run P w=.ok false w)(hk:k<n):
  (Instr.index t (av n f) (I k)).run P w=.ok (f k) w:=by
 (cases u:P.info? e with |none=>(simp[u]at J)|some i=>(have hs:i.size=1:=(by simpa[u]using J);have Z:=zRY f hk;simp[Instr.index,yAY V,asIntOf,hk,sizeOf,typeInfo,u,hs,part,yS,O,Z,go_sem]))
end
theorem zGS:(prog.info? 40).map (·.size)=some 64:=by kernel_rfl
theorem zUN:(prog.info? 240).map (·.size)=some 4:=by kernel_rfl
theorem zu8:∀W:World,(zeroValue 5).run prog W=.ok (.int .u8 0) W:=fun W=>by kernel_rfl
theorem zQw:∀W:World,(isAgg 5).run prog W=.ok false W:=fun W=>by kernel_rfl
abbrev W32(c:UInt32):Value:=.int .u32 (c.toNat:Int)
theorem zLm(w:zw)(t:TypeId):Row (w.alloc (.cells #[.int .u8 0,.int .u8 0,.int .u8 0,.int .u8 0] t)) w 0 4 (fun _=>.int .u8 0):=by
 refine⟨fun i u=>?_,fun i u=>?_⟩
 ·simp only[World.cell?,yc,Deep.blk_alloc_new]
  match i,u with | 0,_ | 1,_ | 2,_ | 3,_=>rfl
 {simp only[World.frozen?,Deep.blk_alloc_new];simp}
def zUB(c:UInt32):Nat->UInt32
 | 0=>c
 | j+1=>Crc.step (zUB c j)
theorem zPD(n:Int)(u:0≤n)(J:n<2^32):IntKind.u32.wrap n=n:=by rw[IntKind.wrap_u32];omega
theorem zD3(a b:Nat)(u:a<2^32)(J:b<2^32):bits .xor .u32 (a:Int) (b:Int)=((a^^^b:Nat):Int):=by
 have O:=yBj u J;show IntKind.u32.wrap ((BitVec.ofInt 32 (a:Int)^^^BitVec.ofInt 32 (b:Int)).toNat:Int)=_;rw[BitVec.toNat_xor,BitVec.toNat_ofInt,BitVec.toNat_ofInt,show((a:Int) % ((2^32:Nat):Int)).toNat=a by omega,show((b:Int) % ((2^32:Nat):Int)).toNat=b by omega,IntKind.wrap_u32];omega
theorem zKm(a b:Nat)(J:a<2^32)(u:b<2^32):bits .and .u32 (a:Int) (b:Int)=((a &&& b:Nat):Int):=(bits_nat .u32 32 zd zPD a b J u).1
theorem zUC(c:UInt32)(b:UInt8):(bits BinOp.xor IntKind.u32 (c.toNat:Int) ((b.toNat:Int) % 4294967296))=((c^^^b.toUInt32).toNat:Int):=by
 have u:=b.toNat_lt;have hc:=c.toNat_lt;rw[show((b.toNat:Int) % 4294967296)=((b.toNat:Nat):Int)by omega,zD3 _ _ zo zo,UInt32.toNat_xor];simp
theorem zQx(c:UInt32):(bits BinOp.xor IntKind.u32 ((c.toNat:Int) / 2) (bits BinOp.and IntKind.u32 (c.toNat:Int) 1*3988292384 % 4294967296))=((Crc.step c).toNat:Int):=by
 have hc:=c.toNat_lt;rw[show(1:Int)=((1:Nat):Int)from rfl,zKm _ _ zo zo];have u:c.toNat &&& 1=c.toNat % 2:=nat_mask1 _;rw[show((c.toNat:Int) / 2)=((c.toNat / 2:Nat):Int)by omega,show(((c.toNat &&& 1:Nat):Int)*3988292384 % 4294967296)=(((c.toNat &&& 1)*3988292384 % 4294967296:Nat):Int)by omega,zD3 _ _ zo zo];unfold Crc.step;rw[UInt32.toNat_xor,UInt32.toNat_mul,UInt32.toNat_and,UInt32.toNat_shiftRight];congr 2
theorem zSm(x:Nat->UInt8):Value.agg #[.int .u8 (bits .xor .u32 IntKind.u32.max ((Crc.run 4294967295 (Crc.bare x) 64).toNat:Int) / 16777216 % 256),.int .u8 (bits .xor .u32 IntKind.u32.max ((Crc.run 4294967295 (Crc.bare x) 64).toNat:Int) / 65536 % 256),
  .int .u8 (bits .xor .u32 IntKind.u32.max ((Crc.run 4294967295 (Crc.bare x) 64).toNat:Int) / 256 % 256),.int .u8 (bits .xor .u32 IntKind.u32.max ((Crc.run 4294967295 (Crc.bare x) 64).toNat:Int) % 256)]=av 4 (rb (Crc.sumB x)):=by
 have V:bits .xor .u32 IntKind.u32.max ((Crc.run 4294967295 (Crc.bare x) 64).toNat:Int)=((Crc.sum x).toNat:Int):=(by unfold Crc.sum;generalize Crc.run 4294967295 (Crc.bare x) 64=c;have hc:=c.toNat_lt;rw[show IntKind.u32.max=((4294967295:Nat):Int)by decide,zD3 _ _ zo zo,UInt32.toNat_not];congr 1;apply yBF;intro i;rw[show UInt32.size - 1 - c.toNat=2^32 - (c.toNat+1)by simp[UInt32.size],Nat.testBit_two_pow_sub_succ zo,Nat.testBit_xor,show(4294967295:Nat)=2^32 - 1 by decide,Nat.testBit_two_pow_sub_one];by_cases u:i<32;{simp[u]};{have J:c.toNat.testBit i=false:=yBy (yI (by omega:c.toNat<2^32) (yM zo zo));simp[u,J]})
 rw[V];generalize hs:Crc.sum x=s;have h:∀j,j<4->B (Crc.sumB x j)=.int .u8 ((s.toNat / 2^(24 - 8*j) % 256:Nat):Int):=by
  intro j O;unfold Crc.sumB;rw[hs]
  match j,O with
  | 0,_ | 1,_ | 2,_ | 3,_=>simp[B,yBf]
 show _=Value.agg #[B (Crc.sumB x 0),B (Crc.sumB x 1),B (Crc.sumB x 2),B (Crc.sumB x 3)];rw[h 0 zo,h 1 zo,h 2 zo,h 3 zo];simp
theorem zPE(x:Nat->UInt8)(w:zw):Calls prog 108 #[av 64 (rb x)] w fun e w'=>e=.returned (av 4 (rb (Crc.sumB x)))∧Below w w w':=by
 have Z:=zz (((yh w w).alloc (yb _) (.cells (bc 64 (rb x)) 40)).alloc zs (.cells #[.int .u8 0,.int .u8 0,.int .u8 0,.int .u8 0] 240));have HV:=zy (Row ((w.alloc (.cells (bc 64 (rb x)) 40)).alloc (.cells #[.int .u8 0,.int .u8 0,.int .u8 0,.int .u8 0] 240)) (w.heap.size+1) 0 4 (fun _=>.int .u8 0)) (by have h:=zLm (w.alloc (.cells (bc 64 (rb x)) 40)) 240;rwa[yw]at h);have HR:=zz ((Row.box w 64 (rb x) 40).alloc (.cells #[.int .u8 0,.int .u8 0,.int .u8 0,.int .u8 0] 240));go_enter func108,ntmps108;go_upto_region 1 with fail;generalize((w.alloc (.cells (bc 64 (rb x)) 40)).alloc (.cells #[.int .u8 0,.int .u8 0,.int .u8 0,.int .u8 0] 240))=W0 at *;go_upto_region 3 with(refine zFF rfl (.tmp 6) 31 rfl 5 (.int .u8 0) underlying31 zu8 rfl rfl w 10 4 54 64 _ rfl zo zo HR.o ?_;intro w1 u a1 a2 V);have J:=zz (HV.o.upd u (fun _=>zs));have a3:=zz (V.congr (g:=rb (Crc.bare x)) fun i hi=>by unfold Crc.bare rb;dsimp only;split<;>simp[B]);have O:=zz (Below.upd Z.o u (fun _ h=>h▸yb _) (by have:=Z.o.size;omega));clear u a1 a2 V Z HR HV;go_wp2_with (refine zL rfl 40 (.tmp 1) rfl rfl a3.o.rd underlying40 rfl zGS ?_);go_loopg [3,8] 64 (fun g c i wr=>∃k:Nat,g=64 - k∧k≤64∧c=W32 (Crc.run 4294967295 (Crc.bare x) k)∧i=I k∧wr=w1);(case atStart=>exact⟨0,rfl,zo,rfl,rfl,rfl⟩);(case round=>obtain⟨k,rfl,hk,rfl,rfl,rfl⟩:=hrel;by_cases a0:k<64;{have a4:=fun w=>zJq (P:=prog) (w:=w) (rb (Crc.bare x)) k underlying40 zE2 zQw a0;obtain⟨c,hc⟩:=zx (Crc.run 4294967295 (Crc.bare x) k);rw[<-hc];have HC:=zz hc;clear hc;go_wp2_with fail;go_loopg [3,15] 8 (fun g v i wz=>∃(j:Nat),g=8 - j∧j≤8∧v=W32 (zUB (c^^^(Crc.bare x k).toUInt32) j)∧i=I j∧wz=wr);(case atStart=>exact⟨0,rfl,zo,by rw[zUC];rfl,rfl,rfl⟩);(case round=>obtain⟨j,rfl,hj,rfl,rfl,rfl⟩:=hrel;by_cases a5:j<8;{go_wp2_with fail;go_roundg (8 - (j+1));(case measure=>omega);(case rel=>exact⟨j+1,rfl,zo,by rw[zQx];rfl,by go_num,rfl⟩)};{obtain rfl:j=8:=zo;go_wp2_with fail;go_roundg (64 - (k+1));(case measure=>omega);(case rel=>exact⟨k+1,rfl,zo,by rw[HC.o];rfl,by go_num,rfl⟩)})};{obtain rfl:k=64:=zo;go_wp2_with (refine zCU (g:=rb (Crc.sumB x)) rfl 240 (.tmp 2) (.tmp 38) rfl rfl ?hy J.o zUN (fun _ _=>rfl) ?_;case hy=>exact zSm x);have hs:=J.o.stored (g:=rb (Crc.sumB x));have hu:=(zA1 (b:=w.heap.size+1) ((List.range 4).map (rb (Crc.sumB x))) 0 wr).1;refine yAg (v:=av 4 (rb (Crc.sumB x))) (zBy results108 rfl hs.rd underlying240 rfl zUN) rfl ⟨rfl,Below.upd O.o hu (fun _ h=>zo) O.o.size⟩})
theorem zP:prog.follows .mixedOrders=true:=by kernel_rfl
theorem zA(w:zw):Below w w w.drew:=⟨rfl,rfl,rfl,yb _,fun _ _=>rfl⟩
theorem Upd.qe{w w':zw}{b:Nat}(h:Upd (· =b) w w')(k:Nat)(v:Value):Upd (· =b) w (w'.setCell (b,k) v):=h.setCell (fun _=>rfl) v
section
variable {P:Program}
theorem zFT(f:Nat->Value)(k:Nat)(u:∀w,(isAgg e).run P w=.ok false w)(hk:k<n):(part e (bc n f) k).run P w=.ok (f k) w:=by
 have J:=zRY f hk;simp[part,yS,u,J]
theorem zCT(d:Nat)(O:∀w,(isAgg e).run P w=.ok false w)(Z:P.underlying e=some (.int .u8))(x y:Nat->UInt8):∀(J:List Nat) (w:zw),(∀j∈J,j<n)->
  (Op.eqItems (d+1) e 1 (bc n (rb x)) (bc n (rb y)) J).run P w=.ok (J.all fun j=>x j==y j) w
 | [],w,_=>by simp[Op.eqItems]
 | j::J,w,h=>by
  have hj:=h j zs;have ih:=zCT d O Z x y J w fun k hk=>h k (by simp[hk]);have h1:(part e (bc n (rb x)) j).run P w=.ok (B (x j)) w:=zFT (rb x) j O hj;have h2:(part e (bc n (rb y)) j).run P w=.ok (B (y j)) w:=zFT (rb y) j O hj;simp only[Op.eqItems,yS,Nat.mul_one,h1,h2,yAs,run_equalIn_int w d e .u8 .u8 _ _ Z];by_cases u:x j=y j
  ·have e:(x j==y j)=true:=(by simp[u]);simp[ih,u,e]
  ·have V:((x j).toNat:Int)≠((y j).toNat:Int):=fun h=>u (yAB zo);simp[u,V]
theorem zEx{t e:TypeId}(x y:Nat->UInt8)(J:P.underlying t=some (.array n e))(V:P.info? e=some i)(hc:P.cellsOf e=1)(O:∀w,(isAgg e).run P w=.ok false w)(u:P.underlying e=some (.int .u8))(w:zw):
  (binOp .eql t (av n (rb x)) (av n (rb y))).run P w=.ok (.bool ((List.range n).all fun j=>x j==y j)) w:=by
 rw[run_eql_struct,show(10000:Nat)=9998+1+1 from rfl,run_equalIn_array w (9998+1) _ _ J V,hc,zCT 9998 O u x y (List.range n) w (fun j Z=>by simpa using Z)];rfl
theorem zDq{Q:Act->Prop}(O:o.guard=none)(v:Value)(h:∀w,C w->(execOp a.eval o).run P w=.ok (.value v) w)(hk:wpQuiet P u C Q rest (a.put o.dst v)):wpQuiet P u C Q (o::rest) a:=by
 unfold wpQuiet;have J:Region.wanted o (yielded u a.tmps)=true:=(by simp[Region.wanted,O]);rw[yq J];exact⟨v,fun w J=>by unfold Oper.quietAt;rw[h w J];exact⟨rfl,rfl⟩,hk⟩
theorem zAH{u:Array Oper}{C:World->Prop}{Q:Act->Prop}{o:Oper}{rest:List Oper}{a:Act}(hg:o.guard=none)(O:TypeId)(x:Operand)(ho:o.op=.load O x)
  {b J n:Nat}{f:Nat->Value}{d:TypeDesc}(hx:a.eval x=.pointer (some ⟨b,J,none⟩))(h:∀w,C w->Rd w b J n f)(V:P.underlying O=some d)(Z:(match d with | .struct _ | .array _ _=>true | _=>false)=true)(hi:(P.info? O).map (·.size)=some n)
  (hk:wpQuiet P u C Q rest (a.put o.dst (av n f))):wpQuiet P u C Q (o::rest) a:=by
 refine zDq hg _ (fun w hw=>?_) hk;unfold execOp;simp only[ho,hx,Instr.loadAt,Instr.sureAddr,yS,yAw,yAs,zBW (h w hw) V Z hi]
theorem zAI{Q:Act->Prop}(O:o.guard=none)(t:TypeId)(parts:List (Nat × Operand))(V:o.op=.build t parts.toArray)(J:List (Nat × Value))(hv:(parts.map fun(i,x)=>(i,a.eval x))=J)
  (v:Value)(h:∀w,(Instr.build t J.toArray).run P w=.ok v w)(hk:wpQuiet P u C Q rest (a.put o.dst v)):wpQuiet P u C Q (o::rest) a:=by
 refine zDq O _ (fun w Z=>?_) hk;unfold execOp;simp only[V,yS,yAw,yAs,List.map_toArray,hv,h w]
theorem zAy(V:o.guard=none)(t:TypeId)(parts:List (Nat × Operand))(Z:o.op=.build t parts.toArray)(J:List (Nat × Value))(hv:(parts.map fun(i,x)=>(i,a.eval x))=J)
  (v:Value)(h:∀w,(Instr.build t J.toArray).run P w=.ok v w)(hk:wpList P u Q rest (a.put o.dst v) w):wpList P u Q (o::rest) a w:=by
 refine wpList_plain V fun K O=>?_;unfold Oper.wp execOp;simp only[Z,yS,yAw,yAs,List.map_toArray,hv,h w];exact O _ _ hk
theorem zE9{Q:Act->Prop}(hg:o.guard=none)(t t2:TypeId)(p q:Operand)(ho:o.op=.binOp .eql t p q t2)
  (x y:Nat->UInt8)(hp:a.eval p=av n (rb x))(Z:a.eval q=av n (rb y))(O:P.underlying t=some (.array n e))(hi:P.info? e=some i)(hc:P.cellsOf e=1)(V:∀w,(isAgg e).run P w=.ok false w)(J:P.underlying e=some (.int .u8))(hm:P.eqGuardType P.depth t=false)
  (hk:wpQuiet P u C Q rest (a.put o.dst (.bool ((List.range n).all fun j=>x j==y j)))):wpQuiet P u C Q (o::rest) a:=by
 refine zDq hg _ (fun w hw=>?_) hk;unfold execOp;simp only[ho,hp,Z,yS,yAw,run_eqGuard_agg w .eql t p q _ _ hm,yAs,zEx x y O hi hc V J w]
theorem Row.je{b N:Nat}{f:Nat->Value}(h:Row w b 0 N f)(k n:Nat)(g:Nat->Value)(V:k+n≤N):
  Row (w.setCells b k ((List.range n).map g)) b 0 N (fun i=>if k≤i∧i<k+n then g (i - k)else f i):=by
 refine⟨fun i J=>?_,fun i J=>by rw[World.frozen?_setCells];exact h.free i J⟩;rw[yc];have hc:=h.cell i J;rw[yc]at hc;by_cases u:k≤i∧i<k+n;{rw[yq u];obtain⟨j,rfl⟩:∃j,i=k+j:=⟨i - k,zo⟩;have O:j<((List.range n).map g).length:=(by simp;omega);rw[World.cell?_setCells_in b _ k w (fun j O=>by have h:=h.cell (k+j) (by simp at O;omega);rw[yc]at h;rw[h];rfl) j O,yAm];simp};{rw[yl u,World.cell?_setCells_out b _ k w _ (fun _ _=>by simp;omega)];exact hc}
theorem zAP(O:o.guard=none)(J:TypeId)(x y:Operand)(ho:o.op=.store J x y)
  {b k n N:Nat}(hx:a.eval x=.pointer (some ⟨b,k,none⟩))(hy:a.eval y=av n g)(h:Row w b 0 N f)(Z:k+n≤N)(hi:(P.info? J).map (·.size)=some n)(h1:∀i,i<n->(g i).oneCell'=true)
  (hk:∀w',Upd (· =b) w w'->w'.heap.size=w.heap.size->zO w w'->Row w' b 0 N (fun i=>if k≤i∧i<k+n then g (i - k)else f i)->wpList P u Q rest (a.put o.dst undef) w'):wpList P u Q (o::rest) a w:=by
 have hs:Row w b k n (fun i=>f (k+i)):=(by have h:=h.sub Z;rwa[yc]at h);have V:=zA1 (b:=b) ((List.range n).map g) k w;exact zCU O J x y ho hx hy hs hi h1 (hk _ V.1 V.2 (fun _ _ hk=>hk.setCells _ _) (h.je k n g Z))
theorem zC(V:o.guard=none)(O:TypeId)(x y:Operand)(ho:o.op=.store O x y)
  {b n:Nat}(hx:a.eval x=.pointer (zp b))(hy:a.eval y=av n g)(h:Row w b 0 n f)(Z:(P.info? O).map (·.size)=some n)(h1:∀i,i<n->(g i).oneCell'=true)
  (hk:∀w',Upd (· =b) w w'->w'.heap.size=w.heap.size->zO w w'->Row w' b 0 n g->wpList P u Q rest (a.put o.dst undef) w'):wpList P u Q (o::rest) a w:=
 zAP V O x y ho hx hy h zo Z h1 fun w' hu hs J hr=>hk w' hu hs J (hr.congr fun i Z=>by rw[yq zo];rfl)
theorem zBc{a3:Array Oper}(a9:o.guard=none)(d s:Operand)(dT sT:TypeId)
  (ho:o.op=.call {callee:=.builtin .copy,args:=#[d,s],argTypes:=#[dT,sT]})(O:TypeId)(hu:P.underlying dT=some (.slice O))(a8:(P.info? O).map (·.size)=some 1)
  (sp:Option Addr)(J a1 V Z db k:Nat)(hd:a.eval d=.slice (some ⟨db,k,none⟩) J a1)(hs:a.eval s=.slice sp V Z)
  (m N sb so:Nat)(f g:Nat->Value)(hm:m=Nat.min V J)(hN:k+m≤N)(u:Row w db 0 N f)(a7:Rd w sb so m g)
  (b1:0<m->sp=some ⟨sb,so,none⟩)(h1:∀i,i<m->(g i).oneCell'=true)
  (h:∀w',Upd (· =db) w w'->w'.heap.size=w.heap.size->zO w w'->Row w' db 0 N (fun i=>if k≤i∧i<k+m then g (i - k)else f i)->wpList P a3 Q rest (a.put o.dst (goInt m)) w'):
  wpList P a3 Q (o::rest) a w:=by
 by_cases h0:m=0;{refine wpList_copy_nothing a9 d s dT sT ho O hu a8 _ sp J a1 V Z hd hs zo ?_;have:=h w (Upd.refl _ _) rfl (fun _ _ h=>h) (u.congr fun i _=>by simp[h0];omega);rwa[h0]at this}
 ·have es:=b1 zo;subst es;refine wpList_plain a9 fun K hK=>?_;generalize hcs:(List.range m).map g=cs;have a2:cs.length=m:=(by simp[<-hcs]);have a0:∀j (hj:j<cs.length),cs[j]=g j:=(by intro j hj;simp[<-hcs]);have a5:∀(b o j:Nat),(⟨b,o,none⟩:Addr).add j=⟨b,o+j,none⟩:=(by intro b o j;unfold Addr.add;split<;>simp_all);have a4:∀j,j<m->(w.cell? ⟨db,k+j,none⟩).isSome=true:=fun j hj=>(by have h:=u.cell (k+j) zo;rw[yc]at h;rw[h];rfl)
  have b0:=run_copy_cells (P:=P) w dT sT o.type O db k J a1 ⟨sb,so,none⟩ V Z cs hu a8 (by rw[a2,hm])
   (fun j v hj=>by
    obtain⟨hl,e⟩:=List.getElem?_eq_some_iff.1 hj;rw[a5,<-e,a0];exact a7 j zo)
   (fun j hj=>a4 j zo) (fun j hj=>by have h:=u.free (k+j) zo;rwa[yc]at h)
   (fun v hv=>by
    obtain⟨j,hj,rfl⟩:=yBv hv;rw[a0];exact h1 j zo)
  unfold Oper.wp;simp[execOp,ho,resolve,invoke,builtin,hd,hs,b0,Result.andThen];rw[a2];have hh:=zA1 (b:=db) cs k w;refine hK _ _ (h _ hh.1 hh.2 (fun _ _ hk=>hk.setCells cs k) ⟨fun i hi=>?_,fun i hi=>by rw[World.frozen?_setCells];exact u.free i hi⟩);rw[yc];have hc:=u.cell i hi;rw[yc]at hc;by_cases a6:k≤i∧i<k+m;{rw[yq a6];obtain⟨j,rfl⟩:∃j,i=k+j:=⟨i - k,zo⟩;have hj:j<cs.length:=zo;rw[World.cell?_setCells_in db cs k w (fun j hj=>a4 j zo) j hj,a0,yAm]};{rw[yl a6,World.cell?_setCells_out db cs k w _ (fun _ _=>by simp;omega)];exact hc}
theorem zC6(hg:o.guard=none)(t t2:TypeId)(p q:Operand)(ho:o.op=.binOp .eql t p q t2)
  (x y:Nat->UInt8)(hp:a.eval p=av n (rb x))(hq:a.eval q=av n (rb y))(O:P.underlying t=some (.array n e))(hi:P.info? e=some i)(hc:P.cellsOf e=1)(V:∀w,(isAgg e).run P w=.ok false w)(J:P.underlying e=some (.int .u8))(hm:P.eqGuardType P.depth t=false)
  (hk:wpList P u Q rest (a.put o.dst (.bool ((List.range n).all fun j=>x j==y j))) w):wpList P u Q (o::rest) a w:=by
 refine wpList_plain hg fun K Z=>?_;unfold Oper.wp execOp;simp only[ho,hp,hq,yS,yAw,run_eqGuard_agg w .eql t p q _ _ hm,yAs,zEx x y O hi hc V J w];exact Z _ _ hk
end
abbrev U64(n:Nat):Value:=.int .u64 (n:Int)
def fc(f:Frm.Frm):Nat->Value:=fun i=>if i=0 then B f.kind else if i=1 then I f.shard else if i=2 then U64 f.seq else B (f.data (i - 3))
abbrev fv(f:Frm.Frm):Value:=av 47 (fc f)
theorem zJs:(prog.info? 149).map (·.size)=some 47:=by kernel_rfl
theorem zPw:(prog.info? 146).map (·.size)=some 44:=by kernel_rfl
def zMJ(f:Frm.Frm)(k:Nat):Nat->UInt8:=fun i=>if i<2+k then Frm.bare f i else 0
theorem fc3(f:Frm.Frm)(i:Nat):fc f (3+i)=B (f.data i):=by unfold fc;rw[yl zo,yl zo,yl zo,yAm]
theorem zNv(f:Frm.Frm)(hs:f.shard<256)(hq:f.seq<2^64)(w:zw):Calls prog 78 #[fv f] w fun e w'=>e=.returned (av 64 (rb (Frm.blk f)))∧Below w w w':=by
 have HB:=zz ((((yh w w).alloc (yb _) (.cells (bc 47 (fc f)) 149)).alloc zs (.cells (bc 64 zc) 40)).alloc (by simp;omega) (.cells (bc 64 zc) 40));have HF:=zz (((Row.box w 47 (fc f) 149).alloc (.cells (bc 64 zc) 40)).alloc (.cells (bc 64 zc) 40));have HV:=zy (Row (((w.alloc (.cells (bc 47 (fc f)) 149)).alloc (.cells (bc 64 zc) 40)).alloc (.cells (bc 64 zc) 40)) (w.heap.size+1) 0 64 zc) (by have h:=(Row.box (w.alloc (.cells (bc 47 (fc f)) 149)) 64 zc 40).alloc (.cells (bc 64 zc) 40);rwa[yw]at h);have HX:=zz (show Row (((w.alloc (.cells (bc 47 (fc f)) 149)).alloc (.cells (bc 64 zc) 40)).alloc (.cells (bc 64 zc) 40)) (w.heap.size+1+1) 0 64 (rb fun _=>0)from by have h:=(Row.box ((w.alloc (.cells (bc 47 (fc f)) 149)).alloc (.cells (bc 64 zc) 40)) 64 zc 40);rw[yw,yw]at h;exact h);go_enter func78,ntmps78;go_upto_region 2 with fail;change Code.wp _ _ _ _ (((w.alloc (.cells (bc 47 (fc f)) 149)).alloc (.cells (bc 64 zc) 40)).alloc (.cells (bc 64 zc) 40));generalize((w.alloc (.cells (bc 47 (fc f)) 149)).alloc (.cells (bc 64 zc) 40)).alloc (.cells (bc 64 zc) 40)=W0 at *;have c0:W0.cell? w=some (B f.kind):=HF.o.cell 0 zo;have c1:W0.cell? (w,1)=some (I f.shard):=HF.o.cell 1 zo;have x0:W0.cell? (w.heap.size+1+1,0)=some (.int .u8 0):=HX.o.cell 0 zo;have x1:W0.cell? (w.heap.size+1+1,1)=some (.int .u8 0):=HX.o.cell 1 zo;have f0:W0.frozen? (w.heap.size+1+1,0)=false:=HX.o.free 0 zo;have f1:W0.frozen? (w.heap.size+1+1,1)=false:=HX.o.free 1 zo;go_upto_region 3 with fail;have e1:Value.int .u8 (f.shard:Int)=B (UInt8.ofNat f.shard):=(by simp[B];omega)
 rw[e1];have c5:=zy (Row ((W0.setCell (w.heap.size+1+1,0) (.int .u8 (f.kind.toNat:Int))).setCell (w.heap.size+1+1,1) (B (UInt8.ofNat f.shard))) (w.heap.size+1+1) 0 64 (rb (zMJ f 0))) (by
  have h:=(HX.o.set (i:=0) zo (B f.kind)).set (i:=1) zo (B (UInt8.ofNat f.shard));rw[yc,yc]at h;refine h.congr fun i hi=>?_;unfold zMJ Frm.bare rb
  match i,hi with
  | 0,_=>simp
  | 1,_=>simp
  | i+2,_=>simp[show ¬i+2<2 by omega])
 have O:Upd (· =w.heap.size+1+1) W0 ((W0.setCell (w.heap.size+1+1,0) (.int .u8 (f.kind.toNat:Int))).setCell (w.heap.size+1+1,1) (B (UInt8.ofNat f.shard))):=((Upd.refl (· =w.heap.size+1+1) W0).qe 0 _).qe 1 _;have d0:=zz (HF.o.upd O (fun _=>zo));have c9:=zz (HV.o.upd O (fun _=>zo));have b5:=zz (Below.upd HB.o O (fun _ h=>zo) HB.o.size);clear O e1 HX HF HV HB c0 c1 x0 x1 f0 f1;generalize(W0.setCell (w.heap.size+1+1,0) (.int .u8 (f.kind.toNat:Int))).setCell (w.heap.size+1+1,1) (B (UInt8.ofNat f.shard))=W1 at *;go_wp2_with fail;go_loopg [13] 8 (fun g i wr=>∃k:Nat,g=8 - k∧k≤8∧i=I k∧Upd (· =w.heap.size+1+1) W1 wr∧wr.heap.size=W1.heap.size∧Row wr (w.heap.size+1+1) 0 64 (rb (zMJ f k)));(case atStart=>exact⟨0,rfl,zo,rfl,Upd.refl _ _,rfl,c5.o⟩)
 case round=>
  obtain⟨k,rfl,hk,rfl,hu,b6,hr⟩:=hrel;have HU:=zz hu;have HR:=zz hr;have Z:=zz (d0.o.upd hu (fun _=>zo));have b3:=zz (c9.o.upd hu (fun _=>zo));have a2:=zz (Below.upd b5.o hu (fun _ h=>zo) b5.o.size);clear hu hr;by_cases d7:k<8
  ·have c2:wr.cell? (w,2)=some (U64 f.seq):=Z.o.cell 2 zo;have x0:wr.cell? (w.heap.size+1+1,2+k)=some (rb (zMJ f k) (2+k)):=(by have h:=HR.o.cell (2+k) zo;rwa[yc]at h);have f0:wr.frozen? (w.heap.size+1+1,2+k)=false:=(by have h:=HR.o.free (2+k) zo;rwa[yc]at h);go_wp2_with fail;have e1:Value.int .u8 ((f.seq:Int) / 2^(56 - 8*k) % 256)=B (UInt8.ofNat (f.seq / 2^(56 - 8*k))):=(by simp[B]);rw[e1];go_roundg (8 - (k+1));(case measure=>omega)
   case rel=>exact⟨k+1,rfl,zo,by go_num,HU.o.qe _ _,by rw[yAE];exact b6,by
                                                                           have h:=HR.o.set (i:=2+k) zo (B (UInt8.ofNat (f.seq / 2^(56 - 8*k))));rw[yc]at h;refine h.congr fun i hi=>?_;unfold zMJ Frm.bare rb;by_cases he:i=2+k
                                                                           ·subst he;simp[show ¬2+k=0 by omega,show ¬2+k=1 by omega,show 2+k<10 by omega,show 2+k<2+(k+1)by omega]
                                                                           ·rw[yl he];dsimp only;by_cases h2:i<2+k
                                                                            ·simp only[h2,show i<2+(k+1)by omega,yBa]
                                                                            ·simp only[h2,show ¬i<2+(k+1)by omega,if_false]⟩
  ·obtain rfl:k=8:=zo;go_upto_region 8 with fail;have c4:=zz (fun V (h:V=wr.drew)=>h);refine zI [([0,1,2],[])] 3 (fun V=>V=wr.drew) zP zk zk (fun c a d v w h=>by cases d<;>exact h) rfl ?_;simp only[zQ];simp only[pick,ym,yo,yAa,yi,yj];change wpQuiet _ _ _ _ (_::_::_::[]) _;(repeat(go_big_quiet_step (fail)))
   refine wpQuiet_nil ?_;simp only[zAN,zQ];simp only[yu,yz];go_upto_region 9 with(refine zBc rfl (.tmp 27) (.tmp 29) 31 31 rfl 5 underlying31 zE2 _ 44 44 44 44 (w.heap.size+1+1) 20 rfl rfl 44 64 w 3 _ (fun i=>B (f.data i)) rfl zo HR.o.drew (fun i hi=>by have h:=Z.o.cell (3+i) zo;rw[yc,fc3]at h;exact h) (fun _=>rfl) (fun _ _=>rfl) ?_;intro w2 a0 c3 c7 b1);have J:=zz (b1.congr (g:=rb (Frm.bare f)) fun i hi=>by
    unfold zMJ Frm.bare rb;by_cases h2:20≤i
    ·rw[yq zo];dsimp only;rw[yl zo,yl zo,yl zo,yl zo]
    ·rw[yl zo];dsimp only;by_cases h3:i<2+8
     ·rw[yq h3]
     ·rw[yl h3,yl zo,yl zo,yl zo,yq zo])
   have b9:=zz ((b3.o.drewN 1).upd a0 (fun _=>zo));have a6:=zz (Below.upd (a2.o.trans (show Below w wr wr.drew from⟨rfl,rfl,rfl,yb _,fun _ _=>rfl⟩)) a0 (fun _ h=>zo) a2.o.size);have e4:w2.heap.size=W1.heap.size:=(by rw[c3];exact b6);have d6:=J.o.lt zo;clear a0 c3 c7 b1 HR Z b3 a2 c4 HU;go_upto_region 10 with(first | (refine zL rfl 40 (.tmp 3) rfl rfl J.o.rd underlying40 rfl zGS ?_) | (go_at_call 108;refine(zPE (Frm.bare f) _).mono ?_;rintro e w3 ⟨rfl,hb⟩) | (refine zC (g:=rb (Crc.sumB (Frm.bare f))) rfl 240 (.tmp 5) (.tmp 32) rfl rfl rfl (zLm w3 240) zUN (fun _ _=>rfl) ?_;intro w4 a7 a8 d1 b7;simp only[Act.put]));have u:=Below.upd (hb.alloc hb.size _) a7 (fun _ h=>h▸hb.size) (by have:=hb.size;simp;omega);have e0:=hb.size;have d9:=u.size;have a9:=zz (J.o.later u);have b4:=zz (b9.o.later u);have a3:=zz (a6.o.trans (u.mono zo));have a5:=zz b7;clear u a7 a8 d1 b7 hb J b9 a6;refine zI [([0,1],[])] 2 (fun V=>V=w4.drew) zP zk zk (fun c a d v w h=>by cases d<;>exact h) rfl ?_;simp only[zQ];simp only[pick,ym,yo,yAa,yi,yj];change wpQuiet _ _ _ _ (_::_::[]) _;(repeat(go_big_quiet_step (fail)))
   refine wpQuiet_nil ?_;simp only[zAN,zQ];simp only[yu,yz];go_upto_region 11 with(refine zBc rfl (.tmp 33) (.tmp 34) 31 31 rfl 5 underlying31 zE2 _ 54 54 4 4 (w.heap.size+1+1) 10 rfl rfl 4 64 w3 0 _ (rb (Crc.sumB (Frm.bare f))) rfl zo a9.o.drew (a5.o.rd.drewN 1) (fun _=>rfl) (fun _ _=>rfl) ?_;intro w5 a1 c6 d4 b2);have b0:=zz (b2.congr (g:=rb (Frm.blk f)) fun i hi=>by
    unfold Frm.blk rb;by_cases h2:10≤i∧i<10+4
    ·rw[yq h2];dsimp only;rw[yq zo]
    ·rw[yl h2];dsimp only;rw[yl zo])
   have d3:=zz ((b4.o.drewN 1).upd a1 (fun _=>zo));have a4:=zz (Below.upd (a3.o.trans (show Below w w4 w4.drew from⟨rfl,rfl,rfl,yb _,fun _ _=>rfl⟩)) a1 (fun _ h=>zo) a3.o.size);have e2:=b0.o.lt zo;clear a1 c6 d4 b2 a9 b4 a3 a5;go_wp2_with (first | (refine zL rfl 40 (.tmp 3) rfl rfl b0.o.rd underlying40 rfl zGS ?_) | (refine zC (g:=rb (Frm.blk f)) rfl 40 (.tmp 2) (.tmp 36) rfl rfl rfl d3.o zGS (fun _ _=>rfl) ?_;intro w6 d2 e3 d8 d5));exact yAg (v:=av 64 (rb (Frm.blk f))) (zBy results78 rfl d5.rd underlying40 rfl zGS) rfl ⟨rfl,Below.upd a4.o d2 (fun _ h=>zo) a4.o.size⟩
def zD5:Frm.Frm:=⟨0,0,0,fun _=>0⟩
def zUc(x:Nat->UInt8)(k:Nat):Frm.Frm:=⟨x 0,(x 1).toNat,Frm.seqOf x k,fun i=>x (i+20)⟩
theorem zKE(k:UInt8)(s:Nat)(d:Nat->UInt8)(w:zw):(Instr.build 149 #[(0,B k),(1,I s),(3,av 44 (rb d))]).run prog w=.ok (fv ⟨k,s,0,d⟩) w:=by kernel_rfl
theorem zBj(k:UInt8)(s q:Nat)(d:Nat->UInt8)(w:zw):(Instr.build 149 #[(0,B k),(1,I s),(2,U64 q),(3,av 44 (rb d))]).run prog w=.ok (fv ⟨k,s,q,d⟩) w:=by kernel_rfl
theorem zPx(b u:Nat)(c:Nat)(w:zw):(Instr.arrayAt 146 (.slice (some ⟨b,u,none⟩) 44 c)).run prog w=.ok (.pointer (some ⟨b,u,none⟩)) w:=by kernel_rfl
theorem zU4(b u:Nat)(c:Nat)(w:zw):(Instr.arrayAt 240 (.slice (some ⟨b,u,none⟩) 4 c)).run prog w=.ok (.pointer (some ⟨b,u,none⟩)) w:=by kernel_rfl
theorem zNw(q b:Nat)(V:b<256):bits BinOp.or IntKind.u64 (IntKind.u64.wrap ((q:Int)*256)) (IntKind.u64.wrap (b:Int))=(((q*256+b) % 2^64:Nat):Int):=by
 have u:IntKind.u64.wrap ((q:Int)*256)=((256*(q % 2^56):Nat):Int):=(by show((q:Int)*256) % 2^64=_;omega);have w2:IntKind.u64.wrap (b:Int)=b:=(by show(b:Int) % 2^64=_;omega);rw[u,w2,(bits_nat .u64 64 zd (fun n J O=>Int.emod_eq_of_lt J O) (256*(q % 2^56)) b zo zo).2];have h:=Nat.two_pow_add_eq_or_of_lt (i:=8) (b:=b) zo (q % 2^56);rw[show(256:Nat)=2^8 from rfl,<-h];omega
theorem zFo(f:Frm.Frm)(i:Nat):(fc f i).oneCell'=true:=by
 unfold fc;split;{rfl};{split;{rfl};{split<;>rfl}}
theorem zLF(x:Nat->UInt8)(w:zw):Calls prog 101 #[av 64 (rb x)] w fun e w'=>e=.returned (.tuple #[fv (Frm.read x),.bool (Frm.okB x)])∧Below w w w':=by
 have HB:=zz (((yh w w).alloc (yb _) (.cells (bc 64 (rb x)) 40)).alloc zs (.cells (bc 47 (fc zD5)) 149));have HX:=zz ((Row.box w 64 (rb x) 40).alloc (.cells (bc 47 (fc zD5)) 149));have HV:=zy (Row ((w.alloc (.cells (bc 64 (rb x)) 40)).alloc (.cells (bc 47 (fc zD5)) 149)) (w.heap.size+1) 0 47 (fc zD5)) (by have h:=Row.box (w.alloc (.cells (bc 64 (rb x)) 40)) 47 (fc zD5) 149;rwa[yw]at h);have hz:w.heap.size+1+1≤((w.alloc (.cells (bc 64 (rb x)) 40)).alloc (.cells (bc 47 (fc zD5)) 149)).heap.size:=zs;go_enter func101,ntmps101;go_upto_region 1 with fail;change Code.wp _ _ _ _ ((w.alloc (.cells (bc 64 (rb x)) 40)).alloc (.cells (bc 47 (fc zD5)) 149));generalize(w.alloc (.cells (bc 64 (rb x)) 40)).alloc (.cells (bc 47 (fc zD5)) 149)=W0 at *;obtain⟨u,J⟩:=zx W0.drew;replace HX:=zy (Row u _ _ _ _) (J▸HX.o.drew);replace HV:=zy (Row u _ _ _ _) (J▸HV.o.drew);replace HB:=zy (Below w w u) (J▸(HB.o.trans (show Below w W0 W0.drew from⟨rfl,rfl,rfl,yb _,fun _ _=>rfl⟩)));replace hz:w.heap.size+1+1≤u.heap.size:=J▸hz;obtain⟨ι,f0,wA,a8,a7⟩:=zK u;have y0:∀n,(wA n).cell? w=some (B (x 0)):=fun n=>(HX.o.later (a8 n)).cell 0 zo;have y1:∀n,(wA n).cell? (w,1)=some (B (x 1)):=fun n=>(HX.o.later (a8 n)).cell 1 zo;have b7:=zz (fun n=>show Rd (wA n) w 20 44 (fun i=>B (x (i+20)))from fun i hi=>by have h:=(HX.o.later (a8 n)).cell (20+i) zo;rw[yc,Nat.add_comm 20 i]at h;rw[Nat.add_comm 20 i];exact h);have t1:=(x 1).toNat_lt;refine zDd 9 (fun V=>∃n,V=wA n) zP zk rfl (fun c a d v w h=>by cases d<;>exact h) (a7.o _ (by rw[<-J];exact yh _ _)) ?_;rw[<-J];clear J;have d4:=zPx w 20 44;simp only[yy,yE,yu,yz];have c7:=zz (zKE (x 0) (x 1).toNat (fun i=>x (i+20)));(repeat(first | (refine zAH (n:=44) (f:=rb fun i=>x (i+20)) rfl 146 (.tmp 12) rfl rfl ?_ underlying146 rfl zPw ?_;(rintro _ ⟨n,rfl⟩;exact b7.o n);simp only[Act.put,ya,ye,yd]) | go_big_quiet_step (fail)));refine zAI rfl 149 [(0,.tmp 7),(1,.tmp 10),(3,.tmp 13)] rfl _ rfl _ c7.o ?_;simp only[Act.put,ya,ye,yd];refine wpQuiet_nil ?_;refine zKK (i:=9) rfl rfl ?_;clear y0 y1 b7;have b5:=zz (HX.o.alloc (.cells (bc 47 (fc zD5)) 149));have c4:=zz (HV.o.alloc (.cells (bc 47 (fc zD5)) 149));have c5:=zz (Row.box u 47 (fc zD5) 149);have a9:Below u u (u.alloc (.cells (bc 47 (fc zD5)) 149)):=(yh _ u).alloc (yb _) _;have b2:=zz (HB.o.trans (a9.mono HB.o.size));have b6:=zz a9;clear a9;go_simp;refine⟨a7.o _ b6.o,?_⟩;change wpList _ _ _ _ _ (u.alloc (.cells (bc 47 (fc zD5)) 149));have d0:(u.alloc (.cells (bc 47 (fc zD5)) 149)).heap.size=u.heap.size+1:=yw ..;clear b6 a7;generalize u.alloc (.cells (bc 47 (fc zD5)) 149)=W1 at *;go_upto_region 2 with(refine zC (g:=fc ⟨x 0,(x 1).toNat,0,fun i=>x (i+20)⟩) rfl 149 (.tmp 4) (.tmp 14) rfl rfl rfl c5.o zJs (fun i _=>zFo _ i) ?_;intro w2 a3 d3 d5 b9;simp only[Act.put]);have d8:=zz (b5.o.upd a3 (fun _=>zo));have d6:=zz (c4.o.upd a3 (fun _=>zo));have d1:=zz (Below.upd b2.o a3 (fun _ h=>zo) b2.o.size);have d7:=zy (Row w2 u 0 47 (fc (zUc x 0))) b9;have e5:=d3.trans d0;clear a3 d3 d5 b9 b5 c4 c5 b2 c7 d4 HX HV HB d0;generalize u.heap.size=fb at *;go_wp2_with fail;go_loopg [15] 8 (fun g i wr=>∃k:Nat,g=8 - k∧k≤8∧i=I k∧Upd (· =fb) w2 wr∧wr.heap.size=w2.heap.size∧Row wr fb 0 47 (fc (zUc x k)));(case atStart=>exact⟨0,rfl,zo,rfl,Upd.refl _ _,rfl,d7.o⟩)
 case round=>
  obtain⟨k,rfl,hk,rfl,hu,e2,hr⟩:=hrel;have HU:=zz hu;have HR:=zz hr;have a1:=zz (d8.o.upd hu (fun _=>zo));have a4:=zz (d6.o.upd hu (fun _=>zo));have a2:=zz (Below.upd d1.o hu (fun _ h=>zo) d1.o.size);clear hu hr;by_cases e7:k<8
  ·have c2:wr.drew.cell? (fb,2)=some (U64 (Frm.seqOf x k)):=HR.o.drew.cell 2 zo;have f2:wr.drew.frozen? (fb,2)=false:=HR.o.drew.free 2 zo;have x0:wr.drew.cell? (w,2+k)=some (B (x (2+k))):=(by have h:=a1.o.drew.cell (2+k) zo;rwa[yc]at h);go_upto_region 5 with fail;refine zI [([0,1,2,3,4,5,6,7,8,9],[])] 10 (fun V=>V=wr.drew) zP zk zk (fun c a d v w h=>by cases d<;>exact h) rfl ?_;simp only[zQ];simp only[pick,ym,yo,yAa,yi,yj];change wpQuiet _ _ _ _ (_::_::_::_::_::_::_::_::_::_::[]) _;(repeat(go_big_quiet_step (fail)));refine wpQuiet_nil ?_;simp only[zAN,zQ];simp only[yu,yz];go_wp2_with fail;have t2:=(x (2+k)).toNat_lt;rw[zNw _ _ zo];go_roundg (8 - (k+1));(case measure=>omega)
   case rel=>exact⟨k+1,rfl,zo,by go_num,(HU.o.qe 2 _).drew,by show(World.setCell _ _ _).heap.size=_;rw[yAE];exact e2,by
                                                                                  have h:=(HR.o.set (i:=2) zo (U64 (Frm.seqOf x (k+1)))).drew;rw[yc]at h;refine h.congr fun i hi=>?_;by_cases he:i=2
                                                                                  ·subst he;rfl
                                                                                  ·rw[yl he];unfold fc zUc;dsimp only;by_cases h0:i=0
                                                                                   ·rw[yq h0,yq h0]
                                                                                   ·rw[yl h0,yl h0];by_cases O:i=1
                                                                                    ·rw[yq O,yq O]
                                                                                    ·rw[yl O,yl O,yl he,yl he]⟩
  {obtain rfl:k=8:=zo;replace HR:=zy (Row wr fb 0 47 (fc (Frm.read x))) HR.o;go_upto_region 7 with fail;obtain⟨we,a0⟩:=zx wr.drew;replace a1:=zy (Row we _ _ _ _) (a0▸a1.o.drew);replace a4:=zy (Row we _ _ _ _) (a0▸a4.o.drew);replace HR:=zy (Row we _ _ _ _) (a0▸HR.o.drew);replace a2:=zy (Below w w we) (a0▸(a2.o.trans (show Below w wr wr.drew from⟨rfl,rfl,rfl,yb _,fun _ _=>rfl⟩)));have e9:w.heap.size+1+1≤we.heap.size:=(by have:=a1.o.lt zo;have:=a4.o.lt zo;omega);obtain⟨κ,e6,wB,c6,b3⟩:=zH (· =w.heap.size+1) we;have c1:=zz (fun n=>(HR.o.upd (c6 n) (fun _=>zo)).rd);have d2:=zz (fun n=>(a1.o.upd (c6 n) (fun _=>zo)).rd);have e1:=zz (fun n=>show Rd (wB n) w 10 4 (rb fun i=>x (10+i))from fun i hi=>by have h:=d2.o n (10+i) zo;rwa[yc]at h);have k0:∀n,(wB n).cell? fb=some (B (x 0)):=fun n=>c1.o n 0 zo;have e4:=zU4 w 10 54;have a6:(prog.info? 5).isSome=true:=(by kernel_rfl);obtain⟨i5,b4⟩:=Option.isSome_iff_exists.1 a6;have c9:prog.cellsOf 5=1:=(by kernel_rfl);have c0:prog.eqGuardType prog.depth 240=false:=(by kernel_rfl);have b0:=zz (yr b4 (yr c9 c0));obtain⟨q,hq⟩:=zx ((List.range 4).all fun j=>x (10+j)==Crc.sumB x j);have c3:Frm.okB x=(q&&decide (0<(x 0).toNat)):=(by rw[hq];unfold Frm.okB;congr 1;have h0:x 0≠0↔0<(x 0).toNat:=(by rw[Ne,<-UInt8.toNat_inj];simp;omega);simp only[h0]);have d9:=zz c3;have HQ:=zz hq;clear c3 hq b4 c9 c0 a6;obtain⟨S,Z⟩:∃S:(Nat->Bool)->World->Prop,∀L V,S L V↔(Upd (· =w.heap.size+1) we V∧Row V (w.heap.size+1) 0 47 (if L 12 then fc (Frm.read x)else fc zD5)):=⟨_,fun _ _=>Iff.rfl⟩;have HS:=zz Z;have b1:=zz (fun j (hj:j≠12) L V (h:S L V)=>show S (zBw j L) V from(Z _ _).2 (by have h:=(Z _ _).1 h;rwa[zA4 hj]));refine zAM S zP zk (by rw[<-a0];exact(Z _ _).2 ⟨Upd.refl _ _,a4.o⟩) ?_;clear a0 Z;refine zR (C:=fun V=>∃n,V=wB n) 5 zd rfl (fun L V h=>b3.o V ((HS.o _ _).1 h).1) (fun j O h2=>b1.o j zo) ?_;simp only[yz,yy,yE];(repeat(first | (refine zAH (f:=fc (Frm.read x)) rfl 149 (.tmp 4) rfl rfl ?_ underlying149 rfl zJs ?_;(rintro _ ⟨n,rfl⟩;exact c1.o n);simp only[Act.put,ya,ye,yd]) | (refine zAH (f:=rb fun i=>x (10+i)) rfl 240 (.tmp 31) rfl rfl ?_ underlying240 rfl zUN ?_;(rintro _ ⟨n,rfl⟩;exact e1.o n);simp only[Act.put,ya,ye,yd]) | (refine zAH (f:=rb x) rfl 40 (.tmp 1) rfl rfl ?_ underlying40 rfl zGS ?_;(rintro _ ⟨n,rfl⟩;exact d2.o n);simp only[Act.put,ya,ye,yd]) | go_big_quiet_step (fail)));refine wpQuiet_nil ?_;simp only[yc];refine zAm rfl rfl (av 4 (rb (Crc.sumB x))) ?_ ?_;{intro L V hL _ Z;go_wp2_with fail;refine(zPE x _).mono ?_;rintro e w3 ⟨rfl,hb⟩;go_wp2_with fail;obtain⟨O,h2⟩:=(HS.o _ _).1 Z;exact⟨rfl,(HS.o (zBw 5 L) _).2 ⟨O.trans (Upd.of_below hb) (fun _ h _=>h.elim),by rw[zA4 zo];exact h2.later hb⟩⟩};simp only[Act.put,ya,ye,yd];refine zR (C:=fun V=>∃n,V=wB n) 6 zd rfl (fun L V h=>b3.o V ((HS.o _ _).1 h).1) (fun j O h2=>b1.o j zo) ?_;simp only[yu,yz,yy,yE];refine zE9 rfl 240 240 (.tmp 32) (.tmp 34) rfl (fun i=>x (10+i)) (Crc.sumB x) rfl rfl underlying240 b0.o.1 b0.o.2.1 zQw underlying5 b0.o.2.2 ?_;simp only[Act.put,ya,ye,yd];rw[<-HQ.o];clear HQ;cases q;(all_goals (repeat(go_big_quiet_step (fail)));refine wpQuiet_nil ?_;refine zAm rfl rfl undef ?_ ?_;{intro L V hL _ Z;obtain⟨O,h2⟩:=(HS.o _ _).1 Z;rw[hL]at h2;have H1:=zz O;have H2:=zz h2;clear O h2 Z hL;go_wp2_with (refine zC (g:=fc (Frm.read x)) rfl 149 (.tmp 2) (.tmp 29) rfl rfl rfl H2.o zJs (fun i _=>zFo _ i) ?_;intro w6 e0 f1 e8 e3;simp only[Act.put]);exact(HS.o (zBw 12 L) _).2 ⟨H1.o.trans e0 (fun _ h _=>h),by rw[zCm];exact e3⟩};simp only[Act.put,ya,ye,yd];refine zR (C:=fun V=>∃n,V=wB n) 1 zd rfl (fun L V h=>b3.o V ((HS.o _ _).1 h).1) (fun j O h2=>b1.o j zo) ?_;simp only[yu,yz,yy,yE];(repeat(go_big_quiet_step (fail)));refine wpQuiet_nil ?_;refine zBZ zd ?_;intro L V a5 Z;obtain⟨O,h2⟩:=(HS.o _ _).1 Z;rw[a5 12 zd]at h2;have H1:=zz O;have H2:=zz h2;clear O h2 Z a5;go_wp2_with fail;refine yAg (v:=.tuple #[fv (Frm.read x),.bool (Frm.okB x)]) (by rw[d9.o];exact zZ results101 (b:=w.heap.size+1) rfl (show Row V (w.heap.size+1) 0 47 (fc (Frm.read x))from by simpa using H2.o).rd underlying149 rfl zJs) rfl ⟨rfl,Below.upd a2.o H1.o (fun _ h=>zo) a2.o.size⟩)}
end Go.Proofs.YtonfdlhikinldaaGreatDoor
