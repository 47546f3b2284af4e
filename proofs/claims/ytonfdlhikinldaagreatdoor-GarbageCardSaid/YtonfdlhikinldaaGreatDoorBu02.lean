import Derived.Test.YtonfdlhikinldaaGreatDoorBu01
import Derived.Test.YtonfdlhikinldaaGreatDoorProg
import Derived.WalkKit
import Derived.WalkLawsBesides
import Derived.WalkSpells
import Derived.BigQuiet
import Derived.Deep.QuietTactic
import Derived.Lib.Hide
import Derived.Deep.LoopGhost
import Derived.Deep.OwnRows
import Derived.Handy
import Derived.LaidEql
import Derived.Stop.Asserts
import Derived.RowKitTokens
import Derived.OrdersIn
import Derived.StillTail
import Derived.StillTactics
import Derived.OrdersHeld
import Derived.Deep.Quiet
import Derived.Below
set_option maxRecDepth 100000
set_option linter.all false
set_option linter.unusedVariables false
set_option maxHeartbeats 16000000
namespace Go.Proofs.YtonfdlhikinldaaGreatDoor
open Go Go.RowKit Go.Proofs Lin Go.Proofs.Tryz
variable {n:Int}
abbrev B(x:UInt8):Value:=.int .u8 (x.toNat:Int)
abbrev I(n:Int):Value:=.int .i64 n
theorem zHw{k:IntKind}{a b:Int}(h:a=b):Ending.returned (.int k a)=.returned (.int k b):=by rw[h]
theorem zTP(a b:UInt8):bits BinOp.xor IntKind.u8 (a.toNat:Int) (b.toNat:Int)=((a^^^b).toNat:Int):=by
 rw[u8_xor_nat _ _ a.toNat_lt b.toNat_lt,yBt]
theorem zLG(a:UInt8):bits BinOp.and IntKind.u8 (a.toNat:Int) 1=((a.toNat % 2:Nat):Int):=by
 rw[show(1:Int)=((1:Nat):Int)from rfl,u8_and_nat _ _ a.toNat_lt zo,nat_mask1]
def b8(n:Int):UInt8:=UInt8.ofNat (n % 256).toNat
theorem zPz(u:0≤n)(J:n<256):((b8 n).toNat:Int)=n:=by
 unfold b8;rw[yAl,yAz zo];omega
theorem zTQ(x:UInt8):b8 (x.toNat:Int)=x:=by
 apply yAB;have:=zPz (n:=(x.toNat:Int)) zo (by have:=x.toNat_lt;omega);omega
theorem zKF(u:0≤n)(J:n<256):∃x:UInt8,n=(x.toNat:Int):=by
 refine⟨UInt8.ofNat n.toNat,?_⟩;rw[yAl,yAz zo];omega
theorem zMM(h:(Lit.int .u8 n).wf=true):∃x:UInt8,n=(x.toNat:Int):=by
 have:IntKind.min .u8≤n∧n≤IntKind.max .u8:=(by simpa[Lit.wf]using h);simp[IntKind.min,IntKind.max,IntKind.signed,IntKind.bits]at this;exact zKF this.1 zo
def xt8(a:UInt8):UInt8:=UInt8.ofNat (Gf.xt a.toNat)
theorem zIz(a:UInt8):(xt8 a).toNat=Gf.xt a.toNat:=by
 unfold xt8;rw[yAl];exact yAz (Gf.xt_lt _ a.toNat_lt)
theorem zLH(a:UInt8):bits BinOp.xor IntKind.u8 ((a.toNat:Int)*2 % 256) ((a.toNat:Int) / 128*29)=((xt8 a).toNat:Int):=by
 have u:=a.toNat_lt;rw[zIz];have h:∀n<256,(n*2 % 256^^^n / 128*29==Gf.xt n)=true:=(by decide+kernel)
 have h':=h a.toNat u;rw[show(a.toNat:Int)*2 % 256=((a.toNat*2 % 256:Nat):Int)by omega,show(a.toNat:Int) / 128*29=((a.toNat / 128*29:Nat):Int)by omega,
  u8_xor_nat _ _ zo zo]
 exact yBx Int.ofNat (by simpa using h')
def zQ8(b:UInt8):UInt8:=UInt8.ofNat (b.toNat / 2)
theorem zG6(b:UInt8):(zQ8 b).toNat=b.toNat / 2:=by
 have:=b.toNat_lt;unfold zQ8;rw[yAl];exact yAz zo
theorem zG7(b:UInt8):(b.toNat:Int) / 2=((zQ8 b).toNat:Int):=by rw[zG6];omega
theorem zLI(a b:UInt8):Gf.mul a b=(if b.toNat % 2=1 then a else 0)^^^Gf.mul (xt8 a) (zQ8 b):=by
 have V:=b.toNat_lt;apply yAB;have u:Gf.bt (b.toNat / 2) 7=0:=(by unfold Gf.bt;rw[yBf];omega);have J:∀i,Gf.bt (b.toNat / 2) i=Gf.bt b.toNat (i+1):=(by intro i;unfold Gf.bt;rw[yBf,yBf,Nat.div_div_eq_div_mul];congr 2;rw[Nat.pow_succ,yAW]);have O:Gf.bt b.toNat 0=b.toNat % 2:=(by unfold Gf.bt;rfl);rw[yBt,Gf.toNat_mul,Gf.toNat_mul,zIz,zG6];unfold Gf.mulN;simp only[u,J,yAZ,Nat.xor_zero,O,yc,Nat.reduceAdd];by_cases h:b.toNat % 2=1;{rw[h,yq rfl];simp only[Nat.one_mul];ac_rfl};{have h':b.toNat % 2=0:=zo;rw[h',yl zd];simp}
theorem zP0(a:UInt8){b:UInt8}(h:¬0<b.toNat):Gf.mul a b=0:=by
 have:b=0:=yAB (by rw[UInt8.toNat_zero];omega);rw[this,Gf.mul_zero]
theorem zEM(n:Int)(u:0≤n)(J:n<2^63):IntKind.i64.wrap n=n:=by rw[IntKind.wrap_i64];omega
theorem zKG(a b:Nat)(u:a<2^63)(J:b<2^63):bits .xor .i64 (a:Int) (b:Int)=((a^^^b:Nat):Int):=by
 have O:=yBj u J;show IntKind.i64.wrap ((BitVec.ofInt 64 (a:Int)^^^BitVec.ofInt 64 (b:Int)).toNat:Int)=_;rw[BitVec.toNat_xor,ofInt_u64 a zo,ofInt_u64 b zo,IntKind.wrap_i64];omega
end Go.Proofs.YtonfdlhikinldaaGreatDoor
namespace Go.Proofs.YtonfdlhikinldaaGreatDoor
open Go.RowKit Go.Extern.Stop Go.Stop Go.Extern Go.Proofs.Tryz
theorem zJz(t:Addr)(w:zw):(ReflectliteValue.unpack (.iface 101 (.pointer (some t)))).run prog w
  =.ok (.agg #[.pointer (some ⟨3,101,none⟩),w,.int .u64 150]) (w.alloc (.cells #[.pointer (some t)] 101)):=by kernel_rfl
theorem zPS(a:Addr)(w:zw):(ReflectliteValue.methodAny (ReflectliteValue.valueError "reflectlite.Value.Type" 0) (fun t _ _ _=>ReflectliteType.toType t) #[.agg #[.pointer (some ⟨3,101,none⟩),.pointer (some a),.int .u64 150]]).run prog w
  =.ok (.iface 184 (.agg #[.pointer (some ⟨3,101,none⟩)])) w:=by kernel_rfl
theorem zHX(h:Value)(w:zw):(Go.method 421 184 (.agg #[h]) "Kind").run prog w=.ok (168,h) w:=by kernel_rfl
theorem zPT(w:zw):((ReflectliteType.abiMethod fun t=>(fun a:Nat=>Value.int IntKind.u8 (a:Int))<$> Rtype.kind t) #[.pointer (some ⟨3,101,none⟩)]).run prog w=.ok (.int .u8 22) w:=by kernel_rfl
theorem zPU(w:zw):((ReflectliteType.abiMethod fun t=>(fun a:Nat=>Value.int IntKind.u8 (a:Int))<$> Rtype.kind t) #[.pointer (some ⟨3,54,none⟩)]).run prog w=.ok (.int .u8 2) w:=by kernel_rfl
theorem rlm(z:Sem Value)(f:TypeId->Addr->Nat->Nat->Sem Value)(v:Value):
  ReflectliteValue.method z f #[v]=(do match<-ReflectliteValue.parts v with | none=>z | some (t,a,fl)=>f t a fl (fl % 32)):=rfl
theorem zIb(a:Addr)(w:zw):(ReflectliteValue.parts (.agg #[.pointer (some ⟨3,101,none⟩),.pointer (some a),.int .u64 150])).run prog w=.ok (some (101,a,150)) w:=by kernel_rfl
theorem zNA(a p:Addr)(W:zw)(u:W.cell? a=some (.pointer (some p))):
  (ReflectliteValue.method (ReflectliteValue.valueError "reflectlite.Value.IsNil" 0) ReflectliteValue.isNil #[.agg #[.pointer (some ⟨3,101,none⟩),.pointer (some a),.int .u64 150]]).run prog W=.ok (.bool false) W:=by
 rw[rlm];simp only[yS,zIb,Result.andThen];simp[ReflectliteValue.isNil,loadVar,isAgg,underlying,underlying101,u,Result.andThen]
theorem zHY(h:Value)(w:zw):(Go.method 421 184 (.agg #[h]) "Elem").run prog w=.ok (182,.agg #[h]) w:=by kernel_rfl
theorem zDr(h:Value)(w:zw):(Go.method 421 184 (.agg #[h]) "Implements").run prog w=.ok (183,.agg #[h]) w:=by kernel_rfl
theorem zC8(h:Value)(w:zw):(Go.method 421 184 (.agg #[h]) "AssignableTo").run prog w=.ok (180,.agg #[h]) w:=by kernel_rfl
theorem zPV(w:zw):(ReflectliteType.method ReflectliteType.elem #[.agg #[.pointer (some ⟨3,101,none⟩)]]).run prog w=.ok (.iface 184 (.agg #[.pointer (some ⟨3,54,none⟩)])) w:=by kernel_rfl
theorem zGU(w:zw):(ReflectliteType.relation "Implements" ReflectliteType.implements_ #[.agg #[.pointer (some ⟨3,54,none⟩)],.iface 184 (.agg #[.pointer (some ⟨3,42,none⟩)])]).run prog w=.ok (.bool true) w:=by kernel_rfl
theorem zGr(v:Value)(w:zw):(ReflectliteType.typeOf #[.iface 54 v]).run prog w=.ok (.iface 184 (.agg #[.pointer (some ⟨3,54,none⟩)])) w:=by kernel_rfl
theorem zGV(w:zw):(ReflectliteType.relation "AssignableTo" ReflectliteType.assignableTo #[.agg #[.pointer (some ⟨3,54,none⟩)],.iface 184 (.agg #[.pointer (some ⟨3,54,none⟩)])]).run prog w=.ok (.bool true) w:=by kernel_rfl
theorem zJ0(e:Int)(w:zw):(ReflectliteValue.unpack (.iface 54 (I e))).run prog w
  =.ok (.agg #[.pointer (some ⟨3,54,none⟩),w,.int .u64 130]) (w.alloc (.cells #[I e] 54)):=by kernel_rfl
theorem zLu(w:zw):(Rtype.elem? 101).run prog w=.ok (some 54) w:=by kernel_rfl
theorem zS1(p:Addr)(w:zw):(ReflectliteValue.mk 54 p ReflectliteValue.flagAddr).run prog w=.ok (.agg #[.pointer (some ⟨3,54,none⟩),.pointer (some p),.int .u64 386]) w:=by kernel_rfl
theorem zNB(a p:Addr)(W:zw)(u:W.cell? a=some (.pointer (some p))):
  (ReflectliteValue.method (ReflectliteValue.valueError "reflectlite.Value.Elem" 0) ReflectliteValue.elem #[.agg #[.pointer (some ⟨3,101,none⟩),.pointer (some a),.int .u64 150]]).run prog W
   =.ok (.agg #[.pointer (some ⟨3,54,none⟩),.pointer (some p),.int .u64 386]) W:=by
 rw[rlm];simp only[yS,zIb,Result.andThen];simp[ReflectliteValue.elem,loadVar,isAgg,underlying,underlying101,u,Result.andThen,zLu,zS1]
theorem rls(v x:Value):ReflectliteValue.set #[v,x]=(do
  let(some (dst,a,fl),some (src,b,_)):=(<-ReflectliteValue.parts v,<-ReflectliteValue.parts x)
   | unsupported (.noEntry "extern/(internal/reflectlite.Value).Set.zeroValue")
  if fl / ReflectliteValue.flagAddr % 2==0 then unsupported (.noEntry "extern/(internal/reflectlite.Value).Set.unaddressable")
  let u <-loadVar src b
  if<-Rtype.directlyAssignable dst src then storeVar dst a u
  else if<-Rtype.implements dst src then
   if(<-Rtype.kind src)==20 then
    match u with
    | .nilIface=>unsupported (.noEntry "extern/reflectlite: a nil value of one interface type handed on as a value of another")
    | _=>storeVar dst a u
   else storeVar dst a (.iface src u)
  else panicString ("reflectlite.Set: value of type "++(<-Rtype.spelt src)++ " is not assignable to type "++(<-Rtype.spelt dst))
  pure (.tuple #[])):=rfl
theorem zLv(a:Addr)(w:zw):(ReflectliteValue.parts (.agg #[.pointer (some ⟨3,54,none⟩),.pointer (some a),.int .u64 386])).run prog w=.ok (some (54,a,386)) w:=by kernel_rfl
theorem zNC(a:Addr)(w:zw):(ReflectliteValue.parts (.agg #[.pointer (some ⟨3,54,none⟩),.pointer (some a),.int .u64 130])).run prog w=.ok (some (54,a,130)) w:=by kernel_rfl
theorem zLw(w:zw):(Rtype.directlyAssignable 54 54).run prog w=.ok true w:=by kernel_rfl
theorem zRX(u b:Addr)(e:Int)(J:Value)(W:zw)(V:W.cell? b=some (I e))(O:W.cell? u=some J)(Z:W.frozen? u=false):
  (ReflectliteValue.set #[.agg #[.pointer (some ⟨3,54,none⟩),.pointer (some u),.int .u64 386],.agg #[.pointer (some ⟨3,54,none⟩),.pointer (some b),.int .u64 130]]).run prog W
   =.ok (.tuple #[]) (W.setCell u (I e)):=by
 rw[rls];simp only[yS,zLv,zNC,Result.andThen];simp[ReflectliteValue.flagAddr,loadVar,isAgg,underlying,underlying54,V,Result.andThen,zLw,storeVar,Value.cells,storeCells,Addr.add];rw[run_store prog W u _ _ (by rfl)];simp[O,Z]
theorem zS2(e:Int)(t:Addr)(u:Value)(w:zw)(hg:w.cell? ⟨0,0,none⟩=some (.iface 184 (.agg #[.pointer (some ⟨3,42,none⟩)])))(O:w.cell? t=some u)(Z:w.frozen? t=false):
  Calls prog 31 #[.iface 54 (I e),.iface 101 (.pointer (some t))] w fun ev w'=>ev=.returned (.bool true)∧w'=((((w.alloc (.cells #[.pointer (some t)] 101)).alloc (.cells #[.pointer (some ⟨3,101,none⟩),w,.int .u64 150] 131)).alloc (.cells #[.pointer (some ⟨3,101,none⟩),w,.int .u64 150] 131)).alloc (.cells #[I e] 54)).setCell t (I e):=by
 have h6:=@run_callFunc_extern prog 47 _ (fun args=>ReflectliteValue.unpack (args.getD 0 (.tuple #[]))) func47 zk zk zk zk;have h7:=@run_callFunc_extern prog 48 _ (ReflectliteValue.methodAny (ReflectliteValue.valueError "reflectlite.Value.Type" 0) (fun t _ _ _=>ReflectliteType.toType t)) func48 zk zk zk zk;have h8:=@run_callFunc_extern prog 49 _ (ReflectliteValue.method (ReflectliteValue.valueError "reflectlite.Value.IsNil" 0) ReflectliteValue.isNil) func49 zk zk zk zk;have a7:=@run_callFunc_extern prog 168 _ (ReflectliteType.abiMethod fun t=>do pure (.int .u8 (<-Rtype.kind t))) func168 zk zk zk zk;have b2:=@run_callFunc_extern prog 182 _ (ReflectliteType.method ReflectliteType.elem) func182 zk zk zk zk;have a1:=@run_callFunc_extern prog 183 _ (ReflectliteType.relation "Implements" ReflectliteType.implements_) func183 zk zk zk zk;have a0:=@run_callFunc_extern prog 74 _ ReflectliteType.typeOf func74 zk zk zk zk;have a8:=@run_callFunc_extern prog 180 _ (ReflectliteType.relation "AssignableTo" ReflectliteType.assignableTo) func180 zk zk zk zk;have b0:=@run_callFunc_extern prog 75 _ (ReflectliteValue.method (ReflectliteValue.valueError "reflectlite.Value.Elem" 0) ReflectliteValue.elem) func75 zk zk zk zk;have a2:=@run_callFunc_extern prog 76 _ ReflectliteValue.set func76 zk zk zk zk;have tO:=zGr;have mA:=zC8;have a9:=zGV;have a5:=zJ0;have f6:=zJz;have f7:=zPS;have mK:=zHX;have mE:=zHY;have mI:=zDr;have a6:=zPT;have a4:=zPU;have b1:=zPV;have b3:=zGU;have n8:=zNA ⟨w.heap.size,0,none⟩ t ((w.alloc (.cells #[.pointer (some t)] 101)).alloc (.cells #[.pointer (some ⟨3,101,none⟩),w,.int .u64 150] 131)) zs;have V:0<w.heap.size:=(by rcases yAF w with h0 | h;{simp[World.cell?,h0]at hg};{exact h});have a3:((w.alloc (.cells #[.pointer (some t)] 101)).alloc (.cells #[.pointer (some ⟨3,101,none⟩),w,.int .u64 150] 131)).cell? ⟨0,0,none⟩=some (.iface 184 (.agg #[.pointer (some ⟨3,42,none⟩)])):=(by rw[yBm _ _ ⟨0,0,none⟩ zs,yBm _ _ ⟨0,0,none⟩ V];exact hg);have J:t.block<w.heap.size:=(by rcases Nat.lt_or_ge t.block w with h | h;{exact h};{simp[World.cell?,Array.getElem?_eq_none h]at O})
 have el:=zNB ⟨w.heap.size,0,none⟩ t (((w.alloc (.cells #[.pointer (some t)] 101)).alloc (.cells #[.pointer (some ⟨3,101,none⟩),w,.int .u64 150] 131)).alloc (.cells #[.pointer (some ⟨3,101,none⟩),w,.int .u64 150] 131)) (by rw[yBm _ _ ⟨w.heap.size,0,none⟩ (by simp;omega)];simp);have st:=zRX t ⟨w.heap.size+1+1+1,0,none⟩ e u ((((w.alloc (.cells #[.pointer (some t)] 101)).alloc (.cells #[.pointer (some ⟨3,101,none⟩),w,.int .u64 150] 131)).alloc (.cells #[.pointer (some ⟨3,101,none⟩),w,.int .u64 150] 131)).alloc (.cells #[I e] 54))
  (by rw[World.cell?_alloc_at _ _ _ _ zs];rfl)
  (by rw[yBm _ _ t (by simp;omega),yBm _ _ t (by simp;omega),yBm _ _ t (by simp;omega),yBm _ _ t J];exact O)
  (by rw[World.frozen?_alloc_old _ _ t (by simp;omega),World.frozen?_alloc_old _ _ t (by simp;omega),World.frozen?_alloc_old _ _ t (by simp;omega),World.frozen?_alloc_old _ _ t (Nat.ne_of_lt J)];exact Z)
 go_enter func31,ntmps31;go_wp2;refine wp_loop_rounds 1 ?_;rw[rounds_succ];go_wp2;go_ret;exact⟨rfl,rfl⟩
end Go.Proofs.YtonfdlhikinldaaGreatDoor
namespace Go.Proofs.YtonfdlhikinldaaGreatDoor
open Go Go.RowKit Go.Proofs Lin Go.Proofs.Tryz
variable {K:Act->World->Prop}{P:Program}{w:zw}{l:List Oper}{a:Act}{o:Oper}{L:Array Bool->Act->World->Prop}{Q:Exit->Act->World->Prop}{i:Nat}{v:Value}
def zEK(x y u v q:UInt8):Prop:=q^^^Gf.mul u v=Gf.mul x y
theorem zMH{x y u v q:UInt8}(h:zEK x y u v q)(J:v.toNat % 2=1):zEK x y (xt8 u) (zQ8 v) (q^^^u):=by
 unfold zEK at *;rw[zLI u v,yq J]at h;rw[<-h,UInt8.xor_assoc]
theorem zNn{x y u v q:UInt8}(h:zEK x y u v q)(J:¬v.toNat % 2=1):zEK x y (xt8 u) (zQ8 v) q:=by
 unfold zEK at *;rw[zLI u v,yl J]at h;rw[<-h];simp
theorem zKC(x y:UInt8)(w:zw):
  Calls prog 99 #[B x,B y] w fun e w'=>e=.returned (B (Gf.mul x y))∧w=w':=by
 go_enter func99,ntmps99;go_wp2;go_loop [0,1,5] (fun a b p=>∃u v q:UInt8,a=B u∧b=B v∧p=B q∧zEK x y u v q) (fun _ b _=>(intOf b).toNat);(case atStart=>exact⟨x,y,0,rfl,rfl,rfl,by simp[zEK]⟩);(case round=>obtain⟨u,v,q,rfl,rfl,rfl,O⟩:=hrel;have H:=zz O;clear O;have Z:=u.toNat_lt;have hv:=v.toNat_lt;go_wp2;{go_round;(case rel=>have J:v.toNat % 2=1:=(by rename_i h;rw[zLG]at h;have:=eq_of_beq h;omega);exact⟨xt8 u,zQ8 v,q^^^u,by rw[zLH],by rw[zG7],by rw[zTP],zMH H.o J⟩);(case measure=>simp[intOf];omega)};{go_round;(case rel=>have J:¬v.toNat % 2=1:=(by rename_i h;rw[zLG]at h;intro e;rw[e]at h;exact absurd h zd);exact⟨xt8 u,zQ8 v,q,by rw[zLH],by rw[zG7],rfl,zNn H.o J⟩);(case measure=>simp[intOf];omega)};{have V:¬0<v.toNat:=(by assumption);have:=H.o;unfold zEK at this;rw[zP0 u V]at this;go_ret;exact⟨by rw[<-this];simp,rfl⟩})
def zFm(a:UInt8):Nat->UInt8 × UInt8
 | 0=>(a,1)
 | k+1=>let s:=zFm a k;(Gf.mul s.1 s.1,Gf.mul s.2 (Gf.mul s.1 s.1))
theorem zNo(x:UInt8)(w:zw):
  Calls prog 68 #[B x] w fun e w'=>e=.returned (B (Gf.inv x))∧w=w':=by
 go_enter func68,ntmps68;go_wp2_with fail;go_loop [0,3,4] (fun a p i=>∃k:Nat,k≤7∧i=I k∧a=B (zFm x k).1∧p=B (zFm x k).2) (fun _ _ i=>7 - (intOf i).toNat);(case atStart=>exact⟨0,zo,rfl,rfl,rfl⟩);(case round=>obtain⟨k,hk,rfl,rfl,rfl⟩:=hrel;have E:=zy (zFm x (k+1)=(Gf.mul (zFm x k).1 (zFm x k).1,Gf.mul (zFm x k).2 (Gf.mul (zFm x k).1 (zFm x k).1))) rfl;have u:=zy (k=7->(zFm x k).2=Gf.inv x) (fun e=>by rw[e];rfl);generalize zFm x k=s at *;go_wp2_with (go_at_call 99;refine(zKC _ _ _).mono ?_;rintro e w' ⟨rfl,rfl⟩);{go_round;(case rel=>exact⟨k+1,zo,by go_num,by rw[E.o],by rw[E.o]⟩);(case measure=>simp[intOf];omega)};{go_ret;exact⟨zHw (by rw[u.o zo]),rfl⟩})
def zFl(o:Oper):Bool:=
 match o.op with
 | .move _ | .assign _ | .load _ _ | .store _ _ _ | .fieldAddr _ _ _ | .indexAddr _ _ _ | .buildSlice _ _ _ | .nilCheck _=>true
 | .call c=>(match c.callee with | .builtin .append=>true | _=>false)
 | _=>false
def zTI(r:Result Next):Prop:=(∃v w',r=.ok (.value v) w')∨(∃w',r=.ok .skip w')∨∃h w',r=.halt h w'
theorem zDT(s:Sem Value)(w:zw):zTI ((do pure (.value (<-s)):Sem Next).run P w):=by
 simp only[yS,yAw];(cases s.run P w with |ok v w'=>(exact .inl ⟨v,w',rfl⟩)|halt h w'=>(exact .inr (.inr ⟨h,w',rfl⟩)))
theorem zNm(s:Sem Unit)(w:zw):zTI ((do s;pure .skip:Sem Next).run P w):=by
 simp only[yS,yAw];(cases s.run P w with |ok v w'=>(exact .inr (.inl ⟨w',rfl⟩))|halt h w'=>(exact .inr (.inr ⟨h,w',rfl⟩)))
theorem zDE(v:Value)(w:zw):zTI ((pure (.value v):Sem Next).run P w):=.inl ⟨v,w,rfl⟩
theorem zRo(J:zFl o=true)(ρ:Operand->Value)(w:zw):zTI ((execOp ρ o).run P w):=by
 unfold execOp;(cases O:o.op with |move x=>(exact zDE _ w)|assign x=>(exact zDE _ w)|load t a=>(exact zDT _ w)|store t a x=>(exact zNm _ w)|fieldAddr s x f=>(exact zDT _ w)|indexAddr t x i=>(exact zDT _ w)|buildSlice t n parts=>(exact zDT _ w)|nilCheck x=>(simp only[];have u:zTI ((runtimePanic .nilDeref:Sem Next).run P w):=(by refine .inr (.inr ?_);unfold runtimePanic;simp only[yS];(cases (program).run P w with |ok p w'=>(exact⟨_,_,rfl⟩)|halt h w'=>(exact⟨_,_,rfl⟩)));split;{exact u};{exact u};{exact u};{split;{exact u};{simp only[yS];(cases (program).run P w with |halt h w'=>(exact .inr (.inr ⟨_,_,rfl⟩))|ok p w'=>(simp only[Result.andThen];generalize(nilAhead _ _ _ _).run P w'=r;(cases r with |halt h w'=>(exact .inr (.inr ⟨_,_,rfl⟩))|ok b w2=>(dsimp only;split;{exact .inr (.inr ⟨_,_,rfl⟩)};{exact zDE _ w2}))))};{exact zDE _ w}};{exact zDE _ w})|call c=>((cases hc:c.callee with |builtin b=>((cases b with |append=>(simp only[yS,resolve,hc,yAw,Result.andThen,invoke,builtin];generalize(Builtin.append_ _ _ _).run P w=r;(cases r with |ok v w'=>(exact .inl ⟨v,w',rfl⟩)|halt h w'=>(exact .inr (.inr ⟨h,w',rfl⟩))))|_=>(simp[zFl,O,hc]at J)))|_=>(simp[zFl,O,hc]at J)))|_=>(simp[zFl,O]at J))
theorem zG3(O:zFl o=true)(ρ:Operand->Value)(w:zw):∀f,o.about P w ρ=some f->False:=by
 intro f u;unfold Oper.about at u;(cases J:o.op with |call c=>((cases hc:c.callee with |builtin b=>(simp[J,resolve,hc,yAw,Target.leads]at u)|_=>(simp[zFl,J,hc]at O)))|_=>(simp[J]at u))
theorem zMF(u:zFl o=true):∀c,o.op≠.defer c:=by
 intro c h;simp[zFl,h]at u
section
variable {F:Fence} {n:Nat} {P:Program} {ops:Array Oper} {Q:Exit->Act->World->Prop} {md:Region.Mode}
theorem zGa(hd:∀(i:Nat) (o:Oper),ops[i]? =some o->zFl o=true)(hQ:¬LetsOut Q){K K':Act->World->Prop}(J:∀a w,K a w->K' a w)
  (h:wpOp P ops Q i K a w):wpOpIn F n P ops Q i K' a w:=by
 unfold wpOp at h;unfold wpOpIn;(cases O:ops[i]? with |none=>(simp only[O]at h;exact J _ _ h)|some o=>(simp only[O]at h ⊢;have u:=hd i o O;by_cases Z:Region.wanted o (yielded ops a.tmps)=true;{simp only[Z,yBa]at h ⊢;rcases h with h | h;{refine⟨fun f V=>(zG3 u _ _ f V).elim,?_⟩;rw[Oper.semAt_eq _ _ _ (zMF u)];unfold Oper.wp at h;rcases zRo (P:=P) u a.eval w with⟨v,w',e⟩ | ⟨w',e⟩ | ⟨x,w',e⟩;{rw[e]at h ⊢;exact J _ _ h};{rw[e]at h ⊢;exact J _ _ h};{rw[e]at h ⊢;cases x<;>exact h}};{exact absurd h.2 hQ}};{simp only[Z]at h ⊢;exact⟨fun f V=>(zG3 u _ _ f V).elim,J _ _ h⟩}))
theorem zDF(J:∀(i:Nat) (o:Oper),ops[i]? =some o->zFl o=true)(O:¬LetsOut Q):∀(g:Nat) (u:Array Bool) (a:Act) (w:zw),wpAny P md ops Q g u a w->wpAnyIn F n P md ops Q g u a w
 | 0,_,_,_,h=>h
 | g+1,_,_,_,h=>⟨h.1,fun i Z=>zGa J O (fun V w' h'=>zDF J O g _ V w' h') (h.2 i Z)⟩
end
section
variable {P:Program} {ops:Array Oper} {Q:Exit->Act->World->Prop} {md:Region.Mode} {S:World->Prop} {n:Nat}
def zBF(P:Program)(md:Region.Mode)(u:Array Oper)(Q:Exit->Act->World->Prop)(S:World->Prop)(n:Nat)(L:Array Bool->Act->World->Prop):Nat->Array Bool->Act->World->Prop
 | 0,listed,a,w=>L listed a w
 | f+1,listed,a,w=>Region.ready md u listed≠[]∧∀i∈Region.ready md u listed,i<n∧wpOp P u Q i (fun J w'=>S w'∧zBF P md u Q S n L f (listed.setIfInBounds i true) J w') a w
theorem zAu{g:Nat}(J:∀u a w,L u a w->wpAny P md ops Q g u a w):
  ∀(f:Nat) (u:Array Bool) (a:Act) (w:zw),zBF P md ops Q S n L f u a w->wpAny P md ops Q (f+g) u a w
 | 0,u,a,w,h=>by rw[yc];exact J _ _ _ h
 | f+1,u,a,w,h=>by
  rw[show f+1+g=(f+g)+1 by omega];exact⟨fun O=>absurd O h.1,fun i V=>wpOp_mono (fun Z w' h'=>zAu J f _ Z w' h'.2) (h.2 i V).2⟩
theorem zCl{oi:Oper}(hi:ops[i]? =some oi)(a2:∀(j:Nat) (o:Oper) cs b,ops[j]? =some o->o.op≠.select cs b)
  (hs:Region.sinkB md ops n=true)(hc:Region.chainB md ops n=true)(hn:n<ops.size)(a6:i<n)
  (hQ:∀c a w,Q (.panic c) (a.put oi.dst v) w->Q (.panic c) a w)
  (a3:∀u a w,L u a w->∀j∈Region.ready md ops u,n≤j):
  ∀(f:Nat) (u:Array Bool) (a:Act) (w:zw),HeadInv md ops n u->
   (∀(j:Nat) (oj:Oper),ops[j]? =some oj->j≠i->u.getD j true=false->(∀e∈oj.after,Region.binds md e=true->e.on≠i)->oi.apart ops oj=true)->
   i∈Region.ready md ops u->YieldsIf P ops S oi v a->S w->
   zBF P md ops Q S n L f (u.setIfInBounds i true) (a.put oi.dst v) w->zBF P md ops Q S n L (f+1) u a w:=by
 intro f
 induction f with
 | zero=>
  intro u a w inv _ hr hy hS H;have O:=(mem_ready.1 hr).1;refine⟨fun h=>(by rw[h]at hr;cases hr),fun j hj=>?_⟩;have Z:j<n:=(by rcases Nat.lt_or_ge j n with h | h;{exact h};{exact absurd hj (tail_waits hs hc hn inv _ i rfl a6 O j h)});refine⟨Z,?_⟩;by_cases J:j=i;{subst J;exact hy.wpOp hi hS ⟨hS,H⟩};{have:=a3 _ _ _ H j (ready_mono hj J);omega}
 | succ f ih=>
  intro u a w inv V hr hy hS H;have O:=(mem_ready.1 hr).1;refine⟨fun h=>(by rw[h]at hr;cases hr),fun j hj=>?_⟩;have Z:j<n:=(by rcases Nat.lt_or_ge j n with h | h;{exact h};{exact absurd hj (tail_waits hs hc hn inv _ i rfl a6 O j h)});refine⟨Z,?_⟩;by_cases J:j=i;{subst J;exact hy.wpOp hi hS ⟨hS,H⟩}
  ·have h1:=(H.2 j (ready_mono hj J)).2;obtain⟨a1,oj,a4,a5⟩:=mem_ready.1 hj;have a7:∀e∈oj.after,Region.binds md e=true->e.on≠i:=fun e he hb b0=>(by have h1:=a5 e he hb;rw[b0,getD_both O]at h1;cases h1)
   have h2:=wpOp_putIf a4 (V j oj a4 J a1 a7) (fun cs b=>a2 i oi cs b hi) (fun cs b=>a2 j oj cs b a4) hQ hy h1;have a0:∀(k:Nat) (ok:Oper),ops[k]? =some ok->k≠i->(u.setIfInBounds j true).getD k true=false->
     (∀e∈ok.after,Region.binds md e=true->e.on≠i)->oi.apart ops ok=true:=fun k ok hk b1 O a9=>by
    refine V k ok hk b1 ?_ a9;by_cases a8:j=k
    ·subst a8;exact a1
    ·rw[getD_set_ne true a8]at O;exact O
   refine wpOp_mono (fun a' w' h3=>⟨h3.2.1,ih (u.setIfInBounds j true) a' w' (inv.set hj Z) a0 (ready_mono hr (yBo J)) h3.1 h3.2.1 ?_⟩) h2;rw[Array.setIfInBounds_comm _ _ J];exact h3.2.2
def zBp(P:Program)(u:Array Oper)(S:World->Prop)(K:Act->Prop):List Oper->Act->Prop
 | [],a=>K a
 | o::rest,a=>∃v,YieldsIf P u S o v a∧zBp P u S K rest (a.put o.dst v)
def zI4(md:Region.Mode)(u:Array Oper)(g:Nat):Nat->Nat->Array Bool->Bool
 | 0,k,listed=>decide (Region.ready md u listed=[k])&&Region.seqB md u g (k+1) (listed.setIfInBounds k true)
 | f+1,k,listed=>(Region.ready md u listed).contains k&&Region.free md u listed k&&zI4 md u g f (k+1) (listed.setIfInBounds k true)
def zDI(md:Region.Mode)(u:Array Oper)(m:Nat):Bool:=
 Region.noSelect u&&decide (m+1<u.size)&&Region.sinkB md u (m+1)&&Region.chainB md u (m+1)&&zI4 md u (u.size - (m+1)) m 0 (Array.replicate u.size false)
theorem zEP{g m:Nat}(hS:S w)(O:Region.noSelect ops=true)(hs:Region.sinkB md ops (m+1)=true)(hc:Region.chainB md ops (m+1)=true)(hn:m+1<ops.size)
  (hQ:∀c a d v w,Q (.panic c) (Act.put a d v) w->Q (.panic c) a w):
  ∀(l:List Oper) (k:Nat) (u:Array Bool) (a:Act),(∀j,j<l.length->l[j]? =ops[k+j]?)->k+l.length=m->HeadInv md ops (m+1) u->
  zI4 md ops g l.length k u=true->zBp P ops S (fun V=>wpOp P ops Q m (fun a2 w2=>S w2∧K a2 w2) V w) l a->
  zBF P md ops Q S (m+1) (fun J V w'=>Region.seqB md ops g (m+1) J=true∧K V w') (l.length+1) u a w
 | [],k,u,a,hl,hk,inv,hB,h=>by
  have:k=m:=by simpa using hk
  subst this;simp only[yK,zI4,yD,yL]at hB;have h':wpOp P ops Q k (fun a2 w2=>S w2∧K a2 w2) a w:=h;refine⟨by rw[hB.1];simp,fun i hi=>?_⟩;rw[hB.1]at hi;have a1:i=k:=by simpa using hi
  rw[a1];exact⟨zo,wpOp_mono (fun V w' h2=>⟨h2.1,hB.2,h2.2⟩) h'⟩
 | o::l,k,u,a,hl,hk,inv,hB,h=>by
  have h0:ops[k]? =some o:=by simpa using(hl 0 zs).symm
  simp only[yF,zI4,yD]at hB;obtain⟨⟨hr,hf⟩,a3⟩:=hB;have a0:k<m+1:=by simp only[yF]at hk;omega
  have Z:k∈Region.ready md ops u:=by simpa using hr
  obtain⟨v,hy,hK⟩:=h;exact zCl h0 (Region.noSelect_spec O) hs hc hn a0 (fun c a w=>hQ c a _ _ w) (fun J V w' hL=>seqB_ready hL.1) (l.length+1) u a w inv (Region.free_spec h0 hf) Z hy hS
   (zEP hS O hs hc hn hQ l (k+1) _ _ (fun j hj=>by have:=hl (j+1) (by simp;omega);simpa[yAS,Nat.add_comm 1 j]using this) (by simp only[yF]at hk;omega) (inv.set Z a0) a3 hK)
theorem zB2(m:Nat)(hB:zDI md l.toArray m=true)(hS:S w)(hQ:∀c a d v w,Q (.panic c) (Act.put a d v) w->Q (.panic c) a w)
  (h:zBp P l.toArray S (fun a'=>wpOp P l.toArray Q m (fun a2 w2=>S w2∧wpList P l.toArray Q (l.drop (m+1)) a2 w2) a' w) (l.take m) a):
  wpAny P md l.toArray Q l.toArray.size (Array.replicate l.toArray.size false) a w:=by
 simp only[zDI,yD,yL]at hB;obtain⟨⟨⟨⟨V,hn⟩,hs⟩,hc⟩,a0⟩:=hB;have a3:m+1<l.length:=(by simpa using hn);have J:(l.take m).length=m:=(by simp;omega)
 have Z:(l.drop (m+1)).length=l.toArray.size - (m+1):=zs;have O:HeadInv md l.toArray (m+1) (Array.replicate l.toArray.size false):=
  ⟨zs,fun j oj _ hl=>(by rw[getD_replicate_false]at hl;cases hl),fun t _ ht=>getD_in (by simpa using ht) (getD_replicate_false _ _)⟩
 have H:=zEP (g:=l.toArray.size - (m+1)) (K:=fun a2 w2=>wpList P l.toArray Q (l.drop (m+1)) a2 w2) hS V hs hc hn hQ (l.take m) 0 _ a (fun j hj=>by have a1:j<m:=(by rw[J]at hj;exact hj);simp[a1]) (by simpa using J) O (by rw[J];exact a0) h;have:=zAu (g:=l.toArray.size - (m+1)) (fun u a' w' hL=>by have:=wpAny_of_seq (md:=md) (Q':=Q) (l.drop (m+1)) (m+1) u a' w' (fun j=>by simp[yAv]) (by rw[Z];exact hL.1) hL.2;rwa[Z]at this) _ _ _ _ H;rw[J,show m+1+(l.toArray.size - (m+1))=l.toArray.size by omega]at this;exact this
theorem zKK(O:ops[i]? =some o)(J:o.guard=none)(h:o.wp P a w K Q):wpOp P ops Q i K a w:=by
 have u:Region.wanted o (yielded ops a.tmps)=true:=(by simp[Region.wanted,J]);unfold wpOp;simp only[O,u,yBa];exact .inl h
theorem zDJ{F:Fence}{n id:Nat}(m:Nat)(S:World->Prop)(hm:P.follows .mixedOrders=true)(J:zDI .any l.toArray m=true)(hd:l.all zFl=true)(u:¬LetsOut Q)
  (V:∀c a d v w,Q (.panic c) (Act.put a d v) w->Q (.panic c) a w)(Z:S w.drew)
  (h:zBp P l.toArray S (fun O=>wpOp P l.toArray Q m (fun a2 w2=>S w2∧wpList P l.toArray Q (l.drop (m+1)) a2 w2) O w.drew) (l.take m) a):
  (Code.region id l.toArray true).wpIn F n P Q a w:=
 wpIn_region_any hm (zDF (fun i o ho=>List.all_eq_true.1 hd o (by
  have:l[i]? =some o:=by simpa using ho
  exact List.mem_of_getElem? this)) u _ _ _ _ (zB2 m J Z V h))
end
def zCb(o:Oper):Bool:=
 match o.op with
 | .move _ | .assign _ | .load _ _ | .fieldAddr _ _ _ | .indexAddr _ _ _ | .build _ _ | .convert _ _ _ | .binOp _ _ _ _ _ | .unOp _ _ _ | .pick _ _ _ | .extract _ _ | .nilCheck _ | .slice _ _ _ _ _ | .sliceToArrayPointer _ _ | .index _ _ _ | .field _ _ _=>true
 | .call c=>(match c.callee with | .builtin .len=>true | .builtin .max=>true | .builtin .min=>true | _=>false)
 | _=>false
def zN3(r:Result Next):Prop:=(∃v w',r=.ok (.value v) w')∨∃h w',r=.halt h w'
theorem zAL(s:Sem Value)(w:zw):zN3 ((do pure (.value (<-s)):Sem Next).run P w):=by
 simp only[yS,yAw];(cases s.run P w with |ok v w'=>(exact .inl ⟨v,w',rfl⟩)|halt h w'=>(exact .inr ⟨h,w',rfl⟩))
theorem zCc(v:Value)(w:zw):zN3 ((pure (.value v):Sem Next).run P w):=.inl ⟨v,w,rfl⟩
theorem zHx(O:zCb o=true)(ρ:Operand->Value)(w:zw):zN3 ((execOp ρ o).run P w):=by
 unfold execOp;(cases V:o.op with |move x=>(exact zCc _ w)|assign x=>(exact zCc _ w)|load t a=>(exact zAL _ w)|fieldAddr s x f=>(exact zAL _ w)|slice t x l h m=>(exact zAL _ w)|sliceToArrayPointer t x=>(exact zAL _ w)|index t x i=>(exact zAL _ w)|field t x i=>(exact zAL _ w)|indexAddr t x i=>(exact zAL _ w)|build t parts=>(exact zAL _ w)|convert s d x=>(exact zAL _ w)|binOp b t x y u=>(exact zAL _ w)|unOp u t x=>(exact zAL _ w)|pick c x y=>(dsimp only;simp only[yS,yAw];(cases (asBool (ρ c)).run P w with |ok v w'=>(exact .inl ⟨_,w',rfl⟩)|halt h w'=>(exact .inr ⟨h,w',rfl⟩)))|extract x i=>(dsimp only;exact zAL _ w)|nilCheck x=>(simp only[];have J:zN3 ((runtimePanic .nilDeref:Sem Next).run P w):=(by refine .inr ?_;unfold runtimePanic;simp only[yS];(cases (program).run P w with |ok p w'=>(exact⟨_,_,rfl⟩)|halt h w'=>(exact⟨_,_,rfl⟩)));split;{exact J};{exact J};{exact J};{split;{exact J};{simp only[yS];(cases (program).run P w with |halt h w'=>(exact .inr ⟨_,_,rfl⟩)|ok p w'=>(simp only[Result.andThen];generalize(nilAhead _ _ _ _).run P w'=r;(cases r with |halt h w'=>(exact .inr ⟨_,_,rfl⟩)|ok b w2=>(dsimp only;split;{exact .inr ⟨_,_,rfl⟩};{exact zCc _ w2}))))};{exact zCc _ w}};{exact zCc _ w})|call c=>((cases hc:c.callee with |builtin b=>((cases b with |len=>(simp only[yS,resolve,hc,yAw,Result.andThen,invoke,builtin];generalize(Builtin.len_ _ _ _).run P w=r;(cases r with |ok v w'=>(exact .inl ⟨v,w',rfl⟩)|halt h w'=>(exact .inr ⟨h,w',rfl⟩)))|max=>(simp only[yS,resolve,hc,yAw,Result.andThen,invoke,builtin];generalize(Builtin.max_ _ _ _).run P w=r;(cases r with |ok v w'=>(exact .inl ⟨v,w',rfl⟩)|halt h w'=>(exact .inr ⟨h,w',rfl⟩)))|min=>(simp only[yS,resolve,hc,yAw,Result.andThen,invoke,builtin];generalize(Builtin.min_ _ _ _).run P w=r;(cases r with |ok v w'=>(exact .inl ⟨v,w',rfl⟩)|halt h w'=>(exact .inr ⟨h,w',rfl⟩)))|_=>(simp[zCb,V,hc]at O)))|_=>(simp[zCb,V,hc]at O)))|_=>(simp[zCb,V]at O))
section
variable {P:Program} {ops:Array Oper} {S:World->Prop}
theorem zAO{K:Act->Prop}:∀(l:List Oper) (a:Act),l.all zCb=true->wpQuiet P ops S K l a->zBp P ops S K l a
 | [],_,_,h=>h
 | o::l,a,hd,h=>by
  simp only[List.all_cons,yD]at hd;unfold wpQuiet at h;by_cases O:Region.wanted o (yielded ops a.tmps)=true
  ·rw[yq O]at h;obtain⟨v,V,Z⟩:=h;refine⟨v,.inl ⟨O,fun w hS=>?_⟩,zAO l _ hd.2 Z⟩;have J:=V w hS;unfold Oper.quietAt at J;rcases zHx (P:=P) hd.1 a.eval w with⟨u,w',e⟩ | ⟨x,w',e⟩
   ·rw[e]at J ⊢;obtain⟨rfl,rfl⟩:=J
    rfl
   ·rw[e]at J;exact J.elim
  ·rw[yl O]at h;exact⟨undef,.inr ⟨by simpa using O,rfl⟩,zAO l _ hd.2 h⟩
theorem zDd{Z:Nat}(m:Nat)(S:World->Prop)(hm:P.follows .mixedOrders=true)(u:zDI .any l.toArray m=true)(hr:(l.take m).all zCb=true)
  (O:∀c a d v w,Q (.panic c) (Act.put a d v) w->Q (.panic c) a w)(V:S w.drew)
  (h:wpQuiet P l.toArray S (fun J=>wpOp P l.toArray Q m (fun a2 w2=>S w2∧wpList P l.toArray Q (l.drop (m+1)) a2 w2) J w.drew) (l.take m) a):
  (Code.region Z l.toArray true).wp P Q a w:=
 wp_region_any hm (zB2 m u V O (zAO _ _ hr h))
end
def pick(l:List Oper)(u:List Nat):List Oper:=u.filterMap fun i=>l[i]?
def zTU(md:Region.Mode)(u:Array Oper)(g m h:Nat):List Nat->Array Bool->Bool
 | [],listed=>decide (Region.ready md u listed=[m])&&decide (m<h)&&Region.seqB md u g h (listed.setIfInBounds m true)
 | i::is,listed=>(Region.ready md u listed).contains i&&Region.free md u listed i&&decide (i<h)&&zTU md u g m h is (listed.setIfInBounds i true)
def zUL(md:Region.Mode)(u:Array Oper)(g h:Nat):List Nat->Array Bool->Bool
 | [],listed=>Region.seqB md u g h listed
 | m::ms,listed=>decide (Region.ready md u listed=[m])&&decide (m<h)&&zUL md u g h ms (listed.setIfInBounds m true)
def zLL(md:Region.Mode)(u:Array Oper)(g h:Nat)(J:List Nat):List Nat->Array Bool->Bool
 | [],listed=>zUL md u g h J listed
 | i::is,listed=>(Region.ready md u listed).contains i&&Region.free md u listed i&&decide (i<h)&&zLL md u g h J is (listed.setIfInBounds i true)
def zRA(md:Region.Mode)(u:Array Oper)(J O:List Nat)(h:Nat):Bool:=
 Region.noSelect u&&decide (h<u.size)&&decide (J.length+O.length=h)&&Region.sinkB md u h&&Region.chainB md u h&&J.all (fun i=>(u[i]?).isSome)&&zLL md u (u.size - h) h O J (Array.replicate u.size false)
section
variable {P:Program} {ops:Array Oper} {Q:Exit->Act->World->Prop} {md:Region.Mode} {S:World->Prop}
def zAN(P:Program)(u:Array Oper)(Q:Exit->Act->World->Prop)(S:World->Prop)(K:Act->World->Prop):List Nat->Act->World->Prop
 | [],a,w=>K a w
 | m::ms,a,w=>wpOp P u Q m (fun J w2=>S w2∧zAN P u Q S K ms J w2) a w
theorem zE3{g h:Nat}:∀(O:List Nat) (u:Array Bool) (a:Act) (w:zw),zUL md ops g h O u=true->zAN P ops Q S K O a w->
  zBF P md ops Q S h (fun J Z w'=>Region.seqB md ops g h J=true∧K Z w') O.length u a w
 | [],u,a,w,hB,hK=>⟨hB,hK⟩
 | m::O,u,a,w,hB,hK=>by
  simp only[zUL,yD,yL]at hB;refine⟨by rw[hB.1.1];simp,fun i hi=>?_⟩;rw[hB.1.1]at hi;have V:i=m:=by simpa using hi
  rw[V];exact⟨hB.1.2,wpOp_mono (fun Z w' h2=>⟨h2.1,zE3 O _ Z w' hB.2 h2.2⟩) hK⟩
theorem zDh{g h:Nat}{Z:List Nat}(hS:S w)(V:Region.noSelect ops=true)(hs:Region.sinkB md ops h=true)(hc:Region.chainB md ops h=true)(hn:h<ops.size)
  (hQ:∀c a d v w,Q (.panic c) (Act.put a d v) w->Q (.panic c) a w):
  ∀(O:List Nat) (u:Array Bool) (a:Act),O.all (fun i=>(ops[i]?).isSome)=true->HeadInv md ops h u->
  zLL md ops g h Z O u=true->zBp P ops S (fun a'=>zAN P ops Q S K Z a' w) (O.filterMap fun i=>ops[i]?) a->
  zBF P md ops Q S h (fun J a' w'=>Region.seqB md ops g h J=true∧K a' w') (O.length+Z.length) u a w
 | [],u,a,_,inv,hB,hh=>by
  have h':zAN P ops Q S K Z a w:=hh;rw[yK,yc];exact zE3 Z u a w hB h'
 | i::O,u,a,hsome,inv,hB,hh=>by
  simp only[List.all_cons,yD]at hsome;obtain⟨o,ho⟩:=Option.isSome_iff_exists.1 hsome.1;simp only[zLL,yD,yL]at hB;obtain⟨⟨⟨hr,hf⟩,a1⟩,a2⟩:=hB;have a0:i∈Region.ready md ops u:=by simpa using hr
  rw[ym,ho]at hh;obtain⟨v,hy,hK⟩:=hh;rw[yF,show O.length+1+Z.length=(O.length+Z.length)+1 by omega];exact zCl ho (Region.noSelect_spec V) hs hc hn a1 (fun c a w=>hQ c a _ _ w) (fun J a' w' hL=>seqB_ready hL.1) (O.length+Z.length) u a w inv (Region.free_spec ho hf) a0 hy hS
   (zDh hS V hs hc hn hQ O _ _ hsome.2 (inv.set a0 a1) a2 hK)
theorem zCK{id:Nat}(u ms:List Nat)(h:Nat)(S:World->Prop)(hm:P.follows .mixedOrders=true)(hB:zRA .any l.toArray u ms h=true)(hr:(pick l u).all zCb=true)
  (hQ:∀c a d v w,Q (.panic c) (Act.put a d v) w->Q (.panic c) a w)(hS:S w.drew)
  (hh:wpQuiet P l.toArray S (fun a'=>zAN P l.toArray Q S (fun a2 w2=>wpList P l.toArray Q (l.drop h) a2 w2) ms a' w.drew) (pick l u) a):
  (Code.region id l.toArray true).wp P Q a w:=by
 refine wp_region_any hm ?_;simp only[zRA,yD,yL]at hB;obtain⟨⟨⟨⟨⟨⟨a0,hn⟩,V⟩,hs⟩,hc⟩,O⟩,a3⟩:=hB;have a1:(l.drop h).length=l.toArray.size - h:=zs;have Z:HeadInv .any l.toArray h (Array.replicate l.toArray.size false):=
  ⟨zs,fun j oj _ hl=>(by rw[getD_replicate_false]at hl;cases hl),fun t _ ht=>getD_in (by simpa using ht) (getD_replicate_false _ _)⟩
 have hp:(u.filterMap fun i=>l.toArray[i]?)=pick l u:=(by simp[pick]);have H:=zDh (g:=l.toArray.size - h) (K:=fun a2 w2=>wpList P l.toArray Q (l.drop h) a2 w2) hS a0 hs hc hn hQ u _ a O Z a3 (by rw[hp];exact zAO _ _ hr hh);have:=zAu (g:=l.toArray.size - h) (fun J a' w' hL=>by have:=wpAny_of_seq (md:=.any) (Q':=Q) (l.drop h) h J a' w' (fun j=>by simp[yAv]) (by rw[a1];exact hL.1) hL.2;rwa[a1]at this) _ _ _ _ H;rw[V,show h+(l.toArray.size - h)=l.toArray.size by omega]at this;exact this
theorem zS(O:ops[i]? =some o)(J:o.guard=none)(h:wpList P ops (Exit.then K Q) [o] a w):wpOp P ops Q i K a w:=by
 have u:Region.wanted o (yielded ops a.tmps)=true:=(by simp[Region.wanted,J]);unfold wpList at h;rw[yq u]at h;unfold wpOp;simp only[O,u,yBa];rcases h with h | h;{exact .inl h};{exact .inr h}
end
theorem zK(W:zw):∃(ι:Type) (_:Nonempty ι) (f:ι->World),(∀n,Below W W (f n))∧Hid (∀V,Below W W V->∃n,V=f n):=
 ⟨{V:World // Below W W V},⟨⟨W,yh _ _⟩⟩,fun n=>n.1,fun n=>n.2,zz fun V u=>⟨⟨V,u⟩,rfl⟩⟩
theorem zFv{W:zw}{p:Addr}(h:W.cell? p=some v)(o:Obj):(W.alloc o).cell? p=some v:=
 (yk (Deep.blk_alloc_lt _ _ _ (yt _ _ h))).trans h
section
variable {P:Program} {ops:Array Oper} {md:Region.Mode} {C:World->Prop}
def zGC(P:Program)(md:Region.Mode)(u:Array Oper)(C:World->Prop)(n:Nat)(L:Array Bool->Act->Prop):Nat->Array Bool->Act->Prop
 | 0,listed,a=>L listed a
 | f+1,listed,a=>Region.ready md u listed≠[]∧∀i∈Region.ready md u listed,i<n∧qOp P u C i (zGC P md u C n L f (listed.setIfInBounds i true)) a
theorem zDn{n g:Nat}{L:Array Bool->Act->Prop}{Q':Exit->Act->World->Prop}(O:∀u a w,C w->L u a->wpAny P md ops Q' g u a w):
  ∀(f:Nat) (u:Array Bool) (a:Act) (w:zw),C w->zGC P md ops C n L f u a->wpAny P md ops Q' (f+g) u a w
 | 0,u,a,w,hw,h=>by rw[yc];exact O _ _ _ hw h
 | f+1,u,a,w,hw,h=>by
  rw[show f+1+g=(f+g)+1 by omega];exact⟨fun V=>absurd V h.1,fun i Z=>wpOp_of_qOp hw (fun a' w' J=>zDn O f _ a' w' J) (h.2 i Z).2⟩
theorem zH8{i n:Nat}{oi:Oper}{L:Array Bool->Act->Prop}(hi:ops[i]? =some oi)(a2:∀(j:Nat) (o:Oper) cs b,ops[j]? =some o->o.op≠.select cs b)
  (hs:Region.sinkB md ops n=true)(hc:Region.chainB md ops n=true)(hn:n<ops.size)(a6:i<n)(a3:∀u a,L u a->∀j∈Region.ready md ops u,n≤j):
  ∀(f:Nat) (u:Array Bool) (a:Act),HeadInv md ops n u->
   (∀(j:Nat) (oj:Oper),ops[j]? =some oj->j≠i->u.getD j true=false->(∀e∈oj.after,Region.binds md e=true->e.on≠i)->oi.apart ops oj=true)->
   i∈Region.ready md ops u->YieldsIn P ops C oi v a->
   zGC P md ops C n L f (u.setIfInBounds i true) (a.put oi.dst v)->zGC P md ops C n L (f+1) u a:=by
 intro f
 induction f with
 | zero=>
  intro u a inv _ hr hy H;have O:=(mem_ready.1 hr).1;refine⟨fun h=>(by rw[h]at hr;cases hr),fun j hj=>?_⟩;have Z:j<n:=(by rcases Nat.lt_or_ge j n with h | h;{exact h};{exact absurd hj (tail_waits hs hc hn inv _ i rfl a6 O j h)});refine⟨Z,?_⟩;by_cases J:j=i;{subst J;exact hy.qOp hi H};{have:=a3 _ _ H j (ready_mono hj J);omega}
 | succ f ih=>
  intro u a inv V hr hy H;have O:=(mem_ready.1 hr).1;refine⟨fun h=>(by rw[h]at hr;cases hr),fun j hj=>?_⟩;have Z:j<n:=(by rcases Nat.lt_or_ge j n with h | h;{exact h};{exact absurd hj (tail_waits hs hc hn inv _ i rfl a6 O j h)});refine⟨Z,?_⟩;by_cases J:j=i;{subst J;exact hy.qOp hi H}
  ·have h1:=(H.2 j (ready_mono hj J)).2;obtain⟨a1,oj,a4,a5⟩:=mem_ready.1 hj;have a7:∀e∈oj.after,Region.binds md e=true->e.on≠i:=fun e he hb b0=>(by have h1:=a5 e he hb;rw[b0,getD_both O]at h1;cases h1)
   have h2:=qOp_put a4 (V j oj a4 J a1 a7) (fun cs b=>a2 i oi cs b hi) (fun cs b=>a2 j oj cs b a4) hy h1;have a0:∀(k:Nat) (ok:Oper),ops[k]? =some ok->k≠i->(u.setIfInBounds j true).getD k true=false->
     (∀e∈ok.after,Region.binds md e=true->e.on≠i)->oi.apart ops ok=true:=fun k ok hk b1 O a9=>by
    refine V k ok hk b1 ?_ a9;by_cases a8:j=k
    ·subst a8;exact a1
    ·rw[getD_set_ne true a8]at O;exact O
   refine qOp_mono (fun a' h3=>ih (u.setIfInBounds j true) a' (inv.set hj Z) a0 (ready_mono hr (yBo J)) h3.1 ?_) h2;rw[Array.setIfInBounds_comm _ _ J];exact h3.2
theorem zGD{n g:Nat}{Lq:Act->Prop}(O:Region.noSelect ops=true)(hs:Region.sinkB md ops n=true)(hc:Region.chainB md ops n=true)(hn:n<ops.size):
  ∀(l:List Oper) (k:Nat) (u:Array Bool) (a:Act),(∀j,j<l.length->l[j]? =ops[k+j]?)->k+l.length=n->HeadInv md ops n u->
  Region.lexHead md ops g l.length k u=true->wpQuiet P ops C Lq l a->
  zGC P md ops C n (fun J a'=>Region.seqB md ops g n J=true∧Lq a') l.length u a
 | [],k,u,a,_,hk,_,hB,h=>by
  have:k=n:=by simpa using hk
  subst this;exact⟨by simpa[Region.lexHead]using hB,h⟩
 | o::l,k,u,a,hl,hk,inv,hB,h=>by
  have h0:ops[k]? =some o:=by simpa using(hl 0 zs).symm
  simp only[yF,Region.lexHead,yD]at hB;obtain⟨⟨hr,hf⟩,a0⟩:=hB;have Z:k<n:=by simp only[yF]at hk;omega
  have V:k∈Region.ready md ops u:=by simpa using hr
  have a1:qOp P ops C k (wpQuiet P ops C Lq l) a:=by unfold qOp;simp only[h0];exact h
  obtain⟨v,hy,hK⟩:=yieldsIn_of_qOp h0 a1;exact zH8 h0 (Region.noSelect_spec O) hs hc hn Z (fun J a' hL=>seqB_ready hL.1) l.length u a inv (Region.free_spec h0 hf) V hy
   (zGD O hs hc hn l (k+1) _ _ (fun j hj=>by have:=hl (j+1) (by simp;omega);simpa[yAS,Nat.add_comm 1 j]using this) (by simp only[yF]at hk;omega) (inv.set V Z) a0 hK)
theorem zX{id:Nat}(n:Nat)(C:World->Prop)(hm:P.follows .mixedOrders=true)(hB:Region.lexTailB .any l.toArray n=true)(hC:C w.drew)
  (h:wpQuiet P l.toArray C (fun a'=>∀w',C w'->wpList P l.toArray Q (l.drop n) a' w') (l.take n) a):(Code.region id l.toArray true).wp P Q a w:=by
 simp only[Region.lexTailB,yD,yL]at hB;obtain⟨⟨⟨⟨V,hn⟩,hs⟩,hc⟩,a0⟩:=hB;have a3:n<l.length:=(by simpa using hn);have J:(l.take n).length=n:=(by simp;omega)
 have Z:(l.drop n).length=l.toArray.size - n:=zs;have O:HeadInv .any l.toArray n (Array.replicate l.toArray.size false):=
  ⟨zs,fun j oj _ hl=>(by rw[getD_replicate_false]at hl;cases hl),fun t _ ht=>getD_in (by simpa using ht) (getD_replicate_false _ _)⟩
 have H:=zGD (md:=.any) (C:=C) (g:=l.toArray.size - n) V hs hc hn (l.take n) 0 _ a (fun j hj=>by have a2:j<n:=(by rw[J]at hj;exact hj);simp[a2]) (by simpa using J) O (by rw[J];exact a0) h;refine wp_region_any hm ?_;have:=zDn (Q':=Q) (g:=l.toArray.size - n) (fun u a' w' a1 hL=>by have:=wpAny_of_seq (md:=.any) (Q':=Q) (l.drop n) n u a' w' (fun j=>by simp[yAv]) (by rw[Z];exact hL.1) (hL.2 w' a1);rwa[Z]at this) _ _ _ _ hC H;rw[J,show n+(l.toArray.size - n)=l.toArray.size by omega]at this;exact this
end
theorem zBq(n:Int)(w:zw):Calls prog 20 #[I n] w fun e w'=>e=.returned (I n)∧w=w':=by
 go_enter func20,ntmps20;go_wp2_with fail;go_ret;exact⟨rfl,rfl⟩
end Go.Proofs.YtonfdlhikinldaaGreatDoor
