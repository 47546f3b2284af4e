import Derived.Test.YtonfdlhikinldaaGreatDoorZb
set_option maxRecDepth 100000
set_option linter.all false
set_option linter.unusedVariables false
set_option maxHeartbeats 16000000
namespace Crc
def step(c:UInt32):UInt32:=(c >>> 1)^^^((c &&& 1)*0xedb88320)
def zUZ(c:UInt32):UInt32:=step (step (step (step (step (step (step (step c)))))))
def zU0(c:UInt32)(x:UInt8):UInt32:=zUZ (c^^^x.toUInt32)
def run(c:UInt32)(x:Nat->UInt8):Nat->UInt32
 | 0=>c
 | k+1=>zU0 (run c x k) (x k)
def bare(x:Nat->UInt8):Nat->UInt8:=fun i=>if 10≤i∧i<14 then 0 else x i
def sum(x:Nat->UInt8):UInt32:= ~~~ (run 4294967295 (bare x) 64)
def sumB(x:Nat->UInt8)(i:Nat):UInt8:=if i=0 then((sum x) >>> 24).toUInt8 else if i=1 then((sum x) >>> 16).toUInt8 else if i=2 then((sum x) >>> 8).toUInt8 else(sum x).toUInt8
end Crc
namespace Frm
structure Frm where
 kind:UInt8
 shard:Nat
 seq:Nat
 data:Nat->UInt8
def bare(f:Frm):Nat->UInt8:=fun i=>
 if i=0 then f.kind else if i=1 then UInt8.ofNat f.shard else if i<10 then UInt8.ofNat (f.seq / 2^(56 - 8*(i - 2)))else if i<20 then 0 else f.data (i - 20)
def blk(f:Frm):Nat->UInt8:=fun i=>if 10≤i∧i<14 then Crc.sumB (bare f) (i - 10)else bare f i
def seqOf(x:Nat->UInt8):Nat->Nat
 | 0=>0
 | i+1=>(seqOf x i*256+(x (2+i)).toNat) % 2^64
def read(x:Nat->UInt8):Frm:=⟨x 0,(x 1).toNat,seqOf x 8,fun i=>x (i+20)⟩
def okB(x:Nat->UInt8):Bool:=(List.range 4).all (fun j=>x (10+j)==Crc.sumB x j)&&decide (x 0≠0)
end Frm
