import Derived.Lib.Hide
import Derived.Below
import Derived.KernelRfl
namespace Lin
end Lin
namespace Go.Proofs.Tryz
end Go.Proofs.Tryz
namespace Go.Proofs.YtonfdlhikinldaaGreatDoor
open Go
set_option linter.unusedVariables false
theorem zz {p:Prop}(h:p):RowKit.Hid p:=Lib.hid h
theorem _root_.Go.RowKit.Hid.o {p:Prop}(h:RowKit.Hid p):p:=h.out
theorem zy (p:Prop)(h:p):RowKit.Hid p:=Lib.hid h
instance(w:World):CoeDep World w Nat:=⟨w.heap.size⟩
instance(w:World):CoeDep World w Addr:=⟨⟨w.heap.size,0,none⟩⟩
instance(w:World):CoeDep World w (Option Addr):=⟨some ⟨w.heap.size,0,none⟩⟩
instance(w:World):CoeDep World w Value:=⟨.pointer (some ⟨w.heap.size,0,none⟩)⟩
instance(b:Nat):CoeDep Nat b Addr:=⟨⟨b,0,none⟩⟩
instance(b:Nat):CoeDep Nat b (Option Addr):=⟨some ⟨b,0,none⟩⟩
instance(b:Nat):CoeDep Nat b Value:=⟨.pointer (some ⟨b,0,none⟩)⟩
instance(b i:Nat):CoeDep (Nat×Nat) (b,i) Addr:=⟨⟨b,i,none⟩⟩
instance(w:World)(i:Nat):CoeDep (World×Nat) (w,i) Addr:=⟨⟨w.heap.size,i,none⟩⟩
theorem zo {p:Prop}(h:p:=by omega):p:=h
theorem zd {p:Prop}(h:p:=by decide):p:=h
theorem zs {p:Prop}(h:p:=by simp):p:=h
theorem zk {p:Prop}(h:p:=by kernel_rfl):p:=h
abbrev zp(b:Nat):Option Addr:=some ⟨b,0,none⟩
abbrev zw:=World
theorem zx {α:Sort _}(a:α):∃x,x=a:=⟨a,rfl⟩
abbrev ya:=@List.setIfInBounds_toArray
abbrev yb:=@Nat.le_refl
abbrev yc:=@Nat.zero_add
abbrev yd:=@List.set_cons_zero
abbrev ye:=@List.set_cons_succ
abbrev yg:=@List.getD_eq_getElem?_getD
abbrev yh:=@Go.RowKit.Below.refl
abbrev yi:=@List.getElem?_cons_succ
abbrev yj:=@List.getElem?_cons_zero
abbrev yk:=@Go.World.cell?_of_block
abbrev yl:=@if_neg
abbrev ym:=@List.filterMap_cons
abbrev yo:=@List.filterMap_nil
abbrev yp:=@Array.getElem?_eq_some_iff
abbrev yq:=@if_pos
abbrev yr:=@And.intro
abbrev yt:=@Go.World.block_lt_of_cell?
abbrev yu:=@List.drop_succ_cons
abbrev yw:=@Go.World.size_alloc
abbrev yx:=@List.getElem?_eq_getElem
abbrev yy:=@List.take_succ_cons
abbrev yz:=@List.drop_zero
abbrev yA:=@decide_eq_false
abbrev yB:=@List.length_append
abbrev yC:=@Nat.le_trans
abbrev yD:=@Bool.and_eq_true
abbrev yE:=@List.take_zero
abbrev yF:=@List.length_cons
abbrev yG:=@decide_eq_true
abbrev yH:=@List.length_map
abbrev yI:=@Nat.lt_of_lt_of_le
abbrev yJ:=@List.mem_singleton
abbrev yK:=@List.length_nil
abbrev yL:=@decide_eq_true_eq
abbrev yM:=@Nat.pow_le_pow_right
abbrev yN:=@Array.replicate_zero
abbrev yO:=@Array.replicate_succ
abbrev yP:=@List.map_append
abbrev yQ:=@List.getElem?_append_left
abbrev yR:=@List.length_take
abbrev yS:=@Go.Sem.run_bind
abbrev yT:=@List.append_toArray
abbrev yU:=@List.mem_cons_of_mem
abbrev yV:=@List.mem_cons
abbrev yW:=@List.all_eq_true
abbrev yX:=@List.size_toArray
abbrev yY:=@List.map_congr_left
abbrev yZ:=@List.length_singleton
abbrev yAa:=@List.getElem?_toArray
abbrev yAb:=@List.cons_append
abbrev yAc:=@List.mem_cons_self
abbrev yAd:=@List.push_toArray
abbrev yAe:=@List.nil_append
abbrev yAf:=@trivial
abbrev yAg:=@Go.bodyPost_ret
abbrev yAh:=@List.append_assoc
abbrev yAi:=@List.getElem_cons_zero
abbrev yAj:=@List.getElem_cons_succ
abbrev yAk:=@Nat.add_zero
abbrev yAl:=@UInt8.toNat_ofNat'
abbrev yAm:=@Nat.add_sub_cancel_left
abbrev yAn:=@List.mem_map
abbrev yAo:=@List.getElem_mem
abbrev yAp:=@List.getElem_toArray
abbrev yAq:=@List.mem_range
abbrev yAr:=@List.mem_append
abbrev yAs:=@Go.Result.andThen_ok
abbrev yAt:=@Option.isSome_iff_exists
abbrev yAu:=@List.getElem?_take
abbrev yAv:=@List.getElem?_drop
abbrev yAw:=@Go.Sem.run_pure
abbrev yAx:=@Nat.pow_lt_pow_right
abbrev yAy:=@Int.toNat_natCast
abbrev yAz:=@Nat.mod_eq_of_lt
abbrev yAA:=@List.length_drop
abbrev yAB:=@UInt8.toNat.inj
abbrev yAC:=@List.getElem?_append_right
abbrev yAD:=@List.take_length
abbrev yAE:=@Go.World.size_setCell
abbrev yAF:=@Nat.eq_zero_or_pos
abbrev yAG:=@Int.natCast_nonneg
abbrev yAH:=@Nat.testBit_two_pow
abbrev yAI:=@Nat.testBit_or
abbrev yAJ:=@Nat.mul_le_mul
abbrev yAK:=@List.getElem?_eq_some_iff
abbrev yAL:=@List.flatMap_append
abbrev yAM:=@Nat.mod_lt
abbrev yAN:=@Array.getElem?_setIfInBounds
abbrev yAO:=@Nat.zero_le
abbrev yAP:=@Nat.div_le_self
abbrev yAQ:=@List.append_nil
abbrev yAR:=@Go.DataW.trod_int
abbrev yAS:=@Nat.add_assoc
abbrev yAT:=@List.map_cons
abbrev yAU:=@beq_eq_false_iff_ne
abbrev yAV:=@of_decide_eq_true
abbrev yAW:=@Nat.mul_comm
abbrev yAX:=@Classical.choose_spec
abbrev yAY:=@Go.run_underlying
abbrev yAZ:=@Nat.zero_mul
abbrev yBa:=@if_true
abbrev yBb:=@List.takeWhile_cons
abbrev yBc:=@List.getElem?_map
abbrev yBd:=@List.flatMap_cons
abbrev yBe:=@Go.World.cell?_setCell_other
abbrev yBf:=@Nat.shiftRight_eq_div_pow
abbrev yBg:=@List.drop_eq_getElem_cons
abbrev yBh:=@Option.some.inj
abbrev yBi:=@List.map_nil
abbrev yBj:=@Nat.xor_lt_two_pow
abbrev yBk:=@Nat.lt_of_le_of_lt
abbrev yBl:=@Go.cell_of_row
abbrev yBm:=@Go.World.cell?_alloc_lt
abbrev yBn:=@Nat.mul_le_mul_right
abbrev yBo:=@Ne.symm
abbrev yBp:=@List.length_eq_zero_iff
abbrev yBq:=@Int.eq_ofNat_of_zero_le
abbrev yBr:=@Nat.le_succ_of_le
abbrev yBs:=@List.foldl_append
abbrev yBt:=@UInt8.toNat_xor
abbrev yBu:=@Nat.div_add_mod
abbrev yBv:=@List.getElem_of_mem
abbrev yBw:=@Array.length_toList
abbrev yBx:=@congrArg
abbrev yBy:=@Nat.testBit_lt_two_pow
abbrev yBz:=@List.getElem_map
abbrev yBA:=@Go.results_none
abbrev yBB:=@List.take_append_drop
abbrev yBC:=@List.getElem?_eq_none
abbrev yBD:=@Array.getElem?_modify
abbrev yBE:=@Array.getElem?_eq_getElem
abbrev yBF:=@Nat.eq_of_testBit_eq
abbrev yBG:=@List.mem_of_mem_take
abbrev yBH:=@List.mem_append_left
abbrev yBI:=@List.length_eraseIdx
abbrev yBJ:=@Nat.or_lt_two_pow
abbrev yBK:=@List.mem_of_mem_eraseIdx
end Go.Proofs.YtonfdlhikinldaaGreatDoor
