import Derived.Test.YtgelingkifafeaaGreatDoorBu04
import Derived.OwnWalk
import Derived.Test.YtgelingkifafeaaGreatDoorBu17
import Derived.Lib.SliceRun
import Derived.WalkSpells
/- frame.sum: the sum of a block, its own place left out. -/
namespace Go.Proofs.YtgelingkifafeaaGreatDoor
open Go.RowKit Go.Proofs
set_option maxRecDepth 100000
set_option linter.unusedVariables false

section
variable {P : Program}
/-- 'clear(s)', s a part of a row. -/
theorem wpList_clear_row {w : World} {ops : Array Oper} {rest : List Oper} {o : Oper} {a : Act} {Q : Exit → Act → World → Prop} (hgd : o.guard = none) (s : Operand) (t : TypeId)
    (ho : o.op = .call { callee := .builtin .clear, args := #[s], argTypes := #[t] }) (e : TypeId) (z : Value) (ht : P.underlying t = some (.slice e)) (hv : ∀ w, (zeroValue e).run P w = .ok z w) (hz : z.cells = #[z]) (h1 : z.oneCell' = true)
    (b k n c N : Nat) (f : Nat → Value) (hs : a.eval s = .slice (some ⟨b, k, none⟩) n c) (hn : 0 < n) (hk : k + n ≤ N) (hr : Row w b 0 N f)
    (h : ∀ w', Upd (· = b) w w' → w'.heap.size = w.heap.size → KdKept w w' → Row w' b 0 N (fun i => if k ≤ i ∧ i < k + n then z else f i) → wpList P ops Q rest (a.put o.dst (.tuple #[])) w') : wpList P ops Q (o :: rest) a w := by
  refine wpList_plain hgd fun K hK => ?_
  have hcl := Lib.run_clear_slice (P := P) w t e o.type z ht hv hz h1 b k n c hn (fun j hj => by have h := hr.cell (k + j) (by omega); rw [Nat.zero_add] at h; rw [h]; rfl) (fun j hj => by have h := hr.free (k + j) (by omega); rwa [Nat.zero_add] at h)
  unfold Oper.wp execOp
  simp only [ho, resolve, invoke, builtin, Sem.run_bind, Sem.run_pure, Result.andThen_ok, List.map_toArray, List.map_cons, List.map_nil, hs, hcl]
  have hh := setCells_heap (b := b) (List.replicate n z) k w
  refine hK _ _ (h _ hh.1 hh.2 (fun _ _ hk => hk.setCells _ _) ⟨fun i hi => ?_, fun i hi => by rw [World.frozen?_setCells]; exact hr.free i hi⟩)
  rw [Nat.zero_add]
  have hc := hr.cell i hi
  rw [Nat.zero_add] at hc
  by_cases hin : k ≤ i ∧ i < k + n
  · rw [if_pos hin]
    obtain ⟨j, rfl⟩ : ∃ j, i = k + j := ⟨i - k, by omega⟩
    have hj : j < (List.replicate n z).length := by rw [List.length_replicate]; omega
    rw [World.cell?_setCells_in b (List.replicate n z) k w (fun j hj => by rw [List.length_replicate] at hj; have h := hr.cell (k + j) (by omega); rw [Nat.zero_add] at h; rw [h]; rfl) j hj]; simp
  · rw [if_neg hin, World.cell?_setCells_out b (List.replicate n z) k w _ (fun _ _ => by simp; omega)]; exact hc

/-- 'a[k]' of an array by value. -/
theorem run_index_av {w : World} {t e : TypeId} {n : Nat} (f : Nat → Value) (k : Nat) (ht : P.underlying t = some (.array n e)) (hi : (P.info? e).map (·.size) = some 1) (he : ∀ w, (isAgg e).run P w = .ok false w) (hk : k < n) :
    (Instr.index t (av n f) (I k)).run P w = .ok (f k) w := by
  cases hq : P.info? e with
  | none => simp [hq] at hi
  | some i =>
    have hs : i.size = 1 := by simpa [hq] using hi
    have hb : (bc n f)[k]? = some (f k) := bc_at f hk
    simp [Instr.index, run_underlying ht, asIntOf, hk, sizeOf, typeInfo, hq, hs, part, Sem.run_bind, he, hb, go_sem]
end

theorem a170 : (Tryz.prog.info? 170).map (·.size) = some 64 := by kernel_rfl
theorem a211 : (Tryz.prog.info? 211).map (·.size) = some 4 := by kernel_rfl
theorem zu8 : ∀ W : World, (zeroValue 5).run Tryz.prog W = .ok (.int .u8 0) W := fun W => by kernel_rfl

theorem aggU8 : ∀ W : World, (isAgg 5).run Tryz.prog W = .ok false W := fun W => by kernel_rfl
/-- A word as the walk holds it. -/
abbrev W32 (c : UInt32) : Value := .int .u32 (c.toNat : Int)

theorem row_new4 (w : World) (t : TypeId) : Row (w.alloc (.cells #[.int .u8 0, .int .u8 0, .int .u8 0, .int .u8 0] t)) w.heap.size 0 4 (fun _ => .int .u8 0) := by
  refine ⟨fun i hi => ?_, fun i hi => ?_⟩
  · simp only [World.cell?, Nat.zero_add, Deep.blk_alloc_new]
    match i, hi with | 0, _ | 1, _ | 2, _ | 3, _ => rfl
  · simp only [World.frozen?, Deep.blk_alloc_new]; simp
def stepN (c : UInt32) : Nat → UInt32
  | 0 => c
  | j + 1 => Crc.step (stepN c j)
theorem wraps_u32 (n : Int) (h₀ : 0 ≤ n) (h₁ : n < 2 ^ 32) : IntKind.u32.wrap n = n := by rw [IntKind.wrap_u32]; omega
theorem u32_xor_nat (a b : Nat) (ha : a < 2 ^ 32) (hb : b < 2 ^ 32) : bits .xor .u32 (a : Int) (b : Int) = ((a ^^^ b : Nat) : Int) := by
  have hx : a ^^^ b < 2 ^ 32 := Nat.xor_lt_two_pow ha hb
  show IntKind.u32.wrap ((BitVec.ofInt 32 (a : Int) ^^^ BitVec.ofInt 32 (b : Int)).toNat : Int) = _
  rw [BitVec.toNat_xor, BitVec.toNat_ofInt, BitVec.toNat_ofInt, show ((a : Int) % ((2 ^ 32 : Nat) : Int)).toNat = a by omega, show ((b : Int) % ((2 ^ 32 : Nat) : Int)).toNat = b by omega, IntKind.wrap_u32]
  omega
theorem u32_and_nat (a b : Nat) (ha : a < 2 ^ 32) (hb : b < 2 ^ 32) : bits .and .u32 (a : Int) (b : Int) = ((a &&& b : Nat) : Int) := (bits_nat .u32 32 (by decide) wraps_u32 a b ha hb).1
theorem crc_in (c : UInt32) (b : UInt8) : (bits BinOp.xor IntKind.u32 (c.toNat : Int) ((b.toNat : Int) % 4294967296)) = ((c ^^^ b.toUInt32).toNat : Int) := by
  have hb := b.toNat_lt
  have hc := c.toNat_lt
  rw [show ((b.toNat : Int) % 4294967296) = ((b.toNat : Nat) : Int) by omega, u32_xor_nat _ _ (by omega) (by omega), UInt32.toNat_xor]
  simp
theorem crc_step (c : UInt32) : (bits BinOp.xor IntKind.u32 ((c.toNat : Int) / 2) (bits BinOp.and IntKind.u32 (c.toNat : Int) 1 * 3988292384 % 4294967296)) = ((Crc.step c).toNat : Int) := by
  have hc := c.toNat_lt
  rw [show (1 : Int) = ((1 : Nat) : Int) from rfl, u32_and_nat _ _ (by omega) (by omega)]
  have h1 : c.toNat &&& 1 = c.toNat % 2 := nat_mask1 _
  rw [show ((c.toNat : Int) / 2) = ((c.toNat / 2 : Nat) : Int) by omega, show (((c.toNat &&& 1 : Nat) : Int) * 3988292384 % 4294967296) = (((c.toNat &&& 1) * 3988292384 % 4294967296 : Nat) : Int) by omega, u32_xor_nat _ _ (by omega) (by omega)]
  unfold Crc.step
  rw [UInt32.toNat_xor, UInt32.toNat_mul, UInt32.toNat_and, UInt32.toNat_shiftRight]
  congr 2
theorem crc_out (x : Nat → UInt8) : Value.agg #[.int .u8 (bits .xor .u32 IntKind.u32.max ((Crc.run 4294967295 (Crc.bare x) 64).toNat : Int) / 16777216 % 256), .int .u8 (bits .xor .u32 IntKind.u32.max ((Crc.run 4294967295 (Crc.bare x) 64).toNat : Int) / 65536 % 256),
    .int .u8 (bits .xor .u32 IntKind.u32.max ((Crc.run 4294967295 (Crc.bare x) 64).toNat : Int) / 256 % 256), .int .u8 (bits .xor .u32 IntKind.u32.max ((Crc.run 4294967295 (Crc.bare x) 64).toNat : Int) % 256)] = av 4 (rb (Crc.sumB x)) := by
  have hn : bits .xor .u32 IntKind.u32.max ((Crc.run 4294967295 (Crc.bare x) 64).toNat : Int) = ((Crc.sum x).toNat : Int) := by
    unfold Crc.sum
    generalize Crc.run 4294967295 (Crc.bare x) 64 = c
    have hc := c.toNat_lt
    rw [show IntKind.u32.max = ((4294967295 : Nat) : Int) by decide, u32_xor_nat _ _ (by omega) (by omega), UInt32.toNat_not]
    congr 1
    apply Nat.eq_of_testBit_eq
    intro i
    rw [show UInt32.size - 1 - c.toNat = 2 ^ 32 - (c.toNat + 1) by simp [UInt32.size], Nat.testBit_two_pow_sub_succ (by omega), Nat.testBit_xor, show (4294967295 : Nat) = 2 ^ 32 - 1 by decide, Nat.testBit_two_pow_sub_one]
    by_cases hi : i < 32
    · simp [hi]
    · have h2 : c.toNat.testBit i = false := Nat.testBit_lt_two_pow (Nat.lt_of_lt_of_le (by omega : c.toNat < 2 ^ 32) (Nat.pow_le_pow_right (by omega) (by omega)))
      simp [hi, h2]
  rw [hn]
  generalize hs : Crc.sum x = s
  have h : ∀ j, j < 4 → B (Crc.sumB x j) = .int .u8 ((s.toNat / 2 ^ (24 - 8 * j) % 256 : Nat) : Int) := by
    intro j hj
    unfold Crc.sumB
    rw [hs]
    match j, hj with
    | 0, _ | 1, _ | 2, _ | 3, _ => simp [B, Nat.shiftRight_eq_div_pow]
  show _ = Value.agg #[B (Crc.sumB x 0), B (Crc.sumB x 1), B (Crc.sumB x 2), B (Crc.sumB x 3)]
  rw [h 0 (by omega), h 1 (by omega), h 2 (by omega), h 3 (by omega)]
  simp
set_option maxHeartbeats 400000 in
theorem sum_any (x : Nat → UInt8) (w : World) : Calls Tryz.prog 79 #[av 64 (rb x)] w fun e w' => e = .returned (av 4 (rb (Crc.sumB x))) ∧ Below w.heap.size w w' := by
  have HB := Lib.hid (((Below.refl w.heap.size w).alloc (Nat.le_refl _) (.cells (bc 64 (rb x)) 170)).alloc (by simp) (.cells #[.int .u8 0, .int .u8 0, .int .u8 0, .int .u8 0] 211))
  have HV := Lib.hid (show Row ((w.alloc (.cells (bc 64 (rb x)) 170)).alloc (.cells #[.int .u8 0, .int .u8 0, .int .u8 0, .int .u8 0] 211)) (w.heap.size + 1) 0 4 (fun _ => .int .u8 0) from by have h := row_new4 (w.alloc (.cells (bc 64 (rb x)) 170)) 211; rwa [World.size_alloc] at h)
  have HR := Lib.hid ((Row.box w 64 (rb x) 170).alloc (.cells #[.int .u8 0, .int .u8 0, .int .u8 0, .int .u8 0] 211))
  go_enter Tryz.func79, Tryz.ntmps79
  go_upto_region 1 with fail
  generalize ((w.alloc (.cells (bc 64 (rb x)) 170)).alloc (.cells #[.int .u8 0, .int .u8 0, .int .u8 0, .int .u8 0] 211)) = W0 at *
  go_upto_region 3 with (refine wpList_clear_row rfl (.tmp 6) 49 rfl 5 (.int .u8 0) Tryz.underlying49 zu8 rfl rfl w.heap.size 10 4 54 64 _ rfl (by omega) (by omega) HR.out ?_; intro w1 hu1 hs1 hk1 hr1)
  have HV1 := Lib.hid (HV.out.upd hu1 (fun _ => by simp))
  have HR1 := Lib.hid (hr1.congr (g := rb (Crc.bare x)) fun i hi => by unfold Crc.bare rb; dsimp only; split <;> simp [B])
  have HB1 := Lib.hid (Below.upd HB.out hu1 (fun _ h => h ▸ Nat.le_refl _) (by have := HB.out.size; omega))
  clear hu1 hs1 hk1 hr1 HB HR HV
  go_wp2_with (refine wpList_load_rd rfl 170 (.tmp 1) rfl rfl HR1.out.rd Tryz.underlying170 rfl a170 ?_)
  go_loopg [3, 8] 64 (fun g c i wr => ∃ k : Nat, g = 64 - k ∧ k ≤ 64 ∧ c = W32 (Crc.run 4294967295 (Crc.bare x) k) ∧ i = I k ∧ wr = w1)
  case atStart => exact ⟨0, rfl, by omega, rfl, rfl, rfl⟩
  case round =>
    obtain ⟨k, rfl, hk, rfl, rfl, rfl⟩ := hrel
    by_cases hlt : k < 64
    · have hix := fun w => run_index_av (P := Tryz.prog) (w := w) (rb (Crc.bare x)) k Tryz.underlying170 sizeU8 aggU8 hlt
      obtain ⟨c, hc⟩ : ∃ c, c = Crc.run 4294967295 (Crc.bare x) k := ⟨_, rfl⟩
      rw [← hc]
      have HC := Lib.hid hc
      clear hc
      go_wp2_with fail
      go_loopg [3, 15] 8 (fun g v i wz => ∃ (j : Nat), g = 8 - j ∧ j ≤ 8 ∧ v = W32 (stepN (c ^^^ (Crc.bare x k).toUInt32) j) ∧ i = I j ∧ wz = wr)
      case atStart => exact ⟨0, rfl, by omega, by rw [crc_in]; rfl, rfl, rfl⟩
      case round =>
        obtain ⟨j, rfl, hj, rfl, rfl, rfl⟩ := hrel
        by_cases hj8 : j < 8
        · go_wp2_with fail
          go_roundg (8 - (j + 1))
          case measure => omega
          case rel => exact ⟨j + 1, rfl, by omega, by rw [crc_step]; rfl, by go_num, rfl⟩
        · obtain rfl : j = 8 := by omega
          go_wp2_with fail
          go_roundg (64 - (k + 1))
          case measure => omega
          case rel => exact ⟨k + 1, rfl, by omega, by rw [HC.out]; rfl, by go_num, rfl⟩
    · obtain rfl : k = 64 := by omega
      go_wp2_with (refine wpList_store_row' (g := rb (Crc.sumB x)) rfl 211 (.tmp 2) (.tmp 38) rfl rfl ?hy HV1.out a211 (fun _ _ => rfl) ?_; case hy => exact crc_out x)
      have hs := HV1.out.stored (g := rb (Crc.sumB x))
      have hu := (setCells_heap (b := w.heap.size + 1) ((List.range 4).map (rb (Crc.sumB x))) 0 wr).1
      refine bodyPost_ret (v := av 4 (rb (Crc.sumB x))) (results_cell_rd Tryz.results79 rfl hs.rd Tryz.underlying211 rfl a211) rfl ⟨rfl, Below.upd HB1.out hu (fun _ h => by omega) HB1.out.size⟩
end Go.Proofs.YtgelingkifafeaaGreatDoor
