import Derived.Test.YtgelingkifafeaaGreatDoorBu24
import Derived.Test.YtgelingkifafeaaGreatDoorBu06
import Derived.ArgAppend
import Derived.Laws.IdiomStrings
/- Numbers in bytes. -/
namespace Go.Proofs.YtgelingkifafeaaGreatDoor
open Go Go.RowKit Go.Proofs
set_option maxRecDepth 100000
set_option linter.unusedVariables false

abbrev bs' (x : Nat → UInt8) : Nat → Value := fun i => B (x i)
/-- Byte i of a number in k bytes. -/
def numB (n k i : Nat) : UInt8 := UInt8.ofNat (n / 2 ^ (8 * (k - 1 - i)))
/-- A row, then another one. -/
def thenB (n : Nat) (x y : Nat → UInt8) : Nat → UInt8 := fun i => if i < n then x i else y (i - n)

set_option maxHeartbeats 400000 in
theorem number_any (base : Nat) (v : Value) (n : Nat) (x : Nat → UInt8) (q k : Nat) (w : World) (hv : Vc w base 5 v n (rb x)) (hq : q < 2 ^ 64) (hk : k ≤ 8) (hn : n ≤ 1000000) (hb : base ≤ w.heap.size) :
    Calls Tryz.prog 58 #[v, U64 q, I k] w fun e w' => ∃ v', e = .returned v' ∧ Vc w' base 5 v' (n + k) (rb (thenB n x (numB q k))) ∧ Below base w w' := by
  have HV := Lib.hid hv
  obtain ⟨va, vb, vc, rfl, _⟩ := hv.shape
  clear hv
  go_enter Tryz.func58, Tryz.ntmps58
  go_wp2_with fail
  go_loopg [0, 7] k (fun g v i wr => ∃ j : Nat, g = k - j ∧ j ≤ k ∧ i = I ((k : Int) - 1 - j) ∧ Vc wr base 5 v (n + j) (rb (thenB n x (numB q k))) ∧ Below base w wr)
  case atStart => exact ⟨0, rfl, by omega, by simp, HV.out.congr fun i hi => by unfold thenB rb; simp [hi], Below.refl _ _⟩
  case round =>
    obtain ⟨j, rfl, hj, rfl, hv, hbw⟩ := hrel
    have HV1 := Lib.hid hv
    have HB1 := Lib.hid hbw
    have hsz := hbw.size
    obtain ⟨ra, rbk, rc, rfl, _⟩ := hv.shape
    clear hv hbw
    by_cases hlt : j < k
    · have hge : decide ((0 : Int) ≤ (k : Int) - 1 - j) = true := decide_eq_true (by omega)
      obtain ⟨r, hr⟩ : ∃ r : Nat, (k : Int) - 1 - j = (r : Int) := ⟨k - 1 - j, by omega⟩
      have hr2 : r = k - 1 - j := by omega
      rw [hr] at hge ⊢
      go_wp2_with (refine wpList_append_one rfl (.tmp 14) (.tmp 20) 49 rfl base 5 (.int .u8 0) 1 Tryz.underlying49 infoU8 rfl _ (n + j) _ rfl HV1.out _ _ rfl rfl (by omega) (by omega) (by omega) ?_; intro v3 w4 hv3 hu3; have HV3 := Lib.hid hv3; have HU3 := Lib.hid (Below.upd HB1.out hu3 (fun t ht => (HV1.out.lt t ht.symm).1) (by omega)); clear hv3 hu3; simp only [Act.put, List.setIfInBounds_toArray, List.set_cons_succ, List.set_cons_zero])
      go_roundg (k - (j + 1))
      case measure => omega
      case rel => exact ⟨j + 1, rfl, by omega, by simp; omega, by
        refine HV3.out.congr fun i hi => ?_
        by_cases h2 : i < n + j
        · rw [if_pos h2]
        · rw [if_neg h2]
          have : i = n + j := by omega
          subst this
          unfold thenB rb numB
          dsimp only
          rw [if_neg (by omega), Nat.add_sub_cancel_left]
          simp [B], HU3.out⟩
    · obtain rfl : k = j := by omega
      have hge : decide ((0 : Int) ≤ (k : Int) - 1 - k) = false := decide_eq_false (by omega)
      obtain ⟨r, hr⟩ : ∃ r : Int, (k : Int) - 1 - k = r := ⟨_, rfl⟩
      rw [hr] at hge ⊢
      go_wp2_with fail
      go_ret
      exact ⟨_, rfl, HV1.out, HB1.out⟩

/-- A number of so many bytes. -/
def ofB (x : Nat → UInt8) : Nat → Nat
  | 0 => 0
  | i + 1 => (ofB x i * 256 + (x i).toNat) % 2 ^ 64

set_option maxHeartbeats 400000 in
theorem ofBytes_any (a : Option Addr) (b o n c : Nat) (x : Nat → UInt8) (w : World) (ha : 0 < n → a = some ⟨b, o, none⟩) (hr : Rd w b o n (rb x)) (hn : n ≤ 1000000) :
    Calls Tryz.prog 71 #[.slice a n c] w fun e w' => e = .returned (U64 (ofB x n)) ∧ w' = w := by
  have HA := Lib.hid ha
  have HR := Lib.hid hr
  clear ha hr
  go_enter Tryz.func71, Tryz.ntmps71
  go_wp2_with fail
  go_loopg [3, 8] n (fun g v i wr => ∃ k : Nat, g = n - k ∧ k ≤ n ∧ v = U64 (ofB x k) ∧ i = I k ∧ wr = w)
  case atStart => exact ⟨0, rfl, by omega, rfl, rfl, rfl⟩
  case round =>
    obtain ⟨k, rfl, hk, rfl, rfl, rfl⟩ := hrel
    by_cases hlt : k < n
    · obtain rfl := HA.out (by omega)
      have c0 : wr.cell? ⟨b, o + k, none⟩ = some (B (x k)) := HR.out k hlt
      go_wp2_with fail
      rw [seq_or _ _ (x k).toNat_lt]
      go_roundg (n - (k + 1))
      case measure => omega
      case rel => exact ⟨k + 1, rfl, by omega, rfl, by go_num, rfl⟩
    · obtain rfl : n = k := by omega
      go_wp2_with fail
      go_ret
      exact ⟨rfl, rfl⟩
end Go.Proofs.YtgelingkifafeaaGreatDoor

/- A head's bytes, and what bytes tell of one. -/
namespace Go.Proofs.YtgelingkifafeaaGreatDoor
open Go Go.RowKit Go.Proofs
set_option maxRecDepth 100000
set_option linter.unusedVariables false

structure Hd where
  seq : Nat
  D : Nat
  L : Nat
  G : Nat
  size : Nat
  fb : Nat
  fs : Nat
def markB (i : Nat) : UInt8 := ([115, 116, 114, 105, 112, 101, 115, 49] : List UInt8).getD i 0
def Hd.row (h : Hd) : Nat → UInt8 := thenB 19 (thenB 15 (thenB 11 (fun i => if i < 8 then markB i else if i = 8 then UInt8.ofNat h.D else if i = 9 then UInt8.ofNat h.L else UInt8.ofNat h.G) (numB h.size 4)) (numB h.fb 4)) (numB h.fs 8)
/-- The bytes of a head, in a frame. -/
def Hd.bytes (h : Hd) : Nat → UInt8 := fun i => if i < 27 then h.row i else 0
abbrev hv (h : Hd) : Value := .agg #[U64 h.seq, I h.D, I h.L, I h.G, I h.size, I h.fb, U64 h.fs]

theorem Vc.lit (w : World) (base e : Nat) (cs : List Value) (n : Nat) (f : Nat → Value) (hn : cs = (List.range n).map f) (hb : base ≤ w.heap.size) (hm : n ≤ 1000000) : Vc (w.alloc (.cells cs.toArray e)) base e (.slice (some ⟨w.heap.size, 0, none⟩) n n) n f := by
  subst hn
  refine ⟨by simp, .inr ⟨w.heap.size, n, ((List.range n).map f).toArray, rfl, hb, by rw [Deep.blk_alloc_new], Nat.le_refl _, by unfold maxLen; omega, by simp, by simp [List.take_of_length_le]⟩⟩

theorem freeze_kept (w : World) (a : Addr) (n : Nat) : (w.freeze a n).heap.size = w.heap.size ∧ Upd (· = a.block) w (w.freeze a n) ∧ ∀ p, (w.freeze a n).cell? p = w.cell? p := by
  unfold World.freeze
  split
  · exact ⟨rfl, Upd.refl _ _, fun _ => rfl⟩
  · refine ⟨by simp, ⟨rfl, rfl, rfl, by simp, fun k hk hne => ?_⟩, fun p => ?_⟩
    · simp only [Array.getElem?_modify]
      rw [if_neg (Ne.symm hne)]
    · unfold World.cell?
      simp only [Array.getElem?_modify]
      by_cases e : a.block = p.block
      · rw [if_pos e]
        cases hb : w.heap[p.block]? with
        | none => simp
        | some ob => cases ob <;> simp
      · rw [if_neg e]
/-- A constant's bytes as a slice: what lies in memory stays. -/
theorem conv_bytes (g n c : Nat) (w : World) : ∃ w', (convert 49 49 (.slice (some ⟨g, 0, none⟩) n c)).run Tryz.prog w = .ok (.slice (some ⟨g, 0, none⟩) n c) w' ∧ w'.heap.size = w.heap.size ∧ Upd (· = g) w w' ∧ ∀ p, w'.cell? p = w.cell? p := by
  have hu := Tryz.underlying49
  have h5 := Tryz.underlying5
  cases hs : w.shape? g with
  | none =>
    refine ⟨w, ?_, rfl, Upd.refl _ _, fun _ => rfl⟩
    simp [convert, run_underlying hu, run_underlying h5, markStringish, hs]
  | some x =>
    obtain ⟨f1, f2, f3⟩ := freeze_kept w ⟨g, x.2, none⟩ 1
    refine ⟨w.freeze ⟨g, x.2, none⟩ 1, ?_, f1, f2, f3⟩
    simp [convert, run_underlying hu, run_underlying h5, markStringish, hs]
theorem Row.lit (w : World) (cs : Array Value) (t : TypeId) : Row (w.alloc (.cells cs t)) w.heap.size 0 cs.size (fun i => cs.getD i (.bool false)) := by
  refine ⟨fun i hi => ?_, fun i hi => ?_⟩
  · simp only [World.cell?, Nat.zero_add, Deep.blk_alloc_new]
    simp [hi]
  · simp only [World.frozen?, Deep.blk_alloc_new]; simp
theorem three_rd (w : World) {D L G : Nat} (hD : D < 256) (hL : L < 256) (hG : G < 256) : Rd (w.alloc (.cells #[.int .u8 (D : Int), .int .u8 (L : Int), .int .u8 (G : Int)] 5)) w.heap.size 0 3 (rb fun i => if i = 0 then UInt8.ofNat D else if i = 1 then UInt8.ofNat L else UInt8.ofNat G) := fun i hi => by
  have h := (Row.lit w #[.int .u8 (D : Int), .int .u8 (L : Int), .int .u8 (G : Int)] 5).cell i hi
  rw [h]
  match i, hi with
  | 0, _ => simp [rb, B]; omega
  | 1, _ => simp [rb, B]; omega
  | 2, _ => simp [rb, B]; omega
/-- 'append(s, x...)' where there is no room: s whatever lies in memory. -/
theorem wpList_append_full {P : Program} {w : World} {ops : Array Oper} {rest : List Oper} {o : Oper} {a : Act} {Q : Exit → Act → World → Prop} (hgd : o.guard = none) (s x : Operand) (t : TypeId)
    (ho : o.op = .call { callee := .builtin .append, args := #[s, x], argTypes := #[t, t] }) (e : TypeId) (z : Value) (bytes : Nat) (ht : P.underlying t = some (.slice e)) (hinfo : (P.info? e).map (fun i => (i.zero, i.size, i.bytes)) = some (some z, 1, bytes)) (hz1 : z.cells = #[z])
    (ao : Option Addr) (b off n cap : Nat) (f : Nat → Value) (hs : a.eval s = .slice ao n cap) (hao : ao = some ⟨b, off, none⟩ ∨ ao = none ∧ n = 0 ∧ cap = 0) (hold : Rd w b off n f) (ad : Addr) (sb so m c : Nat) (g : Nat → Value) (hx : a.eval x = .slice (some ad) m c) (had : ad = ⟨sb, so, none⟩) (hsrc : Rd w sb so m g) (h1 : ∀ i, i < m → (g i).oneCell' = true)
    (hfull : cap < n + m) (h63 : n + m ≤ 1099511627776) (hby : bytes ≤ 64)
    (h : ∀ v' w', Vc w' w.heap.size e v' (n + m) (fun i => if i < n then f i else g (i - n)) → Below w.heap.size w w' → wpList P ops Q rest (a.put o.dst v') w') : wpList P ops Q (o :: rest) a w := by
  subst had
  obtain ⟨i, hi, hz, hsz, hb⟩ := info_parts hinfo
  have hadd : ∀ (b o j : Nat), (⟨b, o, none⟩ : Addr).add j = ⟨b, o + j, none⟩ := by intro b o j; unfold Addr.add; split <;> simp_all
  have hmap : (List.range (n + m)).map (fun i => if i < n then f i else g (i - n)) = (List.range n).map f ++ (List.range m).map g := by
    rw [List.range_add, List.map_append, List.map_map]
    congr 1
    · exact List.map_congr_left fun i hi => by simp at hi; simp [hi]
    · exact List.map_congr_left fun i _ => by simp [show ¬ n + i < n by omega]
  refine wpList_append_grows w hgd s x t ho e i z 1 bytes ht hi hz hsz hb (by rw [hz1]; rfl) (by decide) ao n cap ((List.range n).map f) hs (fun e => by rcases hao with h | h; rw [e] at h; cases h; exact h.2) (by simp) (fun b' hb' j u hj => ?_) ⟨sb, so, none⟩ m c ((List.range m).map g) hx (by simp) (fun j u hj => ?_)
    (fun u hu => by obtain ⟨j, hj, rfl⟩ := List.mem_map.1 hu; exact h1 j (by simpa using hj)) hfull (by unfold maxLen; omega) ?_ fun v' w' h2 h3 => h v' w' (by unfold Vc; rw [hmap]; exact h2) ⟨h3.os, h3.tape, h3.output, h3.size, fun k hk => h3.block k hk (by simp)⟩
  · rcases hao with h | h
    · rw [h] at hb'; cases hb'
      by_cases hm : j < n
      · rw [hadd, hold j hm]; simp [hm] at hj; rw [hj]
      · simp [hm] at hj
    · rw [h.1] at hb'; cases hb'
  · by_cases hm : j < m
    · rw [hadd, hsrc j hm]; simp [hm] at hj; rw [hj]
    · simp [hm] at hj
  · calc (n + m) * bytes ≤ 1099511627776 * 64 := Nat.mul_le_mul h63 hby
      _ ≤ 140737488355328 := by omega
theorem Vc.base {w : World} {B B' e n : Nat} {v : Value} {f : Nat → Value} (h : Vc w B e v n f) (hB : B' ≤ B) : Vc w B' e v n f := by
  refine ⟨h.1, ?_⟩
  rcases h.2 with hn | ⟨g, cap, cur, rfl, hb, rest⟩
  · exact .inl hn
  · exact .inr ⟨g, cap, cur, rfl, by omega, rest⟩

set_option maxHeartbeats 400000 in
theorem hdata_any (h : Hd) (hD : h.D < 256) (hL : h.L < 256) (hG : h.G < 256) (hs : h.size < 2 ^ 32) (hf : h.fb < 2 ^ 32) (hq : h.fs < 2 ^ 64) (w : World) :
    Calls Tryz.prog 39 #[hv h] w fun e w' => e = .returned (av 44 (rb h.bytes)) ∧ Below w.heap.size w w' := by
  have HB := Lib.hid ((((Below.refl w.heap.size w).alloc (Nat.le_refl _) (.cells #[U64 h.seq, I h.D, I h.L, I h.G, I h.size, I h.fb, U64 h.fs] 95)).alloc (by simp) (.cells (bc 44 zc) 127)).alloc (by simp; omega) (.cells (bc 44 zc) 127))
  have HH := Lib.hid (((Row.lit w #[U64 h.seq, I h.D, I h.L, I h.G, I h.size, I h.fb, U64 h.fs] 95).alloc (.cells (bc 44 zc) 127)).alloc (.cells (bc 44 zc) 127))
  have HV := Lib.hid (show Row (((w.alloc (.cells #[U64 h.seq, I h.D, I h.L, I h.G, I h.size, I h.fb, U64 h.fs] 95)).alloc (.cells (bc 44 zc) 127)).alloc (.cells (bc 44 zc) 127)) (w.heap.size + 1) 0 44 zc from by
    have h := (Row.box (w.alloc (.cells #[U64 h.seq, I h.D, I h.L, I h.G, I h.size, I h.fb, U64 h.fs] 95)) 44 zc 127).alloc (.cells (bc 44 zc) 127); rwa [World.size_alloc] at h)
  have HX := Lib.hid (show Row (((w.alloc (.cells #[U64 h.seq, I h.D, I h.L, I h.G, I h.size, I h.fb, U64 h.fs] 95)).alloc (.cells (bc 44 zc) 127)).alloc (.cells (bc 44 zc) 127)) (w.heap.size + 1 + 1) 0 44 zc from by
    have h := (Row.box ((w.alloc (.cells #[U64 h.seq, I h.D, I h.L, I h.G, I h.size, I h.fb, U64 h.fs] 95)).alloc (.cells (bc 44 zc) 127)) 44 zc 127); rw [World.size_alloc, World.size_alloc] at h; exact h)
  have hz : (((w.alloc (.cells #[U64 h.seq, I h.D, I h.L, I h.G, I h.size, I h.fb, U64 h.fs] 95)).alloc (.cells (bc 44 zc) 127)).alloc (.cells (bc 44 zc) 127)).heap.size = w.heap.size + 3 := by simp
  go_enter Tryz.func39, Tryz.ntmps39
  go_upto_region 2 with fail
  change Code.wp _ _ _ _ (((w.alloc (.cells #[U64 h.seq, I h.D, I h.L, I h.G, I h.size, I h.fb, U64 h.fs] 95)).alloc (.cells (bc 44 zc) 127)).alloc (.cells (bc 44 zc) 127))
  generalize ((w.alloc (.cells #[U64 h.seq, I h.D, I h.L, I h.G, I h.size, I h.fb, U64 h.fs] 95)).alloc (.cells (bc 44 zc) 127)).alloc (.cells (bc 44 zc) 127) = W3 at *
  obtain ⟨w4, hrun, hs4, hu4, hc4⟩ := conv_bytes (w.heap.size + 3) 8 8 (W3.alloc (.cells #[.int .u8 115, .int .u8 116, .int .u8 114, .int .u8 105, .int .u8 112, .int .u8 101, .int .u8 115, .int .u8 49] 5))
  have hb4 : Below W3.heap.size W3 w4 := Below.upd ((Below.refl _ W3).alloc (Nat.le_refl _) _) hu4 (fun _ h => by omega) (by simp)
  rw [World.size_alloc, hz] at hs4
  have HM := Lib.hid (show Rd w4 (w.heap.size + 3) 0 8 (rb markB) from fun i hi => by
    rw [hc4]
    have h := (Row.lit W3 #[.int .u8 115, .int .u8 116, .int .u8 114, .int .u8 105, .int .u8 112, .int .u8 101, .int .u8 115, .int .u8 49] 5).cell i hi
    rw [hz] at h; rw [h]
    match i, hi with | 0, _ | 1, _ | 2, _ | 3, _ | 4, _ | 5, _ | 6, _ | 7, _ => rfl)
  have c1 : w4.cell? ⟨w.heap.size, 1, none⟩ = some (I h.D) := (HH.out.later hb4).cell 1 (by simp)
  have c2 : w4.cell? ⟨w.heap.size, 2, none⟩ = some (I h.L) := (HH.out.later hb4).cell 2 (by simp)
  have c3 : w4.cell? ⟨w.heap.size, 3, none⟩ = some (I h.G) := (HH.out.later hb4).cell 3 (by simp)
  replace HH := Lib.hid (HH.out.later hb4)
  replace HV := Lib.hid (HV.out.later hb4)
  replace HX := Lib.hid (HX.out.later hb4)
  replace HB := Lib.hid (HB.out.trans (hb4.mono HB.out.size))
  have HS4 := Lib.hid hs4
  clear hu4 hc4 hb4 hs4
  go_upto_region 3 with (at_builtin; refine wpList_append_full rfl (.tmp 6) (.tmp 19) 49 rfl 5 (.int .u8 0) 1 Tryz.underlying49 infoU8 rfl (some ⟨w.heap.size + 3, 0, none⟩) (w.heap.size + 3) 0 8 8 (rb markB) rfl (.inl rfl) (HM.out.alloc _) _ w4.heap.size 0 3 3 (rb fun i => if i = 0 then UInt8.ofNat h.D else if i = 1 then UInt8.ofNat h.L else UInt8.ofNat h.G) rfl rfl ?h1 (fun _ _ => rfl) (by omega) (by omega) (by omega) ?_; (case h1 => exact three_rd w4 hD hL hG); intro v5 w5 hv5 hb5; simp only [Act.put, List.setIfInBounds_toArray, List.set_cons_succ, List.set_cons_zero])
  have hz5 : w4.heap.size + 1 ≤ w5.heap.size := by have := hb5.size; rwa [World.size_alloc] at this
  have hs4 := HS4.out
  have hb45 : Below w4.heap.size w4 w5 := ((Below.refl _ w4).alloc (Nat.le_refl _) _).trans (hb5.mono (by simp))
  have HV5 := Lib.hid ((hv5.base (B' := w.heap.size + 3) (by rw [World.size_alloc]; omega)).congr (g := rb fun i => if i < 8 then markB i else if i = 8 then UInt8.ofNat h.D else if i = 9 then UInt8.ofNat h.L else UInt8.ofNat h.G) fun i hi => by
    by_cases h8 : i < 8
    · simp [h8, rb]
    · rw [if_neg h8]; unfold rb; dsimp only; rw [if_neg h8]
      by_cases e8 : i = 8
      · subst e8; rfl
      · by_cases e9 : i = 9
        · subst e9; rfl
        · rw [if_neg e8, if_neg e9, if_neg (by omega), if_neg (by omega)])
  replace HH := Lib.hid (HH.out.later hb45)
  replace HV := Lib.hid (HV.out.later hb45)
  replace HX := Lib.hid (HX.out.later hb45)
  replace HB := Lib.hid (HB.out.trans (hb45.mono HB.out.size))
  have hsz5 : w.heap.size + 3 ≤ w5.heap.size := by omega
  clear hv5 hb5 hb45 hz5 hs4 HM HS4 hrun c1 c2 c3 hz
  have c4 : w5.cell? ⟨w.heap.size, 4, none⟩ = some (I h.size) := HH.out.cell 4 (by simp)
  go_upto_region 4 with (go_at_call 58; refine (number_any (w.heap.size + 3) v5 11 _ h.size 4 _ HV5.out (by omega) (by omega) (by omega) hsz5).mono ?_; rintro e w6 ⟨v6, rfl, hv6, hb6⟩)
  have HV6 := Lib.hid hv6
  replace HH := Lib.hid (HH.out.below hb6 (fun _ => by omega))
  replace HV := Lib.hid (HV.out.below hb6 (fun _ => by omega))
  replace HX := Lib.hid (HX.out.below hb6 (fun _ => by omega))
  replace HB := Lib.hid (HB.out.trans (hb6.mono (by omega)))
  have hsz6 : w.heap.size + 3 ≤ w6.heap.size := Nat.le_trans hsz5 hb6.size
  clear hv6 hb6 c4 HV5 hsz5
  have c5 : w6.cell? ⟨w.heap.size, 5, none⟩ = some (I h.fb) := HH.out.cell 5 (by simp)
  go_upto_region 5 with (go_at_call 58; refine (number_any (w.heap.size + 3) v6 15 _ h.fb 4 _ HV6.out (by omega) (by omega) (by omega) hsz6).mono ?_; rintro e w7 ⟨v7, rfl, hv7, hb7⟩)
  have HV7 := Lib.hid hv7
  replace HH := Lib.hid (HH.out.below hb7 (fun _ => by omega))
  replace HV := Lib.hid (HV.out.below hb7 (fun _ => by omega))
  replace HX := Lib.hid (HX.out.below hb7 (fun _ => by omega))
  replace HB := Lib.hid (HB.out.trans (hb7.mono (by omega)))
  have hsz7 : w.heap.size + 3 ≤ w7.heap.size := Nat.le_trans hsz6 hb7.size
  clear hv7 hb7 c5 HV6 hsz6
  have c6 : w7.cell? ⟨w.heap.size, 6, none⟩ = some (U64 h.fs) := HH.out.cell 6 (by simp)
  go_upto_region 6 with (go_at_call 58; refine (number_any (w.heap.size + 3) v7 19 _ h.fs 8 _ HV7.out hq (by omega) (by omega) hsz7).mono ?_; rintro e w8 ⟨v8, rfl, hv8, hb8⟩)
  replace HV := Lib.hid (HV.out.below hb8 (fun _ => by omega))
  replace HX := Lib.hid (HX.out.below hb8 (fun _ => by omega))
  replace HB := Lib.hid (HB.out.trans (hb8.mono (by omega)))
  have hsz8 : w.heap.size + 3 ≤ w8.heap.size := Nat.le_trans hsz7 hb8.size
  obtain ⟨va, vb, vc, rfl, hva, hvr, hvc, _⟩ := hv8.shape
  have HR8 := Lib.hid (show Rd w8 vb 0 27 (rb h.row) from hvr.rd)
  have HA8 := Lib.hid (hva (by omega))
  clear hv8 hb8 c6 HV7 hsz7 HH hva hvr
  go_upto_region 7 with (refine wpList_copy_in rfl (.tmp 37) (.tmp 38) 49 49 rfl 5 Tryz.underlying49 sizeU8 va 44 44 27 vc (w.heap.size + 1 + 1) 0 rfl rfl 27 44 vb 0 _ (rb h.row) rfl (by omega) HX.out HR8.out (fun _ => HA8.out) (fun _ _ => rfl) ?_; intro w9 hu9 hs9 hk9 hr9; simp only [Act.put, List.setIfInBounds_toArray, List.set_cons_succ, List.set_cons_zero])
  have HR9 := Lib.hid (hr9.congr (g := rb h.bytes) fun i hi => by
    unfold Hd.bytes rb
    by_cases h2 : i < 27
    · rw [if_pos (by omega)]; dsimp only; rw [if_pos h2]; rfl
    · rw [if_neg (by omega)]; dsimp only; rw [if_neg h2]; rfl)
  replace HV := Lib.hid (HV.out.upd hu9 (fun _ => by omega))
  replace HB := Lib.hid (Below.upd HB.out hu9 (fun _ h => by omega) HB.out.size)
  clear hu9 hs9 hk9 hr9 HX HR8 HA8
  go_wp2_with (first | (refine wpList_load_rd rfl 127 (.tmp 3) rfl rfl HR9.out.rd Tryz.underlying127 rfl a127 ?_; simp only [Act.put, List.setIfInBounds_toArray, List.set_cons_succ, List.set_cons_zero]) | (refine wpList_store_all (g := rb h.bytes) rfl 127 (.tmp 2) (.tmp 40) rfl rfl rfl HV.out a127 (fun _ _ => rfl) ?_; intro w10 hu10 hs10 hk10 hr10; simp only [Act.put]))
  exact bodyPost_ret (v := av 44 (rb h.bytes)) (results_cell_rd Tryz.results39 rfl hr10.rd Tryz.underlying127 rfl a127) rfl ⟨rfl, Below.upd HB.out hu10 (fun _ h => by omega) HB.out.size⟩
end Go.Proofs.YtgelingkifafeaaGreatDoor

/- What a frame tells of a head. -/
namespace Go.Proofs.YtgelingkifafeaaGreatDoor
open Go Go.RowKit Go.Proofs
set_option maxRecDepth 100000
set_option linter.unusedVariables false

def markOk (x : Nat → UInt8) : Bool := (List.range 8).all fun i => x i == markB i
def readH (f : Frm.Frm) : Hd := ⟨f.seq, (f.data 8).toNat, (f.data 9).toNat, (f.data 10).toNat, ofB (fun i => f.data (11 + i)) 4, ofB (fun i => f.data (15 + i)) 4, ofB (fun i => f.data (19 + i)) 8⟩
def isHead (f : Frm.Frm) : Bool := f.kind == 2 && markOk f.data
def hd0 : Hd := ⟨0, 0, 0, 0, 0, 0, 0⟩
def hc (h : Hd) : Nat → Value := fun i => ([U64 h.seq, I h.D, I h.L, I h.G, I h.size, I h.fb, U64 h.fs] : List Value).getD i (.bool false)
theorem hv_av (h : Hd) : hv h = av 7 (hc h) := rfl
theorem a95 : (Tryz.prog.info? 95).map (·.size) = some 7 := by kernel_rfl
theorem zHd (w : World) : (Instr.build 95 #[]).run Tryz.prog w = .ok (av 7 (hc hd0)) w := by kernel_rfl
theorem hc_one (h : Hd) (i : Nat) (hi : i < 7) : (hc h i).oneCell' = true := by
  match i, hi with
  | 0, _ | 1, _ | 2, _ | 3, _ | 4, _ | 5, _ | 6, _ => rfl

theorem addr_add' (b o j : Nat) : (⟨b, o, none⟩ : Addr).add j = ⟨b, o + j, none⟩ := by unfold Addr.add; split <;> simp_all
theorem ofB_lt (x : Nat → UInt8) : ∀ n, ofB x n < 2 ^ (8 * n)
  | 0 => by simp [ofB]
  | n + 1 => by
    have h := ofB_lt x n
    have hx := (x n).toNat_lt
    have : 2 ^ (8 * (n + 1)) = 2 ^ (8 * n) * 256 := by rw [Nat.mul_add, Nat.pow_add]
    simp only [ofB]
    have h2 : ofB x n * 256 + (x n).toNat < 2 ^ (8 * (n + 1)) := by rw [this]; omega
    exact Nat.lt_of_le_of_lt (Nat.mod_le _ _) h2

def RHIs (w : World) (f : Frm.Frm) (e : Ending) (w' : World) : Prop := e = .returned (.tuple #[if isHead f then hv (readH f) else hv hd0, .bool (isHead f)]) ∧ Below w.heap.size w w'

set_option maxHeartbeats 400000 in
theorem readHead_any (f : Frm.Frm) (w : World) : Calls Tryz.prog 67 #[fv f] w (RHIs w f) := by
  have HB := Lib.hid (((Below.refl w.heap.size w).alloc (Nat.le_refl _) (.cells (bc 47 (fc f)) 130)).alloc (by simp) (.cells (bc 7 (hc hd0)) 95))
  have HF := Lib.hid ((Row.box w 47 (fc f) 130).alloc (.cells (bc 7 (hc hd0)) 95))
  have HV := Lib.hid (show Row ((w.alloc (.cells (bc 47 (fc f)) 130)).alloc (.cells (bc 7 (hc hd0)) 95)) (w.heap.size + 1) 0 7 (hc hd0) from by have h := Row.box (w.alloc (.cells (bc 47 (fc f)) 130)) 7 (hc hd0) 95; rwa [World.size_alloc] at h)
  have hz : ((w.alloc (.cells (bc 47 (fc f)) 130)).alloc (.cells (bc 7 (hc hd0)) 95)).heap.size = w.heap.size + 2 := by simp
  go_enter Tryz.func67, Tryz.ntmps67
  go_upto_region 1 with fail
  change Code.wp _ _ _ _ ((w.alloc (.cells (bc 47 (fc f)) 130)).alloc (.cells (bc 7 (hc hd0)) 95))
  generalize (w.alloc (.cells (bc 47 (fc f)) 130)).alloc (.cells (bc 7 (hc hd0)) 95) = w0 at *
  have HD := Lib.hid (show Rd w0 w.heap.size 3 44 (rb f.data) from fun i hi => by have h := HF.out.cell (3 + i) (by omega); rwa [Nat.zero_add, fc3] at h)
  have HBX := Lib.hid (show Row (w0.alloc (.cells (bc 44 zc) 127)) (w.heap.size + 2) 0 44 zc from by have h := Row.box w0 44 zc 127; rwa [hz] at h)
  go_upto_region 2 with (first | (refine wpList_load_rd rfl 127 (.tmp 5) rfl rfl HD.out Tryz.underlying127 rfl a127 ?_; simp only [Act.put, List.setIfInBounds_toArray, List.set_cons_succ, List.set_cons_zero]) | (refine wpList_store_all (g := rb f.data) rfl 127 (.tmp 4) (.tmp 6) rfl rfl rfl HBX.out a127 (fun _ _ => rfl) ?_; intro w1 hu1 hs1 hk1 hr1; simp only [Act.put]))
  have hb1 : Below w0.heap.size w0 w1 := Below.upd ((Below.refl _ w0).alloc (Nat.le_refl _) _) hu1 (fun _ h => by omega) (by simp)
  have hs1' : w1.heap.size = w.heap.size + 3 := by rw [hs1, World.size_alloc, hz]
  replace HF := Lib.hid (HF.out.later hb1)
  replace HV := Lib.hid (HV.out.later hb1)
  replace HB := Lib.hid (HB.out.trans (hb1.mono HB.out.size))
  have HX := Lib.hid hr1
  clear hb1 hu1 hs1 hk1 hr1 HD HBX
  have c0 : w1.cell? ⟨w.heap.size, 0, none⟩ = some (B f.kind) := HF.out.cell 0 (by omega)
  by_cases hk : f.kind = 2
  · have hk0 : ((f.kind.toNat : Int) != 2) = false := by rw [hk]; rfl
    have hcs := run_convert_bytes_back (P := Tryz.prog) w1 49 9 5 ⟨w.heap.size + 2, 0, none⟩ 44 ((List.range 8).map f.data) Tryz.underlying49 Tryz.underlying5 Tryz.underlying9 (fun j hj => by
      have hj8 : j < 8 := by simpa using hj
      have h := HX.out.cell j (by omega)
      rw [Nat.zero_add] at h
      rw [addr_add', Nat.zero_add, h]
      simp [rb])
    rw [List.length_map, List.length_range] at hcs
    obtain ⟨l8, hl8⟩ : ∃ l, l = (List.range 8).map f.data := ⟨_, rfl⟩
    rw [← hl8] at hcs
    have hq1 : ((⟨l8.toArray⟩ : ByteArray).toList == (⟨#[115, 116, 114, 105, 112, 101, 115, 49]⟩ : ByteArray).toList) = markOk f.data := by
      rw [hl8, ByteArray.toList_eq, ByteArray.toList_eq]
      unfold markOk
      have key : ∀ y : Nat → UInt8, ((List.range 8).map y == (List.range 8).map markB) = (List.range 8).all fun i => y i == markB i := by
        intro y
        rw [Bool.eq_iff_iff]
        simp
      exact key f.data
    have hq2 : (l8 == [115, 116, 114, 105, 112, 101, 115, 49]) = markOk f.data := by
      rw [← hq1, ByteArray.toList_eq, ByteArray.toList_eq]
    have HL8 := Lib.hid hl8
    clear hl8
    cases hm : markOk f.data with
    | false =>
      have HI := Lib.hid (show isHead f = false by unfold isHead; simp [hm])
      rw [hm] at hq1 hq2
      clear hm
      go_wp2_with (first | (refine wpList_build rfl 95 [] rfl [] rfl _ zHd ?_; simp only [Act.put, List.setIfInBounds_toArray, List.set_cons_succ, List.set_cons_zero]) | (refine wpList_store_all (g := hc hd0) rfl 95 (.tmp 2) (.tmp 15) rfl rfl rfl HV.out a95 (fun i hi => hc_one _ i hi) ?_; intro w4 hu4 hs4 hk4 hr4; simp only [Act.put]))
      refine bodyPost_ret (v := .tuple #[av 7 (hc hd0), .bool false]) (results_cell_slot Tryz.results67 (b := w.heap.size + 1) rfl hr4.rd Tryz.underlying95 rfl a95) rfl ?_
      rw [RHIs, HI.out]
      exact ⟨rfl, Below.upd HB.out hu4 (fun _ h => by omega) HB.out.size⟩
    | true =>
      have HI := Lib.hid (show isHead f = true by unfold isHead; simp [hm, hk])
      rw [hm] at hq1 hq2
      clear hm
      go_upto_region 4 with fail
      obtain ⟨we, hwe⟩ : ∃ V, V = w1.drew := ⟨_, rfl⟩
      replace HF := Lib.hid (show Row we _ _ _ _ from hwe ▸ HF.out.drew)
      replace HX := Lib.hid (show Row we _ _ _ _ from hwe ▸ HX.out.drew)
      replace HV := Lib.hid (show Row we _ _ _ _ from hwe ▸ HV.out.drew)
      replace HB := Lib.hid (show Below w.heap.size w we from hwe ▸ (HB.out.trans ((below_drew' w1).mono HB.out.size)))
      replace hs1' : we.heap.size = w.heap.size + 3 := hwe ▸ hs1'
      obtain ⟨κ, hnk, wB, hBB, HWB⟩ := upd_worlds (· = w.heap.size + 1) we
      have HX2 := Lib.hid (fun n => (HX.out.upd (hBB n) (fun _ => by omega)).rd)
      have y2 : ∀ n, (wB n).cell? ⟨w.heap.size, 2, none⟩ = some (U64 f.seq) := fun n => by have h := (HF.out.upd (hBB n) (fun _ => by omega)).cell 2 (by omega); exact h
      have z8 : ∀ n, (wB n).cell? ⟨w.heap.size + 2, 8, none⟩ = some (B (f.data 8)) := fun n => HX2.out n 8 (by omega)
      have z9 : ∀ n, (wB n).cell? ⟨w.heap.size + 2, 9, none⟩ = some (B (f.data 9)) := fun n => HX2.out n 9 (by omega)
      have z10 : ∀ n, (wB n).cell? ⟨w.heap.size + 2, 10, none⟩ = some (B (f.data 10)) := fun n => HX2.out n 10 (by omega)
      have t8 := (f.data 8).toNat_lt; have t9 := (f.data 9).toNat_lt; have t10 := (f.data 10).toNat_lt
      have HO := Lib.hid (fun n o (k : Nat) (ho : o + k ≤ 44) => ofBytes_any (some ⟨w.heap.size + 2, o, none⟩) (w.heap.size + 2) o k (44 - o) (fun i => f.data (o + i)) (wB n) (fun _ => rfl) (fun i hi => by have h := HX2.out n (o + i) (by omega); rwa [Nat.zero_add] at h) (by omega))
      have b1 := ofB_lt (fun i => f.data (11 + i)) 4
      have b2 := ofB_lt (fun i => f.data (15 + i)) 4
      obtain ⟨S, hS⟩ : ∃ S : (Nat → Bool) → World → Prop, ∀ L V, S L V ↔ (Upd (· = w.heap.size + 1) we V ∧ Row V (w.heap.size + 1) 0 7 (if L 22 then hc (readH f) else hc hd0)) := ⟨_, fun _ _ => Iff.rfl⟩
      have HS := Lib.hid hS
      have HSn := Lib.hid (fun j (hj : j ≠ 22) L V (h : S L V) => show S (setL j L) V from (hS _ _).2 (by have h := (hS _ _).1 h; rwa [setL_ne hj]))
      refine wp_region_I S mixed0 (by kernel_rfl) (by rw [← hwe]; exact (hS _ _).2 ⟨Upd.refl _ _, HV.out⟩) ?_
      clear hwe hS hq1 hq2 c0 hcs HL8
      refine wpI_reads (C := fun V => ∃ n, V = wB n) 13 (by decide) rfl (fun L V h => HWB.out V ((HS.out _ _).1 h).1) (fun j h1 h2 => HSn.out j (by omega)) ?_
      simp only [List.drop_zero, List.take_succ_cons, List.take_zero]
      repeat (go_big_quiet_step (fail))
      refine wpQuiet_nil ?_
      simp only [Nat.zero_add]
      refine wpI_eff rfl rfl (U64 (ofB (fun i => f.data (11 + i)) 4)) ?_ ?_
      · intro L V hL _ hS
        obtain ⟨n, rfl⟩ := HWB.out V ((HS.out _ _).1 hS).1
        go_wp2_with fail
        refine (HO.out n 11 4 (by omega)).mono ?_
        rintro e w3 ⟨rfl, rfl⟩
        go_wp2_with fail
        exact ⟨rfl, HSn.out 13 (by omega) _ _ hS⟩
      simp only [Act.put, List.setIfInBounds_toArray, List.set_cons_succ, List.set_cons_zero]
      refine wpI_reads (C := fun V => ∃ n, V = wB n) 2 (by decide) rfl (fun L V h => HWB.out V ((HS.out _ _).1 h).1) (fun j h1 h2 => HSn.out j (by omega)) ?_
      simp only [List.drop_succ_cons, List.drop_zero, List.take_succ_cons, List.take_zero]
      repeat (go_big_quiet_step (fail))
      refine wpQuiet_nil ?_
      refine wpI_eff rfl rfl (U64 (ofB (fun i => f.data (15 + i)) 4)) ?_ ?_
      · intro L V hL _ hS
        obtain ⟨n, rfl⟩ := HWB.out V ((HS.out _ _).1 hS).1
        go_wp2_with fail
        refine (HO.out n 15 4 (by omega)).mono ?_
        rintro e w3 ⟨rfl, rfl⟩
        go_wp2_with fail
        exact ⟨rfl, HSn.out 16 (by omega) _ _ hS⟩
      simp only [Act.put, List.setIfInBounds_toArray, List.set_cons_succ, List.set_cons_zero]
      refine wpI_reads (C := fun V => ∃ n, V = wB n) 2 (by decide) rfl (fun L V h => HWB.out V ((HS.out _ _).1 h).1) (fun j h1 h2 => HSn.out j (by omega)) ?_
      simp only [List.drop_succ_cons, List.drop_zero, List.take_succ_cons, List.take_zero]
      repeat (go_big_quiet_step (fail))
      refine wpQuiet_nil ?_
      refine wpI_eff rfl rfl (U64 (ofB (fun i => f.data (19 + i)) 8)) ?_ ?_
      · intro L V hL _ hS
        obtain ⟨n, rfl⟩ := HWB.out V ((HS.out _ _).1 hS).1
        go_wp2_with fail
        refine (HO.out n 19 8 (by omega)).mono ?_
        rintro e w3 ⟨rfl, rfl⟩
        go_wp2_with fail
        exact ⟨rfl, HSn.out 19 (by omega) _ _ hS⟩
      simp only [Act.put, List.setIfInBounds_toArray, List.set_cons_succ, List.set_cons_zero]
      refine wpI_reads (C := fun V => ∃ n, V = wB n) 2 (by decide) rfl (fun L V h => HWB.out V ((HS.out _ _).1 h).1) (fun j h1 h2 => HSn.out j (by omega)) ?_
      simp only [List.drop_succ_cons, List.drop_zero, List.take_succ_cons, List.take_zero]
      repeat (go_big_quiet_step (fail))
      refine wpQuiet_nil ?_
      refine wpI_eff rfl rfl undef ?_ ?_
      · intro L V hL _ hS
        obtain ⟨h1, h2⟩ := (HS.out _ _).1 hS
        rw [hL] at h2
        have H1 := Lib.hid h1
        have H2 := Lib.hid h2
        clear h1 h2 hS hL y2 z8 z9 z10
        go_wp2_with (refine wpList_store_all (g := hc (readH f)) rfl 95 (.tmp 2) (.tmp 37) rfl rfl rfl H2.out a95 (fun i hi => hc_one _ i hi) ?_; intro w6 hu6 hs6 hk6 hr6; simp only [Act.put])
        exact (HS.out (setL 22 L) _).2 ⟨H1.out.trans hu6 (fun _ h _ => h), by rw [setL_eq]; exact hr6⟩
      simp only [Act.put, List.setIfInBounds_toArray, List.set_cons_succ, List.set_cons_zero]
      refine wpI_reads (C := fun V => ∃ n, V = wB n) 1 (by decide) rfl (fun L V h => HWB.out V ((HS.out _ _).1 h).1) (fun j h1 h2 => HSn.out j (by omega)) ?_
      simp only [List.drop_succ_cons, List.drop_zero, List.take_succ_cons, List.take_zero]
      repeat (go_big_quiet_step (fail))
      refine wpQuiet_nil ?_
      refine wpI_end (by decide) ?_
      intro L V hall hS
      obtain ⟨h1, h2⟩ := (HS.out _ _).1 hS
      rw [hall 22 (by decide)] at h2
      have H1 := Lib.hid h1
      have H2 := Lib.hid h2
      clear h1 h2 hS hall y2 z8 z9 z10
      go_wp2_with fail
      refine bodyPost_ret (v := .tuple #[av 7 (hc (readH f)), .bool true]) (results_cell_slot Tryz.results67 (b := w.heap.size + 1) rfl (show Row V (w.heap.size + 1) 0 7 (hc (readH f)) from by simpa using H2.out).rd Tryz.underlying95 rfl a95) rfl ?_
      rw [RHIs, HI.out]
      exact ⟨rfl, Below.upd HB.out H1.out (fun _ h => by omega) HB.out.size⟩
  · have hk0 : ((f.kind.toNat : Int) != 2) = true := by
      rw [bne_iff_ne]; intro h; exact hk (UInt8.toNat.inj (by show f.kind.toNat = 2; omega))
    have HI := Lib.hid (show isHead f = false by unfold isHead; simp [hk])
    go_wp2_with (first | (refine wpList_build rfl 95 [] rfl [] rfl _ zHd ?_; simp only [Act.put, List.setIfInBounds_toArray, List.set_cons_succ, List.set_cons_zero]) | (refine wpList_store_all (g := hc hd0) rfl 95 (.tmp 2) (.tmp 15) rfl rfl rfl HV.out a95 (fun i hi => hc_one _ i hi) ?_; intro w4 hu4 hs4 hk4 hr4; simp only [Act.put]))
    refine bodyPost_ret (v := .tuple #[av 7 (hc hd0), .bool false]) (results_cell_slot Tryz.results67 (b := w.heap.size + 1) rfl hr4.rd Tryz.underlying95 rfl a95) rfl ?_
    rw [RHIs, HI.out]
    exact ⟨rfl, Below.upd HB.out hu4 (fun _ h => by omega) HB.out.size⟩
end Go.Proofs.YtgelingkifafeaaGreatDoor
