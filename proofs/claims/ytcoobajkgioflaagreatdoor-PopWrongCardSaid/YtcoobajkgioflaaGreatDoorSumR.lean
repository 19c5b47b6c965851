/- letterboxref1.Sum and octet.Sum: the check sum of bytes. -/
import Derived.Test.YtcoobajkgioflaaGreatDoorProg
import Derived.WalkKit
import Derived.KernelRfl
import Derived.Lib.Hide
import Derived.Laws.BitsAllLaws
namespace Go.Proofs.YtcoobajkgioflaaGreatDoor
open Go.RowKit
namespace Crc
def intOf : Value → Int | .int _ q => q | _ => 0
def step (v : Nat) : Nat := if v % 2 = 1 then (v / 2) ^^^ 3988292384 else v / 2
def rounds : Nat → Nat → Nat
  | 0, v => v
  | n + 1, v => rounds n (step v)
def byte (v c : Nat) : Nat := rounds 8 (v ^^^ c)
def crc (v : Nat) (l : List Nat) : Nat := l.foldl byte v
theorem step_lt {v : Nat} (h : v < 4294967296) : step v < 4294967296 := by
  unfold step
  split
  · exact Nat.xor_lt_two_pow (n := 32) (by omega) (by decide)
  · omega
theorem rounds_succ : ∀ (n v : Nat), rounds (n + 1) v = step (rounds n v)
  | 0, v => rfl
  | n + 1, v => (rounds_succ n (step v) : rounds (n + 1) (step v) = step (rounds n (step v)))
theorem rounds_lt {v : Nat} (h : v < 4294967296) : ∀ n, rounds n v < 4294967296
  | 0 => h
  | n + 1 => by rw [rounds_succ]; exact step_lt (rounds_lt h n)
theorem crc_append (v : Nat) (l : List Nat) (c : Nat) : crc v (l ++ [c]) = byte (crc v l) c := by
  unfold crc; rw [List.foldl_append]; rfl
theorem take_snoc (l : List Nat) (k : Nat) (h : k < l.length) : l.take (k + 1) = l.take k ++ [l.getD k 0] := by
  rw [List.take_succ_eq_append_getElem h]; simp [h]
theorem xor_lt {a b : Nat} (ha : a < 4294967296) (hb : b < 4294967296) : a ^^^ b < 4294967296 := Nat.xor_lt_two_pow (n := 32) ha hb
theorem xor32 {a b : Nat} (ha : a < 4294967296) (hb : b < 4294967296) : bits .xor .u32 (a : Int) (b : Int) = ((a ^^^ b : Nat) : Int) := u32_xor_nat a b ha hb
theorem ret_u32 {a b : Int} (h : a = b) : Value.int .u32 a = .int .u32 b := by rw [h]
theorem max32 (T : Nat) (hT : T < 4294967296) : bits .xor .u32 IntKind.u32.max (T : Int) = ((4294967295 ^^^ T : Nat) : Int) := by
  have : IntKind.u32.max = ((4294967295 : Nat) : Int) := by decide
  rw [this]; exact xor32 (by decide) hT

theorem ref_sum (b off cap : Nat) (zs : List Nat) (w : World) (hmax : zs.length ≤ 9223372036854775807)
    (hc : ∀ j, j < zs.length → w.cell? ⟨b, off + j, none⟩ = some (.int .u8 ((zs.getD j 0 : Nat) : Int))) (hb : ∀ j : Nat, zs.getD j 0 ≤ 255) :
    Calls Tryz.prog 211 #[.slice (some ⟨b, off, none⟩) zs.length cap] w fun e w' => e = .returned (.int .u32 ((4294967295 ^^^ crc 4294967295 zs : Nat) : Int)) ∧ w = w' := by
  go_enter Tryz.func211, Tryz.ntmps211
  go_wp2
  go_loop [3, 4] (fun v i => ∃ (k : Nat) (T : Nat), k ≤ zs.length ∧ i = .int .i64 k ∧ v = .int .u32 T ∧ T < 4294967296 ∧ T = crc 4294967295 (zs.take k)) (fun _ i => zs.length - (intOf i).toNat)
  case atStart => exact ⟨0, 4294967295, by omega, rfl, rfl, by omega, rfl⟩
  case round =>
    obtain ⟨k, T, hk, rfl, rfl, hT, hTc⟩ := hrel
    have HT : Hid (T = crc 4294967295 (zs.take k)) := hTc
    clear hTc
    by_cases hlt : k < zs.length
    · have hcell : w.cell? ⟨b, off + k, none⟩ = some (.int .u8 ((zs.getD k 0 : Nat) : Int)) := hc k (by omega)
      have hbk := hb k
      have HS : Hid (zs.take (k + 1) = zs.take k ++ [zs.getD k 0]) := take_snoc zs k hlt
      clear hc hb
      generalize zs.getD k 0 = c at hcell hbk HS
      have hx : bits .xor .u32 (T : Int) (c : Int) = ((T ^^^ c : Nat) : Int) := xor32 hT (by omega)
      have hxl : T ^^^ c < 4294967296 := xor_lt hT (by omega)
      have HX : Hid (bits .xor .u32 (T : Int) (c : Int) = ((T ^^^ c : Nat) : Int)) := hx
      clear hx
      go_wp2
      go_loop [3, 5] (fun v i => ∃ (m : Nat) (U : Nat), m ≤ 8 ∧ i = .int .i64 m ∧ v = .int .u32 U ∧ U < 4294967296 ∧ U = rounds m (T ^^^ c)) (fun _ i => 8 - (intOf i).toNat)
      case atStart =>
        refine ⟨0, T ^^^ c, by omega, rfl, ?_, hxl, rfl⟩
        have : ((c : Int) % 4294967296) = c := by omega
        first | rw [HX.out] | (rw [this, HX.out])
      case round =>
        obtain ⟨m, U, hm, rfl, rfl, hU, hUc⟩ := hrel
        have HU : Hid (U = rounds m (T ^^^ c)) := hUc
        clear hUc
        have HA : Hid (bits .and .u32 (U : Int) 1 = ((U % 2 : Nat) : Int)) := by
          have := u32_and_nat U 1 hU (by decide)
          rw [Nat.and_one_is_mod] at this
          exact Lib.hid this
        by_cases hm8 : m < 8
        · by_cases hodd : U % 2 = 1
          · have hx2 : bits .xor .u32 ((U : Int) / 2) 3988292384 = (((U / 2) ^^^ 3988292384 : Nat) : Int) := by
              have := xor32 (a := U / 2) (b := 3988292384) (by omega) (by decide)
              rw [← this]; simp
            have HX2 : Hid (bits .xor .u32 ((U : Int) / 2) 3988292384 = (((U / 2) ^^^ 3988292384 : Nat) : Int)) := hx2
            clear hx2
            go_wp2
            · go_round
              case rel =>
                refine ⟨m + 1, (U / 2) ^^^ 3988292384, by omega, by go_num, ret_u32 HX2.out, xor_lt (by omega) (by decide), ?_⟩
                rw [rounds_succ, ← HU.out, step, if_pos hodd]
              case measure => simp [intOf]; omega
            · exfalso; rename_i h; rw [HA.out, hodd] at h; exact absurd h (by decide)
          · go_wp2
            · exfalso; rename_i h; rw [HA.out, show U % 2 = 0 by omega] at h; exact absurd h (by decide)
            · go_round
              case rel =>
                refine ⟨m + 1, U / 2, by omega, by go_num, ret_u32 (by omega), by omega, ?_⟩
                rw [rounds_succ, ← HU.out, step, if_neg hodd]
              case measure => simp [intOf]; omega
        · go_wp2
          go_round
          case rel =>
            refine ⟨k + 1, U, by omega, by go_num, rfl, hU, ?_⟩
            have : m = 8 := by omega
            subst this
            rw [HS.out, crc_append, ← HT.out, byte, ← HU.out]
          case measure => simp [intOf]; omega
    · go_wp2
      go_ret
      have : k = zs.length := by omega
      subst this
      refine ⟨?_, rfl⟩
      have HT2 := HT.out
      rw [List.take_length] at HT2
      have e1 := max32 T hT
      rw [HT2] at e1
      simp
      rw [HT2]
      exact e1

theorem neg1 (U : Nat) : -((U % 2 : Nat) : Int) % 4294967296 = ((if U % 2 = 1 then 4294967295 else 0 : Nat) : Int) := by
  have : U % 2 = 0 ∨ U % 2 = 1 := by omega
  rcases this with h | h <;> rw [h] <;> decide
theorem step_oct {U : Nat} (hU : U < 4294967296) : (U / 2) ^^^ (3988292384 &&& (if U % 2 = 1 then 4294967295 else 0)) = step U := by
  unfold step
  split
  · rename_i h
    have : (3988292384 &&& 4294967295 : Nat) = 3988292384 := by decide
    rw [this]
  · simp
theorem oct_sum (bp op capp b off cap : Nat) (zs : List Nat) (w : World) (hmax : zs.length ≤ 9223372036854775807) (hp : w.cell? ⟨bp, op, none⟩ = some (.slice (some ⟨b, off, none⟩) zs.length cap))
    (hc : ∀ j, j < zs.length → w.cell? ⟨b, off + j, none⟩ = some (.int .u8 ((zs.getD j 0 : Nat) : Int))) (hb : ∀ j : Nat, zs.getD j 0 ≤ 255) :
    Calls Tryz.prog 199 #[.slice (some ⟨bp, op, none⟩) 1 capp] w fun e w' => e = .returned (.int .u32 ((4294967295 ^^^ crc 4294967295 zs : Nat) : Int)) ∧ w = w' := by
  have HC := Lib.hid hc
  have HB := Lib.hid hb
  clear hc hb
  go_enter Tryz.func199, Tryz.ntmps199
  go_wp2
  go_loop [3, 10] (fun v i => ∃ (k : Nat) (T : Nat), k ≤ 1 ∧ i = .int .i64 k ∧ v = .int .u32 T ∧ T < 4294967296 ∧ T = (if k = 0 then 4294967295 else crc 4294967295 zs)) (fun _ i => 1 - (intOf i).toNat)
  case atStart => exact ⟨0, 4294967295, by omega, rfl, rfl, by omega, rfl⟩
  case round =>
    obtain ⟨k, T, hk, rfl, rfl, hT, hTc⟩ := hrel
    have HT : Hid (T = (if k = 0 then 4294967295 else crc 4294967295 zs)) := hTc
    clear hTc
    by_cases hk1 : k < 1
    · obtain rfl : k = 0 := by omega
      obtain rfl : T = 4294967295 := HT.out
      clear HT
      go_wp2
      go_loop [3, 16] (fun v i => ∃ (k : Nat) (T : Nat), k ≤ zs.length ∧ i = .int .i64 k ∧ v = .int .u32 T ∧ T < 4294967296 ∧ T = crc 4294967295 (zs.take k)) (fun _ i => zs.length - (intOf i).toNat)
      case atStart => exact ⟨0, 4294967295, by omega, rfl, rfl, by omega, rfl⟩
      case round =>
        obtain ⟨k, T, hk, rfl, rfl, hT, hTc⟩ := hrel
        have HT : Hid (T = crc 4294967295 (zs.take k)) := hTc
        clear hTc
        by_cases hlt : k < zs.length
        · have hcell : w.cell? ⟨b, off + k, none⟩ = some (.int .u8 ((zs.getD k 0 : Nat) : Int)) := HC.out k (by omega)
          have hbk := HB.out k
          have HS : Hid (zs.take (k + 1) = zs.take k ++ [zs.getD k 0]) := take_snoc zs k hlt
          clear HC HB
          generalize zs.getD k 0 = c at hcell hbk HS
          have hx : bits .xor .u32 (T : Int) (c : Int) = ((T ^^^ c : Nat) : Int) := xor32 hT (by omega)
          have hxl : T ^^^ c < 4294967296 := xor_lt hT (by omega)
          have HX : Hid (bits .xor .u32 (T : Int) (c : Int) = ((T ^^^ c : Nat) : Int)) := hx
          clear hx
          go_wp2
          go_loop [3, 24] (fun v i => ∃ (m : Nat) (U : Nat), m ≤ 8 ∧ i = .int .i64 m ∧ v = .int .u32 U ∧ U < 4294967296 ∧ U = rounds m (T ^^^ c)) (fun _ i => 8 - (intOf i).toNat)
          case atStart =>
            refine ⟨0, T ^^^ c, by omega, rfl, ?_, hxl, rfl⟩
            have : ((c : Int) % 4294967296) = c := by omega
            first | rw [HX.out] | (rw [this, HX.out])
          case round =>
            obtain ⟨m, U, hm, rfl, rfl, hU, hUc⟩ := hrel
            have HU : Hid (U = rounds m (T ^^^ c)) := hUc
            clear hUc
            by_cases hm8 : m < 8
            · go_wp2
              go_round
              case rel =>
                refine ⟨m + 1, step U, by omega, by go_num, ret_u32 ?_, step_lt hU, ?_⟩
                · have ha := u32_and_nat U 1 hU (by decide)
                  rw [Nat.and_one_is_mod] at ha
                  have ha' : bits .and .u32 (U : Int) 1 = ((U % 2 : Nat) : Int) := ha
                  rw [ha', neg1]
                  have hm : (if U % 2 = 1 then 4294967295 else 0 : Nat) < 4294967296 := by split <;> decide
                  have h2 := u32_and_nat 3988292384 (if U % 2 = 1 then 4294967295 else 0) (by decide) hm
                  have h2' : bits .and .u32 3988292384 ((if U % 2 = 1 then 4294967295 else 0 : Nat) : Int) = ((3988292384 &&& (if U % 2 = 1 then 4294967295 else 0) : Nat) : Int) := h2
                  rw [h2']
                  have hl : (3988292384 &&& (if U % 2 = 1 then 4294967295 else 0) : Nat) < 4294967296 := Nat.lt_of_le_of_lt Nat.and_le_right hm
                  have h3 := xor32 (a := U / 2) (b := 3988292384 &&& (if U % 2 = 1 then 4294967295 else 0)) (by omega) hl
                  rw [step_oct hU] at h3
                  rw [← h3]; simp
                · rw [rounds_succ, ← HU.out]
              case measure => simp [intOf]; omega
            · go_wp2
              go_round
              case rel =>
                refine ⟨k + 1, U, by omega, by go_num, rfl, hU, ?_⟩
                have : m = 8 := by omega
                subst this
                rw [HS.out, crc_append, ← HT.out, byte, ← HU.out]
              case measure => simp [intOf]; omega
        · go_wp2
          go_round
          case rel =>
            refine ⟨1, T, by omega, by go_num, rfl, hT, ?_⟩
            have hk : k = zs.length := by omega
            have := HT.out
            rw [hk, List.take_length] at this
            exact this
          case measure => simp [intOf]
    · go_wp2
      go_ret
      have : k = 1 := by omega
      subst this
      refine ⟨?_, rfl⟩
      have HT2 : T = crc 4294967295 zs := HT.out
      have e1 := max32 T hT
      rw [HT2] at e1
      simp
      rw [HT2]
      exact e1
end Crc
end Go.Proofs.YtcoobajkgioflaaGreatDoor
