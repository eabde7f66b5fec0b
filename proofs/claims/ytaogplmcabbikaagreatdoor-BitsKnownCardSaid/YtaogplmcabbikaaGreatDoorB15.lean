/- Rows of bits: strconv.FormatUint to base 16. -/
import Derived.Test.YtaogplmcabbikaaGreatDoorB14
namespace Go.Proofs.YtaogplmcabbikaaGreatDoor
open Go.RowKit
theorem hex_get (i : Nat) (hi : i < 16) (h : i < hexTab.size) : hexTab[i]'h = hd i := by
  have h2 : hexTab.data[i]? = some (hd i) := hd_fin ⟨i, hi⟩
  rw [Array.getElem?_eq_getElem (show i < hexTab.data.size from h)] at h2
  injection h2
theorem arr65 : Tryz.prog.underlying 118 = some (.array (Tryz.prog.arrayLen 118) (Tryz.prog.elem 118)) := by kernel_rfl
theorem arr65l : Tryz.prog.arrayLen 118 = 65 := by kernel_rfl
theorem arr65s (w : World) : (sizeOf (Tryz.prog.elem 118)).run Tryz.prog w = .ok 1 w := by
  rw [show Tryz.prog.elem 118 = 5 by kernel_rfl]
  obtain ⟨i, hi', _, hs, _⟩ := info_parts (show (Tryz.prog.info? 5).map (fun i => (i.zero, i.size, i.bytes)) = some (some (.int .u8 0), 1, 1) by kernel_rfl)
  simp [sizeOf, typeInfo, hi', hs]
theorem tail65 (w : World) (g k : Nat) (hk : k ≤ 15) : (Instr.sliceAt 118 (.pointer (some ⟨g, 0, none⟩)) (some (.int .i64 ((50 : Int) + k - 1))) none none).run Tryz.prog w = .ok (.slice (some ⟨g, 49 + k, none⟩) (16 - k) (16 - k)) w := by
  rw [run_sliceAt_array_l w _ _ arr65 .i64 _ (by omega) (by rw [arr65l]; omega), arr65l, arr65s]
  have e : ((50 : Int) + k - 1).toNat = 49 + k := by omega
  rw [e]
  simp [Result.andThen, slicedAt, add_lit]
  omega
set_option maxRecDepth 100000 in
set_option maxHeartbeats 4000000 in
theorem format16_ (w : World) (x : Nat) (hxx : x < 18446744073709551616) (hT : Tz16 w) :
    Calls Tryz.prog 53 #[.slice none 0 0, .int .u64 x, .int .i64 16, .bool false, .bool false] w fun e w' => e = .returned (.tuple #[.slice none 0 0, .string ⟨(hexB x).toArray⟩]) ∧ Below w.heap.size w w' := by
  have hglob : 0 < w.heap.size := by
    unfold Tz16 World.cell? at hT
    rcases Nat.lt_or_ge 0 w.heap.size with h | h
    · exact h
    · rw [Array.getElem?_eq_none h] at hT; cases hT
  have HT := Lib.hid (show ∀ o, Tz16 (w.alloc o) from fun o => by
    unfold Tz16 at hT ⊢
    rw [World.cell?_alloc_lt w o _ hglob]
    exact hT)
  have HN := Lib.hid (fun t => Tail.new w t)
  clear hT hglob
  have HT1 := HT.out (.cells Tryz.zeroCells118 118)
  have HN0 := Lib.hid (show Tail (w.alloc (.cells Tryz.zeroCells118 118)) w.heap.size 65 [] from HN.out 118)
  have hB0 : Below w.heap.size w (w.alloc (.cells Tryz.zeroCells118 118)) := ba (Below.refl _ _) _
  go_enter Tryz.func53, Tryz.ntmps53
  go_wp2_with fail
  (with_reducible refine (pow2_16 _).mono ?_); rintro e w' ⟨rfl, rfl⟩
  go_wp2_with fail
  (with_reducible refine (tz_16 _ HT1).mono ?_); rintro e w' ⟨rfl, rfl⟩
  go_wp2_with fail
  go_loopw [1, 13] (fun uv iv wr => ∃ (k u : Nat) (s : List UInt8), u < 16 ^ (k + 1) ∧ u < 18446744073709551616 ∧ k ≤ 15 ∧ uv = .int .u64 u ∧ iv = .int .i64 ((50 : Int) + k) ∧ Hid (hx 16 x [] = hx (k + 1) u s) ∧ Tail wr w.heap.size (50 + k) s ∧ Below w.heap.size w wr) (fun uv _ _ => (intOf uv).toNat)
  case atStart => exact ⟨15, x, [], by simpa using hxx, hxx, Nat.le_refl _, rfl, rfl, Lib.hid (show hx 16 x [] = hx (15 + 1) x [] from rfl), HN0.out, hB0⟩
  case round =>
    obtain ⟨k, u, s, hu, hu64, hk, rfl, rfl, hX, hTl, hB⟩ := hrel
    clear hB0 HN HT HT1
    have h15 := and15 u hu64
    have hgw := hTl.lt
    by_cases h16 : 16 ≤ u
    · obtain ⟨q, rfl⟩ : ∃ q, k = q + 1 := ⟨k - 1, by
        cases k with
        | zero => simp at hu; omega
        | succ k => simp⟩
      have hlt : u % 16 < hexTab.size := by show u % 16 < 36; omega
      have hc := (hTl.has (50 + q) (by omega)).1
      have hfr := (hTl.has (50 + q) (by omega)).2
      have HP := Lib.hid (show Tail (wr.setCell ⟨w.heap.size, 50 + q, none⟩ (.int .u8 ((hexTab[u % 16]'hlt).toNat : Int))) w.heap.size (50 + q) (hd (u % 16) :: s) by
        rw [hex_get _ (by omega)]; exact Tail.push (p := 50 + q) hTl (hd (u % 16)))
      have HX := Lib.hid (hX.out.trans (hx_step (k := q + 1) (u := u) (s := s) (by omega)))
      have HBs := Lib.hid (bs hB (p := ⟨w.heap.size, 50 + q, none⟩) (u := .int .u8 ((hexTab[u % 16]'hlt).toNat : Int)) (Nat.le_refl _))
      have hu2 : u / 16 < 16 ^ (q + 1) := by rw [Nat.pow_succ] at hu; omega
      have hix : ((50 : Int) + ((q + 1 : Nat) : Int) - 1) = ((50 + q : Nat) : Int) := by omega
      have hix1 : ((50 : Int) + q).toNat = 50 + q := by omega
      have hix2 : (50 : Int) + q < 65 := by omega
      obtain ⟨vc, hvc⟩ := Option.isSome_iff_exists.1 hc
      rw [show ((q + 1 : Nat) : Int) = (q : Int) + 1 from rfl]
      clear hX hTl hB hc hix
      generalize hd (u % 16) = D at *
      go_wp2
      go_roundw
      case rel => exact ⟨q, u / 16, D :: s, hu2, by omega, by omega, by congr 1, by congr 1; omega, HX, HP.out, HBs.out⟩
      case measure => simp [intOf]; omega
    · have hlt : u < hexTab.size := by show u < 36; omega
      have hc := (hTl.has (49 + k) (by omega)).1
      have hfr := (hTl.has (49 + k) (by omega)).2
      have hTl2 : Tail wr w.heap.size (49 + k + 1) s := by rw [show 49 + k + 1 = 50 + k by omega]; exact hTl
      have HX := hX.out.trans (hx_end (k := k + 1) (u := u) (s := s) (by omega))
      have HP : Tail (wr.setCell ⟨w.heap.size, 49 + k, none⟩ (.int .u8 ((hexTab[u]'hlt).toNat : Int))) w.heap.size (49 + k) (hexB x) := by
        rw [hex_get _ (by omega)]; unfold hexB; rw [HX]; exact Tail.push (p := 49 + k) hTl2 (hd u)
      have HBs := Lib.hid (bs hB (p := ⟨w.heap.size, 49 + k, none⟩) (u := .int .u8 ((hexTab[u]'hlt).toNat : Int)) (Nat.le_refl _))
      have hlen : (hexB x).length = 16 - k := by have := HP.len; omega
      have hcv := run_convert_bytes_back (P := Tryz.prog) (wr.setCell ⟨w.heap.size, 49 + k, none⟩ (.int .u8 ((hexTab[u]'hlt).toNat : Int))) 73 9 5 ⟨w.heap.size, 49 + k, none⟩ (16 - k) (hexB x) (by kernel_rfl) (by kernel_rfl) (by kernel_rfl) (fun j hj => by rw [Lib.add_plain]; exact HP.at_ j hj)
      rw [hlen] at hcv
      have hsl := fun W => tail65 W w.heap.size k hk
      have hix1 : ((50 : Int) + k - 1).toNat = 49 + k := by omega
      have hix2 : (50 : Int) + k - 1 < 65 := by omega
      obtain ⟨vc, hvc⟩ := Option.isSome_iff_exists.1 hc
      clear hX hTl hTl2 hB hc HX HP
      go_wp2
      erw [hcv]
      go_wp2
      go_ret2
      exact ⟨rfl, HBs.out⟩
end Go.Proofs.YtaogplmcabbikaaGreatDoor
