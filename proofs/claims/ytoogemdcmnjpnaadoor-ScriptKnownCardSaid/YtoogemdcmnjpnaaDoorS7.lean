/- Mask of the reference. -/
import Derived.Test.YtoogemdcmnjpnaaDoorS6
namespace Go.Proofs.YtoogemdcmnjpnaaDoor
open Go.RowKit
set_option maxRecDepth 100000 in
set_option maxHeartbeats 800000 in
theorem rmask_ok (w : World) (A : Option Addr) (c : Nat) (l : List Sc) (h : IsSc w A l) (s : ByteArray) (hs2 : s.size ≤ 1000) (h0 : (chk l).2 = 0) (hs : s.size ≠ 0) :
    Calls Tryd.prog 15 #[.slice A l.length c, .string s] w (RetSl w 2 (scs (mask l s)) (mask l s).length (maskErr l s)) := by
  have e0 : ((chk l).2 != 0) = false := by simp [h0]
  have e1 : ((chk l).2 == 0) = true := by simp [h0]
  have h200 := chk_len h0
  have hE : s.toList.isEmpty = false := by
    rw [Bool.eq_false_iff]; intro e
    exact hs ((toList_nil s).1 (List.isEmpty_iff.1 e))
  have hE2 : ¬ s.toList = [] := fun e => hs ((toList_nil s).1 e)
  have Hs := Lib.hid (show 0 < s.size by omega)
  have He := Lib.hid (show maskErr l s = 0 by simp [maskErr, h0, hs])
  have Hm := Lib.hid (mask_pos (l := l) (s := s) He.out)
  have H0 := Lib.hid h0
  clear h0 hs
  go_enter Tryd.func15, Tryd.ntmps15
  go_wp2_with fail
  (with_reducible refine (rcheck _ A c l h).mono ?_); rintro e w1 ⟨rfl, hb1⟩
  go_wp2
  go_loopw [8, 9, 10] (fun t v i wr => ∃ (k a : Nat) (out : List Sc), k ≤ l.length ∧ i = .int .i64 k ∧ t = .int .i64 a ∧ Below w.heap.size w wr ∧ wr.ownsRow w.heap.size 47 2 v out.length (scs out) ∧ out.length = k ∧ a ≤ k * 1100 ∧ MaskRel l s out a k) (fun _ _ i _ => l.length - (intOf i).toNat)
  case atStart => exact ⟨0, 0, [], Nat.zero_le _, rfl, rfl, hb1, World.ownsRow_nil _ _ _ _, rfl, by omega, rfl⟩
  case round =>
    obtain ⟨k, a, out, hk, rfl, rfl, hbl, hown, hol, ha, hr⟩ := hrel
    obtain ⟨wo, rfl⟩ : ∃ wo : World, wo = wr := ⟨_, rfl⟩
    have Hol := Lib.hid hol
    clear hol
    by_cases hlt : k < l.length
    · obtain ⟨b, off, K, x, rfl, hb, d1, d2, hd, hK1, hK4, hx1, _⟩ := scAtOk h.rd hlt H0
      have hi1 : (k : Int) < (l.length : Int) := by omega
      have hi0 : (0 : Int) ≤ (k : Int) := by omega
      go_wp2
      go_loopw [8, 11, 12] (fun t v i wv => ∃ j p : Nat, j ≤ x.size ∧ i = .int .i64 j ∧ t = .int .i64 p ∧ Hid (p = a + j) ∧ Below w.heap.size w wv ∧ wv.ownsRow w.heap.size 47 2 u9 out.length (scs out) ∧ wv.ownsRow w.heap.size 5 1 v j (bs8 (cyc s a j))) (fun _ _ i _ => x.size - (intOf i).toNat)
      case atStart => exact ⟨0, a, Nat.zero_le _, rfl, rfl, Lib.hid rfl, hbl, hown, World.ownsRow_nil _ _ _ _⟩
      case round =>
        clear hbl hown
        obtain ⟨j, p, hj, rfl, rfl, hp, hbl, hown, hownb⟩ := hrel
        have hp2 : p ≤ 1000000 := by have := hp.out; omega
        have c1 := (hbl.cell (p := ⟨b, off + k * 2, none⟩) (by simp; omega)).trans d1
        have c2 := (hbl.cell (p := ⟨b, off + k * 2 + 1, none⟩) (by simp; omega)).trans d2
        by_cases hjl : j < x.size
        · have hs' : (0 : Int) < (s.size : Int) := by have := Hs.out; omega
          have hlt' : (p : Int) % (s.size : Int) < (s.size : Int) := Int.emod_lt_of_pos _ hs'
          have hge' : (0 : Int) ≤ (p : Int) % (s.size : Int) := Int.emod_nonneg _ (by omega)
          have hmod := Lib.hid (show ((p : Int) % (s.size : Int)) = ((p % s.size : Nat) : Int) by simp)
          go_wp2_with (at_builtin; refine wpList_app u8El rfl (.tmp 43) (.tmp 50) rfl rfl j (bs8 (cyc s a j)) rfl rfl w ?own ?bel [.int .u8 ((byteAt s (p % s.size)).toNat : Int)] ?new rfl ?one (by decide) ?by1 ?by2 ?_)
          case own => exact hownb.alloc _
          case bel => exact hbl.alloc hbl.size _
          case new =>
            rw [← byteAt_lt s _ (Nat.mod_lt p Hs.out)]
            exact alloc1_new _ _
          case one => simp [Value.oneCell']
          case by1 => omega
          case by2 => omega
          intro g cap w3 hown3 hb3 hg3
          have hn3 : w3.ownsRow w.heap.size 5 1 (.slice (some ⟨g, 0, none⟩) (j + 1) cap) (j + 1) (bs8 (cyc s a (j + 1))) := by
            rw [cyc_succ, bs8_app, ← hp.out]
            exact hown3
          have hn4 := (hown.alloc _).kept hg3 (own_own_ne hown hownb (by decide))
          clear hown3
          go_wp2
          go_roundw
          case rel => exact ⟨j + 1, p + 1, by omega, by go_num, by go_num, Lib.hid (by rw [hp.out]; omega), hb3, hn4, hn3⟩
          case measure => simp [intOf]; omega
        · obtain rfl : j = x.size := by omega
          obtain ⟨Ab, cb, rfl, _, _, _⟩ := own_sl hownb
          have hcv := own_conv hownb
          have hownd : wr.drew.ownsRow w.heap.size 5 1 (.slice Ab x.size cb) x.size (bs8 (cyc s a x.size)) := hownb
          go_wp2_with fail
          go_region_held3 (fun w' => w'.cell? ⟨b, off + k * 2, none⟩ = some (.int .i64 K) ∧ (convert 58 9 (.slice Ab x.size cb)).run Tryd.prog w' = .ok (.string ⟨(cyc s a x.size).toArray⟩) w')
            (first | (refine ⟨(hb3.cell (p := ⟨b, off + k * 2, none⟩) (by simp; omega)).trans d1, ?_⟩; exact own_conv ((hownd.alloc _).kept hgr (own_own_ne hownb hown (by decide)))) | (refine ⟨?_, ?_⟩; go_keep; (first | exact own_conv hownb | exact own_conv (hownb.alloc _))))
            ((refine step_app scEl rfl (.tmp 54) (.tmp 63) rfl rfl out.length (scs out) rfl rfl w (by exact hown.alloc _) (by exact (hbl.alloc hbl.size _).drew) [.int .i64 K, .string ⟨(cyc s a x.size).toArray⟩] (by exact alloc1_new _ _) rfl (by simp [Value.oneCell']) (by decide) (by rw [Hol.out]; omega) (by rw [Hol.out]; omega) ?_; intro g cap w2 hown2 hb3 hgr))
          have hx2 : w2.ownsRow w.heap.size 47 2 (.slice (some ⟨g, 0, none⟩) (out.length + 1) cap) (out ++ [(K, (⟨(cyc s a x.size).toArray⟩ : ByteArray))]).length (scs (out ++ [(K, (⟨(cyc s a x.size).toArray⟩ : ByteArray))])) := by
            rw [List.length_append, scs, flat2_append]
            exact hown2
          clear hown2
          go_wp2
          go_roundw
          case rel => exact ⟨k + 1, p, out ++ [(K, ⟨(cyc s a x.size).toArray⟩)], by omega, by go_num, rfl, hb3, hx2, by simp [Hol.out], by have := hp.out; omega, by rw [hp.out]; exact hr.step hd⟩
          case measure => simp [intOf]; omega
    · go_wp2
      go_ret2
      rw [He.out]
      have hx : scs out = scs (mask l s) := by rw [Hm.out, hr.done (by omega)]
      have hn : out.length = (mask l s).length := by rw [Hm.out, hr.done (by omega)]
      exact RetSl.of_own hown hbl rfl hn hx

set_option maxRecDepth 100000 in
set_option maxHeartbeats 800000 in
theorem rmask (w : World) (A : Option Addr) (c : Nat) (l : List Sc) (h : IsSc w A l) (s : ByteArray) (hs2 : s.size ≤ 1000) :
    Calls Tryd.prog 15 #[.slice A l.length c, .string s] w (RetSl w 2 (scs (mask l s)) (mask l s).length (maskErr l s)) := by
  by_cases h0 : (chk l).2 = 0
  · by_cases hs : s.size = 0
    · have e0 : ((chk l).2 != 0) = false := by simp [h0]
      have e1 : ((chk l).2 == 0) = true := by simp [h0]
      have hE : s.toList.isEmpty = true := by rw [(toList_nil s).2 hs]; rfl
      have hE2 : s.toList = [] := (toList_nil s).2 hs
      have He := Lib.hid (show maskErr l s = 2 by simp [maskErr, h0, hs])
      have Hm := Lib.hid (mask_neg (l := l) (s := s) (by rw [He.out]; decide))
      clear h0 hs
      go_enter Tryd.func15, Tryd.ntmps15
      go_wp2_with fail
      (with_reducible refine (rcheck _ A c l h).mono ?_); rintro e w1 ⟨rfl, hb1⟩
      go_wp2
      go_ret2
      rw [He.out]
      exact RetSl.nil hb1 (by rw [Hm.out]; rfl) (by rw [Hm.out]; rfl)
    · exact rmask_ok w A c l h s hs2 h0 hs
  · have e0 : ((chk l).2 != 0) = true := by simp [h0]
    have e1 : ((chk l).2 == 0) = false := by simp [h0]
    have He := Lib.hid (show maskErr l s = (chk l).2 by simp [maskErr, h0])
    have Hm := Lib.hid (mask_neg (l := l) (s := s) (by rw [He.out]; exact h0))
    clear h0
    go_enter Tryd.func15, Tryd.ntmps15
    go_wp2_with fail
    (with_reducible refine (rcheck _ A c l h).mono ?_); rintro e w1 ⟨rfl, hb1⟩
    go_wp2
    go_ret2
    rw [He.out]
    exact RetSl.nil hb1 (by rw [Hm.out]; rfl) (by rw [Hm.out]; rfl)
end Go.Proofs.YtoogemdcmnjpnaaDoor
