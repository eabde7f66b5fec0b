/- Streams of the reference. -/
import Derived.Test.YtoogemdcmnjpnaaDoorS4
import Derived.BigRegion
namespace Go.Proofs.YtoogemdcmnjpnaaDoor
open Go.RowKit
theorem last_set (out : List ByteArray) (cur s : ByteArray) : ((out ++ [cur]).map Value.string).set out.length (.string s) = (out ++ [s]).map Value.string := by
  rw [List.map_append, List.set_append_right _ _ (by simp)]
  simp
theorem last_get (out : List ByteArray) (cur : ByteArray) : ((out ++ [cur]).map Value.string)[out.length]? = some (.string cur) := by
  simp

set_option maxRecDepth 100000 in
set_option maxHeartbeats 800000 in
theorem rstreams (w : World) (A : Option Addr) (c : Nat) (l : List Sc) (h : IsSc w A l) :
    Calls Tryd.prog 17 #[.slice A l.length c] w (RetSl w 1 ((streams l).map Value.string) (streams l).length (chk l).2) := by
  by_cases h0 : (chk l).2 = 0
  · have e0 : ((chk l).2 != 0) = false := by simp [h0]
    have h200 := chk_len h0
    have Hst := Lib.hid (streams_pos h0)
    have H0 := Lib.hid h0
    clear h0
    go_enter Tryd.func17, Tryd.ntmps17
    go_wp2_with fail
    (with_reducible refine (rcheck w A c l h).mono ?_); rintro e w1 ⟨rfl, hb1⟩
    have hb1s := hb1.size
    go_wp2
    go_loopw [6, 7] (fun v i wr => ∃ (k : Nat) (out : List ByteArray) (cur : ByteArray) (g cap : Nat), k ≤ l.length ∧ i = .int .i64 k ∧ v = .slice (some ⟨g, 0, none⟩) (out.length + 1) cap ∧ Below w.heap.size w wr ∧
      wr.ownsRow w.heap.size 9 1 (.slice (some ⟨g, 0, none⟩) (out.length + 1) cap) (out.length + 1) ((out ++ [cur]).map Value.string) ∧ out.length ≤ k ∧ cur.size ≤ k * 1100 ∧ StrRel l out cur k) (fun _ i _ => l.length - (intOf i).toNat)
    case atStart =>
      refine ⟨0, [], ⟨#[]⟩, w1.heap.size, 1, Nat.zero_le _, rfl, rfl, hb1.alloc hb1s _, ?_, Nat.zero_le _, Nat.zero_le _, rfl⟩
      exact World.ownsRow_lit w1 #[.string ⟨#[]⟩] 1 hb1s (by unfold maxLen; omega) rfl
    case round =>
      obtain ⟨k, out, cur, g, cap, hk, rfl, rfl, hbl, hown, hol, hcs, hr⟩ := hrel
      have hb2 := hbl.size
      by_cases hlt : k < l.length
      · obtain ⟨b, off, K, s, rfl, hb, d1, d2, hd, hK1, hK4, hs1, _⟩ := scAtOk h.rd hlt H0
        have c1 := (hbl.cell (p := ⟨b, off + k * 2, none⟩) (by simp; omega)).trans d1
        have c2 := (hbl.cell (p := ⟨b, off + k * 2 + 1, none⟩) (by simp; omega)).trans d2
        by_cases h4 : K = 4
        · have e4 : (K == 4) = true := by simp [h4]
          have e4' : (K != 4) = false := by simp [h4]
          have H4 := Lib.hid h4
          clear h4
          go_wp2
          go_ret2
          refine RetSl.of_own hown hbl H0.out ?_ ?_
          · rw [Hst.out, ← hr.close hd H4.out]; simp
          · rw [Hst.out, ← hr.close hd H4.out]
        · have e4 : (K == 4) = false := by simp [h4]
          have e4' : (K != 4) = true := by simp [h4]
          have h4' := Lib.hid h4
          clear h4
          by_cases h3 : K = 3
          · have e3 : (K == 3) = true := by simp [h3]
            have h3' := Lib.hid h3
            clear h3
            go_wp2_with (at_builtin; refine wpList_app strEl rfl (.tmp 37) (.tmp 38) rfl rfl (out.length + 1) ((out ++ [cur]).map Value.string) rfl rfl w ?own ?bel [.string ⟨#[]⟩] ?new rfl ?one (by decide) ?by1 ?by2 ?_)
            case own => exact hown.alloc _
            case bel => exact hbl.alloc hb2 _
            case new => exact alloc1_new _ _
            case one => simp [Value.oneCell']
            case by1 => omega
            case by2 => omega
            intro g2 cap2 w3 hown3 hb3 hg3
            have hown4 : w3.ownsRow w.heap.size 9 1 (.slice (some ⟨g2, 0, none⟩) ((out ++ [cur]).length + 1) cap2) ((out ++ [cur]).length + 1) (((out ++ [cur]) ++ [(⟨#[]⟩ : ByteArray)]).map Value.string) := by
              simpa using hown3
            have hol2 : (out ++ [cur]).length = out.length + 1 := by simp
            have Hol2 := Lib.hid hol2
            have hc := (hown4.cellAt (out ++ [cur]).length (by omega)).trans (last_get (out ++ [cur]) ⟨#[]⟩)
            have hf := hown4.frozenAt (out ++ [cur]).length
            rw [hol2] at hc hf
            clear hown3 hol2
            have c1 := (hb3.cell (p := ⟨b, off + k * 2, none⟩) (by simp; omega)).trans d1
            have c2 := (hb3.cell (p := ⟨b, off + k * 2 + 1, none⟩) (by simp; omega)).trans d2
            have hgB := (hown4.lt g2 rfl).1
            have hadd : (⟨#[]⟩ : ByteArray).size + s.size ≤ 9223372036854775807 := by show 0 + s.size ≤ _; omega
            go_wp2
            go_region
            go_wp2
            go_roundw
            case rel =>
              have hst := (hown4.stored (out ++ [cur]).length (.string s)).1
              rw [last_set, Hol2.out] at hst
              refine ⟨k + 1, out ++ [cur], s, g2, cap2, by omega, by go_num, by rw [Hol2.out], (hb3.setCell (p := ⟨g2, out.length + 1, none⟩) hgB _).drew, ?_, by rw [Hol2.out]; omega, by omega, hr.reset hd h3'.out⟩
              rw [Hol2.out]
              have he : (⟨#[]⟩ : ByteArray) ++ s = s := ByteArray.empty_append
              rw [he]
              exact hst
            case measure => simp [intOf]; omega
          · have e3 : (K == 3) = false := by simp [h3]
            have h3' := Lib.hid h3
            clear h3
            have hc := (hown.cellAt out.length (by omega)).trans (last_get out cur)
            have hf := hown.frozenAt out.length
            have hadd : cur.size + s.size ≤ 9223372036854775807 := by omega
            have hgB := (hown.lt g rfl).1
            go_wp2
            go_region
            go_wp2
            go_roundw
            case rel =>
              refine ⟨k + 1, out, cur ++ s, g, cap, by omega, by go_num, rfl, (hbl.setCell (p := ⟨g, out.length, none⟩) hgB _).drew, ?_, by omega, by rw [ByteArray.size_append]; omega, hr.add hd h4'.out h3'.out⟩
              have hst := (hown.stored out.length (.string (cur ++ s))).1
              rw [last_set] at hst
              exact hst
            case measure => simp [intOf]; omega
      · go_wp2
        go_ret2
        refine RetSl.of_own hown hbl H0.out ?_ ?_
        · rw [Hst.out, ← hr.done (by omega)]; simp
        · rw [Hst.out, ← hr.done (by omega)]
  · have e0 : ((chk l).2 != 0) = true := by simp [h0]
    have H0 := Lib.hid (streams_neg h0)
    clear h0
    go_enter Tryd.func17, Tryd.ntmps17
    go_wp2_with fail
    (with_reducible refine (rcheck w A c l h).mono ?_); rintro e w1 ⟨rfl, hb1⟩
    go_wp2
    go_ret2
    exact RetSl.nil hb1 (by rw [H0.out]; rfl) (by rw [H0.out]; rfl)
end Go.Proofs.YtoogemdcmnjpnaaDoor
