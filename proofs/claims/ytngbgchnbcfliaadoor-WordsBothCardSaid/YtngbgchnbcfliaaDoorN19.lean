/- words: Join of the reference. No condition. -/
import Derived.Test.YtngbgchnbcfliaaDoorN18
namespace Go.Proofs.YtngbgchnbcfliaaDoor
open Go.RowKit
theorem txF_q (F : ByteArray) : txF (F.data.toList, true) = quoteB F.data.toList := rfl
theorem txF_p (F : ByteArray) : txF (F.data.toList, false) = F.data.toList := rfl
theorem take_any {p : Fd → Bool} {l : List Fd} {k : Nat} {f : Fd} (h : (l.take k).any p = false) (ht : l.take (k + 1) = l.take k ++ [f]) (hf : p f = false) : (l.take (k + 1)).any p = false := by
  rw [ht, List.any_append, h]; simp [hf]
theorem joinT_take {l : List Fd} {k : Nat} {f : Fd} (ht : l.take (k + 1) = l.take k ++ [f]) (hk : k < l.length) : joinT (l.take (k + 1)) = if k = 0 then txF f else joinT (l.take k) ++ ([32] ++ txF f) := by
  rw [ht, joinT_snoc]
  by_cases h0 : k = 0
  · subst h0; simp
  · rw [if_neg h0, if_neg]
    intro e
    have := congrArg List.length e
    rw [List.length_take, List.length_nil] at this
    omega
theorem fdCells {w : World} {b off k : Nat} {n : Nat} {l : List Fd} {F : ByteArray} {q : Bool} (h : Reads w w.heap.size 2 (some ⟨b, off, none⟩) n (fds l)) (hn : n = l.length) (hk : k < l.length) (hd : l.drop k = (F.data.toList, q) :: l.drop (k + 1)) {W : World} (hb : Below w.heap.size w W) :
    W.cell? ⟨b, off + k * 2, none⟩ = some (.string F) ∧ W.cell? ⟨b, off + k * 2 + 1, none⟩ = some (.bool q) := by
  subst hn
  obtain ⟨b', off', F', q', hA, hb', d1, d2, hd'⟩ := fdAt h hk
  injection hA with hA; injection hA with a1 a2; subst a1 a2
  have he := hd.symm.trans hd'.out
  injection he with he _
  injection he with e1 e2
  have : F = F' := ByteArray.ext (Array.toList_inj.1 e1)
  subst this e2
  exact ⟨(hb.cell (p := ⟨b, off + k * 2, none⟩) hb').trans d1, (hb.cell (p := ⟨b, off + k * 2 + 1, none⟩) hb').trans d2⟩
theorem bytes_join {U S T : ByteArray} {a b c : List UInt8} (h1 : U.data.toList = a) (h2 : S.data.toList = b) (h3 : T.data.toList = c) : (U ++ S ++ T).data.toList = a ++ (b ++ c) := by
  rw [ByteArray.data_append, ByteArray.data_append, Array.toList_append, Array.toList_append, h1, h2, h3, List.append_assoc]
theorem bytes_app {U T : ByteArray} {a c : List UInt8} (h1 : U.data.toList = a) (h3 : T.data.toList = c) : (U ++ T).data.toList = a ++ c := by
  rw [ByteArray.data_append, Array.toList_append, h1, h3]
theorem U_nil {U : ByteArray} (h : U.data.toList = []) : U.size = 0 := by
  have : U.data.toList.length = U.size := rfl
  rw [h] at this; exact this.symm
set_option maxRecDepth 100000 in
set_option maxHeartbeats 4000000 in
theorem rjoin_ (w : World) (A : Option Addr) (c : Nat) (l : List Fd) (h : Reads w w.heap.size 2 A l.length (fds l)) :
    Calls Tryd.prog 25 #[.slice A l.length c] w (RetSE w (joinL l)) := by
  by_cases h5 : 64 < l.length
  · have hR := Lib.hid (joinL_many h5)
    have i5 : (64 : Int) < (l.length : Int) := by omega
    clear h h5
    go_enter Tryd.func25, Tryd.ntmps25
    go_wp2
    go_ret2
    exact RetSE.mk' hR.out (Below.refl _ _)
  have i5 : ¬ ((64 : Int) < (l.length : Int)) := by omega
  have HR := Lib.hid h
  clear h
  go_enter Tryd.func25, Tryd.ntmps25
  go_wp2
  go_loopw [4] (fun i wr => ∃ k : Nat, k ≤ l.length ∧ i = .int .i64 k ∧ Hid (anyLong (l.take k) = false) ∧ w = wr) (fun i _ => l.length - (intOf i).toNat)
  case atStart => exact ⟨0, Nat.zero_le _, rfl, Lib.hid rfl, rfl⟩
  case round =>
    obtain ⟨k, hk, rfl, hlg, rfl⟩ := hrel
    by_cases hlt : k < l.length
    · have i1 : (k : Int) < (l.length : Int) := by omega
      obtain ⟨b, off, F, q, rfl, hb, d1, d2, hd⟩ := fdAt HR.out hlt
      have htk := Lib.hid (take_snocF hd.out)
      have hfl : F.data.toList.length = F.size := by simp
      by_cases h2 : 2000 < F.size
      · have hR := Lib.hid (joinL_long h5 (any_take (k := k + 1) (show anyLong (l.take (k + 1)) = true by rw [htk.out, anyLong_snoc, hfl]; simp [h2])))
        have i2 : (2000 : Int) < (F.size : Int) := by omega
        clear hfl h2
        go_wp2
        go_ret2
        exact RetSE.mk' hR.out (Below.refl _ _)
      · have i2 : ¬ ((2000 : Int) < (F.size : Int)) := by omega
        have hlg2 := Lib.hid (show anyLong (l.take (k + 1)) = false by rw [htk.out, anyLong_snoc, hlg.out, hfl]; simp; omega)
        clear hfl h2
        go_wp2
        go_roundw
        case rel => exact ⟨k + 1, by omega, by go_num, hlg2, trivial⟩
        case measure => simp [intOf]; omega
    · have i1 : ¬ ((k : Int) < (l.length : Int)) := by omega
      obtain rfl : k = l.length := by omega
      have hlg2 := hlg.out
      rw [List.take_length] at hlg2
      have Hlg := Lib.hid hlg2
      clear hlg hlg2 hk
      go_wp2
      go_loopw [5, 6] (fun v i wr => ∃ (k : Nat) (U : ByteArray), k ≤ l.length ∧ i = .int .i64 k ∧ v = .string U ∧ Hid (U.data.toList = joinT (l.take k)) ∧ U.size ≤ 8003 * k ∧ Hid ((l.take k).any badB = false) ∧ Below w.heap.size w wr) (fun _ i _ => l.length - (intOf i).toNat)
      case atStart => exact ⟨0, ⟨#[]⟩, Nat.zero_le _, rfl, rfl, Lib.hid rfl, Nat.le_refl _, Lib.hid rfl, Below.refl _ _⟩
      case round =>
        obtain ⟨k, U, hk, rfl, rfl, hU, hUs, hbd, hbw⟩ := hrel
        by_cases hlt : k < l.length
        · have i1 : (k : Int) < (l.length : Int) := by omega
          have HR2 := HR.out.below hbw
          obtain ⟨b, off, F, q, rfl, hb, d1, d2, hd⟩ := fdAt HR2 hlt
          have HRk := Lib.hid (fun (W : World) (hbW : Below w.heap.size w W) => fdCells HR.out rfl hlt hd.out hbW)
          have htk := Lib.hid (take_snocF hd.out)
          have hfl : F.data.toList.length = F.size := by simp
          have hF2 : F.size ≤ 2000 := by
            have h1 := not_long Hlg.out (F.data.toList, q) (by rw [← List.take_append_drop k l, hd.out]; simp)
            simp only at h1; omega
          have hFs : F.size ≤ 1099511627776 := by omega
          have hql : (quoteB F.data.toList).length ≤ 4 * F.data.toList.length + 2 := quoteB_len _
          have hjt := Lib.hid (joinT_take htk.out hlt)
          clear HR2
          cases q
          case true =>
            obtain ⟨Q, hQ⟩ : ∃ Q : ByteArray, Q = ⟨(quoteB F.data.toList).toArray⟩ := ⟨_, rfl⟩
            have hQd : Q.data.toList = quoteB F.data.toList := by rw [hQ]
            have hQs : Q.size ≤ 8002 := by have h1 : Q.data.toList.length = Q.size := rfl; rw [hQd] at h1; omega
            have HQ := Lib.hid hQ
            clear hQ
            by_cases hk0 : k = 0
            · have hbd2 := Lib.hid (take_any hbd.out htk.out (show badB (F.data.toList, true) = false from rfl))
              have hU2 := Lib.hid (show (U ++ Q).data.toList = joinT (l.take (k + 1)) by rw [hjt.out, if_pos hk0, bytes_app (a := []) (c := quoteB F.data.toList) (by rw [hU.out, hk0]; rfl) hQd]; rfl)
              have i0 : ¬ ((0 : Int) < (k : Int)) := by omega
              have hsz2 : (U ++ Q).size ≤ 8003 * (k + 1) := by rw [ByteArray.size_append]; omega
              have m2 : ¬ (9223372036854775807 < U.size + Q.size) := by omega
              have m3 : ¬ (9223372036854775807 < U.size + 1 + Q.size) := by omega
              clear htk hjt hfl hk0 hQd hql
              go_wp2_with fail
              (with_reducible refine (rquote F _ hFs).mono ?_); rintro e w5 ⟨rfl, hb5⟩
              rw [← HQ.out]
              go_wp2
              go_roundw
              case rel => exact ⟨k + 1, _, by omega, by go_num, rfl, hU2, hsz2, hbd2, bt hbw hb5⟩
              case measure => simp [intOf]; omega
            · have hbd2 := Lib.hid (take_any hbd.out htk.out (show badB (F.data.toList, true) = false from rfl))
              have hU2 := Lib.hid (show (U ++ ⟨#[32]⟩ ++ Q).data.toList = joinT (l.take (k + 1)) by rw [hjt.out, if_neg hk0, bytes_join hU.out (b := [32]) rfl (c := quoteB F.data.toList) hQd]; rfl)
              have i0 : (0 : Int) < (k : Int) := by omega
              have s32 : (U ++ (⟨#[32]⟩ : ByteArray)).size = U.size + 1 := by rw [ByteArray.size_append]; rfl
              have m1 : ¬ (9223372036854775807 < U.size + (⟨#[32]⟩ : ByteArray).size) := by show ¬ (9223372036854775807 < U.size + 1); omega
              have hsz2 : (U ++ ⟨#[32]⟩ ++ Q).size ≤ 8003 * (k + 1) := by rw [ByteArray.size_append, ByteArray.size_append]; have h32 : (⟨#[32]⟩ : ByteArray).size = 1 := rfl; omega
              have m2 : ¬ (9223372036854775807 < U.size + Q.size) := by omega
              have m3 : ¬ (9223372036854775807 < U.size + 1 + Q.size) := by omega
              clear htk hjt hfl hk0 hQd hql
              go_wp2_with fail
              (with_reducible refine (rquote F _ hFs).mono ?_); rintro e w5 ⟨rfl, hb5⟩
              rw [← HQ.out]
              go_wp2
              go_roundw
              case rel => exact ⟨k + 1, _, by omega, by go_num, rfl, hU2, hsz2, hbd2, bt hbw hb5⟩
              case measure => simp [intOf]; omega
          case false =>
            rcases hba : bareL F.data.toList with _ | _
            · have hR := Lib.hid (joinL_bad h5 Hlg.out (any_take (k := k + 1) (show (l.take (k + 1)).any badB = true by rw [htk.out, List.any_append]; simp [badB, hba])))
              have Hba := Lib.hid hba
              clear htk hjt hfl hba
              go_wp2_with fail
              (with_reducible refine (rbare F _ hFs).mono ?_); rintro e w5 ⟨rfl, hb5⟩
              rw [Hba.out]
              go_wp2
              go_ret2
              exact RetSE.mk' hR.out (bt hbw hb5)
            · by_cases hk0 : k = 0
              · have hbd2 := Lib.hid (take_any hbd.out htk.out (show badB (F.data.toList, false) = false by unfold badB; rw [hba]; rfl))
                have hU2 := Lib.hid (show (U ++ F).data.toList = joinT (l.take (k + 1)) by rw [hjt.out, if_pos hk0, bytes_app (a := []) (c := F.data.toList) (by rw [hU.out, hk0]; rfl) rfl]; rfl)
                have i0 : ¬ ((0 : Int) < (k : Int)) := by omega
                have hsz2 : (U ++ F).size ≤ 8003 * (k + 1) := by rw [ByteArray.size_append]; have hx : (F).size = (F.data.toList).length := rfl; omega
                have Hba := Lib.hid hba
                clear htk hjt hfl hk0 hba
                go_wp2_with fail
                (with_reducible refine (rbare F _ hFs).mono ?_); rintro e w5 ⟨rfl, hb5⟩
                rw [Hba.out]
                obtain ⟨d3, d4⟩ := HRk.out _ (bt hbw hb5)
                go_wp2
                go_roundw
                case rel => exact ⟨k + 1, _, by omega, by go_num, rfl, hU2, hsz2, hbd2, bt hbw hb5⟩
                case measure => simp [intOf]; omega
              · have hbd2 := Lib.hid (take_any hbd.out htk.out (show badB (F.data.toList, false) = false by unfold badB; rw [hba]; rfl))
                have hU2 := Lib.hid (show (U ++ ⟨#[32]⟩ ++ F).data.toList = joinT (l.take (k + 1)) by rw [hjt.out, if_neg hk0, bytes_join hU.out (b := [32]) rfl (c := F.data.toList) rfl]; rfl)
                have i0 : (0 : Int) < (k : Int) := by omega
                have s32 : (U ++ (⟨#[32]⟩ : ByteArray)).size = U.size + 1 := by rw [ByteArray.size_append]; rfl
                have m1 : ¬ (9223372036854775807 < U.size + (⟨#[32]⟩ : ByteArray).size) := by show ¬ (9223372036854775807 < U.size + 1); omega
                have hsz2 : (U ++ ⟨#[32]⟩ ++ F).size ≤ 8003 * (k + 1) := by rw [ByteArray.size_append, ByteArray.size_append]; have h32 : (⟨#[32]⟩ : ByteArray).size = 1 := rfl; have hx : (F).size = (F.data.toList).length := rfl; omega
                have Hba := Lib.hid hba
                clear htk hjt hfl hk0 hba
                go_wp2_with fail
                (with_reducible refine (rbare F _ hFs).mono ?_); rintro e w5 ⟨rfl, hb5⟩
                rw [Hba.out]
                obtain ⟨d3, d4⟩ := HRk.out _ (bt hbw hb5)
                go_wp2
                go_roundw
                case rel => exact ⟨k + 1, _, by omega, by go_num, rfl, hU2, hsz2, hbd2, bt hbw hb5⟩
                case measure => simp [intOf]; omega
        · have i1 : ¬ ((k : Int) < (l.length : Int)) := by omega
          obtain rfl : k = l.length := by omega
          have hU2 := hU.out
          have hb2 := hbd.out
          rw [List.take_length] at hU2 hb2
          have hUl : U.data.toList.length = U.size := rfl
          by_cases h8 : 8192 < U.size
          · have hR := Lib.hid (joinL_big h5 Hlg.out hb2 (by rw [← hU2, hUl]; exact h8))
            have i8 : (8192 : Int) < (U.size : Int) := by omega
            clear hU2 hb2 hUl h8 hU hbd
            go_wp2
            go_ret2
            exact RetSE.mk' hR.out hbw
          · have hR := Lib.hid (show joinL l = (U.data.toList, 0) by rw [joinL_ok h5 Hlg.out hb2 (by rw [← hU2, hUl]; exact h8), hU2])
            have i8 : ¬ ((8192 : Int) < (U.size : Int)) := by omega
            clear hU2 hb2 hUl h8 hU hbd
            go_wp2
            go_ret2
            exact RetSE.mk' hR.out hbw
end Go.Proofs.YtngbgchnbcfliaaDoor
