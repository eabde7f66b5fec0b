/- words: less, next, parts of the reference. No condition. -/
import Derived.Test.YtngbgchnbcfliaaGreatDoorP10
namespace Go.Proofs.YtngbgchnbcfliaaGreatDoor
open Go.RowKit
theorem strE2 : Elem Tryz.prog 61 9 (.string ⟨#[]⟩) 1 16 := ⟨Tryz.underlying61, by kernel_rfl, rfl, by decide⟩
theorem bless : ∀ a b : List UInt8, Op.bytesLess a b = decide (Lib.compareBytes a b < 0)
  | [], [] => rfl
  | _ :: _, [] => by simp [Op.bytesLess, Lib.compareBytes]
  | [], _ :: _ => by simp [Op.bytesLess, Lib.compareBytes]
  | x :: a, y :: b => by
    unfold Op.bytesLess Lib.compareBytes
    by_cases h1 : x < y
    · rw [if_pos h1]; simp [h1]
    · rw [if_neg h1]
      by_cases h2 : y < x
      · rw [if_pos h2]
        have h3 : (x == y) = false := by
          rw [beq_eq_false_iff_ne]; rintro rfl; exact UInt8.lt_irrefl _ h2
        simp [h1, h3]
      · rw [if_neg h2]
        have h3 : x = y := by
          apply UInt8.toNat_inj.1
          have h1' : ¬ x.toNat < y.toNat := h1
          have h2' : ¬ y.toNat < x.toNat := h2
          omega
        rw [bless a b]
        subst h3
        simp [h1]
theorem rless_ (a b : ByteArray) (w : World) :
    Calls Tryz.prog 35 #[.string a, .string b] w fun e w' => e = .returned (.bool (decide (cmpI a.data.toList b.data.toList < 0))) ∧ w' = w := by
  have la : a.data.toList.length = a.size := rfl
  have lb : b.data.toList.length = b.size := rfl
  by_cases h : a.size = b.size
  · have m1 : ((a.size : Int) != (b.size : Int)) = false := by rw [h]; simp
    have hR := Lib.hid (show decide (cmpI a.data.toList b.data.toList < 0) = Op.bytesLess a.toList b.toList by unfold cmpI; rw [if_pos (by rw [la, lb]; exact h), bless, ByteArray.toList_eq, ByteArray.toList_eq])
    clear la lb h
    go_enter Tryz.func35, Tryz.ntmps35
    go_wp2
    go_ret
    exact ⟨ret_bool hR.out.symm, rfl⟩
  · have m1 : ((a.size : Int) != (b.size : Int)) = true := by rw [bne_iff_ne]; omega
    have hR := Lib.hid (show decide (cmpI a.data.toList b.data.toList < 0) = decide (a.size < b.size) by
      unfold cmpI; rw [if_neg (by rw [la, lb]; exact h), la, lb, decide_eq_decide]; omega)
    clear la lb h
    go_enter Tryz.func35, Tryz.ntmps35
    go_wp2
    go_ret
    exact ⟨ret_bool hR.out.symm, rfl⟩
/-- the bytes behind p are 9, the one at p - 1 is not -/
theorem nine_at {l : List UInt8} {z : Nat} (hz : z = k9 l) : (∀ j, l.length - z ≤ j → j < l.length → l[j]? = some 57) ∧ (z < l.length → ∃ c, l[l.length - z - 1]? = some c ∧ c ≠ 57) := by
  obtain ⟨p, hp, hp2⟩ := k9_split _ l rfl
  rw [← hz] at hp
  have hl : l.length = p.length + z := by
    have := congrArg List.length hp
    rw [List.length_append, List.length_replicate] at this
    exact this
  constructor
  · intro j h1 h2
    rw [hp, List.getElem?_append_right (by omega), List.getElem?_replicate, if_pos (by omega)]
  · intro h1
    rcases hp2 with rfl | ⟨q, c, rfl, hc⟩
    · simp at hl; omega
    · refine ⟨c, ?_, hc⟩
      rw [hp, List.getElem?_append_left (by simp at hl ⊢; omega)]
      simp at hl
      rw [show (q ++ [c] ++ List.replicate z (57 : UInt8)).length - z - 1 = q.length by rw [← hp]; omega]
      simp
theorem rep48_snoc {Z : ByteArray} {j : Nat} (h : Z.data.toList = List.replicate j 48) : (Z ++ (⟨#[48]⟩ : ByteArray)).data.toList = List.replicate (j + 1) 48 := by
  rw [ByteArray.data_append, Array.toList_append, h, List.replicate_succ']
theorem conv1c (W : World) (g : Nat) (x : Int) (d : Nat) (hx : x = (d : Int)) (hd : d < 256) (hg : W.heap[g]? = some (.cells #[.int .u8 x] 5 (0, 0))) :
    (convert 49 9 (.slice (some ⟨g, 0, none⟩) 1 1)).run Tryz.prog W = .ok (.string ⟨#[UInt8.ofNat d]⟩) W := conv1b W g x d hx hd hg
set_option maxRecDepth 100000 in
set_option maxHeartbeats 2000000 in
theorem rnext_ (s : ByteArray) (w : World) (hs : s.size ≤ 1000000) (hd : digsL s.data.toList = true) :
    Calls Tryz.prog 36 #[.string s] w fun e w' => (∃ V : ByteArray, e = .returned (.string V) ∧ V.data.toList = nextL s.data.toList ∧ V.size ≤ s.size + 1) ∧ Below w.heap.size w w' := by
  have la : s.data.toList.length = s.size := rfl
  have hk := k9_le s.data.toList
  obtain ⟨z, hz⟩ : ∃ z, z = k9 s.data.toList := ⟨_, rfl⟩
  obtain ⟨n1, n2⟩ := nine_at hz
  rw [← hz, la] at hk
  rw [la] at n1 n2
  have N1 := Lib.hid (fun (j : Nat) (h1 : s.size - z ≤ j) (h2 : j < s.size) => show ((s[j].toNat : Int) == 57) = true by
    have h3 := n1 j h1 h2
    rw [at_data s j h2] at h3
    rw [Option.some.inj h3]; rfl)
  by_cases hall : z = s.size
  · have hN := Lib.hid (fun (Z : ByteArray) (h : Z.data.toList = List.replicate z 48) => show ((⟨#[49]⟩ : ByteArray) ++ Z).data.toList = nextL s.data.toList by
      rw [ByteArray.data_append, Array.toList_append, h]
      unfold nextL
      rw [if_pos (by rw [← hz, la]; exact hall), ← hz]; rfl)
    clear hz n1 n2 hd la
    go_enter Tryz.func36, Tryz.ntmps36
    go_wp2
    go_loopw [3] (fun i wr => ∃ k : Nat, k ≤ s.size ∧ i = .int .i64 ((k : Int) - 1) ∧ w = wr) (fun i _ => (intOf i + 1).toNat)
    case atStart => exact ⟨s.size, Nat.le_refl _, rfl, rfl⟩
    case round =>
      obtain ⟨k, hks, rfl, rfl⟩ := hrel
      by_cases hk0 : k = 0
      · have i1 : ¬ ((0 : Int) ≤ (k : Int) - 1) := by omega
        have e1 : (k : Int) - 1 + 1 = ((0 : Nat) : Int) := by omega
        clear N1
        go_wp2
        go_loopw [4, 5] (fun o i wr => ∃ (j : Nat) (Z : ByteArray), j ≤ z ∧ i = .int .i64 j ∧ o = .string Z ∧ Z.size = j ∧ Hid (Z.data.toList = List.replicate j 48) ∧ w = wr) (fun _ i _ => z - (intOf i).toNat)
        case atStart => exact ⟨0, ⟨#[]⟩, Nat.zero_le _, by first | rfl | rw [e1], rfl, rfl, Lib.hid rfl, rfl⟩
        case round =>
          obtain ⟨j, Z, hj, rfl, rfl, hZs, hZ, rfl⟩ := hrel
          have m0 : ¬ (9223372036854775807 < Z.size + 1) := by omega
          have m1 : ¬ (9223372036854775807 < 1 + Z.size) := by omega
          by_cases hjz : j < z
          · have i2 : (j : Int) < (s.size : Int) := by omega
            have hZ2 := Lib.hid (rep48_snoc hZ.out)
            clear hall
            go_wp2
            go_roundw
            case rel => exact ⟨j + 1, Z ++ ⟨#[48]⟩, by omega, by go_num, rfl, by rw [ByteArray.size_append, hZs]; rfl, hZ2, trivial⟩
            case measure => (simp [intOf]) <;> omega
          · have i2 : ¬ ((j : Int) < (s.size : Int)) := by omega
            obtain rfl : j = z := by omega
            have hR := Lib.hid (hN.out Z hZ.out)
            have hRs := Lib.hid (show ((⟨#[49]⟩ : ByteArray) ++ Z).size ≤ s.size + 1 by rw [ByteArray.size_append]; show 1 + Z.size ≤ _; omega)
            have i3 : (k : Int) - 1 < 0 := by omega
            clear hall hZ hN
            go_wp2
            go_ret
            exact ⟨⟨_, rfl, hR.out, hRs.out⟩, Below.refl _ _⟩
      · obtain ⟨j, rfl⟩ : ∃ j, k = j + 1 := ⟨k - 1, by omega⟩
        have e1 : ((j + 1 : Nat) : Int) - 1 = (j : Int) := by omega
        have i1 : (0 : Int) ≤ (j : Int) := by omega
        have i2 : j < s.size := by omega
        have i3 : (j : Int) < (s.size : Int) := by omega
        have m1 := N1.out j (by omega) i2
        rw [e1]
        clear hall
        go_wp2
        go_roundw
        case rel => exact ⟨j, by omega, by go_num, trivial⟩
        case measure => (simp [intOf]) <;> omega
  · obtain ⟨p, hp⟩ : ∃ p, p = s.size - 1 - z := ⟨_, rfl⟩
    have hpz : p + 1 + z = s.size := by omega
    have hpa : p < s.size := by omega
    obtain ⟨c, hc, hc9⟩ := n2 (by omega)
    rw [show s.size - z - 1 = p by omega, at_data s p hpa] at hc
    have hc := Option.some.inj hc
    have m9 : ((s[p].toNat : Int) == 57) = false := by
      rw [beq_eq_false_iff_ne, hc]; intro e
      exact hc9 (UInt8.toNat_inj.1 (by have : (57 : UInt8).toNat = 57 := rfl; omega))
    have hdg := digs_ascii (digsL_all hd).1 hpa
    have q1 : IntKind.u8.wrap ((s[p].toNat : Int) + 1) = (s[p].toNat : Int) + 1 := IntWalk.u8_in _ (by omega)
    obtain ⟨c8, hc8⟩ : ∃ c8, c8 = UInt8.ofNat (s[p].toNat + 1) := ⟨_, rfl⟩
    have hcC : ∀ (W : World) (g : Nat), W.heap[g]? = some (.cells #[.int .u8 ((s[p].toNat : Int) + 1)] 5 (0, 0)) → (convert 49 9 (.slice (some ⟨g, 0, none⟩) 1 1)).run Tryz.prog W = .ok (.string ⟨#[c8]⟩) W := fun W g hg => by rw [hc8]; exact conv1b W g _ (s[p].toNat + 1) (by omega) (by omega) hg
    have HcC := Lib.hid hcC
    have hN := Lib.hid (fun (Z : ByteArray) (h : Z.data.toList = List.replicate z 48) => show (s.extract 0 p ++ (⟨#[c8]⟩ : ByteArray) ++ Z).data.toList = nextL s.data.toList by
      rw [ByteArray.data_append, ByteArray.data_append, Array.toList_append, Array.toList_append, h, ext_list2]
      unfold nextL
      rw [if_neg (by rw [← hz, la]; exact hall), ← hz, la, ← hp]
      have hg : s.data.toList.getD p 0 = s[p] := by
        rw [List.getD_eq_getElem?_getD, at_data s p hpa]; rfl
      rw [hg, hc8]
      have hb8 : UInt8.ofNat (s[p].toNat + 1) = s[p] + 1 := by
        apply UInt8.toNat_inj.1
        rw [UInt8.toNat_add]; simp
      rw [hb8]
      simp)
    have N2 := Lib.hid (fun (j : Nat) (h1 : p + 1 ≤ j) (h2 : j < s.size) => N1.out j (by omega) h2)
    clear hz n1 n2 hd la hc hc9 hc8 hcC N1 hp hall hk
    go_enter Tryz.func36, Tryz.ntmps36
    go_wp2
    go_loopw [3] (fun i wr => ∃ k : Nat, p ≤ k ∧ k < s.size ∧ i = .int .i64 (k : Int) ∧ w = wr) (fun i _ => (intOf i).toNat)
    case atStart => exact ⟨s.size - 1, by omega, by omega, by rw [show ((s.size - 1 : Nat) : Int) = (s.size : Int) - 1 by omega], rfl⟩
    case round =>
      obtain ⟨k, hpk, hks, rfl, rfl⟩ := hrel
      by_cases hkp : k = p
      · subst hkp
        have i1 : (0 : Int) ≤ (k : Int) := by omega
        have i3 : (k : Int) < (s.size : Int) := by omega
        clear N2
        go_wp2
        go_loopw [4, 5] (fun o i wr => ∃ (j : Nat) (Z : ByteArray), j ≤ z ∧ i = .int .i64 ((k : Int) + 1 + j) ∧ o = .string Z ∧ Z.size = j ∧ Hid (Z.data.toList = List.replicate j 48) ∧ w = wr) (fun _ i _ => s.size - (intOf i).toNat)
        case atStart => exact ⟨0, ⟨#[]⟩, Nat.zero_le _, by simp, rfl, rfl, Lib.hid rfl, rfl⟩
        case round =>
          obtain ⟨j, Z, hj, rfl, rfl, hZs, hZ, rfl⟩ := hrel
          have m0 : ¬ (9223372036854775807 < Z.size + 1) := by omega
          by_cases hjz : j < z
          · have i2 : (k : Int) + 1 + (j : Int) < (s.size : Int) := by omega
            have hZ2 := Lib.hid (rep48_snoc hZ.out)
            clear hpz hpk
            go_wp2
            go_roundw
            case rel => exact ⟨j + 1, Z ++ ⟨#[48]⟩, by omega, by go_num, rfl, by rw [ByteArray.size_append, hZs]; rfl, hZ2, trivial⟩
            case measure => (simp [intOf]) <;> omega
          · have i2 : ¬ ((k : Int) + 1 + (j : Int) < (s.size : Int)) := by omega
            obtain rfl : j = z := by omega
            have hR := Lib.hid (hN.out Z hZ.out)
            have hRs := Lib.hid (show (s.extract 0 k ++ (⟨#[c8]⟩ : ByteArray) ++ Z).size ≤ s.size + 1 by
              rw [ByteArray.size_append, ByteArray.size_append, ByteArray.size_extract]; show _ + 1 + _ ≤ _; omega)
            have i5 : ¬ ((k : Int) < 0) := by omega
            have i6 : (k : Int) ≤ (s.size : Int) := by omega
            have i7 : k ≤ s.size := by omega
            have j1 : ¬ (9223372036854775807 < k + 1) := by omega
            have j2 : ¬ (9223372036854775807 < k + 1 + Z.size) := by omega
            have hcA := HcC.out (w.alloc (.cells #[.int .u8 ((s[k].toNat : Int) + 1)] 5 (0, 0))) w.heap.size (alloc1_new _ _)
            have hcD := HcC.out (w.drew.alloc (.cells #[.int .u8 ((s[k].toNat : Int) + 1)] 5 (0, 0))) w.heap.size (alloc1_new w.drew _)
            have hcE := HcC.out (w.alloc (.cells #[.int .u8 ((s[k].toNat : Int) + 1)] 5 (0, 0))).drew w.heap.size (alloc1_new w _)
            clear hZ hN hpz hpk HcC
            go_wp2
            go_region
            all_goals
              go_wp2
              go_ret
              exact ⟨⟨_, rfl, hR.out, hRs.out⟩, by first | exact ba (below_drewN' _ 1) _ | exact bd (ba (Below.refl _ _) _) 1⟩
      · have i1 : (0 : Int) ≤ (k : Int) := by omega
        have i3 : (k : Int) < (s.size : Int) := by omega
        have m1 := N2.out k (by omega) hks
        obtain ⟨j, rfl⟩ : ∃ j, k = j + 1 := ⟨k - 1, by omega⟩
        have e1 : ((j + 1 : Nat) : Int) - 1 = (j : Int) := by omega
        clear m9 q1
        go_wp2
        go_roundw
        case rel => exact ⟨j, by omega, by omega, by go_num, trivial⟩
        case measure => simp [intOf]
theorem u8eqI {c d : UInt8} : ((c.toNat : Int) == (d.toNat : Int)) = decide (c = d) := by
  rw [Bool.eq_iff_iff, beq_iff_eq, decide_eq_true_eq]
  constructor
  · intro h; apply UInt8.toNat_inj.1; omega
  · intro h; subst h; rfl
set_option maxRecDepth 100000 in
set_option maxHeartbeats 2000000 in
theorem rparts_ (s : ByteArray) (d : UInt8) (D : Int) (hD : Hid (D = (d.toNat : Int))) (w : World) (hs : s.size ≤ 1000000000) {L : List ByteArray} (hL : Hid (ptsB d s = L)) :
    Calls Tryz.prog 33 #[.string s, .int .u8 D] w fun e w' => (∃ A cap, e = .returned (.slice A L.length cap) ∧ Reads w' w'.heap.size 1 A L.length (Ssb L) ∧ L.length ≤ cap) ∧ Below w.heap.size w w' := by
  have hl : Hid (ptsB d s = L) := hL
  go_enter Tryz.func33, Tryz.ntmps33
  go_wp2
  go_loopw [5, 6, 7] (fun v f i wr => ∃ (k a : Nat) (out : List ByteArray), k ≤ s.size ∧ a ≤ k ∧ i = .int .i64 k ∧ f = .int .i64 a ∧ Below w.heap.size w wr ∧ wr.ownsRow w.heap.size 9 1 v out.length (Ssb out) ∧ out.length ≤ k ∧ Hid (PtRel d s a k out)) (fun _ _ i _ => s.size - (intOf i).toNat)
  case atStart => exact ⟨0, 0, [], Nat.zero_le _, Nat.zero_le _, rfl, rfl, Below.refl _ _, World.ownsRow_nil _ _ _ _, Nat.zero_le _, Lib.hid (PtRel.start d s)⟩
  case round =>
    obtain ⟨k, a, out, hk, ha, rfl, rfl, hbl, hown, hol, hr⟩ := hrel
    by_cases hlt : k < s.size
    case neg =>
      have hks : k = s.size := by omega
      have hE : L = out ++ [s.extract a s.size] := by rw [← hl.out]; rw [hks] at hr; exact hr.out.done
      have HE := Lib.hid hE
      have i1 : ¬ ((k : Int) < (s.size : Int)) := by omega
      clear hr hE hl hL
      rw [hks] at ha hol
      clear hks
      go_wp2_with (at_builtin; refine wpList_ap strE2 (hown.alloc _) (ba hbl _) [.string (s.extract a s.size)] (alloc1_new _ _) ?_)
      intro g cap w3 hown3 hb3 hg3
      obtain ⟨A9, c9, hA9, hr9, hc9, hm9⟩ := own_sl hown3
      injection hA9 with a1 a2 a3
      subst a1 a3
      go_wp2
      go_ret
      refine ⟨⟨some ⟨g, 0, none⟩, cap, ?_, ?_, ?_⟩, hb3⟩
      · rw [HE.out, List.length_append]; rfl
      · rw [HE.out, List.length_append]
        have e : Ssb (out ++ [s.extract a s.size]) = Ssb out ++ [.string (s.extract a s.size)] := by simp
        rw [e]; exact hr9
      · rw [HE.out, List.length_append]; exact hc9
    case pos =>
    have i1 : (k : Int) < (s.size : Int) := by omega
    by_cases hc : s[k] = d
    · have m2 : ((s[k].toNat : Int) == D) = true := by rw [hD.out, u8eqI]; simp [hc]
      have hr2 := Lib.hid (hr.out.hit hlt hc)
      clear hr hc hl hL
      go_wp2_with (at_builtin; refine wpList_ap strE2 (hown.alloc _) (ba hbl _) [.string (s.extract a k)] (alloc1_new _ _) ?_)
      intro g cap w3 hown3 hb3 hg3
      go_wp2
      go_roundw
      case rel => exact ⟨k + 1, k + 1, out ++ [s.extract a k], by omega, by omega, by go_num, by go_num, hb3, by simpa using hown3, by simp; omega, hr2⟩
      case measure => (simp [intOf]) <;> omega
    · have m2 : ((s[k].toNat : Int) == D) = false := by rw [hD.out, u8eqI]; simp [hc]
      have hr2 := Lib.hid (hr.out.other hlt ha hc)
      clear hr hc hl hL
      go_wp2
      go_roundw
      case rel => exact ⟨k + 1, a, out, by omega, by omega, by go_num, rfl, hbl, hown, by omega, hr2⟩
      case measure => (simp [intOf]) <;> omega
end Go.Proofs.YtngbgchnbcfliaaGreatDoor
