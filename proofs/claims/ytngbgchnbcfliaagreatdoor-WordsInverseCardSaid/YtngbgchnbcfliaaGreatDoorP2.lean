/- words: compare and follows of the program. No condition. -/
import Derived.Test.YtngbgchnbcfliaaGreatDoorP1
import Derived.Test.YtngbgchnbcfliaaGreatDoorShelf
import Derived.Test.YtngbgchnbcfliaaGreatDoorN3
import Derived.RegionTactic
import Derived.Deep.RegionHeld3
import Derived.Test.YtngbgchnbcfliaaGreatDoorStep
namespace Go.Proofs.YtngbgchnbcfliaaGreatDoor
open Go.RowKit
/-- the sign of compare: length first, then the bytes -/
def cmpI (a b : List UInt8) : Int := if a.length = b.length then Lib.compareBytes a b else (a.length : Int) - (b.length : Int)
theorem compare_ (a b : ByteArray) (w : World) (ha : a.size ≤ 1099511627776) (hb : b.size ≤ 1099511627776) :
    Calls Tryz.prog 30 #[.string a, .string b] w fun e w' => e = .returned (.int .i64 (cmpI a.data.toList b.data.toList)) ∧ w' = w := by
  have la : a.data.toList.length = a.size := rfl
  have lb : b.data.toList.length = b.size := rfl
  by_cases h : a.size = b.size
  · have m1 : ((a.size : Int) != (b.size : Int)) = false := by rw [h]; simp
    have hR := Lib.hid (show cmpI a.data.toList b.data.toList = Lib.compareBytes a.data.toList b.data.toList by unfold cmpI; rw [if_pos (by rw [la, lb]; exact h)])
    clear la lb h
    go_enter Tryz.func30, Tryz.ntmps30
    go_wp2_with fail
    (with_reducible refine (Tryz.strings_Compare a b _).mono ?_); rintro e w1 ⟨rfl, hw1⟩; subst hw1
    go_wp2
    go_ret
    exact ⟨ret_int hR.out.symm, rfl⟩
  · have m1 : ((a.size : Int) != (b.size : Int)) = true := by rw [bne_iff_ne]; omega
    have hR := Lib.hid (show cmpI a.data.toList b.data.toList = (a.size : Int) - (b.size : Int) by unfold cmpI; rw [if_neg (by rw [la, lb]; exact h), la, lb])
    clear la lb h
    go_enter Tryz.func30, Tryz.ntmps30
    go_wp2
    go_ret
    exact ⟨ret_int hR.out.symm, rfl⟩
/-- the next form -/
def nextL (a : List UInt8) : List UInt8 :=
  if k9 a = a.length then 49 :: List.replicate (k9 a) 48 else a.take (a.length - 1 - k9 a) ++ [(a.getD (a.length - 1 - k9 a) 0) + 1] ++ List.replicate (k9 a) 48
theorem rep48 : ∀ k : Nat, Lib.repeatL [48] k = List.replicate k 48
  | 0 => rfl
  | k + 1 => by show [48] ++ Lib.repeatL [48] k = _; rw [rep48 k]; rfl
theorem repeat_ (k : Nat) (w : World) (hk : k ≤ 1099511627776) :
    Calls Tryz.prog 55 #[.string ⟨#[48]⟩, .int .i64 (k : Int)] w fun e w' => e = .returned (.string ⟨(List.replicate k 48).toArray⟩) ∧ Below w.heap.size w w' := by
  have := Tryz.strings_Repeat ⟨#[48]⟩ k w (by omega) (by show 1 * k ≤ _; omega)
  have e : Lib.repeatL (⟨#[48]⟩ : ByteArray).data.toList k = List.replicate k 48 := rep48 k
  rw [e] at this
  exact this
theorem conv1b (W : World) (g : Nat) (x : Int) (d : Nat) (hx : x = (d : Int)) (hd : d < 256) (hg : W.heap[g]? = some (.cells #[.int .u8 x] 5 (0, 0))) :
    (convert 49 9 (.slice (some ⟨g, 0, none⟩) 1 1)).run Tryz.prog W = .ok (.string ⟨#[UInt8.ofNat d]⟩) W := by
  subst hx
  have h1 : (bs8 [UInt8.ofNat d]) = [.int .u8 (d : Int)] := by simp [bs8]; omega
  have hr := reads_blk (cs := [.int .u8 (d : Int)]) hg
  rw [← h1] at hr
  exact run_conv Tryz.underlying49 Tryz.underlying5 Tryz.underlying9 (l := [UInt8.ofNat d]) hr
/-- a call with two arguments as one step of a region -/
theorem step_fn2 {P : Program} {w : World} {ops : Array Oper} {o : Oper} {a : Act} {K : Act → World → Prop} {Q : Exit → Act → World → Prop} {E0 : Prop} (f : FuncId) {x y : Operand} {ts : Array TypeId} (v u : Value) {R : Ending → World → Prop}
    (hcf : ∀ vs W, (callFunc f vs).run P W = .ok (.enter f vs) W) (h : Calls P f #[v, u] w R) (hR : ∀ e w', R e w' → ∃ v, e = .returned v ∧ K (a.put o.dst v) w')
    (hgd : o.guard = none := by rfl) (ho : o.op = .call { callee := .value (.func f), args := #[x, y], argTypes := ts } := by rfl) (hx : a.eval x = v := by rfl) (hy : a.eval y = u := by rfl) :
    if Region.wanted o (yielded ops a.tmps) = true then Oper.wp P o a w K Q else E0 :=
  step_fn f _ _ _ R (hcf _) h hR hgd ho (by simp [hx, hy])
theorem cf_cmp (vs : Array Value) (W : World) : (callFunc 30 vs).run Tryz.prog W = .ok (.enter 30 vs) W := cf_of Tryz.func30 (by kernel_rfl) (by kernel_rfl) vs W
set_option maxRecDepth 100000 in
theorem lif_ (s : ByteArray) (w : World) (hs : s.size ≤ 1099511627776) (hd : s.data.toList.all digB = true) (I : Int) (hI : Hid (I = (s.size : Int) - 1 - (k9 s.data.toList : Int))) :
    Calls Tryz.prog 53 #[.string s, .func (.func 54) #[] #[]] w fun e w' => e = .returned (.int .i64 I) ∧ w' = w := by
  have HC := Lib.hid (lastIdx_ s w hs hd)
  rw [hI.out]
  clear hd hI
  go_enter Tryz.func53, Tryz.ntmps53
  go_wp2_with fail
  (with_reducible refine HC.out.mono ?_); rintro e w1 ⟨rfl, hw1⟩; subst hw1
  go_wp2
  go_ret
  exact ⟨rfl, rfl⟩
set_option maxRecDepth 100000 in
set_option maxHeartbeats 2000000 in
theorem follows_ (a b : ByteArray) (w : World) (ha : a.size ≤ 1000000) (hb : b.size ≤ 1000000) (hd : a.data.toList.all digB = true) :
    Calls Tryz.prog 31 #[.string a, .string b] w fun e w' => e = .returned (.bool (decide (cmpI (nextL a.data.toList) b.data.toList < 0))) ∧ Below w.heap.size w w' := by
  have la : a.data.toList.length = a.size := rfl
  have hk := k9_le a.data.toList
  obtain ⟨z, hz⟩ : ∃ z, z = k9 a.data.toList := ⟨_, rfl⟩
  rw [← hz, la] at hk
  obtain ⟨Z, hZ⟩ : ∃ Z : ByteArray, Z = ⟨(List.replicate z 48).toArray⟩ := ⟨_, rfl⟩
  have hZd : Z.data.toList = List.replicate z 48 := by rw [hZ]
  have hZs : Z.size = z := by
    have h1 : Z.data.toList.length = Z.size := rfl
    rw [hZd, List.length_replicate] at h1; exact h1.symm
  have HRp := Lib.hid (fun W : World => repeat_ z W (by omega))
  rw [← hZ] at HRp
  have hs9 : a.size ≤ 1099511627776 := by omega
  by_cases hall : z = a.size
  · have hI : Hid ((-1 : Int) = (a.size : Int) - 1 - (k9 a.data.toList : Int)) := Lib.hid (by rw [← hz, hall]; omega)
    have HL := Lib.hid (lif_ a w hs9 hd (-1) hI)
    have e1 : (a.size : Int) - 1 - (-1) = (z : Int) := by rw [hall]; omega
    have e2 : (a.size : Int) - 1 + 1 = (z : Int) := by rw [hall]; omega
    have hN : ((⟨#[49]⟩ : ByteArray) ++ Z).data.toList = nextL a.data.toList := by
      rw [ByteArray.data_append, Array.toList_append, hZd]
      unfold nextL
      rw [if_pos (by rw [← hz, la]; exact hall), ← hz]; rfl
    have HN := Lib.hid hN
    have hsz : ((⟨#[49]⟩ : ByteArray) ++ Z).size ≤ 1099511627776 := by rw [ByteArray.size_append]; show 1 + Z.size ≤ _; omega
    have HC := Lib.hid (fun W : World => compare_ ((⟨#[49]⟩ : ByteArray) ++ Z) b W hsz (by omega))
    rw [hN] at HC
    have j1 : ¬ (9223372036854775807 < (⟨#[49]⟩ : ByteArray).size + Z.size) := by show ¬ (9223372036854775807 < 1 + Z.size); omega
    clear hz hZ hZd hN hall la hI hd hsz
    go_enter Tryz.func31, Tryz.ntmps31
    go_wp2_with fail
    (with_reducible refine HL.out.mono ?_); rintro e w1 ⟨rfl, hw1⟩; subst hw1
    go_wp2_with fail
    (with_reducible refine (HRp.out _).mono ?_); rintro e w2 ⟨rfl, hb2⟩
    go_wp2_with fail
    (with_reducible refine (HC.out _).mono ?_); rintro e w3 ⟨rfl, hw3⟩; subst hw3
    go_wp2
    go_ret
    exact ⟨rfl, hb2⟩
  · obtain ⟨p, hp⟩ : ∃ p, p = a.size - 1 - z := ⟨_, rfl⟩
    have hpz : p + 1 + z = a.size := by omega
    have hpa : p < a.size := by omega
    have hI : Hid ((p : Int) = (a.size : Int) - 1 - (k9 a.data.toList : Int)) := Lib.hid (by rw [← hz]; omega)
    have HL := Lib.hid (lif_ a w hs9 hd (p : Int) hI)
    have e1 : (a.size : Int) - 1 - (p : Int) = (z : Int) := by omega
    have hdg := digs_ascii hd hpa
    have q1 : IntKind.u8.wrap ((a[p].toNat : Int) + 1) = (a[p].toNat : Int) + 1 := IntWalk.u8_in _ (by omega)
    obtain ⟨c8, hc8⟩ : ∃ c8, c8 = UInt8.ofNat (a[p].toNat + 1) := ⟨_, rfl⟩
    have hcC : ∀ (W : World) (g : Nat), W.heap[g]? = some (.cells #[.int .u8 ((a[p].toNat : Int) + 1)] 5 (0, 0)) → (convert 49 9 (.slice (some ⟨g, 0, none⟩) 1 1)).run Tryz.prog W = .ok (.string ⟨#[c8]⟩) W := fun W g hg => by rw [hc8]; exact conv1b W g _ (a[p].toNat + 1) (by omega) (by omega) hg
    have HcC := Lib.hid hcC
    have hN : (a.extract 0 p ++ (⟨#[c8]⟩ : ByteArray) ++ Z).data.toList = nextL a.data.toList := by
      rw [ByteArray.data_append, ByteArray.data_append, Array.toList_append, Array.toList_append, hZd, ext_list2]
      unfold nextL
      rw [if_neg (by rw [← hz, la]; exact hall), ← hz, la, ← hp]
      have hg : a.data.toList.getD p 0 = a[p] := by
        rw [List.getD_eq_getElem?_getD, at_data a p hpa]; rfl
      rw [hg, hc8]
      have hb8 : UInt8.ofNat (a[p].toNat + 1) = a[p] + 1 := by
        apply UInt8.toNat_inj.1
        rw [UInt8.toNat_add]; simp
      rw [hb8]
      simp
    have hsz : (a.extract 0 p ++ (⟨#[c8]⟩ : ByteArray) ++ Z).size ≤ 1099511627776 := by
      rw [ByteArray.size_append, ByteArray.size_append, ByteArray.size_extract]; show _ + 1 + _ ≤ _; omega
    have HC := Lib.hid (fun W : World => compare_ (a.extract 0 p ++ (⟨#[c8]⟩ : ByteArray) ++ Z) b W hsz (by omega))
    rw [hN] at HC
    have j1 : ¬ (9223372036854775807 < p + 1) := by omega
    have j2 : ¬ (9223372036854775807 < p + 1 + Z.size) := by omega
    have i0 : ¬ ((p : Int) < 0) := by omega
    have i1 : (p : Int) < (a.size : Int) := by omega
    have i2 : (0 : Int) ≤ (p : Int) := by omega
    have i3 : (p : Int) ≤ (a.size : Int) := by omega
    have i4 : p ≤ a.size := by omega
    clear hz hZ hZd hN hall la hI hd hsz hp hc8 hdg hcC hpz hZs
    go_enter Tryz.func31, Tryz.ntmps31
    go_wp2_with fail
    (with_reducible refine HL.out.mono ?_); rintro e w1 ⟨rfl, hw1⟩; subst hw1
    go_wp2_with fail
    (with_reducible refine (HRp.out _).mono ?_); rintro e w2 ⟨rfl, hb2⟩
    go_wp2
    have hcA := HcC.out (w2.alloc (.cells #[.int .u8 ((a[p].toNat : Int) + 1)] 5 (0, 0))) w2.heap.size (alloc1_new _ _)
    have hcD := HcC.out (w2.alloc (.cells #[.int .u8 ((a[p].toNat : Int) + 1)] 5 (0, 0))).drew w2.heap.size (alloc1_new w2 _)
    go_region_law ((first
      | (refine step_fn2 30 (.string (a.extract 0 p ++ (⟨#[c8]⟩ : ByteArray) ++ Z)) (.string b) cf_cmp (HC.out _) ?_; intro e w' hh; obtain ⟨rfl, rfl⟩ := hh; refine ⟨_, rfl, ?_⟩)))
    all_goals
      go_wp2
      go_ret
      exact ⟨rfl, by first | exact bt hb2 (bd (ba (Below.refl _ _) _) 1) | exact ba (bt hb2 (below_drewN' _ 1)) _⟩
end Go.Proofs.YtngbgchnbcfliaaGreatDoor
