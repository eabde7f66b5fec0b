/- BitsKnown: the law returns true. No condition. -/
import Derived.Test.YtaogplmcabbikaaGreatDoorB36
import Derived.Test.YtaogplmcabbikaaGreatDoorB30
import Derived.Test.YtaogplmcabbikaaGreatDoorB26
import Derived.Test.YtaogplmcabbikaaGreatDoorB9
import Derived.Test.YtaogplmcabbikaaGreatDoorB5
import Derived.Test.YtaogplmcabbikaaGreatDoorB22
import Derived.Test.YtaogplmcabbikaaGreatDoorB3
import Derived.Test.YtaogplmcabbikaaGreatDoorOpenBits
namespace Go.Proofs.YtaogplmcabbikaaGreatDoor
open Go.RowKit
theorem ofK (w : World) (A : Option Addr) (c m : Nat) (n : Int) (L : List Int) (V : List Nat) (k : Nat) (e0 : Int) (hn : -9223372036854775808 ≤ n ∧ n ≤ 9223372036854775807) (hm : L.length = m) (h : Reads w w.heap.size 1 A m (i64s L)) (hl : m ≤ 9223372036854775807) (hk : V.length = k) (hq : Hid (ofL n L = V ∧ ofE n L = e0)) :
    Calls Tryz.prog 4 #[.int .i64 n, .slice A m c] w (RetSl w 1 (u64s V) k e0) := by
  subst hm hk
  have := of_ w A c n hn L h hl
  rw [hq.out.1, hq.out.2] at this
  exact this
theorem backK (w : World) (A : Option Addr) (c k : Nat) (l V : List Nat) (b v : Bool) (hk : l.length = k) (h : Reads w w.heap.size 1 A k (u64s l)) (hw : W64 l) (hl : k ≤ 9223372036854775807) (hc : chkB k = 0) (hq : Hid (bkL l v = V ∧ bkO l = b)) :
    Calls Tryz.prog 5 #[.slice A k c, .bool v] w (RetSh w V b 0) := by
  subst hk
  have := back_ w A c l h hw hl v
  rw [hq.out.1, hq.out.2, hc] at this
  exact this
theorem printK (w : World) (A : Option Addr) (c k : Nat) (l : List Nat) (T : ByteArray) (hk : l.length = k) (h : Reads w w.heap.size 1 A k (u64s l)) (hw : W64 l) (hl : k ≤ 9223372036854775807) (hT : Tz16 w) (hc : chkB k = 0) (hq : Hid (⟨(prtV l).toArray⟩ = T)) :
    Calls Tryz.prog 6 #[.slice A k c] w fun e w' => e = .returned (.tuple #[.string T, .int .i64 0]) ∧ Below w.heap.size w w' := by
  subst hk
  have := print_ w A c l h hw hl hT
  rw [hq.out, hc] at this
  exact this
theorem getK (w : World) (A : Option Addr) (c k : Nat) (l : List Nat) (i : Int) (b : Bool) (e0 : Int) (hk : l.length = k) (h : Reads w w.heap.size 1 A k (u64s l)) (hw : W64 l) (hl : k ≤ 9223372036854775807) (hi : -9223372036854775808 ≤ i ∧ i ≤ 9223372036854775807) (hq : Hid (getV l i = b ∧ getE l.length i = e0)) :
    Calls Tryz.prog 7 #[.slice A k c, .int .i64 i] w fun e w' => e = .returned (.tuple #[.bool b, .int .i64 e0]) ∧ Below w.heap.size w w' := by
  subst hk
  have := pget_ w A c l h hw hl i hi
  rw [hq.out.1, hq.out.2] at this
  exact this
theorem setK (w : World) (A : Option Addr) (c k m : Nat) (l V : List Nat) (i : Int) (v : Bool) (e0 : Int) (hk : l.length = k) (h : Reads w w.heap.size 1 A k (u64s l)) (hw : W64 l) (hl : k ≤ 9223372036854775807) (hi : -9223372036854775808 ≤ i ∧ i ≤ 9223372036854775807) (hm : V.length = m) (hq : Hid (setL l i v = V ∧ getE l.length i = e0)) :
    Calls Tryz.prog 8 #[.slice A k c, .int .i64 i, .bool v] w (RetSl w 1 (u64s V) m e0) := by
  subst hk hm
  have := set_ w A c l h hw hl i hi v
  rw [hq.out.1, hq.out.2] at this
  exact this
theorem onesK (w : World) (A : Option Addr) (c k m : Nat) (l : List Nat) (V : List Int) (hk : l.length = k) (h : Reads w w.heap.size 1 A k (u64s l)) (hw : W64 l) (hl : k ≤ 9223372036854775807) (hT : Tzt w) (hc : chkB k = 0) (hm : V.length = m) (hq : Hid (onesV l = V)) :
    Calls Tryz.prog 9 #[.slice A k c] w (RetSl w 1 (i64s V) m 0) := by
  subst hk hm
  have := ones_ w A c l h hw hl hT
  rw [hq.out, hc] at this
  exact this
theorem andK (w : World) (A A' : Option Addr) (c c' k k' : Nat) (l m V : List Nat) (n : Nat) (e0 : Int) (hk : l.length = k) (hk' : m.length = k') (h : Reads w w.heap.size 1 A k (u64s l)) (h' : Reads w w.heap.size 1 A' k' (u64s m)) (hw : W64 l) (hw' : W64 m) (hl : k ≤ 9223372036854775807) (hl' : k' ≤ 9223372036854775807) (hn : V.length = n) (hq : Hid (andL l m = V ∧ twoE l.length m.length = e0)) :
    Calls Tryz.prog 10 #[.slice A k c, .slice A' k' c'] w (RetSl w 1 (u64s V) n e0) := by
  subst hk hk' hn
  have := and_ w A A' c c' l m h h' hw hw' hl hl'
  rw [hq.out.1, hq.out.2] at this
  exact this
theorem parseK (s : ByteArray) (V : List Nat) (n : Nat) (e0 : Int) (w : World) (hsz : s.size ≤ 1000) (hM : ML w) (hE : Errs w) (hn : V.length = n) (hq : Hid (psV s.data.toList = V ∧ psE s.data.toList = e0)) :
    Calls Tryz.prog 11 #[.string s] w (RetSl w 1 (u64s V) n e0) := by
  subst hn
  have := parse_ s s.data.toList rfl w hsz hM hE
  rw [hq.out.1, hq.out.2] at this
  exact this
theorem intsK (w : World) (B B' : Nat) (A A' : Option Addr) (c c' n n' : Nat) (l : List Int) (h : Reads w B 1 A n (i64s l)) (h' : Reads w B' 1 A' n' (i64s l)) (hn : l.length = n) (hn' : l.length = n') (hl : l.length ≤ 9223372036854775807) :
    Calls Tryz.prog 12 #[.slice A n c, .slice A' n' c'] w fun e w' => e = .returned (.bool true) ∧ Below w.heap.size w w' := by
  subst hn hn'
  exact ints_ w B B' A A' c c' l l h h' hl true (Lib.hid (by simp))
theorem sameK (w : World) (B B' : Nat) (A A' : Option Addr) (c c' n n' : Nat) (l : List Nat) (h : Reads w B 1 A n (u64s l)) (h' : Reads w B' 1 A' n' (u64s l)) (hn : l.length = n) (hn' : l.length = n') (hl : l.length ≤ 9223372036854775807) :
    Calls Tryz.prog 13 #[.slice A n c, .slice A' n' c'] w fun e w' => e = .returned (.bool true) ∧ Below w.heap.size w w' := by
  subst hn hn'
  exact same_ w B B' A A' c c' l l h h' hl true (Lib.hid (by simp))
theorem kb_of : ofL 2 [0, 63, 64] = [9223372036854775809, 1] ∧ ofE 2 [0, 63, 64] = 0 := by decide +kernel
theorem kb_bk : bkL [9223372036854775809, 1] true = [13835058055282163712, 9223372036854775808] ∧ bkO [9223372036854775809, 1] = true := by decide +kernel
theorem kb_p1 : (⟨(prtV [13835058055282163712, 9223372036854775808]).toArray⟩ : ByteArray) = ⟨#[56, 48, 48, 48, 48, 48, 48, 48, 48, 48, 48, 48, 48, 48, 48, 48, 46, 99, 48, 48, 48, 48, 48, 48, 48, 48, 48, 48, 48, 48, 48, 48, 48]⟩ := by
  apply ByteArray.ext; decide +kernel
theorem kb_g1 : getV [9223372036854775809, 1] 63 = true ∧ getE [9223372036854775809, 1].length 63 = 0 := by decide +kernel
theorem kb_s1 : setL [9223372036854775809, 1] 63 false = [1, 1] ∧ getE [9223372036854775809, 1].length 63 = 0 := by decide +kernel
theorem kb_p2 : (⟨(prtV [1, 1]).toArray⟩ : ByteArray) = ⟨#[48, 48, 48, 48, 48, 48, 48, 48, 48, 48, 48, 48, 48, 48, 48, 49, 46, 48, 48, 48, 48, 48, 48, 48, 48, 48, 48, 48, 48, 48, 48, 48, 49]⟩ := by
  apply ByteArray.ext; decide +kernel
theorem kb_g2 : getV [9223372036854775809, 1] 128 = false ∧ getE [9223372036854775809, 1].length 128 = 7 := by decide +kernel
theorem kb_on : onesV [9223372036854775809, 1] = [0, 63, 64] := by decide +kernel
theorem kb_an : andL [9223372036854775809, 1] [1] = [] ∧ twoE [9223372036854775809, 1].length [1].length = 6 := by decide +kernel
theorem kb_o9 : ofL 9 [] = [] ∧ ofE 9 [] = 3 := by decide +kernel
theorem kb_o0 : ofL 0 [] = [] ∧ ofE 0 [] = 6 := by decide +kernel
theorem kb_q1 : psV (⟨#[48, 48, 48, 48, 48, 48, 48, 48, 48, 48, 48, 48, 48, 48, 102, 102]⟩ : ByteArray).data.toList = [255] ∧ ((psE (⟨#[48, 48, 48, 48, 48, 48, 48, 48, 48, 48, 48, 48, 48, 48, 102, 102]⟩ : ByteArray).data.toList : Nat) : Int) = 0 := by decide +kernel
theorem kb_q2 : psV (⟨#[102, 102]⟩ : ByteArray).data.toList = [] ∧ ((psE (⟨#[102, 102]⟩ : ByteArray).data.toList : Nat) : Int) = 6 := by decide +kernel
theorem kb_q3 : psV (⟨#[48, 48, 48, 48, 48, 48, 48, 48, 48, 48, 48, 48, 48, 48, 70, 70]⟩ : ByteArray).data.toList = [] ∧ ((psE (⟨#[48, 48, 48, 48, 48, 48, 48, 48, 48, 48, 48, 48, 48, 48, 70, 70]⟩ : ByteArray).data.toList : Nat) : Int) = 6 := by decide +kernel
theorem kb_w : W64 [9223372036854775809, 1] ∧ W64 [13835058055282163712, 9223372036854775808] ∧ W64 [1, 1] ∧ W64 [1] := by
  refine ⟨?_, ?_, ?_, ?_⟩ <;> (intro x hx; simp at hx; omega)
theorem row_new {w : World} {t : TypeId} (cs : List Value) (n : Nat) (hn : cs.length = n * 1) : Reads (w.alloc (.cells cs.toArray t)) (w.alloc (.cells cs.toArray t)).heap.size 1 (some ⟨w.heap.size, 0, none⟩) n cs :=
  reads_blkN (size := 1) (n := n) (alloc1_new _ _) hn
set_option maxRecDepth 100000 in
set_option maxHeartbeats 8000000 in
theorem bitsKnown_walk (w : World) (hT : Tz16 w) (hZ : Tzt w) (hM : ML w) (hE : Errs w) :
    Calls Tryz.prog 3 #[] w fun e w' => e = .returned (.bool true) ∧ Below w.heap.size w w' := by
  have k1 := Lib.hid kb_of
  have k2 := Lib.hid kb_bk
  have k3 := Lib.hid kb_p1
  have k4 := Lib.hid kb_g1
  have k5 := Lib.hid kb_s1
  have k6 := Lib.hid kb_p2
  have k7 := Lib.hid kb_g2
  have k8 := Lib.hid kb_on
  have k9 := Lib.hid kb_an
  have k10 := Lib.hid kb_o9
  have k11 := Lib.hid kb_o0
  have k12 := Lib.hid kb_q1
  have k13 := Lib.hid kb_q2
  have k14 := Lib.hid kb_q3
  have hc2 : chkB 2 = 0 := by decide
  have HT := Lib.hid hT
  have HZ := Lib.hid hZ
  have HM := Lib.hid hM
  have HE := Lib.hid hE
  clear hT hZ hM hE
  have R0 : Reads (w.alloc (.cells #[.int .i64 0, .int .i64 63, .int .i64 64] 3)) (w.alloc (.cells #[.int .i64 0, .int .i64 63, .int .i64 64] 3)).heap.size 1 (some ⟨w.heap.size, 0, none⟩) 3 (i64s [0, 63, 64]) := row_new (w := w) (t := 3) (i64s [0, 63, 64]) 3 rfl
  have B0 : Below w.heap.size w (w.alloc (.cells #[.int .i64 0, .int .i64 63, .int .i64 64] 3)) := ba (Below.refl _ _) _
  go_enter Tryz.func3, Tryz.ntmps3
  go_wp2_with fail
  (with_reducible refine (ofK _ (some ⟨w.heap.size, 0, none⟩) 3 3 2 [0, 63, 64] [9223372036854775809, 1] 2 0 (by omega) rfl R0 (by omega) rfl k1).mono ?_); rintro e w1 ⟨A1, c1, rfl, hb1, hr1, _, _⟩
  have HB1 := Lib.hid (bt B0 hb1)
  have HR1 := Lib.hid hr1
  clear R0 B0 hb1 hr1 k1
  go_wp2_with fail
  (with_reducible refine (backK _ A1 c1 2 [9223372036854775809, 1] [13835058055282163712, 9223372036854775808] true true rfl HR1.out kb_w.1 (by omega) hc2 k2).mono ?_); rintro e w2 ⟨A2, c2, rfl, hb2, hr2, _, _⟩
  have HB2 := Lib.hid (bt HB1.out hb2)
  have HR2 := Lib.hid (HR1.out.go hb2)
  have HU := Lib.hid (show Reads w2 w2.heap.size 1 A2 2 (u64s [13835058055282163712, 9223372036854775808]) from hr2)
  clear HB1 HR1 hb2 hr2 k2
  go_wp2_with fail
  (with_reducible refine (printK _ A2 c2 2 [13835058055282163712, 9223372036854775808] _ rfl HU.out kb_w.2.1 (by omega) (tz16_below HT.out HB2.out) hc2 k3).mono ?_); rintro e w3 ⟨rfl, hb3⟩
  have HB3 := Lib.hid (bt HB2.out hb3)
  have HR3 := Lib.hid (HR2.out.go hb3)
  clear HB2 HR2 hb3 HU k3
  go_wp2_with fail
  (with_reducible refine (getK _ A1 c1 2 [9223372036854775809, 1] 63 true 0 rfl HR3.out kb_w.1 (by omega) (by omega) k4).mono ?_); rintro e w4 ⟨rfl, hb4⟩
  have HB4 := Lib.hid (bt HB3.out hb4)
  have HR4 := Lib.hid (HR3.out.go hb4)
  clear HB3 HR3 hb4 k4
  go_wp2_with fail
  (with_reducible refine (setK _ A1 c1 2 2 [9223372036854775809, 1] [1, 1] 63 false 0 rfl HR4.out kb_w.1 (by omega) (by omega) rfl k5).mono ?_); rintro e w5 ⟨A5, c5, rfl, hb5, hr5, _, _⟩
  have HB5 := Lib.hid (bt HB4.out hb5)
  have HR5 := Lib.hid (HR4.out.go hb5)
  have HV := Lib.hid hr5
  clear HB4 HR4 hb5 hr5 k5
  go_wp2_with fail
  (with_reducible refine (printK _ A5 c5 2 [1, 1] _ rfl HV.out kb_w.2.2.1 (by omega) (tz16_below HT.out HB5.out) hc2 k6).mono ?_); rintro e w6 ⟨rfl, hb6⟩
  have HB6 := Lib.hid (bt HB5.out hb6)
  have HR6 := Lib.hid (HR5.out.go hb6)
  clear HB5 HR5 hb6 HV k6
  go_wp2_with fail
  (with_reducible refine (getK _ A1 c1 2 [9223372036854775809, 1] 128 false 7 rfl HR6.out kb_w.1 (by omega) (by omega) k7).mono ?_); rintro e w7 ⟨rfl, hb7⟩
  have HB7 := Lib.hid (bt HB6.out hb7)
  have HR7 := Lib.hid (HR6.out.go hb7)
  clear HB6 HR6 hb7 k7
  go_wp2_with fail
  (with_reducible refine (onesK _ A1 c1 2 3 [9223372036854775809, 1] [0, 63, 64] rfl HR7.out kb_w.1 (by omega) (HZ.out.below HB7.out) hc2 rfl k8).mono ?_); rintro e w8 ⟨A8, c8, rfl, hb8, hr8, _, _⟩
  have HB8 := Lib.hid (bt HB7.out hb8)
  have HR8 := Lib.hid (HR7.out.go hb8)
  have HL8 := Lib.hid hr8
  clear HB7 HR7 hb8 hr8 k8
  have R9 : Reads (w8.alloc (.cells #[.int .u64 1] 37)) (w8.alloc (.cells #[.int .u64 1] 37)).heap.size 1 (some ⟨w8.heap.size, 0, none⟩) 1 (u64s [1]) := row_new (w := w8) (t := 37) (u64s [1]) 1 rfl
  have R9w := HR8.out.al (.cells #[.int .u64 1] 37)
  have B9 := ba HB8.out (.cells #[.int .u64 1] 37)
  have R9l := HL8.out.al (.cells #[.int .u64 1] 37)
  go_wp2_with fail
  (with_reducible refine (andK _ A1 (some ⟨w8.heap.size, 0, none⟩) c1 1 2 1 [9223372036854775809, 1] [1] [] 0 6 rfl rfl R9w R9 kb_w.1 kb_w.2.2.2 (by omega) (by omega) rfl k9).mono ?_); rintro e w9 ⟨A9, c9, rfl, hb9, _, _, _⟩
  have HB9 := Lib.hid (bt B9 hb9)
  have HL9 := Lib.hid (R9l.go hb9)
  clear HB8 HR8 HL8 hb9 k9 R9 R9w B9 R9l
  go_wp2_with fail
  (with_reducible refine (ofK _ none 0 0 9 [] [] 0 3 (by omega) rfl Reads.none_ (by omega) rfl k10).mono ?_); rintro e w10 ⟨A10, c10, rfl, hb10, _, _, _⟩
  have HB10 := Lib.hid (bt HB9.out hb10)
  have HL10 := Lib.hid (HL9.out.go hb10)
  clear HB9 HL9 hb10 k10
  go_wp2_with fail
  (with_reducible refine (ofK _ none 0 0 0 [] [] 0 6 (by omega) rfl Reads.none_ (by omega) rfl k11).mono ?_); rintro e w11 ⟨A11, c11, rfl, hb11, _, _, _⟩
  have HB11 := Lib.hid (bt HB10.out hb11)
  have HL11 := Lib.hid (HL10.out.go hb11)
  clear HB10 HL10 hb11 k11
  go_wp2_with fail
  (with_reducible refine (parseK _ [255] 1 0 _ (by decide) (HM.out.below HB11.out) (HE.out.below HB11.out) rfl k12).mono ?_); rintro e w12 ⟨A12, c12, rfl, hb12, hr12, _, _⟩
  have HB12 := Lib.hid (bt HB11.out hb12)
  have HL12 := Lib.hid (HL11.out.go hb12)
  have HX12 := Lib.hid hr12
  clear HB11 HL11 hb12 hr12 k12
  go_wp2_with fail
  (with_reducible refine (parseK _ [] 0 6 _ (by decide) (HM.out.below HB12.out) (HE.out.below HB12.out) rfl k13).mono ?_); rintro e w13 ⟨A13, c13, rfl, hb13, _, _, _⟩
  have HB13 := Lib.hid (bt HB12.out hb13)
  have HL13 := Lib.hid (HL12.out.go hb13)
  have HX13 := Lib.hid (HX12.out.go hb13)
  clear HB12 HL12 HX12 hb13 k13
  go_wp2_with fail
  (with_reducible refine (parseK _ [] 0 6 _ (by decide) (HM.out.below HB13.out) (HE.out.below HB13.out) rfl k14).mono ?_); rintro e w14 ⟨A14, c14, rfl, hb14, _, _, _⟩
  have HB14 := Lib.hid (bt HB13.out hb14)
  have HL14 := Lib.hid (HL13.out.go hb14)
  have HX14 := Lib.hid (HX13.out.go hb14)
  clear HB13 HL13 HX13 hb14 k14
  have R15 : Reads (w14.alloc (.cells #[.int .i64 0, .int .i64 63, .int .i64 64] 3)) (w14.alloc (.cells #[.int .i64 0, .int .i64 63, .int .i64 64] 3)).heap.size 1 (some ⟨w14.heap.size, 0, none⟩) 3 (i64s [0, 63, 64]) := row_new (w := w14) (t := 3) (i64s [0, 63, 64]) 3 rfl
  have R15l := HL14.out.al (.cells #[.int .i64 0, .int .i64 63, .int .i64 64] 3)
  have R15x := HX14.out.al (.cells #[.int .i64 0, .int .i64 63, .int .i64 64] 3)
  have B15 := ba HB14.out (.cells #[.int .i64 0, .int .i64 63, .int .i64 64] 3)
  go_wp2_with fail
  (with_reducible refine (intsK _ _ _ A8 (some ⟨w14.heap.size, 0, none⟩) c8 3 3 3 [0, 63, 64] R15l R15 rfl rfl (by decide)).mono ?_); rintro e w15 ⟨rfl, hb15⟩
  have HB15 := Lib.hid (bt B15 hb15)
  have HX15 := Lib.hid (R15x.go hb15)
  clear HB14 HL14 HX14 R15 R15l R15x B15 hb15
  have R16 : Reads (w15.alloc (.cells #[.int .u64 255] 37)) (w15.alloc (.cells #[.int .u64 255] 37)).heap.size 1 (some ⟨w15.heap.size, 0, none⟩) 1 (u64s [255]) := row_new (w := w15) (t := 37) (u64s [255]) 1 rfl
  have R16x := HX15.out.al (.cells #[.int .u64 255] 37)
  have B16 := ba HB15.out (.cells #[.int .u64 255] 37)
  go_wp2_with fail
  (with_reducible refine (sameK _ _ _ A12 (some ⟨w15.heap.size, 0, none⟩) c12 1 1 1 [255] R16x R16 rfl rfl (by decide)).mono ?_); rintro e w16 ⟨rfl, hb16⟩
  have HB16 := Lib.hid (bt B16 hb16)
  clear HB15 HX15 R16 R16x B16 hb16
  go_wp2_with fail
  (with_reducible refine (awake_ _ (tz16_below HT.out HB16.out)).mono ?_); rintro e w17 ⟨rfl, hb17⟩
  have hB := bt HB16.out hb17
  clear HB16 hb17
  go_wp2
  go_ret
  exact ⟨rfl, hB⟩
end Go.Proofs.YtaogplmcabbikaaGreatDoor
