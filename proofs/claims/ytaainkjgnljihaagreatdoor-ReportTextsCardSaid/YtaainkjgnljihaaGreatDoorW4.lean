/- words.Unquote; the reference's quoted and Unquote. -/
import Derived.Test.YtaainkjgnljihaaGreatDoorW3
import Derived.Test.YtaainkjgnljihaaGreatDoorW2
namespace Go.Proofs.YtaainkjgnljihaaGreatDoor
open Go.RowKit
theorem unq_le (l : List UInt8) : (unquoteL l).2 ≤ l.length := by
  match l with
  | [] => simp [unquoteL]
  | x :: r =>
    unfold unquoteL
    simp only
    by_cases hx : x = 34
    · rw [if_pos hx]
      rcases hq : unq (r.length + 1) r with _ | ⟨b, k⟩
      · simp
      · obtain ⟨h1, h2⟩ := unq_form hq
        have := congrArg List.length h1
        simp only [List.length_append, List.length_cons] at this ⊢
        omega
    · rw [if_neg hx]; simp
def uqOk (l : List UInt8) : Bool := decide ((unquoteL l).2 ≠ 0) && decide ((unquoteL l).2 = l.length)
/-- what Unquote returns -/
def uqS (l : List UInt8) : ByteArray := if uqOk l = true then ⟨(unquoteL l).1.toArray⟩ else ⟨#[]⟩
def uqE (l : List UInt8) : Int := if uqOk l = true then 0 else 6
theorem uq_yes {l : List UInt8} (h : uqOk l = true) : uqS l = ⟨(unquoteL l).1.toArray⟩ ∧ uqE l = 0 := ⟨if_pos h, if_pos h⟩
theorem uq_no {l : List UInt8} (h : uqOk l = false) : uqS l = ⟨#[]⟩ ∧ uqE l = 6 := by
  unfold uqS uqE; rw [h]; exact ⟨rfl, rfl⟩
theorem ret_us {a b : ByteArray} {k : IntKind} {x y : Int} (h : a = b) (h' : x = y) : Ending.returned (.tuple #[.string a, .int k x]) = .returned (.tuple #[.string b, .int k y]) := by rw [h, h']
theorem unquote' (s : ByteArray) (w : World) (hE : Esc w) (hsz : s.size ≤ 1099511627776) {b : List UInt8} {n : Nat} (h : Hid (unquoteL s.data.toList = (b, n))) :
    Calls Tryz.prog 67 #[.string s] w fun e w' => e = .returned (.tuple #[.string ⟨b.toArray⟩, .int .i64 (n : Int)]) ∧ Below w.heap.size w w' := by
  have := unquote s w hE hsz
  unfold unqV at this
  rw [h.out] at this
  exact this
theorem escapedI (i : Int) (c : UInt8) (hi : Hid (i = (c.toNat : Int))) (w : World) :
    Calls Tryz.prog 74 #[.int .u8 i] w fun e w' => e = .returned (.string (escS c)) ∧ Below w.heap.size w w' := by
  rw [hi.out]; exact escaped c w
/-- the search for the byte whose form stands here -/
def Seek (R : List UInt8) (out out' : List UInt8) (a a' : Nat) (found : Bool) (c : Nat) : Prop :=
  (found = false ∧ out' = out ∧ a' = a ∧ ∀ d, d < c → ¬ escB (UInt8.ofNat d) <+: R) ∨ (found = true ∧ ∃ d n, headQ R = some (d, n) ∧ out' = out ++ [d] ∧ a' = a + n)
theorem headQ_pre {R : List UInt8} {c : UInt8} (h : escB c <+: R) : headQ R = some (c, (escB c).length) := by
  obtain ⟨t, rfl⟩ := h
  exact headQ_esc c t
theorem headQ_nopre {R : List UInt8} (h : ∀ d, d < 256 → ¬ escB (UInt8.ofNat d) <+: R) : headQ R = none := by
  rcases hh : headQ R with _ | ⟨c, n⟩
  · rfl
  · obtain ⟨h1, _⟩ := headQ_form hh
    have hh2 := h c.toNat c.toNat_lt
    rw [UInt8.ofNat_toNat] at hh2
    exact absurd ⟨_, h1.symm⟩ hh2
theorem ext_list2 (s : ByteArray) (a b : Nat) : (s.extract a b).data.toList = (s.data.toList.drop a).take (b - a) := by
  rw [ByteArray.data_extract, Array.toList_extract]
theorem ext_pre {s f : ByteArray} {a : Nat} (h : f.data.toList <+: s.data.toList.drop a) (ha : a ≤ s.size) : a + f.size ≤ s.size ∧ s.extract a (a + f.size) = f := by
  have h1 := h.length_le
  have h2 : f.data.toList.length = f.size := by simp
  have h3 : s.data.toList.length = s.size := by simp
  rw [List.length_drop] at h1
  refine ⟨by omega, ?_⟩
  apply ByteArray.ext
  apply Array.toList_inj.1
  rw [ext_list2, show a + f.size - a = f.data.toList.length by omega]
  exact (List.prefix_iff_eq_take.1 h).symm
theorem pre_ext {s f : ByteArray} {a : Nat} (h : s.extract a (a + f.size) = f) : f.data.toList <+: s.data.toList.drop a := by
  have := congrArg (fun b : ByteArray => b.data.toList) h
  rw [ext_list2] at this
  rw [← this]
  exact List.take_prefix _ _
theorem beq_list {a b : ByteArray} : (a.toList == b.toList) = decide (a = b) := by
  have e : (a.toList = b.toList) ↔ a = b := ⟨fun h => by rw [ByteArray.toList_eq, ByteArray.toList_eq] at h; exact ByteArray.ext (Array.toList_inj.1 h), fun h => by rw [h]⟩
  rw [Bool.eq_iff_iff]
  simp [e]
set_option maxRecDepth 100000 in
set_option maxHeartbeats 1000000 in
theorem rquoted (s : ByteArray) (w : World) (hsz : s.size ≤ 1099511627776) :
    Calls Tryz.prog 54 #[.string s] w fun e w' => e = unqV s.data.toList ∧ Below w.heap.size w w' := by
  by_cases hz : s.size = 0
  · have hz' : ((s.size : Int) == 0) = true := by simp [hz]
    have hR := Lib.hid (unqV_no (l := s.data.toList) (by
      have : s.data.toList = [] := List.eq_nil_of_length_eq_zero (by simpa using hz)
      rw [this]; rfl))
    clear hz
    go_enter Tryz.func54, Tryz.ntmps54
    go_wp2
    go_ret2
    exact ⟨hR.out, Below.refl _ _⟩
  have hz' : ((s.size : Int) == 0) = false := by rw [beq_eq_false_iff_ne]; omega
  have hs0 : 0 < s.size := by omega
  have hs0' : (0 : Int) < (s.size : Int) := by omega
  have hd0 := drop_byte hs0
  rw [List.drop_zero] at hd0
  by_cases hq : s[0] = 34
  case neg =>
    have m1 : ((s[0].toNat : Int) != 34) = true := by
      rw [bne_iff_ne]; intro e; exact hq (u8_eq (n := 34) (by omega) e)
    have hR := Lib.hid (unqV_no (l := s.data.toList) (by
      rw [hd0]; unfold unquoteL; simp only; rw [if_neg hq]))
    clear hz hq hd0
    go_enter Tryz.func54, Tryz.ntmps54
    go_wp2
    go_ret2
    exact ⟨hR.out, Below.refl _ _⟩
  have m1 : ((s[0].toNat : Int) != 34) = false := by rw [hq]; rfl
  have hst : URel s.data.toList 1 [] := by rw [hd0, hq]; exact URel.start
  clear hz hq hd0
  go_enter Tryz.func54, Tryz.ntmps54
  go_wp2
  go_loopw [4, 5] (fun v i wr => ∃ (k : Nat) (out : List UInt8), 1 ≤ k ∧ k ≤ s.size ∧ i = .int .i64 k ∧ Below w.heap.size w wr ∧ wr.ownsRow w.heap.size 5 1 v out.length (bs8 out) ∧ out.length ≤ k ∧ URel s.data.toList k out) (fun _ i _ => s.size - (intOf i).toNat)
  case atStart => exact ⟨1, [], by omega, by omega, rfl, Below.refl _ _, World.ownsRow_nil _ _ _ _, by simp, hst⟩
  case round =>
    obtain ⟨k, out, hk1, hk, rfl, hbl, hown, hol, hr⟩ := hrel
    obtain ⟨wo, rfl⟩ : ∃ wo : World, wo = wr := ⟨_, rfl⟩
    by_cases hlt : k < s.size
    case neg =>
      have hR := Lib.hid (unqV_no (hr.over (by simp; omega)))
      have m2 : ((k : Int) == (s.size : Int)) = true := by simp; omega
      go_wp2
      go_ret2
      exact ⟨hR.out, hbl⟩
    have hd := drop_byte hlt
    have hi1 : (k : Int) < (s.size : Int) := by omega
    have hi0 : (0 : Int) ≤ (k : Int) := by omega
    have m2 : ((k : Int) == (s.size : Int)) = false := by rw [beq_eq_false_iff_ne]; omega
    by_cases hq : s[k] = 34
    · have m3 : ((s[k].toNat : Int) != 34) = false := by rw [hq]; rfl
      rw [hq] at hd
      have hR := Lib.hid (unqV_of (i := (k : Int) + 1) (hr.stop hd) (by omega))
      obtain ⟨Ab, cb, rfl, _, _, _⟩ := own_sl hown
      have hcv := own_conv hown
      clear hq hd hr
      go_wp2
      go_ret2
      exact ⟨hR.out, hbl⟩
    have m3 : ((s[k].toNat : Int) != 34) = true := by
      rw [bne_iff_ne]; intro e; exact hq (u8_eq (n := 34) (by omega) e)
    go_wp2
    go_loopw [4, 5, 6, 7] (fun v i f c wv => ∃ (j a' : Nat) (out' : List UInt8) (found : Bool), j ≤ 256 ∧ c = .int .i64 j ∧ f = .bool found ∧ i = .int .i64 a' ∧ Below w.heap.size w wv ∧ wv.ownsRow w.heap.size 5 1 v out'.length (bs8 out') ∧ Seek (s.data.toList.drop k) out out' k a' found j) (fun _ _ _ c _ => 256 - (intOf c).toNat)
    case atStart => exact ⟨0, k, out, false, by omega, rfl, rfl, rfl, hbl, hown, .inl ⟨rfl, rfl, rfl, fun d hd => by omega⟩⟩
    case round =>
      clear hbl hown
      obtain ⟨j, a', out', found, hj, rfl, rfl, rfl, hbl, hown, hseek⟩ := hrel
      have hsl : s.data.toList.length = s.size := by simp
      rcases hseek with ⟨rfl, rfl, rfl, hno⟩ | ⟨rfl, d, n, hh, rfl, rfl⟩
      · by_cases hj2 : j < 256
        · have hjc : (UInt8.ofNat j).toNat = j := by rw [UInt8.toNat_ofNat']; omega
          have Hj : Hid ((j : Int) = ((UInt8.ofNat j).toNat : Int)) := Lib.hid (by rw [hjc])
          have hlen2 : (escS (UInt8.ofNat j)).size ≤ 4 := escB_len (UInt8.ofNat j)
          by_cases hpre : escB (UInt8.ofNat j) <+: s.data.toList.drop a'
          · obtain ⟨p1, p2⟩ := ext_pre (f := escS (UInt8.ofNat j)) hpre hk
            have hhq := headQ_pre hpre
            have p3 : ((s.extract a' (a' + (escS (UInt8.ofNat j)).size)).toList == (escS (UInt8.ofNat j)).toList) = true := by rw [beq_list, decide_eq_true p2]
            have p4 : ((escS (UInt8.ofNat j)).size : Int) ≤ (s.size : Int) - (a' : Int) := by omega
            have Hsk : Hid (Seek (s.data.toList.drop a') out' (out' ++ [UInt8.ofNat j]) a' (a' + (escS (UInt8.ofNat j)).size) true (j + 1)) := Lib.hid (.inr ⟨rfl, _, _, hhq, rfl, rfl⟩)
            have Hjb : Hid ((j : Int) = ((UInt8.ofNat j).toNat : Int)) := Hj
            clear p2 hhq hno hpre hjc
            go_wp2_with fail
            (with_reducible refine (escapedI _ _ Hj _).mono ?_); rintro e w2 ⟨rfl, hb2⟩
            have hown2 := own_below hown hb2
            have hbl2 := bt hbl hb2
            clear hown
            generalize escS (UInt8.ofNat j) = f at *
            go_wp2_with (at_builtin; refine wpList_ap u8El (hown2.alloc _) (ba hbl2 _) [.int .u8 ((UInt8.ofNat j).toNat : Int)] (by rw [← Hjb.out]; exact alloc1_new _ _) ?_)
            intro g cap w3 hown3 hb3 hg3
            have hown4 : w3.ownsRow w.heap.size 5 1 (.slice (some ⟨g, 0, none⟩) (out'.length + 1) cap) (out' ++ [UInt8.ofNat j]).length (bs8 (out' ++ [UInt8.ofNat j])) := by
              rw [bs8_app, List.length_append]; exact hown3
            clear hown3
            go_wp2
            go_roundw
            case rel => exact ⟨j + 1, a' + f.size, out' ++ [UInt8.ofNat j], true, by omega, by go_num, rfl, by go_num, hb3, hown4, Hsk.out⟩
            case measure => simp [intOf]; omega
          · have Hsk : Hid (Seek (s.data.toList.drop a') out' out' a' a' false (j + 1)) := Lib.hid (.inl ⟨rfl, rfl, rfl, fun d hd => by
              rcases (show d < j ∨ d = j by omega) with hd | rfl
              · exact hno d hd
              · exact hpre⟩)
            by_cases p4 : ((escS (UInt8.ofNat j)).size : Int) ≤ (s.size : Int) - (a' : Int)
            · have p3 : ((s.extract a' (a' + (escS (UInt8.ofNat j)).size)).toList == (escS (UInt8.ofNat j)).toList) = false := by
                rw [beq_list, decide_eq_false]
                intro e
                exact hpre (pre_ext e)
              have p1 : a' + (escS (UInt8.ofNat j)).size ≤ s.size := by omega
              clear hno hpre hjc
              go_wp2_with fail
              (with_reducible refine (escapedI _ _ Hj _).mono ?_); rintro e w2 ⟨rfl, hb2⟩
              have hown2 := own_below hown hb2
              have hbl2 := bt hbl hb2
              generalize escS (UInt8.ofNat j) = f at *
              go_wp2
              go_roundw
              case rel => exact ⟨j + 1, a', out', false, by omega, by go_num, rfl, rfl, hbl2, hown2, Hsk.out⟩
              case measure => simp [intOf]; omega
            · clear hno hpre hjc
              go_wp2_with fail
              (with_reducible refine (escapedI _ _ Hj _).mono ?_); rintro e w2 ⟨rfl, hb2⟩
              have hown2 := own_below hown hb2
              have hbl2 := bt hbl hb2
              generalize escS (UInt8.ofNat j) = f at *
              go_wp2
              go_roundw
              case rel => exact ⟨j + 1, a', out', false, by omega, by go_num, rfl, rfl, hbl2, hown2, Hsk.out⟩
              case measure => simp [intOf]; omega
        · have hnone : headQ (s.data.toList.drop a') = none := headQ_nopre fun d hd => hno d (by omega)
          have hR := Lib.hid (unqV_no (hr.fail (by rw [hd] at hnone ⊢; exact unqR_none hq hnone)))
          clear hno hnone hd
          go_wp2
          go_ret2
          exact ⟨hR.out, hbl⟩
      · have hp := headQ_pos hh
        rw [List.length_drop, hsl] at hp
        have hr2 : URel s.data.toList (k + n) (out ++ [d]) := hr.step hd hq (by rw [← hd]; exact hh)
        have Hr2 := Lib.hid hr2
        have hn1 : 1 ≤ n := hp.1
        have hn2 : k + n ≤ s.size := by omega
        clear hr2 hp hh hd hq hsl
        go_wp2
        all_goals
          go_roundw
          case rel => exact ⟨k + n, out ++ [d], by omega, by omega, by go_num, hbl, hown, by simp; omega, Hr2.out⟩
          case measure => simp [intOf]; omega
theorem rquoted' (s : ByteArray) (w : World) (hsz : s.size ≤ 1099511627776) {b : List UInt8} {n : Nat} (h : Hid (unquoteL s.data.toList = (b, n))) :
    Calls Tryz.prog 54 #[.string s] w fun e w' => e = .returned (.tuple #[.string ⟨b.toArray⟩, .int .i64 (n : Int)]) ∧ Below w.heap.size w w' := by
  have := rquoted s w hsz
  unfold unqV at this
  rw [h.out] at this
  exact this
end Go.Proofs.YtaainkjgnljihaaGreatDoor
