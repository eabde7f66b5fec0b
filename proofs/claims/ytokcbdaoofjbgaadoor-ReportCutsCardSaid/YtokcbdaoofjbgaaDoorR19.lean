/- Reports: plain laws: parts of good lists, Encode and Decode are inverse. -/
import Derived.Test.YtokcbdaoofjbgaaDoorR17
namespace Go.Proofs.YtokcbdaoofjbgaaDoor
open Go.RowKit
theorem hitErr_any {p : Option Hit} {x : Hit} (h : hitErr p x = 0) : hitErr none x = 0 := by
  cases ho : okH x with
  | true => exact hitErr_first ho
  | false => rw [hitErr_range ho] at h; cases h
theorem wE_any {p : Option Hit} {l : List Hit} (h : wE p l = 0) : wE none l = 0 := by
  cases l with
  | nil => rfl
  | cons x r =>
    rw [wE] at h ⊢
    by_cases e : hitErr p x = 0
    · rw [if_pos e] at h
      rw [if_pos (hitErr_any e)]; exact h
    · rw [if_neg e] at h; exact absurd h e
theorem wE_split {l m : List Hit} (h : wE none (l ++ m) = 0) : wE none l = 0 ∧ wE (lastP none l) m = 0 := by
  rw [wE_app] at h
  by_cases e : wE none l = 0
  · rw [if_pos e] at h; exact ⟨e, h⟩
  · rw [if_neg e] at h; exact absurd h e
theorem wE_take {l : List Hit} (h : wE none l = 0) (n : Nat) : wE none (l.take n) = 0 := by
  rw [← List.take_append_drop n l] at h
  exact (wE_split h).1
theorem wE_drop {l : List Hit} (h : wE none l = 0) (n : Nat) : wE none (l.drop n) = 0 := by
  rw [← List.take_append_drop n l] at h
  exact wE_any (wE_split h).2
theorem mkE_iff {l : List Hit} {k : Int} : mkE l k = 0 ↔ capK k = true ∧ l.length ≤ 20000 ∧ wE none l = 0 := by
  unfold mkE
  rw [wrg_two]
  cases capK k with
  | false => simp
  | true =>
    rw [if_neg (by decide)]
    by_cases h : 20000 < l.length
    · rw [if_pos h]; simp; omega
    · rw [if_neg h]; simp; omega
theorem chkR_yes {l : List Hit} {o : Bool} {d k : Int} (hk : capK k = true) (h1 : (l.length : Int) ≤ k) (h2 : (wrg l).2 = 0) (h3 : 0 ≤ d ∧ d ≤ 65535) (h4 : flgB o d l.length k = true) : chkR l o d k = (0, 0) := by
  unfold chkR
  rw [hk, if_neg (by decide), if_neg (by omega), if_neg (by simpa using h2), if_neg (by omega), h4, if_pos rfl]
/-! numbers in bytes -/
theorem numF_app (n : Int) (l m : List Int) : numF n (l ++ m) = numF (numF n l) m := by
  induction l generalizing n with
  | nil => rfl
  | cons x r ih => exact ih _
theorem num_be (n : Nat) : ∀ (v : Int), 0 ≤ v → v < 256 ^ n → numV (be n v) = v := by
  induction n with
  | zero => intro v h0 h1; rw [Int.pow_zero] at h1; have : v = 0 := by omega
            subst this; rfl
  | succ n ih =>
    intro v h0 h1
    rw [Int.pow_succ] at h1
    have := ih (v / 256) (by omega) (by generalize (256 : Int) ^ n = P at *; omega)
    unfold numV at *
    rw [be, numF_app, this, numF, numF]
    omega
theorem be_num : ∀ (n : Nat) (X : List Int), X.length = n → Bytes X → be n (numV X) = X
  | 0, X, h, _ => by have : X = [] := List.eq_nil_of_length_eq_zero h
                     subst this; rfl
  | n + 1, X, h, hx => by
    obtain ⟨Y, y, rfl⟩ : ∃ Y y, X = Y ++ [y] := by
      have hne : X ≠ [] := fun e => by subst e; cases h
      exact ⟨X.dropLast, X.getLast hne, (List.dropLast_concat_getLast hne).symm⟩
    have hy := hx y (by simp)
    have hY : Bytes Y := fun z hz => hx z (by simp [hz])
    have hl : Y.length = n := by simpa using h
    have ih := be_num n Y hl hY
    unfold numV at *
    rw [numF_app, numF, numF, be]
    rw [show (256 * numF 0 Y + y) / 256 = numF 0 Y by omega, show (256 * numF 0 Y + y) % 256 = y by omega, ih]
theorem rdNum_at (P R : List Int) (n lo : Nat) (v : Int) (h0 : 0 ≤ v) (h1 : v < 256 ^ n) (hP : P.length = lo) : rdNum (P ++ (be n v ++ R)) lo n = v := by
  subst hP
  unfold rdNum
  have e : (be n v ++ R).take n = be n v := by
    have := List.take_left (l₁ := be n v) (l₂ := R)
    rwa [be_len] at this
  rw [List.drop_left, e]
  exact num_be n v h0 h1
theorem be_rd {B : List Int} (h : Bytes B) (lo n : Nat) (hn : lo + n ≤ B.length) : be n (rdNum B lo n) = (B.drop lo).take n := by
  unfold rdNum
  exact be_num n _ (by simp; omega) (h.part lo n)
theorem be_zero (n : Nat) : be n 0 = List.replicate n 0 := by
  induction n with
  | zero => rfl
  | succ n ih => rw [be, show (0 : Int) / 256 = 0 by decide, show (0 : Int) % 256 = 0 by decide, ih, show [(0 : Int)] = List.replicate 1 0 from rfl, List.replicate_append_replicate]
theorem ent_hitB {B : List Int} (h : Bytes B) (i : Nat) (hn : 5 + 6 * i + 6 ≤ B.length) : ent (hitB B i) = (B.drop (5 + 6 * i)).take 6 := by
  unfold ent hitB
  rw [be_rd h _ 4 (by omega), be_rd h _ 2 (by omega)]
  rw [show (B.drop (5 + 6 * i)).take 6 = (B.drop (5 + 6 * i)).take (4 + 2) from rfl, List.take_add, List.drop_drop]
theorem ent_zero : ent (0, 0) = List.replicate 6 0 := by simp [ent, be_zero]
/-! Encode of what Decode accepts -/
theorem dec_enc_step {B : List Int} {m : Int} {K : Nat} (hB : Bytes B) (hN : B.length = 5 + 6 * K) (hm : 0 ≤ m) :
    ∀ (n i : Nat) (l : List Hit), i + n = K → (l.length : Int) = min (i : Int) m → wE none l = 0 → (B.drop 5).take (6 * i) = ents l ++ List.replicate (6 * (i - l.length)) 0 → (decF B m n i l).2.2 = 0 →
      B.drop 5 = ents (decF B m n i l).1 ++ List.replicate (6 * (K - (decF B m n i l).1.length)) 0 ∧ ((decF B m n i l).1.length : Int) = min (K : Int) m ∧ wE none (decF B m n i l).1 = 0
  | 0, i, l, hi, hl, hw, he, _ => by
    obtain rfl : i = K := by omega
    rw [List.take_of_length_le (by simp; omega)] at he
    exact ⟨he, hl, hw⟩
  | n + 1, i, l, hi, hl, hw, he, hd => by
    have hcut : (B.drop 5).take (6 * (i + 1)) = (B.drop 5).take (6 * i) ++ ent (hitB B i) := by
      rw [ent_hitB hB i (by omega), show 6 * (i + 1) = 6 * i + 6 by omega, List.take_add, List.drop_drop]
    rw [decF] at hd ⊢
    by_cases h1 : m ≤ i
    · rw [if_pos h1] at hd ⊢
      by_cases h2 : hitB B i = (0, 0)
      · rw [if_pos h2] at hd ⊢
        refine dec_enc_step hB hN hm n (i + 1) l (by omega) (by rw [hl]; omega) hw ?_ hd
        rw [hcut, he, h2, ent_zero, List.append_assoc, List.replicate_append_replicate]
        congr 2
        omega
      · rw [if_neg h2] at hd; cases hd
    · rw [if_neg h1] at hd ⊢
      by_cases h2 : hitErr (lastP none l) (hitB B i) = 0
      · rw [if_pos h2] at hd ⊢
        have hli : l.length = i := by omega
        refine dec_enc_step hB hN hm n (i + 1) (l ++ [hitB B i]) (by omega) (by rw [List.length_append, Int.natCast_add, hl]; simp; omega) (by rw [wE_app, if_pos hw, wE, if_pos h2]; rfl) ?_ hd
        rw [hcut, he, ents_app, List.length_append, hli]
        simp [ents]
      · rw [if_neg h2] at hd; cases hd
theorem dec_enc {B : List Int} {k : Int} (hB : Bytes B) (h : (decR B k).er = 0) :
    chkR (decR B k).l (decR B k).o (decR B k).d k = (0, 0) ∧ encR (decR B k).l (decR B k).o (decR B k).d k = B ∧ (decR B k).at_ = 0 := by
  unfold decR at h
  by_cases h1 : capK k = false
  · rw [if_pos h1] at h; cases h
  rw [if_neg h1] at h
  by_cases h2 : (B.length : Int) ≠ 5 + 6 * k
  · rw [if_pos h2] at h; cases h
  rw [if_neg h2] at h
  by_cases h3 : k < rdNum B 0 2
  · rw [if_pos h3] at h; cases h
  rw [if_neg h3] at h
  by_cases h4 : 1 < B.getD 2 0
  · rw [if_pos h4] at h; cases h
  rw [if_neg h4] at h
  by_cases h5 : flgB (overB B) (rdNum B 3 2) (rdNum B 0 2) k = false
  · rw [if_pos h5] at h; cases h
  rw [if_neg h5] at h
  have hcp : capK k = true := by simpa using h1
  obtain ⟨k1, k2⟩ := capK_iff.1 hcp
  obtain ⟨K, rfl⟩ : ∃ K : Nat, k = K := ⟨k.toNat, by omega⟩
  rw [Int.toNat_natCast] at h
  have hN : B.length = 5 + 6 * K := by omega
  obtain ⟨m0, m1⟩ := rd2 hB 0 (by omega)
  obtain ⟨d0, d1⟩ := rd2 hB 3 (by omega)
  have hR : decR B K = decQ B (decF B (rdNum B 0 2) K 0 []) := by
    unfold decR
    rw [if_neg h1, if_neg h2, if_neg h3, if_neg h4, if_neg h5, Int.toNat_natCast]
  have hd0 : (decF B (rdNum B 0 2) K 0 []).2.2 = 0 := by
    unfold decQ at h
    by_cases e : (decF B (rdNum B 0 2) K 0 []).2.2 = 0
    · exact e
    · rw [if_neg e] at h; exact h
  obtain ⟨s1, s2, s3⟩ := dec_enc_step hB hN m0 K 0 [] (by omega) (by simp; omega) rfl (by simp [ents]) hd0
  rw [hR]
  unfold decQ
  rw [if_pos hd0]
  generalize (decF B (rdNum B 0 2) K 0 []).1 = l at *
  have hlm : (l.length : Int) = rdNum B 0 2 := by omega
  have hx : (if overB B then (1 : Int) else 0) = B.getD 2 0 := by
    have hl : 2 < B.length := by omega
    have := hB B[2] (List.getElem_mem hl)
    have e : B.getD 2 0 = B[2] := by simp [hl]
    unfold overB
    rw [e] at h4 ⊢
    by_cases e1 : B[2] = 1
    · simp [e1]
    · simp [e1]; omega
  have hch : chkR l (overB B) (rdNum B 3 2) K = (0, 0) := chkR_yes hcp (by omega) (by rw [wrg_two]; exact s3) ⟨d0, d1⟩ (by rw [hlm]; simpa using h5)
  refine ⟨hch, ?_, rfl⟩
  show encR l (overB B) (rdNum B 3 2) K = B
  unfold encR encE
  rw [hch, if_pos rfl, Int.toNat_natCast]
  unfold encL
  rw [hlm, be_rd hB 0 2 (by omega), hx, be_rd hB 3 2 (by omega), ← s1, List.drop_zero]
  have e1 : B.drop 3 = (B.drop 3).take 2 ++ B.drop 5 := by
    have := (List.take_append_drop 2 (B.drop 3)).symm
    rwa [List.drop_drop] at this
  have e2 : B.drop 2 = [B.getD 2 0] ++ B.drop 3 := by
    have hl : 2 < B.length := by omega
    rw [List.drop_eq_getElem_cons hl]
    simp [hl]
  rw [← e1, ← e2]
  exact List.take_append_drop 2 B
/-! Decode of what Encode makes -/
theorem be_bytes (n : Nat) (v : Int) : Bytes (be n v) := by
  induction n generalizing v with
  | zero => intro x hx; cases hx
  | succ n ih =>
    intro x hx
    rw [be] at hx
    rcases List.mem_append.1 hx with hx | hx
    · exact ih _ x hx
    · rw [List.mem_singleton.1 hx]; omega
theorem ents_bytes (l : List Hit) : Bytes (ents l) := by
  induction l with
  | nil => intro x hx; cases hx
  | cons h r ih =>
    intro x hx
    rw [ents] at hx
    rcases List.mem_append.1 hx with hx | hx
    · unfold ent at hx
      rcases List.mem_append.1 hx with hx | hx
      · exact be_bytes _ _ x hx
      · exact be_bytes _ _ x hx
    · exact ih x hx
theorem encL_bytes (l : List Hit) (o : Bool) (d : Int) (K : Nat) : Bytes (encL l o d K) := by
  intro x hx
  unfold encL at hx
  rcases List.mem_append.1 hx with hx | hx
  · exact be_bytes _ _ x hx
  rcases List.mem_append.1 hx with hx | hx
  · rw [List.mem_singleton.1 hx]; cases o <;> decide
  rcases List.mem_append.1 hx with hx | hx
  · exact be_bytes _ _ x hx
  rcases List.mem_append.1 hx with hx | hx
  · exact ents_bytes l x hx
  · rw [(List.mem_replicate.1 hx).2]; decide
theorem wrgF_all {l : List Hit} (h : (wrg l).2 = 0) : ∀ x ∈ l, okH x = true := wrgF_ok l 0 none h
theorem hitB_enc {l : List Hit} {o : Bool} {d : Int} {K : Nat} {i : Nat} (hall : ∀ x ∈ l, okH x = true) (hi : i < l.length) : hitB (encL l o d K) i = l[i] := by
  have e : encL l o d K = (be 2 l.length ++ ([if o then 1 else 0] ++ (be 2 d ++ ents (l.take i)))) ++ (be 4 (l[i]).1 ++ (be 2 (l[i]).2 ++ (ents (l.drop (i + 1)) ++ List.replicate (6 * (K - l.length)) 0))) := by
    unfold encL
    conv => lhs; rw [← List.take_append_drop i l]
    rw [ents_app, List.drop_eq_getElem_cons hi]
    simp [ents, ent]
  have hlen : (be 2 (l.length : Int) ++ ([if o then (1 : Int) else 0] ++ (be 2 d ++ ents (l.take i)))).length = 5 + 6 * i := by
    simp [be_len, ents_len]; omega
  have ho := hall l[i] (List.getElem_mem hi)
  obtain ⟨⟨o1, o2⟩, o3, o4⟩ := okH_iff (E := (l[i]).1) (I := (l[i]).2) |>.1 ho
  unfold hitB
  apply Prod.ext
  · rw [e]
    exact rdNum_at _ _ 4 _ _ (by omega) (by rw [show (256 : Int) ^ 4 = 4294967296 by decide]; omega) hlen
  · rw [e, ← List.append_assoc]
    exact rdNum_at _ _ 2 _ _ (by omega) (by rw [show (256 : Int) ^ 2 = 65536 by decide]; omega) (by rw [List.length_append, hlen, be_len])
theorem hitB_zero {l : List Hit} {o : Bool} {d : Int} {K : Nat} {i : Nat} (hi : l.length ≤ i) (hK : i < K) : hitB (encL l o d K) i = (0, 0) := by
  have e : ∀ n m : Nat, n + m ≤ 6 → encL l o d K = (be 2 l.length ++ ([if o then 1 else 0] ++ (be 2 d ++ (ents l ++ List.replicate (6 * (i - l.length) + n) 0)))) ++ (be m 0 ++ List.replicate (6 * (K - i) - n - m) 0) := by
    intro n m hn
    unfold encL
    rw [be_zero, List.replicate_append_replicate]
    simp only [List.append_assoc, List.replicate_append_replicate]
    congr 5
    omega
  have hlen : ∀ n : Nat, (be 2 (l.length : Int) ++ ([if o then (1 : Int) else 0] ++ (be 2 d ++ (ents l ++ List.replicate (6 * (i - l.length) + n) 0)))).length = 5 + 6 * i + n := by
    intro n
    simp [be_len, ents_len]; omega
  unfold hitB
  apply Prod.ext
  · rw [e 0 4 (by omega)]
    exact rdNum_at _ _ 4 _ _ (by omega) (by decide) (hlen 0)
  · rw [e 4 2 (by omega)]
    exact rdNum_at _ _ 2 _ _ (by omega) (by decide) (hlen 4)
theorem enc_dec {l : List Hit} {o : Bool} {d k : Int} (h : encE l o d k = 0) : decR (encR l o d k) k = ⟨l, o, d, 0, 0⟩ := by
  have hE : encR l o d k = encL l o d k.toNat := if_pos h
  rw [hE]
  unfold encE at h
  have hcp : capK k = true := by
    cases hc : capK k with
    | true => rfl
    | false => unfold chkR at h; rw [if_pos hc] at h; cases h
  obtain ⟨⟨k1, k2⟩, hl, hw, ⟨d0, d1⟩, hf⟩ := chkR_ok h
  obtain ⟨K, rfl⟩ : ∃ K : Nat, k = K := ⟨k.toNat, by omega⟩
  rw [Int.toNat_natCast]
  have hall := wrgF_all hw
  rw [wrg_two] at hw
  have hlk : l.length ≤ K := by omega
  have hN : (encL l o d K).length = 5 + 6 * K := encL_len l o d K hlk
  have r0 : rdNum (encL l o d K) 0 2 = l.length := by
    have := rdNum_at [] ([if o then 1 else 0] ++ (be 2 d ++ (ents l ++ List.replicate (6 * (K - l.length)) 0))) 2 0 (l.length : Int) (by omega) (by rw [show (256 : Int) ^ 2 = 65536 by decide]; omega) rfl
    exact this
  have r3 : rdNum (encL l o d K) 3 2 = d := by
    have := rdNum_at (be 2 l.length ++ [if o then 1 else 0]) (ents l ++ List.replicate (6 * (K - l.length)) 0) 2 3 d (by omega) (by rw [show (256 : Int) ^ 2 = 65536 by decide]; omega) (by simp [be_len])
    have e : encL l o d K = (be 2 l.length ++ [if o then 1 else 0]) ++ (be 2 d ++ (ents l ++ List.replicate (6 * (K - l.length)) 0)) := by
      unfold encL; rw [List.append_assoc]
    rw [e]; exact this
  have r2 : (encL l o d K).getD 2 0 = if o then 1 else 0 := by
    unfold encL
    rw [List.getD_eq_getElem?_getD, List.getElem?_append_right (by rw [be_len]; omega), be_len]
    rfl
  have ro : overB (encL l o d K) = o := by unfold overB; rw [r2]; cases o <;> rfl
  have hF : decF (encL l o d K) l.length K 0 [] = (l, 0, 0) := by
    have key : ∀ i, i ≤ K → DecRel (encL l o d K) l.length K i (l.take i) := by
      intro i
      induction i with
      | zero => intro _; exact DecRel.start _ _ _ (by omega)
      | succ i ih =>
        intro hi
        have hr := ih (by omega)
        by_cases hil : i < l.length
        · have hb := hitB_enc (o := o) (d := d) (K := K) hall hil
          rw [List.take_succ_eq_append_getElem hil]
          have h2 : hitErr (lastP none (l.take i)) l[i] = 0 := by
            have h3 : wE none (l.take i ++ l[i] :: l.drop (i + 1)) = 0 := by
              rw [← List.drop_eq_getElem_cons hil, List.take_append_drop]; exact hw
            have h4 := (wE_split h3).2
            rw [wE] at h4
            by_cases e : hitErr (lastP none (l.take i)) l[i] = 0
            · exact e
            · rw [if_neg e] at h4; exact absurd h4 e
          have := hr.hit (by omega) (by omega) (by rw [hb]; exact h2)
          rwa [hb] at this
        · have := hr.zero (by omega) (by omega) (hitB_zero (by omega) (by omega))
          have e : l.take i = l.take (i + 1) := by rw [List.take_of_length_le (by omega), List.take_of_length_le (by omega)]
          rwa [e] at this
    have := key K (Nat.le_refl _)
    rw [List.take_of_length_le hlk] at this
    exact this.done
  unfold decR
  rw [hcp, if_neg (by decide), if_neg (by rw [hN]; omega), r0, if_neg (by omega), r2, if_neg (by cases o <;> decide), ro, r3, hf, if_neg (by decide), Int.toNat_natCast, hF]
  unfold decQ
  rw [if_pos rfl, ro, r3]
end Go.Proofs.YtokcbdaoofjbgaaDoor
