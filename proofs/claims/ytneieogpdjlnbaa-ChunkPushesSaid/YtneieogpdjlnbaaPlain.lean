/- The plain side of the layers roll and chunk, over lists of whole numbers: what bytes sum to, how a window's sum rolls on, where bytes are cut. No Go and no memory in it. Conditions: none beyond those that each statement names. -/
set_option linter.unusedVariables false
set_option linter.unusedSimpArgs false
namespace Go.Proofs.Ytneieogpdjlnbaa

/-- What a byte counts. -/
def wt (c : Int) : Int := ((2 * c + 1) * 2654435761) % 4294967296
/-- The sum of bytes behind a sum. -/
def sumFrom (n : Int) : List Int → Int
  | [] => n
  | c :: l => sumFrom ((n * 3 + wt c) % 4294967296) l
def sumB (l : List Int) : Int := sumFrom 0 l
def rollB (s o i : Int) : Int := ((s - wt o * 14348907) * 3 + wt i) % 4294967296
/-- The last sixteen, or all that there are. -/
def last16 (l : List Int) : List Int := l.drop (l.length - 16)
/-- Bytes. -/
def IsBytes (l : List Int) : Prop := ∀ x ∈ l, 0 ≤ x ∧ x ≤ 255

theorem wt_range (c : Int) : 0 ≤ wt c ∧ wt c < 4294967296 := by unfold wt; omega
theorem sumFrom_append (n : Int) (a b : List Int) : sumFrom n (a ++ b) = sumFrom (sumFrom n a) b := by
  induction a generalizing n with
  | nil => rfl
  | cons c a ih => simp [sumFrom, ih]
theorem sumB_snoc (a : List Int) (c : Int) : sumB (a ++ [c]) = (sumB a * 3 + wt c) % 4294967296 := by
  unfold sumB; rw [sumFrom_append]; rfl
theorem sumFrom_range (n : Int) (h : 0 ≤ n ∧ n < 4294967296) (l : List Int) : 0 ≤ sumFrom n l ∧ sumFrom n l < 4294967296 := by
  induction l generalizing n with
  | nil => exact h
  | cons c l ih => exact ih _ (by omega)
theorem sumB_range (l : List Int) : 0 ≤ sumB l ∧ sumB l < 4294967296 := sumFrom_range 0 (by omega) l
/-- What a starting sum comes to behind bytes. -/
theorem sumFrom_lin (l : List Int) : ∀ n : Int, sumFrom n l % 4294967296 = (n * 3 ^ l.length + sumFrom 0 l) % 4294967296 := by
  induction l with
  | nil => intro n; simp [sumFrom]
  | cons c l ih =>
    intro n
    simp only [sumFrom, List.length_cons]
    have h1 := ih ((n * 3 + wt c) % 4294967296)
    have h2 := ih ((0 * 3 + wt c) % 4294967296)
    have e1 : (n * 3 + wt c) % 4294967296 * 3 ^ l.length % 4294967296 = (n * 3 ^ (l.length + 1) + wt c * 3 ^ l.length) % 4294967296 := by
      rw [Int.mul_emod, Int.emod_emod, ← Int.mul_emod, Int.pow_succ]
      congr 1; rw [Int.add_mul, Int.mul_assoc, Int.mul_comm 3]
    have e2 : (0 * 3 + wt c) % 4294967296 * 3 ^ l.length % 4294967296 = (wt c * 3 ^ l.length) % 4294967296 := by
      rw [Int.mul_emod, Int.emod_emod, ← Int.mul_emod]; congr 1; simp
    omega
theorem roll_window (o : Int) (m : List Int) (i : Int) (hm : m.length = 15) : rollB (sumB (o :: m)) o i = sumB (m ++ [i]) := by
  rw [sumB_snoc]
  unfold rollB
  have h := sumFrom_lin m ((0 * 3 + wt o) % 4294967296)
  have hr := sumFrom_range ((0 * 3 + wt o) % 4294967296) (by omega) m
  have e : sumB (o :: m) = sumFrom ((0 * 3 + wt o) % 4294967296) m := rfl
  have hw := wt_range o
  have hb := sumB_range m
  rw [hm] at h
  have hp : (3 : Int) ^ 15 = 14348907 := by decide
  rw [hp] at h
  have e0 : sumFrom 0 m = sumB m := rfl
  rw [e0] at h
  rw [e]
  omega
theorem last16_short (l : List Int) (h : l.length ≤ 16) : last16 l = l := by unfold last16; rw [show l.length - 16 = 0 from by omega]; rfl
theorem last16_snoc_short (l : List Int) (c : Int) (h : l.length < 16) : last16 (l ++ [c]) = last16 l ++ [c] := by
  rw [last16_short _ (by simp; omega), last16_short _ (by omega)]
theorem last16_snoc_long (l : List Int) (c : Int) (h : 16 ≤ l.length) : ∃ m, m.length = 15 ∧ last16 l = l.getD (l.length - 16) 0 :: m ∧ last16 (l ++ [c]) = m ++ [c] := by
  refine ⟨l.drop (l.length - 15), by simp; omega, ?_, ?_⟩
  · unfold last16
    rw [List.drop_eq_getElem_cons (by omega), show l.length - 16 + 1 = l.length - 15 from by omega]
    simp [List.getElem?_eq_getElem (show l.length - 16 < l.length by omega)]
  · unfold last16
    rw [List.length_append, List.length_singleton, show l.length + 1 - 16 = l.length - 15 from by omega, List.drop_append_of_le_length (by omega)]
/-- One byte more: the window's sum, as the roller reckons it. -/
theorem window_short (l : List Int) (c : Int) (h : l.length < 16) : sumB (last16 (l ++ [c])) = (sumB (last16 l) * 3 + wt c) % 4294967296 := by
  rw [last16_snoc_short l c h, sumB_snoc]
theorem window_long (l : List Int) (c : Int) (h : 16 ≤ l.length) : sumB (last16 (l ++ [c])) = rollB (sumB (last16 l)) (l.getD (l.length - 16) 0) c := by
  obtain ⟨m, hm, e1, e2⟩ := last16_snoc_long l c h
  rw [e1, e2, roll_window _ _ _ hm]


/-! ### What a roller holds of the bytes that came -/
/-- The ring, the number n and the sum s of a roller that the bytes h came into. -/
def RS (h ring : List Int) (n : Nat) (s : Int) : Prop :=
  ring.length = 16 ∧ n = (if h.length < 16 then h.length else 16 + h.length % 16) ∧ (∀ p, p < h.length → h.length ≤ p + 16 → ring.getD (p % 16) 0 = h.getD p 0) ∧ s = sumB (last16 h)
theorem RS_nil : RS [] (List.replicate 16 0) 0 0 := ⟨by simp, by simp, fun p h => by simp at h, rfl⟩
theorem getD_snoc_lt (h : List Int) (c : Int) (p : Nat) (hp : p < h.length) : (h ++ [c]).getD p 0 = h.getD p 0 := by
  simp [List.getD_eq_getElem?_getD, List.getElem?_append_left hp]
theorem getD_snoc_eq (h : List Int) (c : Int) : (h ++ [c]).getD h.length 0 = c := by
  simp [List.getD_eq_getElem?_getD]
theorem getD_set_eq (r : List Int) (j : Nat) (c : Int) (hj : j < r.length) : (r.set j c).getD j 0 = c := by
  simp [List.getD_eq_getElem?_getD, hj]
theorem getD_set_ne (r : List Int) (i j : Nat) (c : Int) (hj : i ≠ j) : (r.set i c).getD j 0 = r.getD j 0 := by
  simp [List.getD_eq_getElem?_getD, hj]
theorem RS_ring {h ring : List Int} {c : Int} (hl : ring.length = 16) (hr : ∀ p, p < h.length → h.length ≤ p + 16 → ring.getD (p % 16) 0 = h.getD p 0) :
    ∀ p, p < (h ++ [c]).length → (h ++ [c]).length ≤ p + 16 → (ring.set (h.length % 16) c).getD (p % 16) 0 = (h ++ [c]).getD p 0 := by
  intro p h1 h2
  rw [List.length_append, List.length_singleton] at h1 h2
  by_cases e : p = h.length
  · subst e
    rw [getD_set_eq _ _ _ (by omega), getD_snoc_eq]
  · rw [getD_set_ne _ _ _ _ (by omega), getD_snoc_lt _ _ _ (by omega)]
    exact hr p (by omega) (by omega)
theorem RS_short {h ring : List Int} {n : Nat} {s c : Int} (hs : RS h ring n s) (hn : n < 16) : RS (h ++ [c]) (ring.set n c) (n + 1) ((s * 3 + wt c) % 4294967296) := by
  obtain ⟨h1, h2, h3, h4⟩ := hs
  have hl : h.length < 16 := by
    rcases Nat.lt_or_ge h.length 16 with hl | hl
    · exact hl
    · rw [if_neg (by omega)] at h2; omega
  rw [if_pos hl] at h2
  subst h2
  refine ⟨by rw [List.length_set]; exact h1, ?_, ?_, ?_⟩
  · rw [List.length_append, List.length_singleton]
    split <;> omega
  · have := RS_ring (c := c) h1 h3
    rwa [Nat.mod_eq_of_lt hl] at this
  · rw [h4, window_short h c hl]
theorem RS_long {h ring : List Int} {n : Nat} {s c : Int} (hs : RS h ring n s) (hn : 16 ≤ n) :
    RS (h ++ [c]) (ring.set (n % 16) c) (if n + 1 = 32 then 16 else n + 1) (rollB s (ring.getD (n % 16) 0) c) := by
  obtain ⟨h1, h2, h3, h4⟩ := hs
  have hl : 16 ≤ h.length := by
    rcases Nat.lt_or_ge h.length 16 with hl | hl
    · rw [if_pos hl] at h2; omega
    · exact hl
  rw [if_neg (by omega)] at h2
  have hm : n % 16 = h.length % 16 := by omega
  have ho : ring.getD (n % 16) 0 = h.getD (h.length - 16) 0 := by
    rw [← h3 (h.length - 16) (by omega) (by omega)]
    congr 1
    omega
  refine ⟨by rw [List.length_set]; exact h1, ?_, ?_, ?_⟩
  · rw [List.length_append, List.length_singleton]
    repeat' split
    all_goals omega
  · rw [hm]
    exact RS_ring (c := c) h1 h3
  · rw [ho, h4, window_long h c hl]
theorem RS_n {h ring : List Int} {n : Nat} {s : Int} (hs : RS h ring n s) : n < 32 ∧ (16 ≤ n ↔ 16 ≤ h.length) := by
  obtain ⟨h1, h2, h3, h4⟩ := hs
  split at h2 <;> omega
theorem RS_bytes {h ring : List Int} {n : Nat} {s : Int} (hs : RS h ring n s) (hb : IsBytes h) (hn : 16 ≤ n) : 0 ≤ ring.getD (n % 16) 0 ∧ ring.getD (n % 16) 0 ≤ 255 := by
  have hl := (RS_n hs).2.1 hn
  obtain ⟨h1, h2, h3, h4⟩ := hs
  rw [if_neg (by omega)] at h2
  have hm : n % 16 = h.length % 16 := by omega
  have ho : ring.getD (n % 16) 0 = h.getD (h.length - 16) 0 := by
    rw [← h3 (h.length - 16) (by omega) (by omega)]
    congr 1
    omega
  rw [ho, List.getD_eq_getElem?_getD, List.getElem?_eq_getElem (by omega)]
  exact hb _ (List.getElem_mem _)
theorem IsBytes.snoc {h : List Int} (hb : IsBytes h) {c : Int} (h0 : 0 ≤ c) (h1 : c ≤ 255) : IsBytes (h ++ [c]) := by
  intro x hx
  rw [List.mem_append, List.mem_singleton] at hx
  rcases hx with hx | rfl
  · exact hb x hx
  · exact ⟨h0, h1⟩


/-! ### Bytes behind others; bytes that differ in one -/
/-- A sum times three, k times. -/
def mul3 (s : Int) : Nat → Int
  | 0 => s
  | k + 1 => (3 * mul3 s k) % 4294967296
theorem mul3_range (s : Int) (h : 0 ≤ s ∧ s < 4294967296) (k : Nat) : 0 ≤ mul3 s k ∧ mul3 s k < 4294967296 := by
  induction k with
  | zero => exact h
  | succ k _ => unfold mul3; omega
theorem mul3_pow (s : Int) (k : Nat) : mul3 s k % 4294967296 = (s * 3 ^ k) % 4294967296 := by
  induction k with
  | zero => simp [mul3]
  | succ k ih =>
    have e : s * 3 ^ (k + 1) = 3 * (s * 3 ^ k) := by rw [Int.pow_succ, Int.mul_comm 3 (s * 3 ^ k), Int.mul_assoc]
    rw [e]
    unfold mul3
    omega
theorem sum_joins (a b : List Int) : sumB (a ++ b) = (mul3 (sumB a) b.length + sumB b) % 4294967296 := by
  have h1 := sumFrom_lin b (sumB a)
  have h2 := mul3_pow (sumB a) b.length
  have h3 : sumB (a ++ b) = sumFrom (sumB a) b := sumFrom_append 0 a b
  have h4 := sumB_range (a ++ b)
  have h5 : sumFrom 0 b = sumB b := rfl
  rw [h5] at h1
  rw [h3] at h4 ⊢
  omega
theorem inv3 (X : Int) : ((3 * X) % 4294967296 * 2863311531) % 4294967296 = X % 4294967296 := by
  rw [Int.mul_emod, Int.emod_emod, ← Int.mul_emod, show 3 * X * 2863311531 = X + 4294967296 * (2 * X) from by omega, Int.add_mul_emod_self_left]
theorem pow3_inj (x y : Int) (m : Nat) (h : (x * 3 ^ m) % 4294967296 = (y * 3 ^ m) % 4294967296) : x % 4294967296 = y % 4294967296 := by
  induction m with
  | zero => simpa using h
  | succ m ih =>
    apply ih
    have e1 : x * 3 ^ (m + 1) = 3 * (x * 3 ^ m) := by rw [Int.pow_succ, Int.mul_comm 3 (x * 3 ^ m), Int.mul_assoc]
    have e2 : y * 3 ^ (m + 1) = 3 * (y * 3 ^ m) := by rw [Int.pow_succ, Int.mul_comm 3 (y * 3 ^ m), Int.mul_assoc]
    rw [e1, e2] at h
    generalize x * 3 ^ m = X at h ⊢
    generalize y * 3 ^ m = Y at h ⊢
    rw [← inv3 X, ← inv3 Y, h]
theorem wt_inj (c d : Int) (hc : 0 ≤ c ∧ c ≤ 255) (hd : 0 ≤ d ∧ d ≤ 255) (h : wt c = wt d) : c = d := by
  have hg : ∀ k : Fin 256, (wt (k.val : Int) * 244002641) % 4294967296 = 2 * (k.val : Int) + 1 := by decide +kernel
  obtain ⟨a, rfl⟩ := Int.eq_ofNat_of_zero_le hc.1
  obtain ⟨b, rfl⟩ := Int.eq_ofNat_of_zero_le hd.1
  have h1 := hg ⟨a, by omega⟩
  have h2 := hg ⟨b, by omega⟩
  simp only at h1 h2
  rw [h, h2] at h1
  omega
theorem wt_odd (c : Int) : wt c % 2 = 1 := by unfold wt; omega
theorem sumFrom_inj (l : List Int) (m n : Int) (hm : 0 ≤ m ∧ m < 4294967296) (hn : 0 ≤ n ∧ n < 4294967296) (h : sumFrom m l = sumFrom n l) : m = n := by
  have h1 := sumFrom_lin l m
  have h2 := sumFrom_lin l n
  rw [h, h2] at h1
  have := pow3_inj m n l.length (by omega)
  omega
theorem set_split (xs : List Int) (k : Nat) (c : Int) (hk : k < xs.length) : xs.set k c = xs.take k ++ (c :: xs.drop (k + 1)) := by
  rw [List.set_eq_take_append_cons_drop, if_pos hk]
theorem self_split (xs : List Int) (k : Nat) (hk : k < xs.length) : xs = xs.take k ++ (xs.getD k 0 :: xs.drop (k + 1)) := by
  conv => lhs; rw [← List.take_append_drop k xs, List.drop_eq_getElem_cons hk]
  simp [List.getD_eq_getElem?_getD, List.getElem?_eq_getElem hk]
theorem sum_apart (xs : List Int) (k : Nat) (c : Int) (hk : k < xs.length) (hb : IsBytes xs) (hc : 0 ≤ c ∧ c ≤ 255) (h : sumB (xs.set k c) = sumB xs) : xs.getD k 0 = c := by
  have hd : 0 ≤ xs.getD k 0 ∧ xs.getD k 0 ≤ 255 := by
    rw [List.getD_eq_getElem?_getD, List.getElem?_eq_getElem hk]
    exact hb _ (List.getElem_mem hk)
  have e2 : sumB xs = sumFrom ((sumB (xs.take k) * 3 + wt (xs.getD k 0)) % 4294967296) (xs.drop (k + 1)) := by
    conv => lhs; rw [self_split xs k hk]
    unfold sumB
    rw [sumFrom_append]
    rfl
  have e1 : sumB (xs.set k c) = sumFrom ((sumB (xs.take k) * 3 + wt c) % 4294967296) (xs.drop (k + 1)) := by
    rw [set_split xs k c hk]
    unfold sumB
    rw [sumFrom_append]
    rfl
  rw [e1, e2] at h
  have h3 := sumFrom_inj _ _ _ (by omega) (by omega) h
  have w1 := wt_range c
  have w2 := wt_range (xs.getD k 0)
  exact (wt_inj c _ hc hd (by omega)).symm
theorem set_self (xs : List Int) (k : Nat) (hk : k < xs.length) : xs.set k (xs.getD k 0) = xs := by
  rw [set_split xs k _ hk, ← self_split xs k hk]


/-! ### Where bytes are cut -/
/-- Does a chunk end behind these bytes? -/
def endsB (h : List Int) : Bool := decide (h.length = 1024) || (decide (64 ≤ h.length) && decide (sumB (last16 h) / 16777216 = 0))
/-- The bytes bs come behind h: the chunks that end, and what is left. -/
def cutRun : List Int → List Int → List (List Int) × List Int
  | h, [] => ([], h)
  | h, c :: bs => if endsB (h ++ [c]) then ((h ++ [c]) :: (cutRun [] bs).1, (cutRun [] bs).2) else cutRun (h ++ [c]) bs
/-- The chunks of bytes. -/
def splitB (bs : List Int) : List (List Int) := (cutRun [] bs).1 ++ (if (cutRun [] bs).2 = [] then [] else [(cutRun [] bs).2])


theorem cutRun_append (a b : List Int) : ∀ h, cutRun h (a ++ b) = ((cutRun h a).1 ++ (cutRun (cutRun h a).2 b).1, (cutRun (cutRun h a).2 b).2) := by
  induction a with
  | nil => intro h; simp [cutRun]
  | cons c a ih =>
    intro h
    simp only [List.cons_append, cutRun]
    split
    · rw [ih]; simp
    · rw [ih]
theorem cutRun_snoc (h bs : List Int) (c : Int) : cutRun h (bs ++ [c]) = if endsB ((cutRun h bs).2 ++ [c]) then ((cutRun h bs).1 ++ [(cutRun h bs).2 ++ [c]], []) else ((cutRun h bs).1, (cutRun h bs).2 ++ [c]) := by
  rw [cutRun_append]
  by_cases e : endsB ((cutRun h bs).2 ++ [c]) = true <;> simp [cutRun, e]
/-- What waits when k bytes of bs have come behind h0 and the last cut was behind at of them. -/
def pendB (h0 bs : List Int) (at_ k : Nat) : List Int := if at_ = 0 then h0 ++ bs.take k else (bs.take k).drop at_
/-- How far the iterator has come: behind k bytes, the last cut behind at of them, the chunks cs told, h waits. -/
def Came (h0 bs : List Int) (k at_ : Nat) (cs : List (List Int)) (h : List Int) : Prop := at_ ≤ k ∧ k ≤ bs.length ∧ cutRun h0 (bs.take k) = (cs, h) ∧ h = pendB h0 bs at_ k
theorem Came.start (h0 bs : List Int) : Came h0 bs 0 0 [] h0 := ⟨Nat.le_refl _, Nat.zero_le _, by simp [cutRun], by simp [pendB]⟩
theorem take_snoc (xs : List Int) (k : Nat) (h : k < xs.length) : xs.take k ++ [xs.getD k 0] = xs.take (k + 1) := by
  rw [List.take_succ_eq_append_getElem h]
  simp [List.getD_eq_getElem?_getD, List.getElem?_eq_getElem h]
theorem Came.pend {h0 bs : List Int} {k at_ : Nat} {cs : List (List Int)} {h : List Int} (hc : Came h0 bs k at_ cs h) (hk : k < bs.length) : h ++ [bs.getD k 0] = pendB h0 bs at_ (k + 1) := by
  rw [hc.2.2.2]
  unfold pendB
  split
  · rw [List.append_assoc, take_snoc bs k hk]
  · rw [← take_snoc bs k hk, List.drop_append_of_le_length (by rw [List.length_take]; have := hc.1; omega)]
theorem Came.go {h0 bs : List Int} {k at_ : Nat} {cs : List (List Int)} {h : List Int} (hc : Came h0 bs k at_ cs h) (hk : k < bs.length) (he : endsB (h ++ [bs.getD k 0]) = false) : Came h0 bs (k + 1) at_ cs (h ++ [bs.getD k 0]) := by
  have hp := hc.pend hk
  obtain ⟨h1, h2, h3, h4⟩ := hc
  refine ⟨by omega, by omega, ?_, hp⟩
  rw [← take_snoc bs k hk, cutRun_snoc, h3]
  generalize bs.getD k 0 = c at he ⊢
  simp [he]
theorem Came.cut {h0 bs : List Int} {k at_ : Nat} {cs : List (List Int)} {h : List Int} (hc : Came h0 bs k at_ cs h) (hk : k < bs.length) (he : endsB (h ++ [bs.getD k 0]) = true) : Came h0 bs (k + 1) (k + 1) (cs ++ [h ++ [bs.getD k 0]]) [] := by
  obtain ⟨h1, h2, h3, h4⟩ := hc
  refine ⟨by omega, by omega, ?_, ?_⟩
  · rw [← take_snoc bs k hk, cutRun_snoc, h3]
    generalize bs.getD k 0 = c at he ⊢
    simp [he]
  · unfold pendB
    rw [if_neg (by omega), List.drop_of_length_le (by rw [List.length_take]; omega)]
theorem Came.len {h0 bs : List Int} {k at_ : Nat} {cs : List (List Int)} {h : List Int} (hc : Came h0 bs k at_ cs h) : h.length ≤ h0.length + bs.length := by
  rw [hc.2.2.2]
  unfold pendB
  split
  · simp; omega
  · simp; omega

end Go.Proofs.Ytneieogpdjlnbaa
