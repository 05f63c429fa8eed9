/- Scripts: what is shown is read back; what is read is valid. No program in sight. -/
import Derived.Test.YtnanhebepjdlcabDoorNumber
namespace ScrM
open Go.Lib

theorem opOf_name : ∀ i, 1 ≤ i → i ≤ 20 → opOf (nameOf i) = i := by
  have h : ∀ i : Fin 21, 1 ≤ i.val → opOf (nameOf i.val) = i.val := by decide
  intro i h1 h2
  exact h ⟨i, by omega⟩ h1

theorem name_plain : ∀ i, 1 ≤ i → i ≤ 20 → Plain (nameOf i) := by
  have h : ∀ i : Fin 21, 1 ≤ i.val → nameOf i.val ≠ [] ∧ (nameOf i.val).all (fun c => !isSep c && !(c == 10)) = true := by decide
  intro i h1 h2
  obtain ⟨h3, h4⟩ := h ⟨i, by omega⟩ h1
  refine ⟨h3, fun c hc => ?_⟩
  have := List.all_eq_true.1 h4 c hc
  simpa using this

theorem opOf_spec {w : List UInt8} (h : opOf w ≠ 0) : 1 ≤ opOf w ∧ opOf w ≤ 20 ∧ nameOf (opOf w) = w := by
  unfold opOf at h ⊢
  cases hf : (List.range 21).find? fun i => decide (1 ≤ i) && nameOf i == w with
  | none => rw [hf] at h; exact absurd rfl h
  | some i =>
    have h1 := List.find?_some hf
    have h2 := List.mem_of_find?_eq_some hf
    simp only [Bool.and_eq_true, decide_eq_true_eq, beq_iff_eq] at h1
    simp only [List.mem_range] at h2
    exact ⟨h1.1, by simpa using (show i ≤ 20 by omega), h1.2⟩

theorem nums_some : ∀ (k : Nat) (ws : List (List UInt8)) (as : List Int), nums k ws = some as → as.length = k ∧ (∀ n ∈ as, 0 ≤ n ∧ n ≤ 65535) ∧ ws.take k = as.map dec ∧ k ≤ ws.length
  | 0, ws, as, h => by
    simp only [nums, Option.some.injEq] at h
    subst h
    simp
  | k + 1, [], as, h => by simp [nums] at h
  | k + 1, w :: r, as, h => by
    simp only [nums] at h
    split at h
    · rename_i n l h1 h2
      injection h with h
      subst h
      obtain ⟨e1, e2, e3, e4⟩ := nums_some k r l h2
      obtain ⟨_, _, _, g1, g2, _⟩ := num_some h1
      refine ⟨by simp [e1], fun x hx => ?_, ?_, by simp; omega⟩
      · rcases List.mem_cons.1 hx with rfl | hx
        · omega
        · exact e2 x hx
      · simp only [List.take_succ_cons, List.map_cons, e3]
        rw [show dec (n : Int) = w from g1]
    · cases h

theorem nums_dec : ∀ (as : List Int) (r : List (List UInt8)), (∀ n ∈ as, 0 ≤ n ∧ n ≤ 65535) → nums as.length (as.map dec ++ r) = some as
  | [], r, _ => rfl
  | n :: as, r, h => by
    have h0 := h n (by simp)
    rw [List.length_cons, List.map_cons, List.cons_append, nums, nums_dec as r fun x hx => h x (by simp [hx])]
    have : num 65535 (dec n) = some n.toNat := num_dec (by omega) (by omega)
    rw [this]
    simp only [Option.some.injEq, List.cons.injEq, and_true]
    omega

theorem dec_ne_cut (n : Int) : dec n ≠ wCut := fun e => by
  have := dec_digits n.toNat n.toNat (Nat.le_refl _) 99 (by rw [show decDigits n.toNat = wCut from e]; decide)
  revert this; decide

theorem dec_ne_noise (n : Int) : dec n ≠ wNoise := fun e => by
  have := dec_digits n.toNat n.toNat (Nat.le_refl _) 110 (by rw [show decDigits n.toNat = wNoise from e]; decide)
  revert this; decide

/-- What 'valid' says. -/
theorem valid_iff {c : Cm} (h : valid c = true) : 1 ≤ c.op ∧ c.op ≤ 20 ∧ c.args.length = arityN c.op.toNat ∧ (∀ n ∈ c.args, 0 ≤ n ∧ n ≤ 65535) ∧ -1 ≤ c.cut ∧ c.cut ≤ 65535 ∧ 0 ≤ c.noise ∧ c.noise ≤ 65535 ∧ 0 ≤ c.bytes ∧ c.bytes ≤ 256 ∧ (0 ≤ c.cut ∨ c.bytes = 0) := by
  simp only [valid, within, Bool.and_eq_true, Bool.or_eq_true, decide_eq_true_eq, List.all_eq_true] at h
  obtain ⟨⟨⟨⟨⟨⟨h1, h2⟩, h3⟩, h4, h5⟩, h6, h7⟩, h8, h9⟩, h10⟩ := h
  have hop : 1 ≤ c.op ∧ c.op ≤ 20 := by
    unfold arity at h1
    split at h1
    · assumption
    · omega
  unfold arity at h2
  rw [if_pos hop] at h2
  exact ⟨hop.1, hop.2, by omega, h3, h4, h5, h6, h7, h8, h9, h10⟩

theorem valid_mk {c : Cm} (h1 : 1 ≤ c.op) (h2 : c.op ≤ 20) (h3 : c.args.length = arityN c.op.toNat) (h4 : ∀ n ∈ c.args, 0 ≤ n ∧ n ≤ 65535) (h5 : -1 ≤ c.cut) (h6 : c.cut ≤ 65535) (h7 : 0 ≤ c.noise) (h8 : c.noise ≤ 65535) (h9 : 0 ≤ c.bytes) (h10 : c.bytes ≤ 256) (h11 : 0 ≤ c.cut ∨ c.bytes = 0) : valid c = true := by
  simp only [valid, within, Bool.and_eq_true, Bool.or_eq_true, decide_eq_true_eq, List.all_eq_true]
  unfold arity
  rw [if_pos ⟨h1, h2⟩]
  exact ⟨⟨⟨⟨⟨⟨by omega, by omega⟩, h4⟩, h5, h6⟩, h7, h8⟩, h9, h10⟩, h11⟩

theorem noise_dec {n : Int} (h0 : 0 ≤ n) (h1 : n ≤ 65535) : noiseOf (if 1 ≤ n then [wNoise, dec n] else []) = some n := by
  split
  · have : num 65535 (dec n) = some n.toNat := num_dec (by omega) (by omega)
    simp only [noiseOf, if_true, this]
    rw [if_pos (by omega)]
    simp only [Option.some.injEq]
    omega
  · simp only [noiseOf, Option.some.injEq]
    omega

theorem cut_ne_noise : wNoise ≠ wCut := by decide

theorem command_words {c : Cm} (h : valid c = true) : command (wordsOf c) = some c := by
  obtain ⟨h1, h2, h3, h4, h5, h6, h7, h8, h9, h10, h11⟩ := valid_iff h
  have ho := opOf_name c.op.toNat (by omega) (by omega)
  unfold wordsOf
  rw [command, ho, if_neg (by omega), ← h3, nums_dec _ _ h4, List.drop_append_of_le_length (by simp), List.drop_of_length_le (by simp), List.nil_append]
  have hop : ((c.op.toNat : Nat) : Int) = c.op := by omega
  by_cases hc : 0 ≤ c.cut
  · have e1 : num 65535 (dec c.cut) = some c.cut.toNat := num_dec (by omega) (by omega)
    have e2 : num 256 (dec c.bytes) = some c.bytes.toNat := num_dec (by omega) (by omega)
    rw [if_pos hc]
    simp only [List.cons_append, List.nil_append, cutOf, if_true, e1, e2, noise_dec h7 h8, Option.some.injEq, hop]
    rw [show ((c.cut.toNat : Nat) : Int) = c.cut by omega, show ((c.bytes.toNat : Nat) : Int) = c.bytes by omega]
  · have e0 : c.bytes = 0 := by omega
    have e1 : c.cut = -1 := by omega
    rw [if_neg hc, List.nil_append]
    have e2 : cutOf (if 1 ≤ c.noise then [wNoise, dec c.noise] else []) = some (-1, 0, if 1 ≤ c.noise then [wNoise, dec c.noise] else []) := by
      split
      · simp only [cutOf, if_neg cut_ne_noise]
      · rfl
    rw [e2]
    simp only [noise_dec h7 h8, Option.some.injEq, hop]
    rw [← e1]
    conv => lhs; rw [← e0]

theorem cutOf_some {ws r : List (List UInt8)} {a b : Int} (h : cutOf ws = some (a, b, r)) : -1 ≤ a ∧ a ≤ 65535 ∧ 0 ≤ b ∧ b ≤ 256 ∧ (0 ≤ a ∨ b = 0) := by
  unfold cutOf at h
  split at h
  · simp only [Option.some.injEq, Prod.mk.injEq] at h
    omega
  · split at h
    · split at h
      · split at h
        · rename_i h1 h2
          obtain ⟨_, _, _, _, g1, _⟩ := num_some h1
          obtain ⟨_, _, _, _, g2, _⟩ := num_some h2
          simp only [Option.some.injEq, Prod.mk.injEq] at h
          omega
        · cases h
      · cases h
    · simp only [Option.some.injEq, Prod.mk.injEq] at h
      omega

theorem noiseOf_some {ws : List (List UInt8)} {n : Int} (h : noiseOf ws = some n) : 0 ≤ n ∧ n ≤ 65535 := by
  unfold noiseOf at h
  split at h
  · simp only [Option.some.injEq] at h
    omega
  · split at h
    · split at h
      · rename_i h1
        obtain ⟨_, _, _, _, g1, _⟩ := num_some h1
        split at h
        · simp only [Option.some.injEq] at h
          omega
        · cases h
      · cases h
    · cases h
  · cases h

theorem command_valid {ws : List (List UInt8)} {c : Cm} (h : command ws = some c) : valid c = true := by
  unfold command at h
  split at h
  · cases h
  · rename_i w r
    split at h
    · cases h
    · rename_i ho
      obtain ⟨o1, o2, _⟩ := opOf_spec ho
      split at h
      · rename_i as a b r' h1 h2
        obtain ⟨a1, a2, _⟩ := nums_some _ _ _ h1
        obtain ⟨b1, b2, b3, b4, b5⟩ := cutOf_some h2
        split at h
        · rename_i n h3
          obtain ⟨n1, n2⟩ := noiseOf_some h3
          injection h with h
          subst h
          exact valid_mk (by simp; omega) (by simp; omega) (by simpa using a1) a2 b1 b2 n1 n2 b3 b4 b5
        · cases h
      · cases h

theorem cmds_valid : ∀ (ls : List (List UInt8)) (l : List Cm), cmds ls = some l → ∀ c ∈ l, valid c = true
  | [], l, h, c, hc => by
    simp only [cmds, Option.some.injEq] at h
    subst h
    simp at hc
  | s :: ls, l, h, c, hc => by
    simp only [cmds] at h
    split at h
    · exact cmds_valid ls l h c hc
    · split at h
      · rename_i d m h1 h2
        injection h with h
        subst h
        rcases List.mem_cons.1 hc with rfl | hc
        · exact command_valid h1
        · exact cmds_valid ls m h2 c hc
      · cases h

theorem wordsOf_plain {c : Cm} (h : valid c = true) : ∀ w ∈ wordsOf c, Plain w := by
  obtain ⟨h1, h2, _⟩ := valid_iff h
  intro w hw
  have hn := name_plain c.op.toNat (by omega) (by omega)
  have hcw : Plain wCut := by unfold Plain; decide
  have hnw : Plain wNoise := by unfold Plain; decide
  simp only [wordsOf, List.mem_cons, List.mem_append, List.mem_map] at hw
  rcases hw with rfl | ⟨n, _, rfl⟩ | hw | hw
  · exact hn
  · exact dec_plain _
  · split at hw
    · simp only [List.mem_cons, List.not_mem_nil, or_false] at hw
      rcases hw with rfl | rfl | rfl
      · exact hcw
      · exact dec_plain _
      · exact dec_plain _
    · simp at hw
  · split at hw
    · simp only [List.mem_cons, List.not_mem_nil, or_false] at hw
      rcases hw with rfl | rfl
      · exact hnw
      · exact dec_plain _
    · simp at hw

theorem cmds_line {c : Cm} (h : valid c = true) (r : List (List UInt8)) : cmds (lineOf c :: r) = (cmds r).map (c :: ·) := by
  have hw : words (lineOf c) = wordsOf c := words_join _ (wordsOf_plain h)
  rw [cmds, hw, command_words h, if_neg (by simp [wordsOf])]
  cases cmds r <;> rfl

/-- The textual form of valid commands yields the commands. -/
theorem parse_text : ∀ (l : List Cm), (∀ c ∈ l, valid c = true) → parseL (textL l) = some l
  | [], _ => rfl
  | c :: l, h => by
    have hc := h c (by simp)
    have ih := parse_text l fun x hx => h x (by simp [hx])
    unfold parseL at ih ⊢
    rw [textL, List.flatMap_cons, List.append_assoc, List.singleton_append, lines_join, lines_one (lineOf c) (join_nl _ (wordsOf_plain hc)), List.singleton_append, cmds_line hc]
    rw [show (l.flatMap fun c => lineOf c ++ [10]) = textL l from rfl, ih]
    rfl

end ScrM
