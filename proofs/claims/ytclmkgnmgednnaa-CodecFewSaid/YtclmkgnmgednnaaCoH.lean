/- Scripts' bytes with something behind, or cut: plain mathematics. -/
import Derived.Test.YtclmkgnmgednnaaCoG
import Derived.Test.YtclmkgnmgednnaaCo11
namespace Go.Sl
open Go
set_option linter.unusedVariables false
theorem decR_app {L : List It} (h : ∀ x ∈ L, ItOk x) (hL : L.length ≤ 20000) (m : List Int) : decR (encR L ++ m) = if m = [] then (L, 0) else ([], 12) := by
  have hi : i64 (L.length : Int) := by omega
  have e : encR L ++ m = [104, 119] ++ (num (zz L.length) ++ (L.flatMap itB ++ m)) := by rw [encR]; simp only [List.append_assoc]
  have hd : (encR L ++ m).drop 2 = num (zz L.length) ++ (L.flatMap itB ++ m) := by rw [e]; rfl
  rw [decR, if_pos (by rw [e]; rfl), hd, decB]
  have hr := readR_num hi (L.flatMap itB ++ m)
  have hp := num_pos (zz (L.length : Int))
  obtain ⟨h1, h2⟩ := rest1_num hi (L.flatMap itB ++ m)
  rw [hr, h1]
  simp only
  rw [if_neg (by omega), if_neg (by omega), Int.toNat_natCast, readIt_enc L [] m h]
  simp
theorem encR_inj {L M : List It} (hL : ∀ x ∈ L, ItOk x) (hM : ∀ x ∈ M, ItOk x) (h1 : L.length ≤ 20000) (h2 : M.length ≤ 20000) (h : encR L = encR M) : L = M := by
  have e1 := decR_enc hL h1
  have e2 := decR_enc hM h2
  rw [h, e2] at e1
  exact (congrArg Prod.fst e1).symm
theorem decR_cut {L : List It} (h : ∀ x ∈ L, ItOk x) (hL : L.length ≤ 20000) {c : Nat} (hc : c < (encR L).length) : (decR ((encR L).take c)).2 = 12 := by
  have hb : Byts ((encR L).take c) := fun x hx => encR_byte L x (List.mem_of_mem_take hx)
  generalize hd : decR ((encR L).take c) = D
  obtain ⟨M, e⟩ := D
  show e = 12
  by_cases he : e = 0
  · subst he
    obtain ⟨hE, hM, hok⟩ := decR_back hb hd
    have h1 := decR_app hok hM ((encR L).drop c)
    rw [hE, List.take_append_drop, decR_enc h hL, if_neg (fun q => by have := congrArg List.length q; simp at this; omega)] at h1
    simp at h1
  · obtain ⟨_, h13 | h12⟩ := decR_bad hd he
    · obtain ⟨_, _, hk, hbig⟩ := h13
      exfalso
      have hb2 : ∀ x ∈ ((encR L).take c).drop 2, 0 ≤ x ∧ x ≤ 255 := fun x hx => hb x (List.mem_of_mem_drop hx)
      rcases readR_cases _ hb2 with ⟨n, m, hn, e1, e2⟩ | ⟨e1, _⟩
      · rw [e2] at hbig
        simp only at hbig
        have hsp : (encR L).drop 2 = num (zz n) ++ (m ++ ((encR L).drop c).drop (2 - ((encR L).take c).length)) := by
          rw [← List.append_assoc, ← e1, ← List.drop_append, List.take_append_drop]
        have hi : i64 (L.length : Int) := by omega
        have hd2 : (encR L).drop 2 = num (zz L.length) ++ (L.flatMap itB) := by rw [encR, List.append_assoc]; rfl
        have r1 := readR_num hi (L.flatMap itB)
        rw [← hd2, hsp, readR_num hn] at r1
        have := congrArg Prod.fst r1
        simp only at this
        omega
      · rw [e1] at hk; exact hk rfl
    · exact h12.1
theorem decR_zero (l : List Int) : decR ((0 : Int) :: l) = ([], 12) := by
  rw [decR, if_neg]
  cases l <;> simp
theorem decR_app2 {L : List It} (h : ∀ x ∈ L, ItOk x) (hL : L.length ≤ 20000) (m : List Int) : (decR (encR L ++ m)).2 = if m.length = 0 then 0 else 12 := by
  rw [decR_app h hL]
  cases m <;> simp
end Go.Sl
