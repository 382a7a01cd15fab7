/- One number of a script changed: plain mathematics. -/
import Derived.Test.YtclmkgnmgednnaaCoH
import Derived.Test.YtclmkgnmgednnaaSl1
namespace Go.Sl
open Go
set_option linter.unusedVariables false
set_option linter.unusedSimpArgs false
def setF (x : It) : Nat → Int → It
  | 0, n => { x with k := n }
  | 1, n => { x with t := n }
  | 2, n => { x with c := n }
  | 3, n => { x with x := n }
  | 4, n => { x with y := n }
  | _, n => { x with z := n }
theorem setF_cs (x : It) {j : Nat} (n : Int) (hj : j < 6) : (setF x j n).cs = x.cs.set j (vi n) := by
  rcases (by omega : j = 0 ∨ j = 1 ∨ j = 2 ∨ j = 3 ∨ j = 4 ∨ j = 5) with rfl | rfl | rfl | rfl | rfl | rfl <;> rfl
theorem setF_pl (x : It) {j : Nat} (n : Int) (hj : j < 6) : pl (setF x j n) = (pl x).set j n := by
  rcases (by omega : j = 0 ∨ j = 1 ∨ j = 2 ∨ j = 3 ∨ j = 4 ∨ j = 5) with rfl | rfl | rfl | rfl | rfl | rfl <;> rfl
theorem setF_ok {x : It} {j : Nat} {n : Int} (hj : j < 6) (hx : ItOk x) (hn : i64 n) : ItOk (setF x j n) := fun q hq => by
  rw [setF_pl x n hj] at hq
  rcases List.mem_or_eq_of_mem_set hq with h | rfl
  · exact hx q h
  · exact hn
theorem setF_set (x : It) {j : Nat} (n m : Int) (hj : j < 6) : setF (setF x j n) j m = setF x j m := by
  rcases (by omega : j = 0 ∨ j = 1 ∨ j = 2 ∨ j = 3 ∨ j = 4 ∨ j = 5) with rfl | rfl | rfl | rfl | rfl | rfl <;> rfl
theorem setF_eq (x : It) {j : Nat} (n : Int) (hj : j < 6) : x = setF x j n ↔ (pl x)[j]! = n := by
  obtain ⟨a, b, c, d, e, f⟩ := x
  rcases (by omega : j = 0 ∨ j = 1 ∨ j = 2 ∨ j = 3 ∨ j = 4 ∨ j = 5) with rfl | rfl | rfl | rfl | rfl | rfl <;> simp [setF, pl]
theorem cs_at (x : It) {j : Nat} (hj : j < 6) : x.cs[j]? = some (vi (pl x)[j]!) := by
  rcases (by omega : j = 0 ∨ j = 1 ∨ j = 2 ∨ j = 3 ∨ j = 4 ∨ j = 5) with rfl | rfl | rfl | rfl | rfl | rfl <;> rfl
def nl (n : Int) : Nat := if n ≠ 0 then (num (zz n)).length else 0
theorem rsP_len6 (x : It) : (rsP x 6).length = nl x.k + nl x.t + nl x.c + nl x.x + nl x.y + nl x.z := by
  have h : ∀ n : Int, (if n ≠ 0 then num (zz n) else []).length = nl n := fun n => by unfold nl; split <;> simp
  show ((((((([] ++ (if x.k ≠ 0 then num (zz x.k) else [])) ++ (if x.t ≠ 0 then num (zz x.t) else [])) ++ (if x.c ≠ 0 then num (zz x.c) else [])) ++ (if x.x ≠ 0 then num (zz x.x) else [])) ++ (if x.y ≠ 0 then num (zz x.y) else [])) ++ (if x.z ≠ 0 then num (zz x.z) else []))).length = _
  simp only [List.length_append, h, List.length_nil]; omega
theorem itB_drop (x : It) {j : Nat} (hj : j < 6) : (itB x).length = (itB (setF x j 0)).length + nl (pl x)[j]! := by
  have h0 : nl 0 = 0 := rfl
  simp only [itB, List.length_cons, rsP_len6]
  rcases (by omega : j = 0 ∨ j = 1 ∨ j = 2 ∨ j = 3 ∨ j = 4 ∨ j = 5) with rfl | rfl | rfl | rfl | rfl | rfl
  all_goals (simp [setF, pl, h0]; omega)
theorem encR_drop (L : List It) {i j : Nat} (hi : i < L.length) (hj : j < 6) : (encR L).length = (encR (L.set i (setF L[i] j 0))).length + nl (pl L[i])[j]! := by
  have h1 : (L.flatMap itB).length = ((L.take i).flatMap itB).length + ((itB L[i]).length + ((L.drop (i + 1)).flatMap itB).length) := by
    conv => lhs; rw [← List.take_append_drop i L, List.drop_eq_getElem_cons hi, List.flatMap_append, List.flatMap_cons]
    simp only [List.length_append]
  have h2 : ((L.set i (setF L[i] j 0)).flatMap itB).length = ((L.take i).flatMap itB).length + ((itB (setF L[i] j 0)).length + ((L.drop (i + 1)).flatMap itB).length) := by
    rw [List.set_eq_take_append_cons_drop, if_pos hi, List.flatMap_append, List.flatMap_cons]
    simp only [List.length_append]
  have h3 := itB_drop L[i] hj
  simp only [encR, List.length_append, List.length_set, h1, h2, List.length_cons, List.length_nil]
  omega
theorem set_eq {L : List It} {i : Nat} (hi : i < L.length) (y : It) : L = L.set i y ↔ L[i] = y := by
  constructor
  · intro h
    have : L[i]? = (L.set i y)[i]? := congrArg (·[i]?) h
    simpa [hi] using this
  · intro h
    subst h
    simp
theorem encR_one {L : List It} {i j : Nat} {n : Int} (hi : i < L.length) (hj : j < 6) (hL : ∀ x ∈ L, ItOk x) (hn : i64 n) (h2 : L.length ≤ 20000) : (bs (encR L)).data.toList = (bs (encR (L.set i (setF L[i] j n)))).data.toList ↔ (pl L[i])[j]! = n := by
  have hok : ∀ y ∈ L.set i (setF L[i] j n), ItOk y := fun y hy => by
    rcases List.mem_or_eq_of_mem_set hy with h | rfl
    · exact hL y h
    · exact setF_ok hj (hL _ (List.getElem_mem _)) hn
  rw [bs_inj (encR_byte _) (encR_byte _), ← setF_eq L[i] n hj, ← set_eq hi]
  exact ⟨fun h => encR_inj hL hok h2 (by rw [List.length_set]; exact h2) h, fun h => by rw [← h]⟩
/-! what lies in memory -/
theorem mem_set {L : List It} {pre jk : List Value} {i j : Nat} (hi : i < L.length) (hj : j < 6) (n : Int) : (pre ++ (L.flatMap It.cs ++ jk)).set (pre.length + i * 6 + j) (vi n) = pre ++ ((L.set i (setF L[i] j n)).flatMap It.cs ++ jk) := by
  have e1 := flat_split (f := It.cs) L i hi
  have e2 := flat_set (f := It.cs) L i (setF L[i] j n) hi
  have hl : ((L.take i).flatMap It.cs).length = i * 6 := by rw [flat_len (f := It.cs), List.length_take, Nat.min_eq_left (by omega)]
  rw [e2, e1, List.set_append_right _ _ (by omega), show pre.length + i * 6 + j - pre.length = i * 6 + j by omega]
  congr 1
  simp only [List.append_assoc]
  rw [List.set_append_right _ _ (by omega), hl, show i * 6 + j - i * 6 = j by omega, List.set_append_left _ _ (by simpa using hj), setF_cs _ _ hj]
theorem mem_at {L : List It} {pre jk : List Value} {i j : Nat} (hi : i < L.length) (hj : j < 6) : (pre ++ (L.flatMap It.cs ++ jk))[pre.length + i * 6 + j]? = some (vi (pl L[i])[j]!) := by
  have e1 := flat_split (f := It.cs) L i hi
  have hl : ((L.take i).flatMap It.cs).length = i * 6 := by rw [flat_len (f := It.cs), List.length_take, Nat.min_eq_left (by omega)]
  rw [e1, List.getElem?_append_right (by omega), show pre.length + i * 6 + j - pre.length = i * 6 + j by omega]
  simp only [List.append_assoc]
  rw [List.getElem?_append_right (by omega), hl, show i * 6 + j - i * 6 = j by omega, List.getElem?_append_left (by simpa using hj), cs_at _ hj]
end Go.Sl
