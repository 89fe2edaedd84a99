/- Paths and proofs of growth, as the document tells them. -/
import Derived.Test.YtpdhgijeanbmcaaDoorCroot
namespace Go.Proofs.YtpdhgijeanbmcaaDoor
open Go.RowKit

namespace Tree
def path (l : List (List UInt8)) (i : Nat) : List (List UInt8) :=
  if _h : 1 < l.length then
    if i < split l.length then path (l.take (split l.length)) i ++ [root (l.drop (split l.length))]
    else path (l.drop (split l.length)) (i - split l.length) ++ [root (l.take (split l.length))]
  else []
termination_by l.length
decreasing_by
  · have := split_lt _h; simp; omega
  · have := split_pos l.length; simp; omega
theorem path_left {l : List (List UInt8)} {i : Nat} (h : 1 < l.length) (hi : i < split l.length) : path l i = path (l.take (split l.length)) i ++ [root (l.drop (split l.length))] := by
  rw [path, dif_pos h, if_pos hi]
theorem path_right {l : List (List UInt8)} {i : Nat} (h : 1 < l.length) (hi : ¬ i < split l.length) : path l i = path (l.drop (split l.length)) (i - split l.length) ++ [root (l.take (split l.length))] := by
  rw [path, dif_pos h, if_neg hi]
theorem path_stop {l : List (List UInt8)} {i : Nat} (h : ¬ 1 < l.length) : path l i = [] := by rw [path, dif_neg h]

def sub (m : Nat) (l : List (List UInt8)) (whole : Bool) : List (List UInt8) :=
  if _h : 1 < l.length then
    if m = l.length then (if whole then [] else [root l])
    else if m ≤ split l.length then sub m (l.take (split l.length)) whole ++ [root (l.drop (split l.length))]
    else sub (m - split l.length) (l.drop (split l.length)) false ++ [root (l.take (split l.length))]
  else if whole then [] else [root l]
termination_by l.length
decreasing_by
  · have := split_lt _h; simp; omega
  · have := split_pos l.length; simp; omega
theorem sub_all {m : Nat} {l : List (List UInt8)} (h : m = l.length) (whole : Bool) : sub m l whole = if whole then [] else [root l] := by
  rw [sub]
  split <;> simp
theorem sub_left {m : Nat} {l : List (List UInt8)} {whole : Bool} (h : m < l.length) (hp : 0 < m) (hi : m ≤ split l.length) : sub m l whole = sub m (l.take (split l.length)) whole ++ [root (l.drop (split l.length))] := by
  rw [sub, dif_pos (by omega), if_neg (by omega), if_pos hi]
theorem sub_right {m : Nat} {l : List (List UInt8)} {whole : Bool} (h : m < l.length) (hp : 0 < m) (hi : ¬ m ≤ split l.length) : sub m l whole = sub (m - split l.length) (l.drop (split l.length)) false ++ [root (l.take (split l.length))] := by
  rw [sub, dif_pos (by omega), if_neg (by omega), if_neg hi]

/-- The root that a leaf and the first u sums of its path make, and whether their number is right. -/
def made (n i : Nat) (leaf : List UInt8) (p : List (List UInt8)) : Option (List UInt8) := 
  if _h : n ≤ 1 then (if p = [] then some leaf else none)
  else match p.getLast? with
    | none => none
    | some x => if i < split n then (made (split n) i leaf p.dropLast).map fun r => node r x else (made (n - split n) (i - split n) leaf p.dropLast).map fun r => node x r
termination_by n
decreasing_by
  · have := split_lt (show 1 < n by omega); omega
  · have := split_pos n; omega

theorem path_each (l : List (List UInt8)) (i : Nat) (h : ∀ x ∈ l, x.length = 32) : ∀ x ∈ path l i, x.length = 32 := by
  fun_induction path l i with
  | case1 l i h1 h2 ih =>
    intro x hx
    rw [List.mem_append] at hx
    rcases hx with hx | hx
    · exact ih (fun y hy => h y (List.mem_of_mem_take hy)) x hx
    · simp only [List.mem_singleton] at hx
      subst hx
      exact root_len _ fun y hy => h y (List.mem_of_mem_drop hy)
  | case2 l i h1 h2 ih =>
    intro x hx
    rw [List.mem_append] at hx
    rcases hx with hx | hx
    · exact ih (fun y hy => h y (List.mem_of_mem_drop hy)) x hx
    · simp only [List.mem_singleton] at hx
      subst hx
      exact root_len _ fun y hy => h y (List.mem_of_mem_take hy)
  | case3 l i h1 => simp
theorem sub_each (m : Nat) (l : List (List UInt8)) (w : Bool) (h : ∀ x ∈ l, x.length = 32) : (∀ x ∈ sub m l w, x.length = 32) ∧ (sub m l w).length ≤ l.length + 1 := by
  fun_induction sub m l w with
  | case1 => simp
  | case2 => exact ⟨by simpa using root_len _ h, by simp⟩
  | case3 m l w h1 h2 h3 ih =>
    have ih' := ih fun y hy => h y (List.mem_of_mem_take hy)
    refine ⟨fun x hx => ?_, ?_⟩
    · rw [List.mem_append] at hx
      rcases hx with hx | hx
      · exact ih'.1 x hx
      · simp only [List.mem_singleton] at hx
        subst hx
        exact root_len _ fun y hy => h y (List.mem_of_mem_drop hy)
    · have h5 := ih'.2
      have := split_lt h1
      simp only [List.length_append, List.length_take, List.length_singleton] at h5 ⊢
      omega
  | case4 m l w h1 h2 h3 ih =>
    have ih' := ih fun y hy => h y (List.mem_of_mem_drop hy)
    refine ⟨fun x hx => ?_, ?_⟩
    · rw [List.mem_append] at hx
      rcases hx with hx | hx
      · exact ih'.1 x hx
      · simp only [List.mem_singleton] at hx
        subst hx
        exact root_len _ fun y hy => h y (List.mem_of_mem_take hy)
    · have h5 := ih'.2
      have := split_pos l.length
      simp only [List.length_append, List.length_drop, List.length_singleton] at h5 ⊢
      omega
  | case5 => simp
  | case6 => exact ⟨by simpa using root_len _ h, by simp⟩
end Tree
end Go.Proofs.YtpdhgijeanbmcaaDoor
