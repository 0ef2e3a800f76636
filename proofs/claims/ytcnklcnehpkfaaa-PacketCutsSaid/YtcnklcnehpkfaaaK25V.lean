/-
  A part of the walk: contracts of functions, each proved once.
-/
import Derived.Test.YtcnklcnehpkfaaaEvRun
import Derived.Test.YtcnklcnehpkfaaaK25U
namespace Go.Proofs.Ytcnklcnehpkfaaa
open Go Go.Ev
set_option linter.unusedVariables false
set_option linter.unusedSimpArgs false
set_option maxHeartbeats 1000000
set_option maxRecDepth 20000
namespace Sp
theorem enc_in {p : Pkt} (hr : pok p) : ∀ x ∈ enc p, 0 ≤ x ∧ x ≤ 255 := by
  by_cases h : chk p = 0
  · have hc := chk_ok h
    have e2 : ∀ n : Int, ∀ x ∈ b2 n, 0 ≤ x ∧ x ≤ 255 := fun n x hx => by
      simp only [b2, List.mem_cons, List.not_mem_nil, or_false] at hx
      rcases hx with rfl | rfl <;> omega
    have e4 : ∀ n : Int, ∀ x ∈ b4 n, 0 ≤ x ∧ x ≤ 255 := fun n x hx => by
      simp only [b4, List.mem_cons, List.not_mem_nil, or_false] at hx
      rcases hx with rfl | rfl | rfl | rfl <;> omega
    have ht := hr.1
    rw [enc_ok h, bytes_eq]
    intro x hx
    simp only [List.mem_append, head, List.mem_cons] at hx
    rcases hx with (rfl | rfl | hx | hx | hx) | hx | hx | hx | hx
    · simp only [fst]; split <;> split <;> omega
    · simp only [snd]; split <;> omega
    · exact e2 _ _ hx
    · exact e4 _ _ hx
    · exact e4 _ _ hx
    · obtain ⟨y, _, hy⟩ := List.mem_flatMap.1 hx; exact e4 _ _ hy
    · rw [ext] at hx
      split at hx
      · simp only [List.mem_append] at hx
        rcases hx with hx | hx | hx
        · exact e2 _ _ hx
        · exact e2 _ _ hx
        · exact hr.2.2.2.2.2.2.1 x hx
      · cases hx
    · exact hr.2.2.2.2.2.2.2 x hx
    · rw [padz] at hx
      split at hx
      · simp only [List.mem_append, List.mem_replicate, List.mem_singleton] at hx
        rcases hx with hx | hx <;> omega
      · cases hx
  · rw [enc_bad h]; intro x hx; cases hx
theorem enc_len {p : Pkt} : (enc p).length ≤ 10000 := by
  by_cases h : chk p = 0
  · have hc := chk_ok h
    have e1 : (ext p).length ≤ 1024 := by
      cases hx : p.ex
      · rw [ext_f hx]; simp
      · rw [ext_len hx]; omega
    have e2 : (padz p.pad).length ≤ 255 := by
      by_cases hp : 0 < p.pad
      · rw [padz_len hp]; omega
      · rw [padz, if_neg hp]; simp
    rw [enc_ok h, bytes_eq]
    simp only [List.length_append, b4s_len, head_len]; omega
  · rw [enc_bad h]; simp
theorem enc_ge {p : Pkt} (h : chk p = 0) : 12 ≤ (enc p).length := by
  rw [enc_ok h, bytes_eq]; simp only [List.length_append, head_len]; omega
theorem dT_n {b : List Int} (hb : ∀ x ∈ b, 0 ≤ x ∧ x ≤ 255) (h : ¬ (dT b).2.2 = 0) : (dT b).1 = p0 ∧ 0 ≤ (dT b).2.1 ∧ (dT b).2.1 ≤ b.length := by
  have hW := pw_rng (rest_in hb)
  have hr := rest_len b
  by_cases h1 : b.length = 0
  · rw [dT_1 h1]; exact ⟨rfl, by simp, by simp⟩
  by_cases h2 : bt b 0 / 64 = 2
  · by_cases h3 : b.length < dNd b
    · rw [dT_3 h1 h2 h3]; exact ⟨rfl, by simp, by simp⟩
    · by_cases h4 : 1020 < dSz b
      · rw [dT_4 h1 h2 h3 h4]
        have : dNd b ≥ 16 + 4 * dM b := by
          cases hx : dX b
          · rw [sz_f hx] at h4; omega
          · rw [need_t hx]; exact Nat.le_refl _
        exact ⟨rfl, by simp only; omega, by simp only; omega⟩
      · by_cases h5 : b.length < dA b
        · rw [dT_5 h1 h2 h3 h4 h5]; exact ⟨rfl, by simp, by simp⟩
        · by_cases h6 : dG b = true ∧ pd (rest b) = 0
          · rw [dT_6 h1 h2 h3 h4 h5 h6]
            refine ⟨rfl, ?_, ?_⟩ <;> (simp only [imin]; split <;> omega)
          · by_cases h7 : 1500 < (pay b).length
            · rw [dT_7 h1 h2 h3 h4 h5 h6 h7]; exact ⟨rfl, by simp only; omega, by simp only; omega⟩
            · rw [dT_8 h1 h2 h3 h4 h5 h6 h7] at h; exact absurd rfl h
  · rw [dT_2 h1 h2]; exact ⟨rfl, by simp, by simp⟩
end Sp

end Go.Proofs.Ytcnklcnehpkfaaa
