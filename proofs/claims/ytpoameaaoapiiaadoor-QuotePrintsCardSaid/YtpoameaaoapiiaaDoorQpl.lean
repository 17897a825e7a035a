/- How long a part can be. No program in sight. -/
import Derived.Test.YtpoameaaoapiiaaDoorQp
namespace Go.Proofs.YtpoameaaoapiiaaDoor

set_option maxRecDepth 1000000 in
theorem Qt.part_len {l : List UInt8} (h : (Qt.part l).e = 0) : (Qt.part l).s.length ≤ 4 := by
  unfold Qt.part at h ⊢
  cases l with
  | nil => simp [Qt.err]
  | cons b r =>
    simp only at h ⊢
    split
    · simp [Qt.err]
    · split
      · split
        · simp [Qt.err]
        · rename_i hn
          obtain ⟨c, n, hcn⟩ : ∃ c n, Utf.next (b :: r) = (c, n) := ⟨_, _, rfl⟩
          obtain ⟨_, _, h3, _⟩ := Utf.next_some hcn (by rw [hcn] at hn; exact hn)
          have := Utf.enc_length_le c
          rw [hcn]
          simp only [List.length_take]
          omega
      · unfold Qt.esc
        split
        · simp [Qt.err]
        · split
          · simp
          · split
            · unfold Qt.coded
              split
              · simp [Qt.err]
              · split
                · simp [Qt.err]
                · split
                  · dsimp only; exact Utf.enc_length_le _
                  · unfold Qt.low
                    split
                    · simp [Qt.err]
                    · split
                      · simp [Qt.err]
                      · split
                        · simp [Qt.err]
                        · split
                          · simp [Qt.err]
                          · split
                            · simp [Qt.err]
                            · split
                              · simp [Qt.err]
                              · dsimp only; exact Utf.enc_length_le _
            · simp [Qt.err]
end Go.Proofs.YtpoameaaoapiiaaDoor
