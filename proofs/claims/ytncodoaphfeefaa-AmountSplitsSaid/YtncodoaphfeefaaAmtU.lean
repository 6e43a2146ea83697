/- slices.symMergeCmpFunc of cuts. -/
import Derived.Test.YtncodoaphfeefaaAmtS
import Derived.Test.YtncodoaphfeefaaAmtT
namespace Go.Proofs.Ytncodoaphfeefaa
open Go.RowKit Go.Shelf Go.Lib Go.Sort
set_option linter.unusedVariables false
set_option linter.unusedSimpArgs false

theorem symm_ok (k : Nat) (hk2 : k = 2) (blk off cap : Nat) (d0 : Array Cut) (w0 : World) (R : RowK encC k w0 blk off d0) (hC : CmpLays Try.prog 36 #[] encC k cmpC blk off d0.size w0) (hsz : d0.size ≤ 1000) : ∀ (g a m b : Nat) (d : Array Cut) (w : World), b - a ≤ g → a < m → m < b → b ≤ d.size → d.size = d0.size → SWK encC k w0 blk off d w → Two a m b d →
    Calls Try.prog 47 #[.slice (some ⟨blk, off, none⟩) d.size cap, .int .i64 a, .int .i64 m, .int .i64 b, .func (.func 36) #[] #[]] w (MrgEnd k w0 blk off d a b) := by
  intro g
  induction g with
  | zero => intro a m b d w h0 h1 h2; omega
  | succ g ih =>
    intro a m b d w h0 h1 h2 h3 h4 hS h5
    have hC' : CmpLays Try.prog 36 #[] encC k cmpC blk off d.size w0 := by rw [h4]; exact hC
    rcases Nat.lt_or_ge (a + 1) m with c1 | c1
    · rcases Nat.lt_or_ge (m + 1) b with c2 | c2
      · have HRec : Hid (∀ (a' m' b' : Nat) (d' : Array Cut) (W : World), b' - a' < b - a → a' < m' → m' < b' → b' ≤ d.size → d'.size = d.size → SWK encC k w0 blk off d' W → Two a' m' b' d' → Calls Try.prog 47 #[.slice (some ⟨blk, off, none⟩) d.size cap, .int .i64 a', .int .i64 m', .int .i64 b', .func (.func 36) #[] #[]] W (MrgEnd k w0 blk off d' a' b')) := fun a' m' b' d' W k1 k2 k3 k4 k5 k6 k7 => by
          have := ih a' m' b' d' W (by omega) k2 k3 (by omega) (by omega) k6 k7
          rwa [k5] at this
        rcases Nat.lt_or_ge ((a + b) / 2) m with c3 | c3
        · exact symm_long_gt k hk2 blk off cap a m b d0 d w0 w R h4 hS hC' c1 c2 h3 (by omega) h5 c3 HRec
        · exact symm_long_le k hk2 blk off cap a m b d0 d w0 w R h4 hS hC' c1 c2 h3 (by omega) h5 c3 HRec
      · exact symm_right k hk2 blk off cap a m b d0 d w0 w R h4 hS hC' c1 (by omega) h3 (by omega) h5
    · exact symm_left k hk2 blk off cap a m b d0 d w0 w R h4 hS hC' (by omega) h2 h3 (by omega) h5

end Go.Proofs.Ytncodoaphfeefaa
