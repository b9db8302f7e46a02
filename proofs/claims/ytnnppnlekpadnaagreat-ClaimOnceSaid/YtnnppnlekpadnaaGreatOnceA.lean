/- The statement ClaimOnce, of slices that read as lists: true. -/
import Derived.Test.YtnnppnlekpadnaaGreatOnceM
namespace Go.Proofs.YtnnppnlekpadnaaGreat
open Go.RowKit Go.Proofs

theorem ClaimOnce_any (HA : ∀ w : World, Calls Tryz.prog 10 #[] w fun e w' => e = .returned (.bool true) ∧ Below w.heap.size w w')
    (Al : Option Addr) (ca : Nat) (l : List Std) (At : Option Addr) (cb : Nat) (t : List Terms) (As : Option Addr) (cc : Nat) (s : List Sent) (Ac : Option Addr) (cd : Nat) (c : List Clm) (w : World)
    (hl : Rd encStd 4 w Al l) (ht : Rd encTerms 7 w At t) (hs : Rd encSent 6 w As s) (hc : Rd encClm 6 w Ac c) :
    Calls Tryz.prog 8 #[.slice Al l.length ca, .slice At t.length cb, .slice As s.length cc, .slice Ac c.length cd] w fun e w' => e = .returned (.bool true) ∧ Below w.heap.size w w' := by
  by_cases hn : l.length ≤ 60 ∧ t.length ≤ 60 ∧ s.length ≤ 60 ∧ c.length ≤ 60
  · by_cases h : chkP l t s c = 0
    · exact once_ok Al At As Ac ca cb cc cd l t s c w HA hl ht hs hc hn h
    · exact once_err Al At As Ac ca cb cc cd l t s c w HA hl ht hs hc hn h
  · exact once_many Al At As Ac ca cb cc cd l t s c w HA hn
end Go.Proofs.YtnnppnlekpadnaaGreat
