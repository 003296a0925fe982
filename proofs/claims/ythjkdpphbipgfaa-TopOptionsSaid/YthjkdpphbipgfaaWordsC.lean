/- The walk of package sip's Words. -/
import Derived.Test.YthjkdpphbipgfaaRet
import Derived.Test.YthjkdpphbipgfaaWords
import Derived.RangeFuncBox
import Derived.RangeFuncFrom
import Derived.Maps.AppendAt
namespace Go.Proofs.Ythjkdpphbipgfaa
open Go.RowKit Go.Shelf
attribute [local go_sem] Oper.semAt_some

/-- What a word is as a value; a list of words. -/
def u8v (x : BitVec 64) : Value := .int .u64 (U x)

/-- sip.words' value, as an iterator: all words come, or some, if a round says that it wants no more. -/
theorem words_stops (n : Nat) (hn : 1 ≤ n) (Bn : Nat) (s : ByteArray) (hs : s.size ≤ maxLen) (w : World) (hB : Bn < w.heap.size) (hc : w.cell? ⟨Bn, 0, none⟩ = some (.string s)) :
    SeqStopsK Fence.wide n Try.prog 100 #[.pointer (some ⟨Bn, 0, none⟩)] (fun x : BitVec 64 => #[Value.int .u64 (U x)]) (fun W W' => W'.cell? ⟨Bn, 0, none⟩ = W.cell? ⟨Bn, 0, none⟩)
      (fun ys => ys = wordsB s.data.toList) (fun pre => pre <+: wordsB s.data.toList) (wordsB s.data.toList).length w :=
  fun l J Jx W hW hJ _ hY h0 => words1_in n hn l Bn W.heap.size s hs J Jx hJ hY W ((hW.cell (p := ⟨Bn, 0, none⟩) hB).trans hc) h0


end Go.Proofs.Ythjkdpphbipgfaa
