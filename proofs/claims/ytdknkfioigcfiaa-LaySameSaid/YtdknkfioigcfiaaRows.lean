/-
  NARROWER THAN 'FOR EVERY INPUT', by the rows' own cells (each row's printed sentence says how): LaySizes: loops · LayAligns: loops · LayValidates: loops · LaySame: loops · LayBits: loops · LayOffsets: loops · LayReorders: loops · LayOrders: loops.
  DERIVED. THE GIVEN ROWS OF THIS SEAT. 8 by the template 'for every input the law returns true; each argument reads behind the call as it read before'; 0 by the template 'total and deterministic' (their statements: YtdknkfioigcfiaaTotals.lean).
  GIVEN WITH THE SEED: the statements are not yours to turn. If you find one false, say at which input.
  Laid BY PROGRAM, IN A SANDBOX (cutbox-rows.mjs): the forced cells as the released guide's own fill.sh prints them over the translation cbec11ac70d5060a… (all of the seat's roots in one cut). By AI agents, Wed Nov 11 2026. No macro, syntax, notation, axiom, sorry.
-/
import Derived.Test.YtdknkfioigcfiaaChecked
import GoSem.Claim
import GoSem.ClaimJoined
import GoSem.ClaimMapViews
import Derived.JoinedTies
import Derived.KernelRfl
namespace Go.Proofs.Ytdknkfioigcfiaa
/- THE CELL 'sum', in the pinned program and in every row, IS THE sha256 OF THE DUMP (.gsa) THAT YtdknkfioigcfiaaProg.lean LOADS. Nothing in Lean hashes anything: it is a label: what it is worth is what the hold of that sum in a sandbox is worth. -/
noncomputable def Try.pinned : Pinned := { name := "ytdknkfioigcfiaa", sum := "cbec11ac70d5060ad949c8c8664888b8eca0d3a144be13da72e286cf7047829e", checked := Try.checked }
namespace Rows
def none {H : Type} : Left H := { results := [], args := [] }

/-- 'mandrellaw05.LaySizes': WHATEVER THE INPUT: true; the input reads as it did. -/
def laySizesSpec : ChangeSpec := { name := "laySizes", fn := fun _ => fun
  | [d1, d2] => { results := [.lit (.bool true)], args := [d1, d2] }
  | _ => none }
def laySizesRow : OpenClaim := { program := "ytdknkfioigcfiaa", sum := "cbec11ac70d5060ad949c8c8664888b8eca0d3a144be13da72e286cf7047829e", func := "mandrel/mandrellaw05.LaySizes", spec := "laySizes", unfollowed := true, recurses := true, loops := true, apart := false }
def LaySizesSaid : Prop := laySizesRow.holds Try.pinned (OpenSpec.ofChange laySizesSpec)

/-- ITS FALSE NEIGHBOUR: 'it returns false'. Refute it at one input. -/
def laySizesWrong : ChangeSpec := { name := "laySizes", fn := fun _ => fun
  | [d1, d2] => { results := [.lit (.bool false)], args := [d1, d2] }
  | _ => none }
def LaySizesWrongFalsely : Prop := laySizesRow.holds Try.pinned (OpenSpec.ofChange laySizesWrong)

/-- 'mandrellaw05.LayAligns': WHATEVER THE INPUT: true; the input reads as it did. -/
def layAlignsSpec : ChangeSpec := { name := "layAligns", fn := fun _ => fun
  | [d1, d2] => { results := [.lit (.bool true)], args := [d1, d2] }
  | _ => none }
def layAlignsRow : OpenClaim := { program := "ytdknkfioigcfiaa", sum := "cbec11ac70d5060ad949c8c8664888b8eca0d3a144be13da72e286cf7047829e", func := "mandrel/mandrellaw05.LayAligns", spec := "layAligns", unfollowed := true, recurses := true, loops := true, apart := false }
def LayAlignsSaid : Prop := layAlignsRow.holds Try.pinned (OpenSpec.ofChange layAlignsSpec)

/-- ITS FALSE NEIGHBOUR: 'it returns false'. Refute it at one input. -/
def layAlignsWrong : ChangeSpec := { name := "layAligns", fn := fun _ => fun
  | [d1, d2] => { results := [.lit (.bool false)], args := [d1, d2] }
  | _ => none }
def LayAlignsWrongFalsely : Prop := layAlignsRow.holds Try.pinned (OpenSpec.ofChange layAlignsWrong)

/-- 'mandrellaw05.LayValidates': WHATEVER THE INPUT: true; the input reads as it did. -/
def layValidatesSpec : ChangeSpec := { name := "layValidates", fn := fun _ => fun
  | [d1, d2] => { results := [.lit (.bool true)], args := [d1, d2] }
  | _ => none }
def layValidatesRow : OpenClaim := { program := "ytdknkfioigcfiaa", sum := "cbec11ac70d5060ad949c8c8664888b8eca0d3a144be13da72e286cf7047829e", func := "mandrel/mandrellaw05.LayValidates", spec := "layValidates", unfollowed := true, recurses := true, loops := true, apart := false }
def LayValidatesSaid : Prop := layValidatesRow.holds Try.pinned (OpenSpec.ofChange layValidatesSpec)

/-- ITS FALSE NEIGHBOUR: 'it returns false'. Refute it at one input. -/
def layValidatesWrong : ChangeSpec := { name := "layValidates", fn := fun _ => fun
  | [d1, d2] => { results := [.lit (.bool false)], args := [d1, d2] }
  | _ => none }
def LayValidatesWrongFalsely : Prop := layValidatesRow.holds Try.pinned (OpenSpec.ofChange layValidatesWrong)

/-- 'mandrellaw05.LaySame': WHATEVER THE INPUT: true; the input reads as it did. -/
def laySameSpec : ChangeSpec := { name := "laySame", fn := fun _ => fun
  | [d1, d2] => { results := [.lit (.bool true)], args := [d1, d2] }
  | _ => none }
def laySameRow : OpenClaim := { program := "ytdknkfioigcfiaa", sum := "cbec11ac70d5060ad949c8c8664888b8eca0d3a144be13da72e286cf7047829e", func := "mandrel/mandrellaw05.LaySame", spec := "laySame", unfollowed := true, recurses := true, loops := true, apart := false }
def LaySameSaid : Prop := laySameRow.holds Try.pinned (OpenSpec.ofChange laySameSpec)

/-- ITS FALSE NEIGHBOUR: 'it returns false'. Refute it at one input. -/
def laySameWrong : ChangeSpec := { name := "laySame", fn := fun _ => fun
  | [d1, d2] => { results := [.lit (.bool false)], args := [d1, d2] }
  | _ => none }
def LaySameWrongFalsely : Prop := laySameRow.holds Try.pinned (OpenSpec.ofChange laySameWrong)

/-- 'mandrellaw05.LayBits': WHATEVER THE INPUT: true; the input reads as it did. -/
def layBitsSpec : ChangeSpec := { name := "layBits", fn := fun _ => fun
  | [d1, d2, d3] => { results := [.lit (.bool true)], args := [d1, d2, d3] }
  | _ => none }
def layBitsRow : OpenClaim := { program := "ytdknkfioigcfiaa", sum := "cbec11ac70d5060ad949c8c8664888b8eca0d3a144be13da72e286cf7047829e", func := "mandrel/mandrellaw05.LayBits", spec := "layBits", unfollowed := true, recurses := true, loops := true, apart := false }
def LayBitsSaid : Prop := layBitsRow.holds Try.pinned (OpenSpec.ofChange layBitsSpec)

/-- ITS FALSE NEIGHBOUR: 'it returns false'. Refute it at one input. -/
def layBitsWrong : ChangeSpec := { name := "layBits", fn := fun _ => fun
  | [d1, d2, d3] => { results := [.lit (.bool false)], args := [d1, d2, d3] }
  | _ => none }
def LayBitsWrongFalsely : Prop := layBitsRow.holds Try.pinned (OpenSpec.ofChange layBitsWrong)

/-- 'mandrellaw05.LayOffsets': WHATEVER THE INPUT: true; the input reads as it did. -/
def layOffsetsSpec : ChangeSpec := { name := "layOffsets", fn := fun _ => fun
  | [d1, d2, d3] => { results := [.lit (.bool true)], args := [d1, d2, d3] }
  | _ => none }
def layOffsetsRow : OpenClaim := { program := "ytdknkfioigcfiaa", sum := "cbec11ac70d5060ad949c8c8664888b8eca0d3a144be13da72e286cf7047829e", func := "mandrel/mandrellaw05.LayOffsets", spec := "layOffsets", unfollowed := true, recurses := true, loops := true, apart := false }
def LayOffsetsSaid : Prop := layOffsetsRow.holds Try.pinned (OpenSpec.ofChange layOffsetsSpec)

/-- ITS FALSE NEIGHBOUR: 'it returns false'. Refute it at one input. -/
def layOffsetsWrong : ChangeSpec := { name := "layOffsets", fn := fun _ => fun
  | [d1, d2, d3] => { results := [.lit (.bool false)], args := [d1, d2, d3] }
  | _ => none }
def LayOffsetsWrongFalsely : Prop := layOffsetsRow.holds Try.pinned (OpenSpec.ofChange layOffsetsWrong)

/-- 'mandrellaw05.LayReorders': WHATEVER THE INPUT: true; the input reads as it did. -/
def layReordersSpec : ChangeSpec := { name := "layReorders", fn := fun _ => fun
  | [d1, d2] => { results := [.lit (.bool true)], args := [d1, d2] }
  | _ => none }
def layReordersRow : OpenClaim := { program := "ytdknkfioigcfiaa", sum := "cbec11ac70d5060ad949c8c8664888b8eca0d3a144be13da72e286cf7047829e", func := "mandrel/mandrellaw05.LayReorders", spec := "layReorders", unfollowed := true, recurses := true, loops := true, apart := false }
def LayReordersSaid : Prop := layReordersRow.holds Try.pinned (OpenSpec.ofChange layReordersSpec)

/-- ITS FALSE NEIGHBOUR: 'it returns false'. Refute it at one input. -/
def layReordersWrong : ChangeSpec := { name := "layReorders", fn := fun _ => fun
  | [d1, d2] => { results := [.lit (.bool false)], args := [d1, d2] }
  | _ => none }
def LayReordersWrongFalsely : Prop := layReordersRow.holds Try.pinned (OpenSpec.ofChange layReordersWrong)

/-- 'mandrellaw05.LayOrders': WHATEVER THE INPUT: true; the input reads as it did. -/
def layOrdersSpec : ChangeSpec := { name := "layOrders", fn := fun _ => fun
  | [d1, d2, d3] => { results := [.lit (.bool true)], args := [d1, d2, d3] }
  | _ => none }
def layOrdersRow : OpenClaim := { program := "ytdknkfioigcfiaa", sum := "cbec11ac70d5060ad949c8c8664888b8eca0d3a144be13da72e286cf7047829e", func := "mandrel/mandrellaw05.LayOrders", spec := "layOrders", unfollowed := true, recurses := true, loops := true, apart := false }
def LayOrdersSaid : Prop := layOrdersRow.holds Try.pinned (OpenSpec.ofChange layOrdersSpec)

/-- ITS FALSE NEIGHBOUR: 'it returns false'. Refute it at one input. -/
def layOrdersWrong : ChangeSpec := { name := "layOrders", fn := fun _ => fun
  | [d1, d2, d3] => { results := [.lit (.bool false)], args := [d1, d2, d3] }
  | _ => none }
def LayOrdersWrongFalsely : Prop := layOrdersRow.holds Try.pinned (OpenSpec.ofChange layOrdersWrong)

/- THE SECOND FORM. 'bulk': how many values and letters a reading holds, each counted each time it is reached (what is shared counts as often as it is met; a slice's spare places count too). A statement '..UptoSaid' is the law's where the arguments, and the package variables that the reading takes, are together of bulk at most 1048576: NARROWER than '..Said'. Prove '..Said' where nothing that the law and all that it calls make is longer than what came in: it says more and counts as full. Else prove '..UptoSaid'. A law counts once. -/
mutual
def uptoBulk {H : Type} : DataW H → Nat
  | .lit (.string bytes) => bytes.length + 1
  | .lit _ => 1
  | .nil => 1
  | .ptr d => uptoBulk d + 1
  | .slice elems spare => uptoBulkAll elems + uptoBulkAll spare + 1
  | .agg parts => uptoBulkAll parts + 1
  | .iface _ d => uptoBulk d + 1
  | .map entries => uptoBulkEntries entries + 1
  | .held _ => 1
def uptoBulkAll {H : Type} : List (DataW H) → Nat
  | [] => 0
  | d :: r => uptoBulk d + uptoBulkAll r
def uptoBulkEntries {H : Type} : List (Lit × DataW H) → Nat
  | [] => 0
  | x :: r => uptoBulkEntry x + uptoBulkEntries r
def uptoBulkEntry {H : Type} : Lit × DataW H → Nat
  | (.string bytes, d) => bytes.length + uptoBulk d + 1
  | (_, d) => uptoBulk d + 1
 end
def uptoSmall : (H : Type) → List (DataW H) → Bool := fun _ ds => decide (uptoBulkAll ds ≤ 1048576)
def OpenSpec.upto (s : _root_.Go.ChangeSpec) : _root_.Go.OpenSpec := { _root_.Go.OpenSpec.ofChange s with cond := some uptoSmall }

/-- 'mandrellaw05.LaySizes', WHERE WHAT IT READS IS OF BULK AT MOST 1048576: true; the input reads as it did. -/
def laySizesUptoRow : OpenClaim := { program := "ytdknkfioigcfiaa", sum := "cbec11ac70d5060ad949c8c8664888b8eca0d3a144be13da72e286cf7047829e", func := "mandrel/mandrellaw05.LaySizes", spec := "laySizes", unfollowed := true, recurses := true, loops := true, apart := false, narrowed := true }
def LaySizesUptoSaid : Prop := laySizesUptoRow.holds Try.pinned (OpenSpec.upto laySizesSpec)

/-- 'mandrellaw05.LayAligns', WHERE WHAT IT READS IS OF BULK AT MOST 1048576: true; the input reads as it did. -/
def layAlignsUptoRow : OpenClaim := { program := "ytdknkfioigcfiaa", sum := "cbec11ac70d5060ad949c8c8664888b8eca0d3a144be13da72e286cf7047829e", func := "mandrel/mandrellaw05.LayAligns", spec := "layAligns", unfollowed := true, recurses := true, loops := true, apart := false, narrowed := true }
def LayAlignsUptoSaid : Prop := layAlignsUptoRow.holds Try.pinned (OpenSpec.upto layAlignsSpec)

/-- 'mandrellaw05.LayValidates', WHERE WHAT IT READS IS OF BULK AT MOST 1048576: true; the input reads as it did. -/
def layValidatesUptoRow : OpenClaim := { program := "ytdknkfioigcfiaa", sum := "cbec11ac70d5060ad949c8c8664888b8eca0d3a144be13da72e286cf7047829e", func := "mandrel/mandrellaw05.LayValidates", spec := "layValidates", unfollowed := true, recurses := true, loops := true, apart := false, narrowed := true }
def LayValidatesUptoSaid : Prop := layValidatesUptoRow.holds Try.pinned (OpenSpec.upto layValidatesSpec)

/-- 'mandrellaw05.LaySame', WHERE WHAT IT READS IS OF BULK AT MOST 1048576: true; the input reads as it did. -/
def laySameUptoRow : OpenClaim := { program := "ytdknkfioigcfiaa", sum := "cbec11ac70d5060ad949c8c8664888b8eca0d3a144be13da72e286cf7047829e", func := "mandrel/mandrellaw05.LaySame", spec := "laySame", unfollowed := true, recurses := true, loops := true, apart := false, narrowed := true }
def LaySameUptoSaid : Prop := laySameUptoRow.holds Try.pinned (OpenSpec.upto laySameSpec)

/-- 'mandrellaw05.LayBits', WHERE WHAT IT READS IS OF BULK AT MOST 1048576: true; the input reads as it did. -/
def layBitsUptoRow : OpenClaim := { program := "ytdknkfioigcfiaa", sum := "cbec11ac70d5060ad949c8c8664888b8eca0d3a144be13da72e286cf7047829e", func := "mandrel/mandrellaw05.LayBits", spec := "layBits", unfollowed := true, recurses := true, loops := true, apart := false, narrowed := true }
def LayBitsUptoSaid : Prop := layBitsUptoRow.holds Try.pinned (OpenSpec.upto layBitsSpec)

/-- 'mandrellaw05.LayOffsets', WHERE WHAT IT READS IS OF BULK AT MOST 1048576: true; the input reads as it did. -/
def layOffsetsUptoRow : OpenClaim := { program := "ytdknkfioigcfiaa", sum := "cbec11ac70d5060ad949c8c8664888b8eca0d3a144be13da72e286cf7047829e", func := "mandrel/mandrellaw05.LayOffsets", spec := "layOffsets", unfollowed := true, recurses := true, loops := true, apart := false, narrowed := true }
def LayOffsetsUptoSaid : Prop := layOffsetsUptoRow.holds Try.pinned (OpenSpec.upto layOffsetsSpec)

/-- 'mandrellaw05.LayReorders', WHERE WHAT IT READS IS OF BULK AT MOST 1048576: true; the input reads as it did. -/
def layReordersUptoRow : OpenClaim := { program := "ytdknkfioigcfiaa", sum := "cbec11ac70d5060ad949c8c8664888b8eca0d3a144be13da72e286cf7047829e", func := "mandrel/mandrellaw05.LayReorders", spec := "layReorders", unfollowed := true, recurses := true, loops := true, apart := false, narrowed := true }
def LayReordersUptoSaid : Prop := layReordersUptoRow.holds Try.pinned (OpenSpec.upto layReordersSpec)

/-- 'mandrellaw05.LayOrders', WHERE WHAT IT READS IS OF BULK AT MOST 1048576: true; the input reads as it did. -/
def layOrdersUptoRow : OpenClaim := { program := "ytdknkfioigcfiaa", sum := "cbec11ac70d5060ad949c8c8664888b8eca0d3a144be13da72e286cf7047829e", func := "mandrel/mandrellaw05.LayOrders", spec := "layOrders", unfollowed := true, recurses := true, loops := true, apart := false, narrowed := true }
def LayOrdersUptoSaid : Prop := layOrdersUptoRow.holds Try.pinned (OpenSpec.upto layOrdersSpec)

end Rows
end Go.Proofs.Ytdknkfioigcfiaa
