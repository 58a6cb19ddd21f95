/- Decompiled: package token, its document's answer, its statements. -/
import Derived.Test.YtmdpbdhkmfjlhaaTypes
import Derived.Test.YtmdpbdhkmfjlhaaMap2
import Derived.Test.YtmdpbdhkmfjlhaaSl4
import Derived.Test.YtmdpbdhkmfjlhaaDLaw03
namespace Go.Proofs.Ytmdpbdhkmfjlhaa
open Go Go.Bw
instance : TMap Try.prog 52 3 5 .i64 := ⟨⟨by kernel_rfl, by kernel_rfl⟩⟩
instance : TMap Try.prog 209 69 4 .u32 := ⟨⟨by kernel_rfl, by kernel_rfl⟩⟩
instance : TZv Try.prog 4 (Value.bool false) := ⟨by kernel_rfl⟩
instance : TZv Try.prog 5 (Value.int .u8 0) := ⟨by kernel_rfl⟩
end Go.Proofs.Ytmdpbdhkmfjlhaa
