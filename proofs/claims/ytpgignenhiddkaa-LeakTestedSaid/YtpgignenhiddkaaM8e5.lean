/- An example of the chapter: a closed call, run by the kernel. (own texts put together: T9e5) -/
import Derived.Test.YtpgignenhiddkaaM8
set_option maxRecDepth 100000
namespace Go.Proofs.Ytpgignenhiddkaa
open Go.Sym
theorem ent5 : Snd Try.prog (fun _ => none) (.func 16) [.slice (some ⟨0, 0, none⟩) 4 4, .int .i64 0] hT (.tuple #[.agg #[.int .i64 0, .int .i64 1], .agg #[.int .i64 2, .int .i64 1], .int .i64 0]) hT := Snd_saysAt (X := X0) (n := 1000) X0_ok (by kernel_rfl)
end Go.Proofs.Ytpgignenhiddkaa
