/- Products of primes below 320, part 3: worked out by the kernel. -/
import Derived.Test.YgctajPrimeProd
namespace Go.Proofs.Ygctaj.Pq
set_option maxRecDepth 100000 in
theorem pr_101 : go 5 [101, 103, 107, 109, 113, 127, 131, 137, 139, 149, 151, 157, 163, 167, 173, 179, 181, 191, 193, 197, 199, 211, 223, 227, 229, 233, 239, 241, 251, 257, 263, 269, 271, 277, 281, 283, 293, 307, 311, 313, 317] 101 101 = true := by decide +kernel
set_option maxRecDepth 100000 in
theorem pr_103 : go 5 [103, 107, 109, 113, 127, 131, 137, 139, 149, 151, 157, 163, 167, 173, 179, 181, 191, 193, 197, 199, 211, 223, 227, 229, 233, 239, 241, 251, 257, 263, 269, 271, 277, 281, 283, 293, 307, 311, 313, 317] 103 103 = true := by decide +kernel
set_option maxRecDepth 100000 in
theorem pr_107 : go 5 [107, 109, 113, 127, 131, 137, 139, 149, 151, 157, 163, 167, 173, 179, 181, 191, 193, 197, 199, 211, 223, 227, 229, 233, 239, 241, 251, 257, 263, 269, 271, 277, 281, 283, 293, 307, 311, 313, 317] 107 107 = true := by decide +kernel
set_option maxRecDepth 100000 in
theorem pr_109 : go 5 [109, 113, 127, 131, 137, 139, 149, 151, 157, 163, 167, 173, 179, 181, 191, 193, 197, 199, 211, 223, 227, 229, 233, 239, 241, 251, 257, 263, 269, 271, 277, 281, 283, 293, 307, 311, 313, 317] 109 109 = true := by decide +kernel
set_option maxRecDepth 100000 in
theorem pr_113 : go 5 [113, 127, 131, 137, 139, 149, 151, 157, 163, 167, 173, 179, 181, 191, 193, 197, 199, 211, 223, 227, 229, 233, 239, 241, 251, 257, 263, 269, 271, 277, 281, 283, 293, 307, 311, 313, 317] 113 113 = true := by decide +kernel
set_option maxRecDepth 100000 in
theorem pr_127 : go 5 [127, 131, 137, 139, 149, 151, 157, 163, 167, 173, 179, 181, 191, 193, 197, 199, 211, 223, 227, 229, 233, 239, 241, 251, 257, 263, 269, 271, 277, 281, 283, 293, 307, 311, 313, 317] 127 127 = true := by decide +kernel
set_option maxRecDepth 100000 in
theorem pr_131 : go 5 [131, 137, 139, 149, 151, 157, 163, 167, 173, 179, 181, 191, 193, 197, 199, 211, 223, 227, 229, 233, 239, 241, 251, 257, 263, 269, 271, 277, 281, 283, 293, 307, 311, 313, 317] 131 131 = true := by decide +kernel
set_option maxRecDepth 100000 in
theorem pr_137 : go 5 [137, 139, 149, 151, 157, 163, 167, 173, 179, 181, 191, 193, 197, 199, 211, 223, 227, 229, 233, 239, 241, 251, 257, 263, 269, 271, 277, 281, 283, 293, 307, 311, 313, 317] 137 137 = true := by decide +kernel
set_option maxRecDepth 100000 in
theorem pr_139 : go 5 [139, 149, 151, 157, 163, 167, 173, 179, 181, 191, 193, 197, 199, 211, 223, 227, 229, 233, 239, 241, 251, 257, 263, 269, 271, 277, 281, 283, 293, 307, 311, 313, 317] 139 139 = true := by decide +kernel
set_option maxRecDepth 100000 in
theorem pr_149 : go 5 [149, 151, 157, 163, 167, 173, 179, 181, 191, 193, 197, 199, 211, 223, 227, 229, 233, 239, 241, 251, 257, 263, 269, 271, 277, 281, 283, 293, 307, 311, 313, 317] 149 149 = true := by decide +kernel
set_option maxRecDepth 100000 in
theorem pr_151 : go 5 [151, 157, 163, 167, 173, 179, 181, 191, 193, 197, 199, 211, 223, 227, 229, 233, 239, 241, 251, 257, 263, 269, 271, 277, 281, 283, 293, 307, 311, 313, 317] 151 151 = true := by decide +kernel
set_option maxRecDepth 100000 in
theorem pr_157 : go 5 [157, 163, 167, 173, 179, 181, 191, 193, 197, 199, 211, 223, 227, 229, 233, 239, 241, 251, 257, 263, 269, 271, 277, 281, 283, 293, 307, 311, 313, 317] 157 157 = true := by decide +kernel
set_option maxRecDepth 100000 in
theorem pr_163 : go 5 [163, 167, 173, 179, 181, 191, 193, 197, 199, 211, 223, 227, 229, 233, 239, 241, 251, 257, 263, 269, 271, 277, 281, 283, 293, 307, 311, 313, 317] 163 163 = true := by decide +kernel
set_option maxRecDepth 100000 in
theorem pr_167 : go 5 [167, 173, 179, 181, 191, 193, 197, 199, 211, 223, 227, 229, 233, 239, 241, 251, 257, 263, 269, 271, 277, 281, 283, 293, 307, 311, 313, 317] 167 167 = true := by decide +kernel
set_option maxRecDepth 100000 in
theorem pr_173 : go 5 [173, 179, 181, 191, 193, 197, 199, 211, 223, 227, 229, 233, 239, 241, 251, 257, 263, 269, 271, 277, 281, 283, 293, 307, 311, 313, 317] 173 173 = true := by decide +kernel
set_option maxRecDepth 100000 in
theorem pr_179 : go 5 [179, 181, 191, 193, 197, 199, 211, 223, 227, 229, 233, 239, 241, 251, 257, 263, 269, 271, 277, 281, 283, 293, 307, 311, 313, 317] 179 179 = true := by decide +kernel
set_option maxRecDepth 100000 in
theorem pr_181 : go 5 [181, 191, 193, 197, 199, 211, 223, 227, 229, 233, 239, 241, 251, 257, 263, 269, 271, 277, 281, 283, 293, 307, 311, 313, 317] 181 181 = true := by decide +kernel
set_option maxRecDepth 100000 in
theorem pr_191 : go 5 [191, 193, 197, 199, 211, 223, 227, 229, 233, 239, 241, 251, 257, 263, 269, 271, 277, 281, 283, 293, 307, 311, 313, 317] 191 191 = true := by decide +kernel
set_option maxRecDepth 100000 in
theorem pr_193 : go 5 [193, 197, 199, 211, 223, 227, 229, 233, 239, 241, 251, 257, 263, 269, 271, 277, 281, 283, 293, 307, 311, 313, 317] 193 193 = true := by decide +kernel
set_option maxRecDepth 100000 in
theorem pr_197 : go 5 [197, 199, 211, 223, 227, 229, 233, 239, 241, 251, 257, 263, 269, 271, 277, 281, 283, 293, 307, 311, 313, 317] 197 197 = true := by decide +kernel
set_option maxRecDepth 100000 in
theorem pr_199 : go 5 [199, 211, 223, 227, 229, 233, 239, 241, 251, 257, 263, 269, 271, 277, 281, 283, 293, 307, 311, 313, 317] 199 199 = true := by decide +kernel
set_option maxRecDepth 100000 in
theorem pr_211 : go 5 [211, 223, 227, 229, 233, 239, 241, 251, 257, 263, 269, 271, 277, 281, 283, 293, 307, 311, 313, 317] 211 211 = true := by decide +kernel
set_option maxRecDepth 100000 in
theorem pr_223 : go 5 [223, 227, 229, 233, 239, 241, 251, 257, 263, 269, 271, 277, 281, 283, 293, 307, 311, 313, 317] 223 223 = true := by decide +kernel
set_option maxRecDepth 100000 in
theorem pr_227 : go 5 [227, 229, 233, 239, 241, 251, 257, 263, 269, 271, 277, 281, 283, 293, 307, 311, 313, 317] 227 227 = true := by decide +kernel
set_option maxRecDepth 100000 in
theorem pr_229 : go 5 [229, 233, 239, 241, 251, 257, 263, 269, 271, 277, 281, 283, 293, 307, 311, 313, 317] 229 229 = true := by decide +kernel
set_option maxRecDepth 100000 in
theorem pr_233 : go 5 [233, 239, 241, 251, 257, 263, 269, 271, 277, 281, 283, 293, 307, 311, 313, 317] 233 233 = true := by decide +kernel
set_option maxRecDepth 100000 in
theorem pr_239 : go 5 [239, 241, 251, 257, 263, 269, 271, 277, 281, 283, 293, 307, 311, 313, 317] 239 239 = true := by decide +kernel
set_option maxRecDepth 100000 in
theorem pr_241 : go 5 [241, 251, 257, 263, 269, 271, 277, 281, 283, 293, 307, 311, 313, 317] 241 241 = true := by decide +kernel
set_option maxRecDepth 100000 in
theorem pr_251 : go 5 [251, 257, 263, 269, 271, 277, 281, 283, 293, 307, 311, 313, 317] 251 251 = true := by decide +kernel
set_option maxRecDepth 100000 in
theorem pr_257 : go 5 [257, 263, 269, 271, 277, 281, 283, 293, 307, 311, 313, 317] 257 257 = true := by decide +kernel
set_option maxRecDepth 100000 in
theorem pr_263 : go 5 [263, 269, 271, 277, 281, 283, 293, 307, 311, 313, 317] 263 263 = true := by decide +kernel
set_option maxRecDepth 100000 in
theorem pr_269 : go 5 [269, 271, 277, 281, 283, 293, 307, 311, 313, 317] 269 269 = true := by decide +kernel
set_option maxRecDepth 100000 in
theorem pr_271 : go 5 [271, 277, 281, 283, 293, 307, 311, 313, 317] 271 271 = true := by decide +kernel
set_option maxRecDepth 100000 in
theorem pr_277 : go 5 [277, 281, 283, 293, 307, 311, 313, 317] 277 277 = true := by decide +kernel
set_option maxRecDepth 100000 in
theorem pr_281 : go 5 [281, 283, 293, 307, 311, 313, 317] 281 281 = true := by decide +kernel
set_option maxRecDepth 100000 in
theorem pr_283 : go 5 [283, 293, 307, 311, 313, 317] 283 283 = true := by decide +kernel
set_option maxRecDepth 100000 in
theorem pr_293 : go 5 [293, 307, 311, 313, 317] 293 293 = true := by decide +kernel
set_option maxRecDepth 100000 in
theorem pr_307 : go 5 [307, 311, 313, 317] 307 307 = true := by decide +kernel
set_option maxRecDepth 100000 in
theorem pr_311 : go 5 [311, 313, 317] 311 311 = true := by decide +kernel
set_option maxRecDepth 100000 in
theorem pr_313 : go 5 [313, 317] 313 313 = true := by decide +kernel
set_option maxRecDepth 100000 in
theorem pr_317 : go 5 [317] 317 317 = true := by decide +kernel
end Go.Proofs.Ygctaj.Pq
