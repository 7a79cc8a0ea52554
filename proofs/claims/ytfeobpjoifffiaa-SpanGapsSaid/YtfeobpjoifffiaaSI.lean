/- SpanGaps' row: nothing more. -/
import Derived.Test.YtfeobpjoifffiaaSE
import Derived.Test.YtfeobpjoifffiaaSH
namespace Go.Vx
end Go.Vx
